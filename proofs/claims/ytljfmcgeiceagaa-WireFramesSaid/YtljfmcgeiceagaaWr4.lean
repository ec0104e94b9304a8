/- No writer: every call leaves all as it was. -/
import Derived.Test.YtljfmcgeiceagaaWr3
namespace Go.Proofs.Ytljfmcgeiceagaa
open Go Go.RowKit
set_option linter.unusedVariables false


set_option maxRecDepth 100000 in
theorem byte_none (b : Nat) (w : World)  :
    Calls Try.prog 29 #[.pointer none, .int .u8 (b : Int)] w fun e w' => e = .returned (.tuple #[]) ∧ Below w.heap.size w w' := by
  go_enter Try.func29, Try.ntmps29
  go_wp2_with (first
    | (go_at_call 30; refine (raw_none _ _ _ _).mono ?_; rintro e w9 ⟨rfl, rfl⟩))
  go_end0
  exact ⟨rfl, (Below.refl _ _).alloc (Nat.le_refl _) _⟩


set_option maxRecDepth 100000 in
theorem uvarintw_none (x : Nat) (w : World) (hx : x < 18446744073709551616) :
    Calls Try.prog 68 #[.pointer none, .int .u64 (x : Int)] w fun e w' => e = .returned (.tuple #[]) ∧ Below w.heap.size w w' := by
  go_enter Try.func68, Try.ntmps68
  go_wp2_with (first
    | (go_at_call 83; refine (uvarint_any x _ hx).mono ?_; rintro e w1 ⟨A, c, rfl, ho, hb1⟩; clear ho)
    | (go_at_call 30; refine (raw_none _ _ _ _).mono ?_; rintro e w9 ⟨rfl, rfl⟩))
  go_end0
  exact ⟨rfl, hb1⟩


theorem varint_none (s : Int) (w : World) (hs : -9223372036854775808 ≤ s ∧ s ≤ 9223372036854775807) :
    Calls Try.prog 69 #[.pointer none, .int .i64 s] w fun e w' => e = .returned (.tuple #[]) ∧ Below w.heap.size w w' := by
  obtain ⟨hz, hx⟩ := zig_nat s hs
  have PZ := Lib.hid (fun W => zigzag_any s W hs)
  rw [hz] at PZ
  obtain ⟨x, hxx⟩ : ∃ x, x = (Uv.zig s).toNat := ⟨_, rfl⟩
  rw [← hxx] at PZ hx
  clear hz hxx hs
  go_enter Try.func69, Try.ntmps69
  go_wp2_with fail
  refine (PZ.out _).mono ?_
  rintro e w0 ⟨rfl, rfl⟩
  go_wp2_with fail
  refine (uvarintw_none x w hx).mono ?_
  rintro e w1 ⟨rfl, hb⟩
  go_wp2
  go_end0
  exact ⟨rfl, hb⟩


set_option maxRecDepth 100000 in
theorem u32_none (x : Nat) (w : World) (hx : x < 4294967296) :
    Calls Try.prog 28 #[.pointer none, .int .u32 (x : Int)] w fun e w' => e = .returned (.tuple #[]) ∧ Below w.heap.size w w' := by
  go_enter Try.func28, Try.ntmps28
  go_wp2_with (first
    | (go_at_call 30; refine (raw_none _ _ _ _).mono ?_; rintro e w9 ⟨rfl, rfl⟩))
  go_end0
  exact ⟨rfl, (Below.refl _ _).alloc (Nat.le_refl _) _⟩


set_option maxRecDepth 100000 in
theorem text_none (s : ByteArray) (w : World) (hs : s.size ≤ 140737488355328) :
    Calls Try.prog 70 #[.pointer none, .string s] w fun e w' => e = .returned (.tuple #[]) ∧ Below w.heap.size w w' := by
  go_enter Try.func70, Try.ntmps70
  go_wp2_with (first
    | (go_at_call 68; refine (uvarintw_none s.size _ (by omega)).mono ?_; rintro e w1 ⟨rfl, hb1⟩)
    | (go_at_call 30; refine (raw_none _ _ _ _).mono ?_; rintro e w9 ⟨rfl, rfl⟩)
    | (refine wpList_bytes _ rfl (.tmp 10) 9 25 5 rfl Try.underlying9 Try.underlying25 Try.underlying5 s rfl ?_; intro c2 w2b zs hrow hcm hbel hzl; have HBL := Lib.hid hbel; clear hrow hcm hbel hzl))
  go_end0
  exact ⟨rfl, hb1.trans (HBL.out.mono hb1.size)⟩


theorem bytes_none (w : World) : Calls Try.prog 31 #[.pointer none] w fun e w' => e = .returned (.slice none 0 0) ∧ w = w' := by
  go_enter Try.func31, Try.ntmps31
  go_wp2
  go_ret
  exact ⟨rfl, rfl⟩


set_option maxRecDepth 100000 in
theorem rbyte_none (b : Nat) (w : World)  :
    Calls Try.prog 57 #[.pointer none, .int .u8 (b : Int)] w fun e w' => e = .returned (.tuple #[]) ∧ Below w.heap.size w w' := by
  go_enter Try.func57, Try.ntmps57
  go_wp2_with (first
    | (go_at_call 58; refine (rraw_none _ _ _ _).mono ?_; rintro e w9 ⟨rfl, rfl⟩))
  go_end0
  exact ⟨rfl, (Below.refl _ _).alloc (Nat.le_refl _) _⟩


set_option maxRecDepth 100000 in
theorem ruvarintw_none (x : Nat) (w : World) (hx : x < 18446744073709551616) :
    Calls Try.prog 93 #[.pointer none, .int .u64 (x : Int)] w fun e w' => e = .returned (.tuple #[]) ∧ Below w.heap.size w w' := by
  go_enter Try.func93, Try.ntmps93
  go_wp2_with (first
    | (go_at_call 101; refine (ruvarint_any x _ hx).mono ?_; rintro e w1 ⟨A, c, rfl, ho, hb1⟩; clear ho)
    | (go_at_call 58; refine (rraw_none _ _ _ _).mono ?_; rintro e w9 ⟨rfl, rfl⟩))
  go_end0
  exact ⟨rfl, hb1⟩


theorem ru32_none (x : Nat) (w : World) (hx : x < 4294967296) :
    Calls Try.prog 59 #[.pointer none, .int .u32 (x : Int)] w fun e w' => e = .returned (.tuple #[]) ∧ Below w.heap.size w w' := by
  have PF := Lib.hid (fixed_any x 4 w (by omega) (by omega) (by omega))
  go_enter Try.func59, Try.ntmps59
  go_wp2_with (first
    | (go_at_call 53; refine PF.out.mono ?_; rintro e w1 ⟨A, c, rfl, ho, hb1⟩; clear ho)
    | (go_at_call 58; refine (rraw_none _ _ _ _).mono ?_; rintro e w9 ⟨rfl, rfl⟩))
  go_end0
  exact ⟨rfl, hb1⟩


set_option maxRecDepth 100000 in
theorem rtext_none (s : ByteArray) (w : World) (hs : s.size ≤ 140737488355328) :
    Calls Try.prog 94 #[.pointer none, .string s] w fun e w' => e = .returned (.tuple #[]) ∧ Below w.heap.size w w' := by
  go_enter Try.func94, Try.ntmps94
  go_wp2_with (first
    | (go_at_call 101; refine (ruvarint_any s.size _ (by omega)).mono ?_; rintro e w1 ⟨A, c, rfl, ho, hb1⟩; clear ho)
    | (go_at_call 58; refine (rraw_none _ _ _ _).mono ?_; rintro e w9 ⟨rfl, rfl⟩)
    | (refine wpList_bytes _ rfl (.tmp 11) 9 25 5 rfl Try.underlying9 Try.underlying25 Try.underlying5 s rfl ?_; intro c2 w2b zs hrow hcm hbel hzl; have HBL := Lib.hid hbel; clear hrow hcm hbel hzl))
  go_end0
  exact ⟨rfl, hb1.trans (HBL.out.mono hb1.size)⟩


theorem rbytes_none (w : World) : Calls Try.prog 60 #[.pointer none] w fun e w' => e = .returned (.slice none 0 0) ∧ w = w' := by
  go_enter Try.func60, Try.ntmps60
  go_wp2
  go_ret
  exact ⟨rfl, rfl⟩

end Go.Proofs.Ytljfmcgeiceagaa
