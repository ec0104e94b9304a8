/- No writer: every call leaves all as it was. -/
import Derived.Test.YtfgjlplfpjfnoaaWr3
namespace Go.Proofs.Ytfgjlplfpjfnoaa
open Go Go.RowKit
set_option linter.unusedVariables false


set_option maxRecDepth 100000 in
theorem byte_none (b : Nat) (w : World)  :
    Calls Try.prog 62 #[.pointer none, .int .u8 (b : Int)] w fun e w' => e = .returned (.tuple #[]) ∧ Below w.heap.size w w' := by
  go_enter Try.func62, Try.ntmps62
  go_wp2_with (first
    | (go_at_call 74; refine (raw_none _ _ _ _).mono ?_; rintro e w9 ⟨rfl, rfl⟩))
  go_end0
  exact ⟨rfl, (Below.refl _ _).alloc (Nat.le_refl _) _⟩


set_option maxRecDepth 100000 in
theorem uvarintw_none (x : Nat) (w : World) (hx : x < 18446744073709551616) :
    Calls Try.prog 64 #[.pointer none, .int .u64 (x : Int)] w fun e w' => e = .returned (.tuple #[]) ∧ Below w.heap.size w w' := by
  go_enter Try.func64, Try.ntmps64
  go_wp2_with (first
    | (go_at_call 20; refine (uvarint_any x _ hx).mono ?_; rintro e w1 ⟨A, c, rfl, ho, hb1⟩; clear ho)
    | (go_at_call 74; refine (raw_none _ _ _ _).mono ?_; rintro e w9 ⟨rfl, rfl⟩))
  go_end0
  exact ⟨rfl, hb1⟩


theorem varint_none (s : Int) (w : World) (hs : -9223372036854775808 ≤ s ∧ s ≤ 9223372036854775807) :
    Calls Try.prog 66 #[.pointer none, .int .i64 s] w fun e w' => e = .returned (.tuple #[]) ∧ Below w.heap.size w w' := by
  obtain ⟨hz, hx⟩ := zig_nat s hs
  have PZ := Lib.hid (fun W => zigzag_any s W hs)
  rw [hz] at PZ
  obtain ⟨x, hxx⟩ : ∃ x, x = (Uv.zig s).toNat := ⟨_, rfl⟩
  rw [← hxx] at PZ hx
  clear hz hxx hs
  go_enter Try.func66, Try.ntmps66
  go_wp2_with fail
  refine (PZ.out _).mono ?_
  rintro e w0 ⟨rfl, rfl⟩
  go_wp2_with fail
  refine (uvarintw_none x w hx).mono ?_
  rintro e w1 ⟨rfl, hb⟩
  go_wp2
  go_end0
  exact ⟨rfl, hb⟩


set_option maxRecDepth 100000 in
theorem u32_none (x : Nat) (w : World) (hx : x < 4294967296) :
    Calls Try.prog 68 #[.pointer none, .int .u32 (x : Int)] w fun e w' => e = .returned (.tuple #[]) ∧ Below w.heap.size w w' := by
  go_enter Try.func68, Try.ntmps68
  go_wp2_with (first
    | (go_at_call 74; refine (raw_none _ _ _ _).mono ?_; rintro e w9 ⟨rfl, rfl⟩))
  go_end0
  exact ⟨rfl, (Below.refl _ _).alloc (Nat.le_refl _) _⟩


theorem u64_none (x : Nat) (w : World) (hx : x < 18446744073709551616) :
    Calls Try.prog 70 #[.pointer none, .int .u64 (x : Int)] w fun e w' => e = .returned (.tuple #[]) ∧ Below w.heap.size w w' := by
  have P1 := Lib.hid (fun W => u32_none (x / 4294967296) W (by omega))
  have P2 := Lib.hid (fun W => u32_none (x % 4294967296) W (by omega))
  rw [show ((x / 4294967296 : Nat) : Int) = (x : Int) / 4294967296 from by omega] at P1
  rw [show ((x % 4294967296 : Nat) : Int) = (x : Int) % 4294967296 from by omega] at P2
  go_enter Try.func70, Try.ntmps70
  go_wp2_with fail
  refine (P1.out _).mono ?_
  rintro e w1 ⟨rfl, hb1⟩
  go_wp2_with fail
  refine (P2.out _).mono ?_
  rintro e w2 ⟨rfl, hb2⟩
  go_wp2
  go_end0
  exact ⟨rfl, hb1.trans (hb2.mono hb1.size)⟩


set_option maxRecDepth 100000 in
theorem text_none (s : ByteArray) (w : World) (hs : s.size ≤ 140737488355328) :
    Calls Try.prog 72 #[.pointer none, .string s] w fun e w' => e = .returned (.tuple #[]) ∧ Below w.heap.size w w' := by
  go_enter Try.func72, Try.ntmps72
  go_wp2_with (first
    | (go_at_call 64; refine (uvarintw_none s.size _ (by omega)).mono ?_; rintro e w1 ⟨rfl, hb1⟩)
    | (go_at_call 74; refine (raw_none _ _ _ _).mono ?_; rintro e w9 ⟨rfl, rfl⟩)
    | (refine wpList_bytes _ rfl (.tmp 10) 9 22 5 rfl Try.underlying9 Try.underlying22 Try.underlying5 s rfl ?_; intro c2 w2b zs hrow hcm hbel hzl; have HBL := Lib.hid hbel; clear hrow hcm hbel hzl))
  go_end0
  exact ⟨rfl, hb1.trans (HBL.out.mono hb1.size)⟩


theorem bytes_none (w : World) : Calls Try.prog 40 #[.pointer none] w fun e w' => e = .returned (.slice none 0 0) ∧ w = w' := by
  go_enter Try.func40, Try.ntmps40
  go_wp2
  go_ret
  exact ⟨rfl, rfl⟩


set_option maxRecDepth 100000 in
theorem rbyte_none (b : Nat) (w : World)  :
    Calls Try.prog 63 #[.pointer none, .int .u8 (b : Int)] w fun e w' => e = .returned (.tuple #[]) ∧ Below w.heap.size w w' := by
  go_enter Try.func63, Try.ntmps63
  go_wp2_with (first
    | (go_at_call 75; refine (rraw_none _ _ _ _).mono ?_; rintro e w9 ⟨rfl, rfl⟩))
  go_end0
  exact ⟨rfl, (Below.refl _ _).alloc (Nat.le_refl _) _⟩


set_option maxRecDepth 100000 in
theorem ruvarintw_none (x : Nat) (w : World) (hx : x < 18446744073709551616) :
    Calls Try.prog 65 #[.pointer none, .int .u64 (x : Int)] w fun e w' => e = .returned (.tuple #[]) ∧ Below w.heap.size w w' := by
  go_enter Try.func65, Try.ntmps65
  go_wp2_with (first
    | (go_at_call 25; refine (ruvarint_any x _ hx).mono ?_; rintro e w1 ⟨A, c, rfl, ho, hb1⟩; clear ho)
    | (go_at_call 75; refine (rraw_none _ _ _ _).mono ?_; rintro e w9 ⟨rfl, rfl⟩))
  go_end0
  exact ⟨rfl, hb1⟩


theorem rvarint_none (s : Int) (w : World) (hs : -9223372036854775808 ≤ s ∧ s ≤ 9223372036854775807) :
    Calls Try.prog 67 #[.pointer none, .int .i64 s] w fun e w' => e = .returned (.tuple #[]) ∧ Below w.heap.size w w' := by
  obtain ⟨hz, hx⟩ := zig_nat s hs
  have PZ := Lib.hid (fun W => rzigzag_any s W hs)
  rw [hz] at PZ
  obtain ⟨x, hxx⟩ : ∃ x, x = (Uv.zig s).toNat := ⟨_, rfl⟩
  rw [← hxx] at PZ hx
  clear hz hxx hs
  go_enter Try.func67, Try.ntmps67
  go_wp2_with fail
  refine (PZ.out _).mono ?_
  rintro e w0 ⟨rfl, rfl⟩
  go_wp2_with (first
    | (go_at_call 25; refine (ruvarint_any x _ hx).mono ?_; rintro e w1 ⟨A, c, rfl, ho, hb1⟩; clear ho)
    | (go_at_call 75; refine (rraw_none _ _ _ _).mono ?_; rintro e w9 ⟨rfl, rfl⟩))
  go_end0
  exact ⟨rfl, hb1⟩


theorem ru32_none (x : Nat) (w : World) (hx : x < 4294967296) :
    Calls Try.prog 69 #[.pointer none, .int .u32 (x : Int)] w fun e w' => e = .returned (.tuple #[]) ∧ Below w.heap.size w w' := by
  have PF := Lib.hid (fixed_any x 4 w (by omega) (by omega) (by omega))
  go_enter Try.func69, Try.ntmps69
  go_wp2_with (first
    | (go_at_call 105; refine PF.out.mono ?_; rintro e w1 ⟨A, c, rfl, ho, hb1⟩; clear ho)
    | (go_at_call 75; refine (rraw_none _ _ _ _).mono ?_; rintro e w9 ⟨rfl, rfl⟩))
  go_end0
  exact ⟨rfl, hb1⟩


theorem ru64_none (x : Nat) (w : World) (hx : x < 18446744073709551616) :
    Calls Try.prog 71 #[.pointer none, .int .u64 (x : Int)] w fun e w' => e = .returned (.tuple #[]) ∧ Below w.heap.size w w' := by
  have PF := Lib.hid (fixed_any x 8 w (by omega) (by omega) (by omega))
  go_enter Try.func71, Try.ntmps71
  go_wp2_with (first
    | (go_at_call 105; refine PF.out.mono ?_; rintro e w1 ⟨A, c, rfl, ho, hb1⟩; clear ho)
    | (go_at_call 75; refine (rraw_none _ _ _ _).mono ?_; rintro e w9 ⟨rfl, rfl⟩))
  go_end0
  exact ⟨rfl, hb1⟩


set_option maxRecDepth 100000 in
theorem rtext_none (s : ByteArray) (w : World) (hs : s.size ≤ 140737488355328) :
    Calls Try.prog 73 #[.pointer none, .string s] w fun e w' => e = .returned (.tuple #[]) ∧ Below w.heap.size w w' := by
  go_enter Try.func73, Try.ntmps73
  go_wp2_with (first
    | (go_at_call 25; refine (ruvarint_any s.size _ (by omega)).mono ?_; rintro e w1 ⟨A, c, rfl, ho, hb1⟩; clear ho)
    | (go_at_call 75; refine (rraw_none _ _ _ _).mono ?_; rintro e w9 ⟨rfl, rfl⟩)
    | (refine wpList_bytes _ rfl (.tmp 11) 9 22 5 rfl Try.underlying9 Try.underlying22 Try.underlying5 s rfl ?_; intro c2 w2b zs hrow hcm hbel hzl; have HBL := Lib.hid hbel; clear hrow hcm hbel hzl))
  go_end0
  exact ⟨rfl, hb1.trans (HBL.out.mono hb1.size)⟩


theorem rbytes_none (w : World) : Calls Try.prog 76 #[.pointer none] w fun e w' => e = .returned (.slice none 0 0) ∧ w = w' := by
  go_enter Try.func76, Try.ntmps76
  go_wp2
  go_ret
  exact ⟨rfl, rfl⟩

end Go.Proofs.Ytfgjlplfpjfnoaa
