/- One step of no writer. (Printed by gen_writes.py.) -/
import Derived.Test.YtfgjlplfpjfnoaaStep
namespace Go.Proofs.Ytfgjlplfpjfnoaa
open Go Go.RowKit
set_option linter.unusedVariables false

set_option maxRecDepth 100000 in
theorem writes_none0 (n : Nat) (s : ByteArray) (w : World) (hn : n < 18446744073709551616) (hs : s.size ≤ 140737488351232) :
    Calls Try.prog 39 #[.pointer none, .pointer none, (Stp.mk 0 n s).val] w fun e w' => e = .returned (.bool true) ∧ Below w.heap.size w w' := by
  have hs9 : s.size ≤ 140737488355328 := by omega
  unfold Stp.val
  simp only
  have e1 := wrap_u8 n
  go_enter Try.func39, Try.ntmps39
  go_wp2_with (first
    | (go_at_call 62; refine (byte_none (n % 256) _).mono ?_; rintro e w1 ⟨rfl, hb1⟩; have hx1 := Bx3.below (Bx3.new w ⟨0, n, s⟩) hb1 (by simp); obtain ⟨c10, c11, c12⟩ := hx1.facts; simp only at c10 c11 c12; have hh1 := hb1.size)
    | (go_at_call 63; refine (rbyte_none (n % 256) _).mono ?_; rintro e w2 ⟨rfl, hb2⟩; have hx2 := Bx3.below hx1 hb2 (lt_of_block hx1); obtain ⟨c20, c21, c22⟩ := hx2.facts; simp only at c20 c21 c22; have hh2 := hb2.size))
  go_ret
  exact ⟨rfl, ((Below.refl _ _).alloc (Nat.le_refl _) _).trans ((hb1.mono (by simp)).trans (hb2.mono (Nat.le_trans (by simp) hb1.size)))⟩

set_option maxRecDepth 100000 in
theorem writes_none1 (n : Nat) (s : ByteArray) (w : World) (hn : n < 18446744073709551616) (hs : s.size ≤ 140737488351232) :
    Calls Try.prog 39 #[.pointer none, .pointer none, (Stp.mk 1 n s).val] w fun e w' => e = .returned (.bool true) ∧ Below w.heap.size w w' := by
  have hs9 : s.size ≤ 140737488355328 := by omega
  unfold Stp.val
  simp only
  go_enter Try.func39, Try.ntmps39
  go_wp2_with (first
    | (go_at_call 64; refine (uvarintw_none n _ hn).mono ?_; rintro e w1 ⟨rfl, hb1⟩; have hx1 := Bx3.below (Bx3.new w ⟨1, n, s⟩) hb1 (by simp); obtain ⟨c10, c11, c12⟩ := hx1.facts; simp only at c10 c11 c12; have hh1 := hb1.size)
    | (go_at_call 65; refine (ruvarintw_none n _ hn).mono ?_; rintro e w2 ⟨rfl, hb2⟩; have hx2 := Bx3.below hx1 hb2 (lt_of_block hx1); obtain ⟨c20, c21, c22⟩ := hx2.facts; simp only at c20 c21 c22; have hh2 := hb2.size))
  go_ret
  exact ⟨rfl, ((Below.refl _ _).alloc (Nat.le_refl _) _).trans ((hb1.mono (by simp)).trans (hb2.mono (Nat.le_trans (by simp) hb1.size)))⟩

set_option maxRecDepth 100000 in
theorem writes_none2 (n : Nat) (s : ByteArray) (w : World) (hn : n < 18446744073709551616) (hs : s.size ≤ 140737488351232) :
    Calls Try.prog 39 #[.pointer none, .pointer none, (Stp.mk 2 n s).val] w fun e w' => e = .returned (.bool true) ∧ Below w.heap.size w w' := by
  have hs9 : s.size ≤ 140737488355328 := by omega
  unfold Stp.val
  simp only
  have e1 := wrap_sg hn
  go_enter Try.func39, Try.ntmps39
  go_wp2_with (first
    | (go_at_call 66; refine (varint_none (sg n) _ (sg_in hn)).mono ?_; rintro e w1 ⟨rfl, hb1⟩; have hx1 := Bx3.below (Bx3.new w ⟨2, n, s⟩) hb1 (by simp); obtain ⟨c10, c11, c12⟩ := hx1.facts; simp only at c10 c11 c12; have hh1 := hb1.size)
    | (go_at_call 67; refine (rvarint_none (sg n) _ (sg_in hn)).mono ?_; rintro e w2 ⟨rfl, hb2⟩; have hx2 := Bx3.below hx1 hb2 (lt_of_block hx1); obtain ⟨c20, c21, c22⟩ := hx2.facts; simp only at c20 c21 c22; have hh2 := hb2.size))
  go_ret
  exact ⟨rfl, ((Below.refl _ _).alloc (Nat.le_refl _) _).trans ((hb1.mono (by simp)).trans (hb2.mono (Nat.le_trans (by simp) hb1.size)))⟩

set_option maxRecDepth 100000 in
theorem writes_none3 (n : Nat) (s : ByteArray) (w : World) (hn : n < 18446744073709551616) (hs : s.size ≤ 140737488351232) :
    Calls Try.prog 39 #[.pointer none, .pointer none, (Stp.mk 3 n s).val] w fun e w' => e = .returned (.bool true) ∧ Below w.heap.size w w' := by
  have hs9 : s.size ≤ 140737488355328 := by omega
  unfold Stp.val
  simp only
  have e1 := wrap_u32 n
  go_enter Try.func39, Try.ntmps39
  go_wp2_with (first
    | (go_at_call 68; refine (u32_none (n % 4294967296) _ (Nat.mod_lt _ (by decide))).mono ?_; rintro e w1 ⟨rfl, hb1⟩; have hx1 := Bx3.below (Bx3.new w ⟨3, n, s⟩) hb1 (by simp); obtain ⟨c10, c11, c12⟩ := hx1.facts; simp only at c10 c11 c12; have hh1 := hb1.size)
    | (go_at_call 69; refine (ru32_none (n % 4294967296) _ (Nat.mod_lt _ (by decide))).mono ?_; rintro e w2 ⟨rfl, hb2⟩; have hx2 := Bx3.below hx1 hb2 (lt_of_block hx1); obtain ⟨c20, c21, c22⟩ := hx2.facts; simp only at c20 c21 c22; have hh2 := hb2.size))
  go_ret
  exact ⟨rfl, ((Below.refl _ _).alloc (Nat.le_refl _) _).trans ((hb1.mono (by simp)).trans (hb2.mono (Nat.le_trans (by simp) hb1.size)))⟩

set_option maxRecDepth 100000 in
theorem writes_none4 (n : Nat) (s : ByteArray) (w : World) (hn : n < 18446744073709551616) (hs : s.size ≤ 140737488351232) :
    Calls Try.prog 39 #[.pointer none, .pointer none, (Stp.mk 4 n s).val] w fun e w' => e = .returned (.bool true) ∧ Below w.heap.size w w' := by
  have hs9 : s.size ≤ 140737488355328 := by omega
  unfold Stp.val
  simp only
  go_enter Try.func39, Try.ntmps39
  go_wp2_with (first
    | (go_at_call 70; refine (u64_none n _ hn).mono ?_; rintro e w1 ⟨rfl, hb1⟩; have hx1 := Bx3.below (Bx3.new w ⟨4, n, s⟩) hb1 (by simp); obtain ⟨c10, c11, c12⟩ := hx1.facts; simp only at c10 c11 c12; have hh1 := hb1.size)
    | (go_at_call 71; refine (ru64_none n _ hn).mono ?_; rintro e w2 ⟨rfl, hb2⟩; have hx2 := Bx3.below hx1 hb2 (lt_of_block hx1); obtain ⟨c20, c21, c22⟩ := hx2.facts; simp only at c20 c21 c22; have hh2 := hb2.size))
  go_ret
  exact ⟨rfl, ((Below.refl _ _).alloc (Nat.le_refl _) _).trans ((hb1.mono (by simp)).trans (hb2.mono (Nat.le_trans (by simp) hb1.size)))⟩

set_option maxRecDepth 100000 in
theorem writes_none5 (n : Nat) (s : ByteArray) (w : World) (hn : n < 18446744073709551616) (hs : s.size ≤ 140737488351232) :
    Calls Try.prog 39 #[.pointer none, .pointer none, (Stp.mk 5 n s).val] w fun e w' => e = .returned (.bool true) ∧ Below w.heap.size w w' := by
  have hs9 : s.size ≤ 140737488355328 := by omega
  unfold Stp.val
  simp only
  go_enter Try.func39, Try.ntmps39
  go_wp2_with (first
    | (go_at_call 72; refine (text_none s _ hs9).mono ?_; rintro e w1 ⟨rfl, hb1⟩; have hx1 := Bx3.below (Bx3.new w ⟨5, n, s⟩) hb1 (by simp); obtain ⟨c10, c11, c12⟩ := hx1.facts; simp only at c10 c11 c12; have hh1 := hb1.size)
    | (go_at_call 73; refine (rtext_none s _ hs9).mono ?_; rintro e w2 ⟨rfl, hb2⟩; have hx2 := Bx3.below hx1 hb2 (lt_of_block hx1); obtain ⟨c20, c21, c22⟩ := hx2.facts; simp only at c20 c21 c22; have hh2 := hb2.size))
  go_ret
  exact ⟨rfl, ((Below.refl _ _).alloc (Nat.le_refl _) _).trans ((hb1.mono (by simp)).trans (hb2.mono (Nat.le_trans (by simp) hb1.size)))⟩

end Go.Proofs.Ytfgjlplfpjfnoaa
