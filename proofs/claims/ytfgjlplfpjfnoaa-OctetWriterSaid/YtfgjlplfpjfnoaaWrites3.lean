/- One step of two writers: raw bytes. -/
import Derived.Test.YtfgjlplfpjfnoaaWrites2
namespace Go.Proofs.Ytfgjlplfpjfnoaa
open Go Go.RowKit
set_option linter.unusedVariables false

set_option maxHeartbeats 400000 in
set_option maxRecDepth 100000 in
theorem writes_two10 (base g1 g2 : Nat) (v1 v2 : Value) (xs : List Nat) (n : Nat) (s : ByteArray) (w : World) (h : Two base w g1 v1 xs g2 v2 xs) (hn : n < 18446744073709551616) (hs : s.size ≤ 140737488351232) (hl : xs.length + 10 + s.size ≤ 140737488351232) :
    Calls Try.prog 39 #[.pointer (some ⟨g1, 0, none⟩), .pointer (some ⟨g2, 0, none⟩), (Stp.mk 10 n s).val] w fun e w' => e = .returned (.bool true) ∧ ∃ z1 z2, On2 base w g1 v1 g2 v2 w' z1 (xs ++ (Stp.mk 10 n s).out) z2 (xs ++ (Stp.mk 10 n s).out) := by
  have H0 := Lib.hid h
  have HS0 := Lib.hid (Two.on (h.below ((Below.refl _ _).alloc (Nat.le_refl _) (.cells #[.int .i64 10, .int .u64 (n : Int), .string s] 55))))
  have hft : ¬ Foot g1 v1 g2 v2 (w.heap.size + 1) := fun hf => by have := (h.foot _ hf).2; omega
  have HFT := Lib.hid hft
  clear h hft
  unfold Stp.val
  simp only
  have hm : s.size ≤ maxLen := by unfold maxLen; omega
  have ez : (w.alloc (Obj.cells #[Value.int IntKind.i64 10, Value.int IntKind.u64 (n : Int), Value.string s] 55)).heap.size = w.heap.size + 1 := by simp
  have EZ := Lib.hid ez
  clear ez
  go_enter Try.func39, Try.ntmps39
  go_wp2_with (first
    | (refine wpList_bytesL _ rfl (.tmp 83) 9 22 5 rfl Try.underlying9 Try.underlying22 Try.underlying5 s rfl hm ?_; intro c1 w1 ho1 hb1 hl1; have HS1 := Lib.hid (HS0.out.below hb1); obtain ⟨c10, c11, c12⟩ := (On2.bx (x := ⟨10, n, s⟩) H0.out HS1.out).facts; simp only at c10 c11 c12; rw [EZ.out] at ho1 hl1; have HO1 := Lib.hid ho1; have HT1 := Lib.hid (Two.on HS1.out.two); clear ho1 hb1)
    | (go_at_call 74; refine (raw_is base g1 _ xs (some ⟨w.heap.size + 1, 0, none⟩) s.size c1 (sb s) _ HT1.out.two.a HO1.out.rd (sb_length s) (by omega) HT1.out.two.a.hb).mono ?_; intro e w2 hw2; obtain ⟨z1, rfl, hS2⟩ := HT1.out.left hw2; have HT2 := Lib.hid hS2; have HS2 := Lib.hid (HS1.out.then hS2); obtain ⟨c20, c21, c22⟩ := (On2.bx (x := ⟨10, n, s⟩) H0.out HS2.out).facts; simp only at c20 c21 c22; clear hw2 hS2)
    | (refine wpList_bytesL _ rfl (.tmp 90) 9 22 5 rfl Try.underlying9 Try.underlying22 Try.underlying5 s rfl hm ?_; intro c3 w3 ho3 hb3 hl3; have HT3 := Lib.hid (HT2.out.below hb3); have HS3 := Lib.hid (HS1.out.then HT3.out); obtain ⟨c30, c31, c32⟩ := (On2.bx (x := ⟨10, n, s⟩) H0.out HS3.out).facts; simp only at c30 c31 c32; have HO3 := Lib.hid ho3; clear ho3 hb3)
    | (go_at_call 75; refine (rraw_is base g2 _ xs _ s.size c3 (sb s) _ HT3.out.two.b HO3.out.rd (sb_length s) (by omega) HT3.out.two.b.hb).mono ?_; intro e w4 hw4; obtain ⟨z2, rfl, hS4⟩ := HT3.out.right hw4; have HT4 := Lib.hid hS4; have HS4 := Lib.hid (HS1.out.then hS4); obtain ⟨c40, c41, c42⟩ := (On2.bx (x := ⟨10, n, s⟩) H0.out HS4.out).facts; simp only at c40 c41 c42; have HO4 := Lib.hid (HO1.out.keptS hS4.kept HFT.out); have hl4 := hS4.kept.size; have HN4 := Lib.hid (On2.notFoot (w := w4) HT1.out.two HT4.out hl1 HFT.out); clear hw4 hS4)
    | (refine wpList_str _ rfl (.tmp 93) 22 9 5 rfl Try.underlying22 Try.underlying5 Try.underlying9 (some ⟨w.heap.size + 1, 0, none⟩) s.size c1 (sb s) rfl HO4.out.rd (sb_length s) (sb_by s) ?_; rw [strOf_sb])
    | (go_at_call 23; refine (marked_L _ _ _ _ 5 _ HO4.out (by omega) (by omega)).mono ?_; rintro e w5 ⟨A5, c5, rfl, hg5⟩; have HS5 := Lib.hid (HS4.out.grown hg5 (by rw [EZ.out]; exact Nat.le_refl _) HN4.out); obtain ⟨c50, c51, c52⟩ := (On2.bx (x := ⟨10, n, s⟩) H0.out HS5.out).facts; simp only at c50 c51 c52; clear hg5))
  have HF := On2.out H0.out HS5.out
  go_ret
  refine ⟨by simp, z1, z2, ?_⟩
  simpa [Stp.out, List.append_assoc] using HF
end Go.Proofs.Ytfgjlplfpjfnoaa
