/- works: it returns true. -/
import Derived.Test.YthcmkjiemlfpcaaQTake
import Derived.Test.YthcmkjiemlfpcaaWalkQuotaNew
namespace Go.Proofs.Ythcmkjiemlfpcaa
open Go Go.RowKit
set_option linter.unusedVariables false

theorem works_new : newV 3 2 10 5 = .tuple #[bkt 3 2 10 10 0 5, .int .i64 0] := by unfold newV; rw [if_pos (by decide)]
theorem works_t1 : (⟨3, 2, 10, 10, 0, 5⟩ : Bk).take 5 8 = (⟨3, 2, 10, 2, 0, 5⟩, 0) := by decide
theorem works_t2 : (⟨3, 2, 10, 2, 0, 5⟩ : Bk).take 6 4 = (⟨3, 2, 10, 3, 1, 6⟩, 1) := by decide

set_option maxHeartbeats 400000 in
theorem works_is (w : World) : Calls Try.prog 21 #[] w fun e w' => e = .returned (.bool true) ∧ Below w.heap.size w w' := by
  have P1 := Lib.hid (fun W => new_at 3 2 10 5 W)
  have P2 := Lib.hid (fun W => take_is ⟨3, 2, 10, 10, 0, 5⟩ 5 8 W)
  have P3 := Lib.hid (fun W => take_is ⟨3, 2, 10, 2, 0, 5⟩ 6 4 W)
  rw [works_new] at P1
  rw [works_t1] at P2
  rw [works_t2] at P3
  unfold Bk.val at P2 P3
  unfold bkt at P1 P2 P3
  simp only at P1 P2 P3
  go_enter Try.func21, Try.ntmps21
  go_wp2_with fail
  refine (P1.out _).mono ?_
  rintro e w1 ⟨rfl, hb1⟩
  go_wp2_with fail
  refine (P2.out _).mono ?_
  rintro e w2 ⟨rfl, hb2⟩
  go_wp2_with fail
  have hB2 : Below w.heap.size w w2 := hb1.trans ((below1 hb2 (by simp)).mono hb1.size)
  clear hb1 hb2
  refine (P3.out _).mono ?_
  rintro e w3 ⟨rfl, hb3⟩
  have K3 : Bx w3 w2.heap.size 3 2 10 2 0 5 := (Bx.new w2 3 2 10 2 0 5).below hb3 (by simp)
  have hsz : w2.heap.size < w3.heap.size := K3.lt
  have HB := Lib.hid (hB2.trans ((below1 hb3 (by simp)).mono hB2.size))
  obtain ⟨c0, c1, c2, c3, c4, c5, f0, f1, f2, f3, f4, f5⟩ := K3.facts
  clear K3 hb3 hB2
  go_wp2
  go_ret
  exact ⟨rfl, HB.out.alloc HB.out.size _⟩
end Go.Proofs.Ythcmkjiemlfpcaa
