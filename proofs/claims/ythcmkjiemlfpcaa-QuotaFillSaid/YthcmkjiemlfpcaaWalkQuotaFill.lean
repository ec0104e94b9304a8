/- QuotaFill: its walk. -/
import Derived.Test.YthcmkjiemlfpcaaQRFill3
namespace Go.Proofs.Ythcmkjiemlfpcaa
open Go Go.RowKit
set_option linter.unusedVariables false

set_option maxHeartbeats 400000 in
theorem quotaFill_walk (x00 x01 x02 x03 x04 x05 : Int) (a1 : Int) (w : World) (e00 : r64 x00) (e01 : r64 x01) (e02 : r64 x02) (e03 : r64 x03) (e04 : r64 x04) (e05 : r64 x05) (w1 : -9223372036854775808 ≤ a1 ∧ a1 ≤ 9223372036854775807) :
    Calls Try.prog 4 #[bkt x00 x01 x02 x03 x04 x05, .int .i64 a1] w fun e w' => e = .returned (.bool true) ∧ Below w.heap.size w w' := by
  have P1 := Lib.hid (fun W => fill_is ⟨x00, x01, x02, x03, x04, x05⟩ a1 W)
  have P2 := Lib.hid (fun W => rfill_is ⟨x00, x01, x02, x03, x04, x05⟩ a1 W)
  obtain ⟨c, hc⟩ : ∃ c, c = (⟨x00, x01, x02, x03, x04, x05⟩ : Bk).fill a1 := ⟨_, rfl⟩
  rw [← hc] at P1 P2
  clear hc e00 e01 e02 e03 e04 e05 w1
  obtain ⟨y0, y1, y2, y3, y4, y5⟩ := c
  unfold Bk.val at P1 P2
  unfold bkt at P1 P2 ⊢
  simp only at P1 P2 ⊢
  go_enter Try.func4, Try.ntmps4
  go_wp2_with fail
  go_region_held3 (fun W => W.cell? ⟨w.heap.size, 0, none⟩ = some (.int .i64 x00) ∧ W.cell? ⟨w.heap.size, 1, none⟩ = some (.int .i64 x01) ∧ W.cell? ⟨w.heap.size, 2, none⟩ = some (.int .i64 x02) ∧ W.cell? ⟨w.heap.size, 3, none⟩ = some (.int .i64 x03) ∧ W.cell? ⟨w.heap.size, 4, none⟩ = some (.int .i64 x04) ∧ W.cell? ⟨w.heap.size, 5, none⟩ = some (.int .i64 x05) ∧ OneB w W x00 x01 x02 x03 x04 x05)
    (first | assumption | exact OneB.s (by assumption) | exact OneB.s (OneB.drew (by assumption)) | exact OneB.s (OneB.mk0 w x00 x01 x02 x03 x04 x05) | exact OneB.s (OneB.mk0 w x00 x01 x02 x03 x04 x05).drew)
    (first
      | (go_at_call 17; refine (P1.out _).mono ?_; rintro e w3 ⟨rfl, hb3⟩; have hS : OneB w w3 x00 x01 x02 x03 x04 x05 := OneB.more (OneB.ofS (by assumption)) hb3)
      | (go_at_call 18; refine (P2.out _).mono ?_; rintro e w4 ⟨rfl, hb4⟩; have hS' : OneB w w4 x00 x01 x02 x03 x04 x05 := OneB.more (OneB.ofS (by assumption)) hb4))
  go_wp2
  go_ret
  exact ⟨rfl, (OneB.ofS (by assumption)).h⟩
end Go.Proofs.Ythcmkjiemlfpcaa
