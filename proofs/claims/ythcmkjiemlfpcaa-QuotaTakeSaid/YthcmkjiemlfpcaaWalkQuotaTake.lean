/- QuotaTake: its walk. -/
import Derived.Test.YthcmkjiemlfpcaaQTake
namespace Go.Proofs.Ythcmkjiemlfpcaa
open Go Go.RowKit
set_option linter.unusedVariables false

set_option maxHeartbeats 400000 in
theorem quotaTake_walk (x00 x01 x02 x03 x04 x05 : Int) (a1 : Int) (a2 : Int) (w : World) (e00 : r64 x00) (e01 : r64 x01) (e02 : r64 x02) (e03 : r64 x03) (e04 : r64 x04) (e05 : r64 x05) (w1 : -9223372036854775808 ≤ a1 ∧ a1 ≤ 9223372036854775807) (w2 : -9223372036854775808 ≤ a2 ∧ a2 ≤ 9223372036854775807) :
    Calls Try.prog 5 #[bkt x00 x01 x02 x03 x04 x05, .int .i64 a1, .int .i64 a2] w fun e w' => e = .returned (.bool true) ∧ Below w.heap.size w w' := by
  have P1 := Lib.hid (fun W => take_is ⟨x00, x01, x02, x03, x04, x05⟩ a1 a2 W)
  have P2 := Lib.hid (fun W => rtake_is ⟨x00, x01, x02, x03, x04, x05⟩ a1 a2 W)
  obtain ⟨c, hc⟩ : ∃ c, c = (⟨x00, x01, x02, x03, x04, x05⟩ : Bk).take a1 a2 := ⟨_, rfl⟩
  rw [← hc] at P1 P2
  clear hc e00 e01 e02 e03 e04 e05 w1 w2
  obtain ⟨⟨y0, y1, y2, y3, y4, y5⟩, r⟩ := c
  unfold Bk.val at P1 P2
  unfold bkt at P1 P2 ⊢
  simp only at P1 P2 ⊢
  go_enter Try.func5, Try.ntmps5
  go_wp2_with fail
  refine (P1.out _).mono ?_
  rintro e w1 ⟨rfl, hb1⟩
  have K1 := (OneB.mk0 w x00 x01 x02 x03 x04 x05).more hb1
  obtain ⟨c0, c1, c2, c3, c4, c5, f0, f1, f2, f3, f4, f5⟩ := K1.a.facts
  have hsz : w.heap.size < w1.heap.size := K1.z
  have HK1 := Lib.hid K1
  clear K1 hb1
  go_wp2_with fail
  refine (P2.out _).mono ?_
  rintro e w2 ⟨rfl, hb2⟩
  have K2 : Bx w2 w1.heap.size y0 y1 y2 y3 y4 y5 := (Bx.new w1 y0 y1 y2 y3 y4 y5).below hb2 (by simp)
  have hbel := HK1.out.h.trans (below1 (hb2.mono (by simp)) (Nat.le_refl _) |>.mono HK1.out.h.size)
  have hsz2 : w1.heap.size < w2.heap.size := K2.lt
  clear c0 c1 c2 c3 c4 c5 f0 f1 f2 f3 f4 f5 hb2 HK1
  obtain ⟨c0, c1, c2, c3, c4, c5, f0, f1, f2, f3, f4, f5⟩ := K2.facts
  have HB := Lib.hid hbel
  clear K2 hbel
  go_wp2
  go_ret
  exact ⟨rfl, HB.out.alloc (by have := HB.out.size; omega) _⟩
end Go.Proofs.Ythcmkjiemlfpcaa
