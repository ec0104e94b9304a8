/- QuotaSteps: its walk. -/
import Derived.Test.YthcmkjiemlfpcaaQWorks
namespace Go.Proofs.Ythcmkjiemlfpcaa
open Go Go.RowKit
set_option linter.unusedVariables false

set_option maxHeartbeats 1000000 in
set_option maxRecDepth 100000 in
theorem quotaSteps_yes (x0 x1 x2 x3 x4 x5 : Int) (a1 : Int) (a2 : Int) (w : World) (hok : (⟨x0, x1, x2, x3, x4, x5⟩ : Bk).Ok) (hst : a1 ≤ a2) :
    Calls Try.prog 7 #[bkt x0 x1 x2 x3 x4 x5, .int .i64 a1, .int .i64 a2] w fun e w' => e = .returned (.bool true) ∧ Below w.heap.size w w' := by
  have P1 := Lib.hid (fun W => check_yes ⟨x0, x1, x2, x3, x4, x5⟩ W hok)
  have P2 := Lib.hid (fun W => fill_is ⟨x0, x1, x2, x3, x4, x5⟩ a1 W)
  have P3 := Lib.hid (fun W => fill_is ((⟨x0, x1, x2, x3, x4, x5⟩ : Bk).fill a1) a2 W)
  have P4 := Lib.hid (fun W => fill_is ⟨x0, x1, x2, x3, x4, x5⟩ a2 W)
  have P5 := Lib.hid (fun W => check_yes _ W (hok.fill a2))
  rw [Bk.fill_fill hok hst] at P3
  have hs := Bk.fill_same ⟨x0, x1, x2, x3, x4, x5⟩ a2
  have hl := hok.fill_level a2
  obtain ⟨y, hy⟩ : ∃ y, y = (⟨x0, x1, x2, x3, x4, x5⟩ : Bk).fill a2 := ⟨_, rfl⟩
  rw [← hy] at P3 P4 P5 hs hl
  obtain ⟨c, hc⟩ : ∃ c, c = (⟨x0, x1, x2, x3, x4, x5⟩ : Bk).fill a1 := ⟨_, rfl⟩
  rw [← hc] at P2 P3
  clear hc hy
  obtain ⟨y0, y1, y2, y3, y4, y5⟩ := y
  obtain ⟨c0, c1, c2, c3, c4, c5⟩ := c
  simp only at hs hl
  obtain ⟨rfl, rfl, rfl⟩ := hs
  unfold Bk.val bkt at P1 P2 P3 P4 P5
  unfold bkt
  simp only at P1 P2 P3 P4 P5 ⊢
  clear hok
  go_enter Try.func7, Try.ntmps7
  go_wp2_with fail
  refine (P1.out _).mono ?_
  rintro e w1 ⟨rfl, hb1⟩
  have K := (OneB.mk0 w y0 y1 y2 x3 x4 x5).more hb1
  obtain ⟨d0, d1, d2, d3, d4, d5, _, _, _, _, _, _⟩ := K.a.facts
  have HK := Lib.hid K
  clear K hb1
  go_wp2_with fail
  refine (P2.out _).mono ?_
  rintro e w2 ⟨rfl, hb2⟩
  have K := HK.out.more hb2
  clear hb2 HK d0 d1 d2 d3 d4 d5
  have HK := Lib.hid K
  clear K
  go_wp2_with fail
  refine (P3.out _).mono ?_
  rintro e w3 ⟨rfl, hb3⟩
  have K := HK.out.more hb3
  clear hb3 HK
  obtain ⟨d0, d1, d2, d3, d4, d5, _, _, _, _, _, _⟩ := K.a.facts
  have hz : w.heap.size < w3.heap.size := K.z
  have HK := Lib.hid K
  clear K
  go_wp2_with fail
  refine (P4.out _).mono ?_
  rintro e w4 ⟨rfl, hb4⟩
  have KA : Bx w4 w.heap.size y0 y1 y2 x3 x4 x5 := (HK.out.a.alloc _).below hb4 (by simp; omega)
  have KB : Bx w4 w3.heap.size y0 y1 y2 y3 y4 y5 := (Bx.new w3 y0 y1 y2 y3 y4 y5).below hb4 (by simp)
  have KH := HK.out.h.trans ((below1 hb4 (by simp)).mono HK.out.h.size)
  clear hb4 HK d0 d1 d2 d3 d4 d5
  obtain ⟨d0, d1, d2, d3, d4, d5, _, _, _, _, _, _⟩ := KB.facts
  have hz3 : w3.heap.size < w4.heap.size := KB.lt
  have HA := Lib.hid KA
  have HH := Lib.hid KH
  clear KA KB KH
  go_wp2_with fail
  refine (P5.out _).mono ?_
  rintro e w5 ⟨rfl, hb5⟩
  have KA : Bx w5 w.heap.size y0 y1 y2 x3 x4 x5 := (HA.out.alloc _).below hb5 (by simp; omega)
  have KB : Bx w5 w4.heap.size y0 y1 y2 y3 y4 y5 := (Bx.new w4 y0 y1 y2 y3 y4 y5).below hb5 (by simp)
  have KH := HH.out.trans ((below1 hb5 (by simp)).mono HH.out.size)
  clear hb5 HA HH d0 d1 d2 d3 d4 d5
  obtain ⟨d0, d1, d2, d3, d4, d5, _, _, _, _, _, _⟩ := KB.facts
  obtain ⟨b0, b1, b2, b3, b4, b5, _, _, _, _, _, _⟩ := KA.facts
  have HH := Lib.hid KH
  clear KA KB KH
  go_wp2
  go_ret
  exact ⟨rfl, HH.out⟩

set_option maxHeartbeats 400000 in
theorem quotaSteps_walk (x00 x01 x02 x03 x04 x05 : Int) (a1 : Int) (a2 : Int) (w : World) (e00 : r64 x00) (e01 : r64 x01) (e02 : r64 x02) (e03 : r64 x03) (e04 : r64 x04) (e05 : r64 x05) (w1 : -9223372036854775808 ≤ a1 ∧ a1 ≤ 9223372036854775807) (w2 : -9223372036854775808 ≤ a2 ∧ a2 ≤ 9223372036854775807) :
    Calls Try.prog 7 #[bkt x00 x01 x02 x03 x04 x05, .int .i64 a1, .int .i64 a2] w fun e w' => e = .returned (.bool true) ∧ Below w.heap.size w w' := by
  clear e00 e01 e02 e03 e04 e05 w1 w2
  by_cases hok : (⟨x00, x01, x02, x03, x04, x05⟩ : Bk).Ok
  · by_cases hst : a1 ≤ a2
    · exact quotaSteps_yes x00 x01 x02 x03 x04 x05 a1 a2 w hok hst
    · have P1 := Lib.hid (fun W => check_yes ⟨x00, x01, x02, x03, x04, x05⟩ W hok)
      unfold Bk.val bkt at P1
      unfold bkt
      simp only at P1 ⊢
      clear hok
      go_enter Try.func7, Try.ntmps7
      go_wp2_with fail
      refine (P1.out _).mono ?_
      rintro e w1 ⟨rfl, hb1⟩
      go_wp2_with fail
      refine (works_is _).mono ?_
      rintro e w2 ⟨rfl, hb2⟩
      go_wp2
      go_ret
      have h1 := below1 hb1 (by simp)
      exact ⟨rfl, h1.trans (hb2.mono h1.size)⟩
  · have P1 := Lib.hid (fun W => check_no ⟨x00, x01, x02, x03, x04, x05⟩ W hok)
    unfold Bk.val bkt at P1
    unfold bkt
    simp only at P1 ⊢
    clear hok
    go_enter Try.func7, Try.ntmps7
    go_wp2_with fail
    refine (P1.out _).mono ?_
    rintro e w1 ⟨rfl, hb1⟩
    go_wp2_with fail
    refine (works_is _).mono ?_
    rintro e w2 ⟨rfl, hb2⟩
    go_wp2
    go_ret
    have h1 := below1 hb1 (by simp)
    exact ⟨rfl, h1.trans (hb2.mono h1.size)⟩
end Go.Proofs.Ythcmkjiemlfpcaa
