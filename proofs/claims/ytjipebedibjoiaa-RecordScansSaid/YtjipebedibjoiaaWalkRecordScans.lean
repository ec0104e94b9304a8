/- The walk of RecordScans. -/
import Derived.Test.YtjipebedibjoiaaRecRScan
import Derived.Test.YtjipebedibjoiaaRecSpoil
import Derived.Test.YtjipebedibjoiaaRecFull
namespace Go.Proofs.Ytjipebedibjoiaa
open Go Go.RowKit
set_option linter.unusedVariables false
set_option linter.unusedSimpArgs false

set_option maxHeartbeats 2000000 in
set_option maxRecDepth 100000 in
theorem recordScans_walk (A0 : Option Addr) (c0 : Nat) (b0 : List Nat) (w : World) (c0l : b0.length ≤ c0) (r0 : Rd w A0 (b8 b0)) (y0 : By b0) (l0 : b0.length ≤ 140737488351232) :
    Calls Try.prog 7 #[.slice A0 b0.length c0] w fun e w' => e = .returned (.bool true) ∧ Below w.heap.size w w' := by
  obtain ⟨m, hm⟩ : ∃ m, m = b0.length := ⟨_, rfl⟩
  have HR0 := Lib.hid r0
  have HY := Lib.hid y0
  have P1 := Lib.hid (fun W (hb : Below w.heap.size w W) => roomy_any A0 m c0 b0 W (r0.below hb) hm.symm (by omega))
  have PD := Lib.hid (fun A c x W (hr : Rd W A (b8 x)) (hx : x.length = m) (hc : m ≤ c) (hy : By x) => scan_is A m c x W hr hx hc hy (by omega))
  have PR := Lib.hid (fun W (hb : Below w.heap.size w W) => rscan_is A0 m c0 b0 W (r0.below hb) hm.symm (by omega) y0 (by omega))
  have PD0 := Lib.hid (fun A c W (hr : Rd W A (b8 b0)) (hc : m ≤ c) => scan_is A m c b0 W hr hm.symm hc y0 (by omega))
  have hfew := scan_few b0
  obtain ⟨⟨l, q1, q2⟩, hq⟩ : ∃ q, q = scanW b0 0 [] := ⟨_, rfl⟩
  rw [← hq] at PR PD0 hfew
  unfold ScanPost at PD PR PD0
  simp only at PR PD0 hfew
  have hN40 : l.length ≤ 1099511627776 := hfew.most
  obtain ⟨N, hN⟩ : ∃ N, l.length = N := ⟨_, rfl⟩
  rw [hN] at PR PD0 hN40
  have HN := Lib.hid hN
  have hm2 : m ≤ 140737488351232 := by omega
  rw [← hm] at c0l ⊢
  have HM := Lib.hid hm
  clear r0 y0 hm l0 hq hN hfew
  have bq1 : ((q1 : Int) == q1) = true := by simp
  have bq2 : ((q2 : Int) == q2) = true := by simp
  go_enter Try.func7, Try.ntmps7
  go_wp2_with fail
  refine (P1.out w (Below.refl _ _)).mono ?_
  rintro e wa ⟨Af, cf, rfl, hof, hba⟩
  obtain ⟨gf, rfl, hgf1, hgf2, hcf, hcm⟩ := own_pos hof (by simp)
  have hfl : (b0 ++ [165, 90, 167, 91]).length = m + 4 := by simp [HM.out]
  rw [hfl] at hof hcf
  have HF := Lib.hid (⟨hof, hba⟩ : Full w wa gf cf m (b0 ++ [165, 90, 167, 91]))
  (rw [hfl])
  clear hof hba hfl
  have i1 : (m : Int) ≤ (cf : Int) := by omega
  have i0 : (0 : Int) ≤ (m : Int) := by omega
  have i2 : m ≤ cf := by omega
  have hF0 : (b0.map fl ++ [165, 90, 167, 91]).take m = b0.map fl := by rw [List.take_append_of_le_length (by simp [HM.out]), List.take_of_length_le (by simp [HM.out])]
  have hF1 : (b0 ++ [165, 90, 167, 91]).take m = b0 := by rw [List.take_append_of_le_length (by simp [HM.out]), List.take_of_length_le (by simp [HM.out])]
  have F0 := Lib.hid hF0
  have F1 := Lib.hid hF1
  clear hF0 hF1 hgf1 hgf2
  go_wp2_with fail
  refine (flipped_own w.heap.size gf (m + 4) cf m cf b0 [165, 90, 167, 91] wa HF.out.f HY.out HM.out.symm (by omega)).mono ?_
  rintro e w3 ⟨rfl, hof3, hg3⟩
  have HF3 := Lib.hid (HF.out.flip hof3 hg3)
  have G3 := Lib.hid HF3.out.rf
  rw [F0.out] at G3
  clear hof3 hg3 HF
  go_wp2_with fail
  refine (PD.out _ cf (b0.map fl) w3 G3.out (by simp [HM.out]) i2 (by_fl b0)).mono ?_
  rintro e w4 ⟨A4, c4, rfl, -, hb4⟩
  have HF4 := Lib.hid (HF3.out.below hb4)
  clear hb4 HF3 G3
  go_wp2_with fail
  refine (flipped_own w.heap.size gf (m + 4) cf m cf (b0.map fl) [165, 90, 167, 91] w4 HF4.out.f (by_fl b0) (by simp [HM.out]) (by omega)).mono ?_
  rintro e w5 ⟨rfl, hof5, hg5⟩
  rw [map_fl_fl HY.out] at hof5
  have HF5 := Lib.hid (HF4.out.flip hof5 hg5)
  have G5 := Lib.hid HF5.out.rf
  rw [F1.out] at G5
  clear hof5 hg5 HF4
  go_wp2_with fail
  refine (PD0.out _ cf w5 G5.out i2).mono ?_
  rintro e w6 ⟨A6, c6, rfl, ho6, hb6⟩
  have HO6 := Lib.hid ho6
  have HF6 := Lib.hid (HF5.out.below hb6)
  have hs6 := hb6.size
  have G6 := Lib.hid HF6.out.rf
  rw [F1.out] at G6
  clear hb6 ho6 HF5 G5
  go_wp2_with fail
  refine (PD0.out _ cf w6 G6.out i2).mono ?_
  rintro e w7 ⟨A7, c7, rfl, ho7, hb7⟩
  have HO7 := Lib.hid ho7
  have HF7 := Lib.hid (HF6.out.below hb7)
  have HB7 := Lib.hid hb7
  clear hb7 ho7 G6
  go_wp2_with fail
  refine (spoilt_own w6.heap.size N _ (rcCells l) w7 HO7.out (by omega) HB7.out.size).mono ?_
  rintro e w8 ⟨rfl, hb8⟩
  have HB8 := Lib.hid (HB7.out.trans hb8)
  have HF8 := Lib.hid (HF6.out.below HB8.out)
  have HO68 := Lib.hid (own_below HO6.out HB8.out)
  clear hb8 HF7 HF6 HO7 HB7
  go_wp2_with fail
  refine (PR.out _ HF8.out.be).mono ?_
  rintro e w9 ⟨A9, c9, rfl, ho9, hb9⟩
  have HO9 := Lib.hid ho9
  have HF9 := Lib.hid (HF8.out.below hb9)
  have HO69 := Lib.hid (own_below HO68.out hb9)
  clear hb9 ho9 HF8 HO68 HO6
  go_wp2_with fail
  refine (alike_yes A6 A9 N c6 c9 l w9 (rd_own HO69.out) (rd_own HO9.out) HN.out (by omega)).mono ?_
  rintro e w10 ⟨rfl, d10, rfl⟩
  have HFa := Lib.hid (HF9.out.below (below_drewN (Below.refl _ _) d10))
  go_wp2_with fail
  refine (P1.out _ HFa.out.be).mono ?_
  rintro e w11 ⟨A11, c11, rfl, ho11, hb11⟩
  have hfl : (b0 ++ [165, 90, 167, 91]).length = m + 4 := by simp [HM.out]
  rw [hfl] at ho11 ⊢
  have HFb := Lib.hid (HFa.out.below hb11)
  have HO11 := Lib.hid ho11
  have bN : ((N : Int) + 64 == IntKind.i64.wrap ((N : Int) + 64)) = true := by rw [IntKind.wrap_i64, beq_iff_eq]; omega
  clear ho11 hb11
  go_wp2_with fail
  refine (same_yes (some ⟨gf, 0, none⟩) A11 (m + 4) (m + 4) cf c11 (b0 ++ [165, 90, 167, 91]) (b0 ++ [165, 90, 167, 91]) w11 (rd_own HFb.out.f) (rd_own HO11.out) hfl hfl (by omega) (by omega) rfl).mono ?_
  rintro e w12 ⟨rfl, d12, rfl⟩
  go_wp2_with fail
  go_ret
  exact ⟨rfl, below_drewN HFb.out.be d12⟩
end Go.Proofs.Ytjipebedibjoiaa
