/- WireFrames: its walk. -/
import Derived.Test.YtljfmcgeiceagaaRBody
import Derived.Test.YtljfmcgeiceagaaMarkN
import Derived.Test.YtljfmcgeiceagaaOctSame
namespace Go.Proofs.Ytljfmcgeiceagaa
open Go Go.RowKit
set_option linter.unusedVariables false
set_option linter.unusedSimpArgs false

theorem frm_len (b : List Nat) : (frm b).1.length ≤ 4096 := by
  unfold frm
  split
  · simp
  split
  · simp
  · rw [wrap_length]; omega
theorem bd_len (b : List Nat) : (bd b).1.length ≤ b.length := by
  unfold bd
  split
  · simp
  split
  · simp
  · simp

set_option maxHeartbeats 2000000 in
set_option maxRecDepth 100000 in
theorem wireFrames_walk (A0 : Option Addr) (c0 : Nat) (b0 : List Nat) (A1 : Option Addr) (c1 : Nat) (b1 : List Nat) (w : World) (c0l : b0.length ≤ c0) (r0 : Rd w A0 (b8 b0)) (y0 : By b0) (l0 : b0.length ≤ 140737488351232) (c1l : b1.length ≤ c1) (r1 : Rd w A1 (b8 b1)) (y1 : By b1) (l1 : b1.length ≤ 140737488351232) :
    Calls Try.prog 4 #[.slice A0 b0.length c0, .slice A1 b1.length c1] w fun e w' => e = .returned (.bool true) ∧ Below w.heap.size w w' := by
  have hfl := frm_len b0
  have hbl := bd_len b1
  obtain ⟨n, hn⟩ : ∃ n, n = b0.length := ⟨_, rfl⟩
  obtain ⟨m, hm⟩ : ∃ m, m = b1.length := ⟨_, rfl⟩
  have HN := Lib.hid hn
  have HM := Lib.hid hm
  have HR0 := Lib.hid r0
  have HR1 := Lib.hid r1
  rw [← hn] at c0l l0 ⊢
  rw [← hm] at c1l l1 hbl ⊢
  have PF := Lib.hid (fun A c W (h : Rd W A (b8 b0)) => frame_is A n c b0 W h hn.symm y0 l0)
  have PG := Lib.hid (fun A c W (h : Rd W A (b8 (b0.map fl))) => frame_is A n c (b0.map fl) W h (by simp [hn]) (by_fl _) l0)
  have PRF := Lib.hid (fun A c W (h : Rd W A (b8 b0)) => rframe_is A n c b0 W h hn.symm y0 l0)
  have PH := Lib.hid (fun A c W (h : Rd W A (b8 b1)) (hc : m ≤ c) => head_is A m c b1 W h hm.symm hc y1 (by omega))
  have PI := Lib.hid (fun A c W (h : Rd W A (b8 (b1.map fl))) (hc : m ≤ c) => head_is A m c (b1.map fl) W h (by simp [hm]) hc (by_fl _) (by omega))
  have PB := Lib.hid (fun A c W (h : Rd W A (b8 b1)) (hc : m ≤ c) => body_is A m c b1 W h hm.symm hc y1 (by omega))
  have PC := Lib.hid (fun A c W (h : Rd W A (b8 (b1.map fl))) (hc : m ≤ c) => body_is A m c (b1.map fl) W h (by simp [hm]) hc (by_fl _) (by omega))
  have PRH := Lib.hid (fun A c W (h : Rd W A (b8 b1)) (hc : m ≤ c) => rhead_is A m c b1 W h hm.symm hc y1 (by omega))
  have PRB := Lib.hid (fun A c W (h : Rd W A (b8 b1)) (hc : m ≤ c) => rbody_is A m c b1 W h hm.symm hc y1 l1)
  unfold FramePost at PF PG PRF PB PC PRB
  unfold HeadPost at PH PI PRH
  obtain ⟨⟨fs, fe⟩, hfq⟩ : ∃ q, q = frm b0 := ⟨_, rfl⟩
  obtain ⟨⟨bs, be⟩, hbq⟩ : ∃ q, q = bd b1 := ⟨_, rfl⟩
  obtain ⟨⟨h1, h2⟩, hhq⟩ : ∃ q, q = hd b1 := ⟨_, rfl⟩
  rw [← hfq] at PF PRF hfl
  rw [← hbq] at PB PRB hbl
  rw [← hhq] at PH PRH
  simp only at PF PRF PB PRB PH PRH hfl hbl
  have HY0 := Lib.hid y0
  have HY1 := Lib.hid y1
  clear r0 r1 y0 y1 hn hm hfq hbq hhq
  go_enter Try.func4, Try.ntmps4
  go_wp2_with fail
  refine (roomy_any A0 n c0 b0 w HR0.out HN.out.symm l0).mono ?_
  rintro e w1 ⟨F, cf, rfl, hf, hb1⟩
  simp only [List.length_append, List.length_cons, List.length_nil, ← HN.out] at hf ⊢
  obtain ⟨g, rfl, hg0, hg1, hgc, _⟩ := own_pos hf (by omega)
  have s0 : (0 : Int) ≤ (n : Int) := by omega
  have s1 : (n : Int) ≤ (cf : Int) := by omega
  have HF1 := Lib.hid hf
  have B1 := Lib.hid hb1
  clear hf hb1
  go_wp2_with fail
  refine (flipped_own w.heap.size g _ cf n cf b0 [165, 90, 167, 91] w1 HF1.out HY0.out HN.out.symm (by omega)).mono ?_
  rintro e w2 ⟨rfl, hf2, hg2⟩
  have HF2 := Lib.hid hf2
  have B2 := Lib.hid (B1.out.trans (below_of_grown hg2 B1.out.size (fun k hk => by injection hk with hk; omega)))
  clear hf2 hg2
  go_wp2_with fail
  refine (PG.out (some ⟨g, 0, none⟩) cf w2 (rd_pre HF2.out)).mono ?_
  rintro e w3 ⟨A3, c3, rfl, _, hb3⟩
  have HF3 := Lib.hid (own_below HF2.out hb3)
  have B3 := Lib.hid (B2.out.trans (hb3.mono B2.out.size))
  clear hb3
  go_wp2_with fail
  refine (flipped_own w.heap.size g _ cf n cf (b0.map fl) [165, 90, 167, 91] w3 HF3.out (by_fl _) (by simp [HN.out]) (by omega)).mono ?_
  rintro e w4 ⟨rfl, hf4, hg4⟩
  rw [map_fl_fl HY0.out] at hf4
  have HF4 := Lib.hid hf4
  have B4 := Lib.hid (B3.out.trans (below_of_grown hg4 B3.out.size (fun k hk => by injection hk with hk; omega)))
  clear hf4 hg4 HF1 HF2 HF3 B1 B2 B3
  go_wp2_with fail
  refine (PF.out (some ⟨g, 0, none⟩) cf w4 (rd_pre HF4.out)).mono ?_
  rintro e w5 ⟨A5, c5, rfl, ho5, hb5⟩
  have HX5 := Lib.hid ho5
  have B45 := Lib.hid hb5
  clear ho5 hb5
  go_wp2_with fail
  refine (PF.out (some ⟨g, 0, none⟩) cf w5 (rd_pre (own_below HF4.out B45.out))).mono ?_
  rintro e w6 ⟨A6, c6, rfl, ho6, hb6⟩
  have HZ6 := Lib.hid ho6
  have B56 := Lib.hid hb6
  clear ho6 hb6
  go_wp2_with fail
  refine (marked_len w5.heap.size fs.length _ fs 3 w6 HZ6.out (by omega) B56.out.size).mono ?_
  rintro e w7 ⟨rfl, hb7⟩
  have B57 := Lib.hid (B56.out.trans hb7)
  clear hb7
  have B47 := Lib.hid (B45.out.trans (B57.out.mono B45.out.size))
  go_wp2_with fail
  refine (PRF.out A0 c0 w7 (HR0.out.below (B4.out.trans (B47.out.mono B4.out.size)))).mono ?_
  rintro e w8 ⟨A8, c8, rfl, ho8, hb8⟩
  have HY8 := Lib.hid ho8
  have HX8 := Lib.hid (own_below HX5.out (B57.out.trans (hb8.mono B57.out.size)))
  have HF8 := Lib.hid (own_below HF4.out (B47.out.trans (hb8.mono B47.out.size)))
  have B8 := Lib.hid (B4.out.trans ((B47.out.trans (hb8.mono B47.out.size)).mono B4.out.size))
  clear ho8 hb8 HX5 HZ6 B45 B56 B57 B47 HF4 B4
  go_wp2_with fail
  refine (roomy_any A1 m c1 b1 w8 (HR1.out.below B8.out) HM.out.symm l1).mono ?_
  rintro e w9 ⟨G, cg, rfl, hf, hb1⟩
  simp only [List.length_append, List.length_cons, List.length_nil, ← HM.out] at hf ⊢
  obtain ⟨gw, rfl, hw0, hw1, hwc, _⟩ := own_pos hf (by omega)
  have s2 : (0 : Int) ≤ (m : Int) := by omega
  have s3 : (m : Int) ≤ (cg : Int) := by omega
  have HG9 := Lib.hid hf
  have B89 := Lib.hid hb1
  clear hf hb1
  go_wp2_with fail
  refine (flipped_own w8.heap.size gw _ cg m cg b1 [165, 90, 167, 91] w9 HG9.out HY1.out HM.out.symm (by omega)).mono ?_
  rintro e w10 ⟨rfl, hf2, hg2⟩
  have HG10 := Lib.hid hf2
  have B810 := Lib.hid (B89.out.trans (below_of_grown hg2 B89.out.size (fun k hk => by injection hk with hk; omega)))
  clear hf2 hg2
  go_wp2_with fail
  refine (PI.out (some ⟨gw, 0, none⟩) cg w10 (rd_pre HG10.out) (by omega)).mono ?_
  rintro e w11 ⟨rfl, hb11⟩
  have HG11 := Lib.hid (own_below HG10.out hb11)
  have B811 := Lib.hid (B810.out.trans (hb11.mono B810.out.size))
  clear hb11
  go_wp2_with fail
  refine (PC.out (some ⟨gw, 0, none⟩) cg w11 (rd_pre HG11.out) (by omega)).mono ?_
  rintro e w12 ⟨A12, c12, rfl, _, hb12⟩
  have HG12 := Lib.hid (own_below HG11.out hb12)
  have B812 := Lib.hid (B811.out.trans (hb12.mono B811.out.size))
  clear hb12
  go_wp2_with fail
  refine (flipped_own w8.heap.size gw _ cg m cg (b1.map fl) [165, 90, 167, 91] w12 HG12.out (by_fl _) (by simp [HM.out]) (by omega)).mono ?_
  rintro e w13 ⟨rfl, hf4, hg4⟩
  rw [map_fl_fl HY1.out] at hf4
  have HG13 := Lib.hid hf4
  have B813 := Lib.hid (B812.out.trans (below_of_grown hg4 B812.out.size (fun k hk => by injection hk with hk; omega)))
  clear hf4 hg4 HG9 HG10 HG11 HG12 B89 B810 B811 B812
  go_wp2_with fail
  refine (PH.out (some ⟨gw, 0, none⟩) cg w13 (rd_pre HG13.out) (by omega)).mono ?_
  rintro e w14 ⟨rfl, hb14⟩
  have B1314 := Lib.hid hb14
  have B14 := Lib.hid (B8.out.trans ((B813.out.trans (hb14.mono B813.out.size)).mono B8.out.size))
  clear hb14
  go_wp2_with fail
  refine (PRH.out A1 c1 w14 (HR1.out.below B14.out) c1l).mono ?_
  rintro e w15 ⟨rfl, hb15⟩
  have B1315 := Lib.hid (B1314.out.trans (hb15.mono B1314.out.size))
  clear hb15 B14
  go_wp2_with fail
  refine (PB.out (some ⟨gw, 0, none⟩) cg w15 (rd_pre (own_below HG13.out B1315.out)) (by omega)).mono ?_
  rintro e w16 ⟨A16, c16, rfl, ho16, hb16⟩
  have HP16 := Lib.hid ho16
  have B1516 := Lib.hid hb16
  have B1316 := Lib.hid (B1315.out.trans (hb16.mono B1315.out.size))
  clear ho16 hb16
  go_wp2_with fail
  refine (PB.out (some ⟨gw, 0, none⟩) cg w16 (rd_pre (own_below HG13.out B1316.out)) (by omega)).mono ?_
  rintro e w17 ⟨A17, c17, rfl, ho17, hb17⟩
  have HO17 := Lib.hid ho17
  have B1617 := Lib.hid hb17
  clear ho17 hb17
  go_wp2_with fail
  refine (marked_len w16.heap.size bs.length _ bs 4 w17 HO17.out (by omega) B1617.out.size).mono ?_
  rintro e w18 ⟨rfl, hb18⟩
  have B1618 := Lib.hid (B1617.out.trans hb18)
  have B1318 := Lib.hid (B1316.out.trans (B1618.out.mono B1316.out.size))
  have B18 := Lib.hid (B8.out.trans ((B813.out.trans (B1318.out.mono B813.out.size)).mono B8.out.size))
  clear hb18
  go_wp2_with fail
  refine (PRB.out A1 c1 w18 (HR1.out.below B18.out) c1l).mono ?_
  rintro e w19 ⟨A19, c19, rfl, ho19, hb19⟩
  have HQ19 := Lib.hid ho19
  have B1619 := Lib.hid (B1618.out.trans (hb19.mono B1618.out.size))
  have B1319 := Lib.hid (B1318.out.trans (hb19.mono B1318.out.size))
  have HP19 := Lib.hid (own_below HP16.out B1619.out)
  have HG19 := Lib.hid (own_below HG13.out B1319.out)
  have B819 := Lib.hid (B813.out.trans (B1319.out.mono B813.out.size))
  have HX19 := Lib.hid (own_below HX8.out B819.out)
  have HY19 := Lib.hid (own_below HY8.out B819.out)
  have HF19 := Lib.hid (own_below HF8.out B819.out)
  have B19 := Lib.hid (B8.out.trans (B819.out.mono B8.out.size))
  clear ho19 hb19 HX8 HY8 HF8 HG13 HP16 HO17 B8 B813 B1314 B1315 B1316 B1318 B1319 B1516 B1617 B1618 B1619 B18 B819
  go_wp2_with fail
  refine (same_yes A5 A8 _ _ c5 c8 fs fs w19 (rd_own HX19.out) (rd_own HY19.out) rfl rfl (by omega) (by omega) rfl).mono ?_
  rintro e w20 ⟨rfl, k1, rfl⟩
  have D1 := Lib.hid (below_drewN (Below.refl w19.heap.size w19) k1)
  go_wp2_with fail
  refine (same_yes A16 A19 _ _ c16 c19 bs bs _ (rd_own (own_below HP19.out D1.out)) (rd_own (own_below HQ19.out D1.out)) rfl rfl (by omega) (by omega) rfl).mono ?_
  rintro e w21 ⟨rfl, k2, rfl⟩
  have D2 := Lib.hid (below_drewN (Below.refl w19.heap.size w19) (k1 + k2))
  go_wp2_with fail
  refine (roomy_any A0 n c0 b0 _ (HR0.out.below (B19.out.trans (D2.out.mono B19.out.size))) HN.out.symm l0).mono ?_
  rintro e w22 ⟨R1, cr1, rfl, hr1, hb22⟩
  have HRR := Lib.hid hr1
  have B22 := Lib.hid (D2.out.trans (hb22.mono D2.out.size))
  clear hr1 hb22
  go_wp2_with fail
  refine (same_yes (some ⟨g, 0, none⟩) R1 _ _ cf cr1 (b0 ++ [165, 90, 167, 91]) (b0 ++ [165, 90, 167, 91]) w22 (rd_own (own_below HF19.out B22.out)) (rd_own HRR.out) (by simp [HN.out]) (by simp [HN.out]) (by omega) (by have := HN.out; simp; omega) rfl).mono ?_
  rintro e w23 ⟨rfl, k3, rfl⟩
  have B23 := Lib.hid (below_drewN B22.out k3)
  go_wp2_with fail
  refine (roomy_any A1 m c1 b1 _ (HR1.out.below (B19.out.trans (B23.out.mono B19.out.size))) HM.out.symm l1).mono ?_
  rintro e w24 ⟨R2, cr2, rfl, hr2, hb24⟩
  have HRR2 := Lib.hid hr2
  have B24 := Lib.hid (B23.out.trans (hb24.mono B23.out.size))
  clear hr2 hb24
  go_wp2_with fail
  refine (same_yes (some ⟨gw, 0, none⟩) R2 _ _ cg cr2 (b1 ++ [165, 90, 167, 91]) (b1 ++ [165, 90, 167, 91]) w24 (rd_own (own_below HG19.out B24.out)) (rd_own HRR2.out) (by simp [HM.out]) (by simp [HM.out]) (by omega) (by have := HM.out; simp; omega) rfl).mono ?_
  rintro e w25 ⟨rfl, k4, rfl⟩
  go_wp2_with fail
  go_ret
  exact ⟨by simp, below_drewN (B19.out.trans (B24.out.mono B19.out.size)) k4⟩
end Go.Proofs.Ytljfmcgeiceagaa
