/- The walk of SqueezeOnly (printed by gen_sqout.py). -/
import Derived.Test.YtmdpncjffikmiaaSqHead
import Derived.Test.YtmdpncjffikmiaaSqPlRead
namespace Go.Proofs.Ytmdpncjffikmiaa
open Go Go.RowKit
set_option linter.unusedVariables false
set_option linter.unusedSimpArgs false

set_option maxHeartbeats 4000000 in
set_option maxRecDepth 100000 in
theorem squeezeOnly_walk (A0 : Option Addr) (c0 : Nat) (b0 : List Nat) (w : World) (c0l : b0.length ≤ c0) (r0 : Rd w A0 (b8 b0)) (y0 : By b0) (l0 : b0.length ≤ 140737488351232) :
    Calls Try.prog 14 #[.slice A0 b0.length c0] w fun e w' => e = .returned (.bool true) ∧ Below w.heap.size w w' := by
  obtain ⟨n, hn⟩ : ∃ n, n = b0.length := ⟨_, rfl⟩
  rw [← hn] at c0l l0 ⊢
  have HN : Hid (b0.length = n) := Lib.hid hn.symm
  have R0 := Lib.hid r0
  have HY := Lib.hid y0
  rcases rd_code b0 with hrd | ⟨ts, hrd⟩
  · have HRD := Lib.hid hrd
    have HD : Hid (dec b0 = ([], 20)) := Lib.hid (dec_bad hrd)
    clear r0 y0 hn hrd
    go_enter Try.func14, Try.ntmps14
    go_wp2_with fail
    refine (decode_is A0 n c0 b0 w R0.out HN.out HY.out l0).mono ?_
    rw [HD.out]
    rintro e w1 ⟨A1, c1, rfl, ho1, hb1⟩
    simp only at ho1 ⊢
    have O1 := Lib.hid ho1
    have HH1 := Lib.hid hb1
    have R0_1 := Lib.hid (R0.out.below HH1.out)
    have TB_1 := Lib.hid (HH1.out)
    have hz_1 := TB_1.out.size
    have R1 := Lib.hid (rd_own O1.out)
    clear ho1 hb1
    go_wp2_with fail
    refine ((read_is A0 n c0 b0 w1 R0_1.out HN.out HY.out l0).mono (fun e w9 h => h.two)).mono ?_
    rw [HRD.out]
    rintro e w2 ⟨A2, c2, l2, rfl, hq2, ht2, hb2⟩
    simp only at ht2 hq2 ⊢
    have T2 := Lib.hid ht2
    have Q2 := Lib.hid hq2
    have HH2 := Lib.hid hb2
    have R0_2 := Lib.hid (R0_1.out.below HH2.out)
    have TB_2 := Lib.hid (TB_1.out.trans ((HH2.out).mono TB_1.out.size))
    have hz_2 := TB_2.out.size
    clear ht2 hq2 hb2
    go_wp2_with fail
    refine (head_is w2).mono ?_
    rintro e w3 ⟨rfl, hb3⟩
    have HH3 := Lib.hid hb3
    have R0_3 := Lib.hid (R0_2.out.below HH3.out)
    have TB_3 := Lib.hid (TB_2.out.trans ((HH3.out).mono TB_2.out.size))
    have hz_3 := TB_3.out.size
    clear hb3
    go_wp2_with fail
    go_ret
    exact ⟨rfl, TB_3.out⟩
  · obtain ⟨T, hx, hT4, hw, hTB, hd⟩ := rd_full y0 (by omega) hrd
    have HRD := Lib.hid hrd
    have HX := Lib.hid hx
    have HW := Lib.hid hw
    have HTB := Lib.hid hTB
    have HE : Hid (enc T = (blk T.length (tokens T), 0)) := Lib.hid (enc_short (by omega))
    have htl : ts.length ≤ 4096 := fine_count hx
    have hyl : (blk T.length (tokens T)).length ≤ 100000000 := blk_len (by omega)
    obtain ⟨Y, hY⟩ : ∃ Y, Y = blk T.length (tokens T) := ⟨_, rfl⟩
    rw [← hY] at HE hd hyl
    by_cases hyb : Y = b0
    · have HD : Hid (dec b0 = (T, 0)) := Lib.hid (by rw [hd, if_pos hyb])
      have HYE := Lib.hid hyb
      clear r0 y0 hn hrd hx hw hTB hY hd hyb
      go_enter Try.func14, Try.ntmps14
      go_wp2_with fail
      refine (decode_is A0 n c0 b0 w R0.out HN.out HY.out l0).mono ?_
      rw [HD.out]
      rintro e w1 ⟨A1, c1, rfl, ho1, hb1⟩
      simp only at ho1 ⊢
      have O1 := Lib.hid ho1
      have HH1 := Lib.hid hb1
      have R0_1 := Lib.hid (R0.out.below HH1.out)
      have TB_1 := Lib.hid (HH1.out)
      have hz_1 := TB_1.out.size
      have R1 := Lib.hid (rd_own O1.out)
      clear ho1 hb1
      go_wp2_with fail
      refine ((read_is A0 n c0 b0 w1 R0_1.out HN.out HY.out l0).mono (fun e w9 h => h.two)).mono ?_
      rw [HRD.out]
      rintro e w2 ⟨A2, c2, l2, rfl, hq2, ht2, hb2⟩
      simp only at ht2 hq2 ⊢
      have T2 := Lib.hid ht2
      have Q2 := Lib.hid hq2
      have HH2 := Lib.hid hb2
      have R0_2 := Lib.hid (R0_1.out.below HH2.out)
      have R1_2 := Lib.hid (R1.out.below HH2.out)
      have TB_2 := Lib.hid (TB_1.out.trans ((HH2.out).mono TB_1.out.size))
      have hz_2 := TB_2.out.size
      clear ht2 hq2 hb2
      go_wp2_with fail
      refine (write_is A2 ts.length c2 l2 w2 T2.out.rd T2.out.len T2.out.ok (by omega)).mono ?_
      rw [Q2.out, HW.out]
      rintro e w3 ⟨A3, c3, rfl, ho3, hb3⟩
      simp only at ho3 ⊢
      have O3 := Lib.hid ho3
      have HH3 := Lib.hid hb3
      have R0_3 := Lib.hid (R0_2.out.below HH3.out)
      have R1_3 := Lib.hid (R1_2.out.below HH3.out)
      have T2_3 := Lib.hid (T2.out.below HH3.out)
      have TB_3 := Lib.hid (TB_2.out.trans ((HH3.out).mono TB_2.out.size))
      have hz_3 := TB_3.out.size
      have R3 := Lib.hid (rd_own O3.out)
      clear ho3 hb3
      rw [HN.out]
      go_wp2_with fail
      refine (expand_is A2 ts.length c2 l2 w3 T2_3.out.rd T2_3.out.len T2_3.out.ok (by omega)).mono ?_
      rw [Q2.out, HX.out]
      rintro e w4 ⟨A4, c4, rfl, ho4, hb4⟩
      simp only at ho4 ⊢
      have O4 := Lib.hid ho4
      have HH4 := Lib.hid hb4
      have R0_4 := Lib.hid (R0_3.out.below HH4.out)
      have R1_4 := Lib.hid (R1_3.out.below HH4.out)
      have T2_4 := Lib.hid (T2_3.out.below HH4.out)
      have R3_4 := Lib.hid (R3.out.below HH4.out)
      have TB_4 := Lib.hid (TB_3.out.trans ((HH4.out).mono TB_3.out.size))
      have hz_4 := TB_4.out.size
      have R4 := Lib.hid (rd_own O4.out)
      clear ho4 hb4
      go_wp2_with fail
      refine (lsame_yes A3 A0 n n c3 c0 b0 b0 w4 R3_4.out R0_4.out HN.out HN.out (by omega) (by omega) rfl).mono ?_
      rintro e w5 ⟨rfl, d5, rfl⟩
      have HH5 := Lib.hid (below_drewN (Below.refl w4.heap.size w4) d5)
      obtain ⟨w5, hw5⟩ : ∃ w5 : World, w5 = w4.drewN d5 := ⟨_, rfl⟩
      rw [← hw5] at HH5 ⊢
      clear hw5
      have R0_5 := Lib.hid (R0_4.out.below HH5.out)
      have R1_5 := Lib.hid (R1_4.out.below HH5.out)
      have T2_5 := Lib.hid (T2_4.out.below HH5.out)
      have R3_5 := Lib.hid (R3_4.out.below HH5.out)
      have R4_5 := Lib.hid (R4.out.below HH5.out)
      have TB_5 := Lib.hid (TB_4.out.trans ((HH5.out).mono TB_4.out.size))
      have hz_5 := TB_5.out.size
      have hcap4 := own_cap O4.out
      go_wp2_with fail
      refine (encode_is A4 T.length c4 T w5 R4_5.out rfl HTB.out (by omega) hcap4.1).mono ?_
      rw [HE.out]
      rintro e w6 ⟨A6, c6, rfl, ho6, hb6⟩
      simp only at ho6 ⊢
      have O6 := Lib.hid ho6
      have HH6 := Lib.hid hb6
      have R0_6 := Lib.hid (R0_5.out.below HH6.out)
      have R1_6 := Lib.hid (R1_5.out.below HH6.out)
      have T2_6 := Lib.hid (T2_5.out.below HH6.out)
      have R3_6 := Lib.hid (R3_5.out.below HH6.out)
      have R4_6 := Lib.hid (R4_5.out.below HH6.out)
      have TB_6 := Lib.hid (TB_5.out.trans ((HH6.out).mono TB_5.out.size))
      have hz_6 := TB_6.out.size
      have R6 := Lib.hid (rd_own O6.out)
      clear ho6 hb6
      go_wp2_with fail
      refine (lsame_yes A6 A0 Y.length n c6 c0 Y b0 w6 R6.out R0_6.out rfl HN.out (by omega) (by omega) HYE.out).mono ?_
      rintro e w7 ⟨rfl, d7, rfl⟩
      have HH7 := Lib.hid (below_drewN (Below.refl w6.heap.size w6) d7)
      obtain ⟨w7, hw7⟩ : ∃ w7 : World, w7 = w6.drewN d7 := ⟨_, rfl⟩
      rw [← hw7] at HH7 ⊢
      clear hw7
      have R0_7 := Lib.hid (R0_6.out.below HH7.out)
      have R1_7 := Lib.hid (R1_6.out.below HH7.out)
      have T2_7 := Lib.hid (T2_6.out.below HH7.out)
      have R3_7 := Lib.hid (R3_6.out.below HH7.out)
      have R4_7 := Lib.hid (R4_6.out.below HH7.out)
      have R6_7 := Lib.hid (R6.out.below HH7.out)
      have TB_7 := Lib.hid (TB_6.out.trans ((HH7.out).mono TB_6.out.size))
      have hz_7 := TB_7.out.size
      go_wp2_with fail
      refine (lsame_yes A1 A4 T.length T.length c1 c4 T T w7 R1_7.out R4_7.out rfl rfl (by omega) (by omega) rfl).mono ?_
      rintro e w8 ⟨rfl, d8, rfl⟩
      have HH8 := Lib.hid (below_drewN (Below.refl w7.heap.size w7) d8)
      obtain ⟨w8, hw8⟩ : ∃ w8 : World, w8 = w7.drewN d8 := ⟨_, rfl⟩
      rw [← hw8] at HH8 ⊢
      clear hw8
      have R0_8 := Lib.hid (R0_7.out.below HH8.out)
      have R1_8 := Lib.hid (R1_7.out.below HH8.out)
      have T2_8 := Lib.hid (T2_7.out.below HH8.out)
      have R3_8 := Lib.hid (R3_7.out.below HH8.out)
      have R4_8 := Lib.hid (R4_7.out.below HH8.out)
      have R6_8 := Lib.hid (R6_7.out.below HH8.out)
      have TB_8 := Lib.hid (TB_7.out.trans ((HH8.out).mono TB_7.out.size))
      have hz_8 := TB_8.out.size
      go_wp2_with fail
      refine (head_is w8).mono ?_
      rintro e w9 ⟨rfl, hb9⟩
      have HH9 := Lib.hid hb9
      have R0_9 := Lib.hid (R0_8.out.below HH9.out)
      have R1_9 := Lib.hid (R1_8.out.below HH9.out)
      have T2_9 := Lib.hid (T2_8.out.below HH9.out)
      have R3_9 := Lib.hid (R3_8.out.below HH9.out)
      have R4_9 := Lib.hid (R4_8.out.below HH9.out)
      have R6_9 := Lib.hid (R6_8.out.below HH9.out)
      have TB_9 := Lib.hid (TB_8.out.trans ((HH9.out).mono TB_8.out.size))
      have hz_9 := TB_9.out.size
      clear hb9
      go_wp2_with fail
      go_ret
      exact ⟨rfl, TB_9.out⟩
    · have HD : Hid (dec b0 = ([], 20)) := Lib.hid (by rw [hd, if_neg hyb])
      have HYE := Lib.hid hyb
      clear r0 y0 hn hrd hx hw hTB hY hd hyb
      go_enter Try.func14, Try.ntmps14
      go_wp2_with fail
      refine (decode_is A0 n c0 b0 w R0.out HN.out HY.out l0).mono ?_
      rw [HD.out]
      rintro e w1 ⟨A1, c1, rfl, ho1, hb1⟩
      simp only at ho1 ⊢
      have O1 := Lib.hid ho1
      have HH1 := Lib.hid hb1
      have R0_1 := Lib.hid (R0.out.below HH1.out)
      have TB_1 := Lib.hid (HH1.out)
      have hz_1 := TB_1.out.size
      have R1 := Lib.hid (rd_own O1.out)
      clear ho1 hb1
      go_wp2_with fail
      refine ((read_is A0 n c0 b0 w1 R0_1.out HN.out HY.out l0).mono (fun e w9 h => h.two)).mono ?_
      rw [HRD.out]
      rintro e w2 ⟨A2, c2, l2, rfl, hq2, ht2, hb2⟩
      simp only at ht2 hq2 ⊢
      have T2 := Lib.hid ht2
      have Q2 := Lib.hid hq2
      have HH2 := Lib.hid hb2
      have R0_2 := Lib.hid (R0_1.out.below HH2.out)
      have TB_2 := Lib.hid (TB_1.out.trans ((HH2.out).mono TB_1.out.size))
      have hz_2 := TB_2.out.size
      clear ht2 hq2 hb2
      go_wp2_with fail
      refine (write_is A2 ts.length c2 l2 w2 T2.out.rd T2.out.len T2.out.ok (by omega)).mono ?_
      rw [Q2.out, HW.out]
      rintro e w3 ⟨A3, c3, rfl, ho3, hb3⟩
      simp only at ho3 ⊢
      have O3 := Lib.hid ho3
      have HH3 := Lib.hid hb3
      have R0_3 := Lib.hid (R0_2.out.below HH3.out)
      have T2_3 := Lib.hid (T2.out.below HH3.out)
      have TB_3 := Lib.hid (TB_2.out.trans ((HH3.out).mono TB_2.out.size))
      have hz_3 := TB_3.out.size
      have R3 := Lib.hid (rd_own O3.out)
      clear ho3 hb3
      rw [HN.out]
      go_wp2_with fail
      refine (expand_is A2 ts.length c2 l2 w3 T2_3.out.rd T2_3.out.len T2_3.out.ok (by omega)).mono ?_
      rw [Q2.out, HX.out]
      rintro e w4 ⟨A4, c4, rfl, ho4, hb4⟩
      simp only at ho4 ⊢
      have O4 := Lib.hid ho4
      have HH4 := Lib.hid hb4
      have R0_4 := Lib.hid (R0_3.out.below HH4.out)
      have T2_4 := Lib.hid (T2_3.out.below HH4.out)
      have R3_4 := Lib.hid (R3.out.below HH4.out)
      have TB_4 := Lib.hid (TB_3.out.trans ((HH4.out).mono TB_3.out.size))
      have hz_4 := TB_4.out.size
      have R4 := Lib.hid (rd_own O4.out)
      clear ho4 hb4
      go_wp2_with fail
      refine (lsame_yes A3 A0 n n c3 c0 b0 b0 w4 R3_4.out R0_4.out HN.out HN.out (by omega) (by omega) rfl).mono ?_
      rintro e w5 ⟨rfl, d5, rfl⟩
      have HH5 := Lib.hid (below_drewN (Below.refl w4.heap.size w4) d5)
      obtain ⟨w5, hw5⟩ : ∃ w5 : World, w5 = w4.drewN d5 := ⟨_, rfl⟩
      rw [← hw5] at HH5 ⊢
      clear hw5
      have R0_5 := Lib.hid (R0_4.out.below HH5.out)
      have T2_5 := Lib.hid (T2_4.out.below HH5.out)
      have R3_5 := Lib.hid (R3_4.out.below HH5.out)
      have R4_5 := Lib.hid (R4.out.below HH5.out)
      have TB_5 := Lib.hid (TB_4.out.trans ((HH5.out).mono TB_4.out.size))
      have hz_5 := TB_5.out.size
      have hcap4 := own_cap O4.out
      go_wp2_with fail
      refine (encode_is A4 T.length c4 T w5 R4_5.out rfl HTB.out (by omega) hcap4.1).mono ?_
      rw [HE.out]
      rintro e w6 ⟨A6, c6, rfl, ho6, hb6⟩
      simp only at ho6 ⊢
      have O6 := Lib.hid ho6
      have HH6 := Lib.hid hb6
      have R0_6 := Lib.hid (R0_5.out.below HH6.out)
      have T2_6 := Lib.hid (T2_5.out.below HH6.out)
      have R3_6 := Lib.hid (R3_5.out.below HH6.out)
      have R4_6 := Lib.hid (R4_5.out.below HH6.out)
      have TB_6 := Lib.hid (TB_5.out.trans ((HH6.out).mono TB_5.out.size))
      have hz_6 := TB_6.out.size
      have R6 := Lib.hid (rd_own O6.out)
      clear ho6 hb6
      go_wp2_with fail
      refine (lsame_no A6 A0 Y.length n c6 c0 Y b0 w6 R6.out R0_6.out rfl HN.out (by omega) (by omega) HYE.out).mono ?_
      rintro e w7 ⟨rfl, d7, rfl⟩
      have HH7 := Lib.hid (below_drewN (Below.refl w6.heap.size w6) d7)
      obtain ⟨w7, hw7⟩ : ∃ w7 : World, w7 = w6.drewN d7 := ⟨_, rfl⟩
      rw [← hw7] at HH7 ⊢
      clear hw7
      have R0_7 := Lib.hid (R0_6.out.below HH7.out)
      have T2_7 := Lib.hid (T2_6.out.below HH7.out)
      have R3_7 := Lib.hid (R3_6.out.below HH7.out)
      have R4_7 := Lib.hid (R4_6.out.below HH7.out)
      have R6_7 := Lib.hid (R6.out.below HH7.out)
      have TB_7 := Lib.hid (TB_6.out.trans ((HH7.out).mono TB_6.out.size))
      have hz_7 := TB_7.out.size
      go_wp2_with fail
      refine (head_is w7).mono ?_
      rintro e w8 ⟨rfl, hb8⟩
      have HH8 := Lib.hid hb8
      have R0_8 := Lib.hid (R0_7.out.below HH8.out)
      have T2_8 := Lib.hid (T2_7.out.below HH8.out)
      have R3_8 := Lib.hid (R3_7.out.below HH8.out)
      have R4_8 := Lib.hid (R4_7.out.below HH8.out)
      have R6_8 := Lib.hid (R6_7.out.below HH8.out)
      have TB_8 := Lib.hid (TB_7.out.trans ((HH8.out).mono TB_7.out.size))
      have hz_8 := TB_8.out.size
      clear hb8
      go_wp2_with fail
      go_ret
      exact ⟨rfl, TB_8.out⟩
end Go.Proofs.Ytmdpncjffikmiaa
