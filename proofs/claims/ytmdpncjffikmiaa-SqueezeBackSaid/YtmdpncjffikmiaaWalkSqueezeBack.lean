/- The walk of SqueezeBack (printed by gen_sqout.py). -/
import Derived.Test.YtmdpncjffikmiaaSqHead
import Derived.Test.YtmdpncjffikmiaaSqPlRead
namespace Go.Proofs.Ytmdpncjffikmiaa
open Go Go.RowKit
set_option linter.unusedVariables false
set_option linter.unusedSimpArgs false

set_option maxHeartbeats 4000000 in
set_option maxRecDepth 100000 in
theorem squeezeBack_walk (A0 : Option Addr) (c0 : Nat) (b0 : List Nat) (w : World) (c0l : b0.length ≤ c0) (r0 : Rd w A0 (b8 b0)) (y0 : By b0) (l0 : b0.length ≤ 140737488351232) :
    Calls Try.prog 15 #[.slice A0 b0.length c0] w fun e w' => e = .returned (.bool true) ∧ Below w.heap.size w w' := by
  obtain ⟨n, hn⟩ : ∃ n, n = b0.length := ⟨_, rfl⟩
  rw [← hn] at c0l l0 ⊢
  have HN : Hid (b0.length = n) := Lib.hid hn.symm
  have R0 := Lib.hid r0
  have HY := Lib.hid y0
  by_cases hlong : 4096 < n
  · have HE : Hid (enc b0 = ([], 2)) := Lib.hid (enc_long (by rw [HN.out]; exact hlong))
    have HT : Hid (tks b0 = ([], 2)) := Lib.hid (tks_long (by rw [HN.out]; exact hlong))
    clear r0 y0 hn
    go_enter Try.func15, Try.ntmps15
    go_wp2_with fail
    refine (encode_is A0 n c0 b0 w R0.out HN.out HY.out l0 c0l).mono ?_
    rw [HE.out]
    rintro e w1 ⟨A1, c1, rfl, ho1, hb1⟩
    simp only at ho1 ⊢
    have O1 := Lib.hid ho1
    have HH1 := Lib.hid hb1
    have R0_1 := Lib.hid (R0.out.below HH1.out)
    have TB_1 := Lib.hid (HH1.out)
    have hz_1 := TB_1.out.size
    have R1 := Lib.hid (rd_own O1.out)
    clear ho1 hb1
    go_wp2_with fail
    refine ((tokens_is A0 n c0 b0 w1 R0_1.out HN.out HY.out l0 c0l).mono (fun e w9 h => h.two)).mono ?_
    rw [HT.out]
    rintro e w2 ⟨A2, c2, l2, rfl, hq2, ht2, hb2⟩
    simp only at ht2 hq2 ⊢
    have T2 := Lib.hid ht2
    have Q2 := Lib.hid hq2
    have HH2 := Lib.hid hb2
    have R0_2 := Lib.hid (R0_1.out.below HH2.out)
    have TB_2 := Lib.hid (TB_1.out.trans ((HH2.out).mono TB_1.out.size))
    have hz_2 := TB_2.out.size
    clear ht2 hq2 hb2
    go_wp2_with fail
    refine (head_is w2).mono ?_
    rintro e w3 ⟨rfl, hb3⟩
    have HH3 := Lib.hid hb3
    have R0_3 := Lib.hid (R0_2.out.below HH3.out)
    have TB_3 := Lib.hid (TB_2.out.trans ((HH3.out).mono TB_2.out.size))
    have hz_3 := TB_3.out.size
    clear hb3
    go_wp2_with fail
    go_ret
    exact ⟨rfl, TB_3.out⟩
  · have hn4 : n ≤ 4096 := by omega
    have HE : Hid (enc b0 = (blk n (tokens b0), 0)) := Lib.hid (by rw [enc_short (by rw [HN.out]; exact hlong), HN.out])
    have HT : Hid (tks b0 = (tokens b0, 0)) := Lib.hid (tks_short (by rw [HN.out]; exact hlong))
    have HD : Hid (dec (blk n (tokens b0)) = (b0, 0)) := Lib.hid (by rw [hn]; exact dec_enc y0 (by omega))
    have HX : Hid (exp [] (tokens b0) = (b0, 0)) := Lib.hid (exp_tokens (by omega))
    have HRD : Hid (rd (blk n (tokens b0)) = (tokens b0, 0)) := Lib.hid (by rw [hn]; exact rd_enc y0 (by omega))
    have HW : Hid (wr (tokens b0) = (blk n (tokens b0), 0)) := Lib.hid (by rw [hn]; exact wr_tokens (by omega))
    have HYB : Hid (By (blk n (tokens b0))) := Lib.hid (by rw [hn]; exact by_blk y0)
    have hb := blk_bnd (t := b0) (by omega)
    have hyl : (blk n (tokens b0)).length ≤ 100000000 := by rw [hn]; exact blk_len (by omega)
    rw [← hn] at hb
    have hTl : (tokens b0).length ≤ 4096 := fine_count HX.out
    obtain ⟨Y, hY⟩ : ∃ Y, Y = blk n (tokens b0) := ⟨_, rfl⟩
    rw [← hY] at HE HD HRD HW HYB hb hyl
    obtain ⟨T, hT⟩ : ∃ T, T = tokens b0 := ⟨_, rfl⟩
    rw [← hT] at HT HX HRD HW hTl
    obtain ⟨B, hB⟩ : ∃ B, B = bnd n := ⟨_, rfl⟩
    have HBB := Lib.hid hB.symm
    rw [← hB] at hb
    obtain ⟨hb1', hb2'⟩ := hb
    have g1 : ¬ (B : Int) < (Y.length : Int) := by omega
    have g2 : ¬ (Y.length : Int) < 1 := by omega
    clear r0 y0 hn hY hT hB hlong
    go_enter Try.func15, Try.ntmps15
    go_wp2_with fail
    refine (encode_is A0 n c0 b0 w R0.out HN.out HY.out l0 c0l).mono ?_
    rw [HE.out]
    rintro e w1 ⟨A1, c1, rfl, ho1, hb1⟩
    simp only at ho1 ⊢
    have O1 := Lib.hid ho1
    have HH1 := Lib.hid hb1
    have R0_1 := Lib.hid (R0.out.below HH1.out)
    have TB_1 := Lib.hid (HH1.out)
    have hz_1 := TB_1.out.size
    have R1 := Lib.hid (rd_own O1.out)
    clear ho1 hb1
    go_wp2_with fail
    refine ((tokens_is A0 n c0 b0 w1 R0_1.out HN.out HY.out l0 c0l).mono (fun e w9 h => h.two)).mono ?_
    rw [HT.out]
    rintro e w2 ⟨A2, c2, l2, rfl, hq2, ht2, hb2⟩
    simp only at ht2 hq2 ⊢
    have T2 := Lib.hid ht2
    have Q2 := Lib.hid hq2
    have HH2 := Lib.hid hb2
    have R0_2 := Lib.hid (R0_1.out.below HH2.out)
    have R1_2 := Lib.hid (R1.out.below HH2.out)
    have TB_2 := Lib.hid (TB_1.out.trans ((HH2.out).mono TB_1.out.size))
    have hz_2 := TB_2.out.size
    clear ht2 hq2 hb2
    go_wp2_with fail
    refine (bound_is n w2 hn4).mono ?_
    rw [HBB.out]
    rintro e w3 ⟨rfl, hb3⟩
    have HH3 := Lib.hid hb3
    have R0_3 := Lib.hid (R0_2.out.below HH3.out)
    have R1_3 := Lib.hid (R1_2.out.below HH3.out)
    have T2_3 := Lib.hid (T2.out.below HH3.out)
    have TB_3 := Lib.hid (TB_2.out.trans ((HH3.out).mono TB_2.out.size))
    have hz_3 := TB_3.out.size
    clear hb3
    go_wp2_with fail
    refine (decode_is A1 Y.length c1 Y w3 R1_3.out rfl HYB.out (by omega)).mono ?_
    rw [HD.out]
    rintro e w4 ⟨A4, c4, rfl, ho4, hb4⟩
    simp only at ho4 ⊢
    have O4 := Lib.hid ho4
    have HH4 := Lib.hid hb4
    have R0_4 := Lib.hid (R0_3.out.below HH4.out)
    have R1_4 := Lib.hid (R1_3.out.below HH4.out)
    have T2_4 := Lib.hid (T2_3.out.below HH4.out)
    have TB_4 := Lib.hid (TB_3.out.trans ((HH4.out).mono TB_3.out.size))
    have hz_4 := TB_4.out.size
    have R4 := Lib.hid (rd_own O4.out)
    clear ho4 hb4
    go_wp2_with fail
    refine (expand_is A2 T.length c2 l2 w4 T2_4.out.rd T2_4.out.len T2_4.out.ok (by omega)).mono ?_
    rw [Q2.out, HX.out]
    rintro e w5 ⟨A5, c5, rfl, ho5, hb5⟩
    simp only at ho5 ⊢
    have O5 := Lib.hid ho5
    have HH5 := Lib.hid hb5
    have R0_5 := Lib.hid (R0_4.out.below HH5.out)
    have R1_5 := Lib.hid (R1_4.out.below HH5.out)
    have T2_5 := Lib.hid (T2_4.out.below HH5.out)
    have R4_5 := Lib.hid (R4.out.below HH5.out)
    have TB_5 := Lib.hid (TB_4.out.trans ((HH5.out).mono TB_4.out.size))
    have hz_5 := TB_5.out.size
    have R5 := Lib.hid (rd_own O5.out)
    clear ho5 hb5
    go_wp2_with fail
    refine ((read_is A1 Y.length c1 Y w5 R1_5.out rfl HYB.out (by omega)).mono (fun e w9 h => h.two)).mono ?_
    rw [HRD.out]
    rintro e w6 ⟨A6, c6, l6, rfl, hq6, ht6, hb6⟩
    simp only at ht6 hq6 ⊢
    have T6 := Lib.hid ht6
    have Q6 := Lib.hid hq6
    have HH6 := Lib.hid hb6
    have R0_6 := Lib.hid (R0_5.out.below HH6.out)
    have R1_6 := Lib.hid (R1_5.out.below HH6.out)
    have T2_6 := Lib.hid (T2_5.out.below HH6.out)
    have R4_6 := Lib.hid (R4_5.out.below HH6.out)
    have R5_6 := Lib.hid (R5.out.below HH6.out)
    have TB_6 := Lib.hid (TB_5.out.trans ((HH6.out).mono TB_5.out.size))
    have hz_6 := TB_6.out.size
    clear ht6 hq6 hb6
    go_wp2_with fail
    refine (write_is A2 T.length c2 l2 w6 T2_6.out.rd T2_6.out.len T2_6.out.ok (by omega)).mono ?_
    rw [Q2.out, HW.out]
    rintro e w7 ⟨A7, c7, rfl, ho7, hb7⟩
    simp only at ho7 ⊢
    have O7 := Lib.hid ho7
    have HH7 := Lib.hid hb7
    have R0_7 := Lib.hid (R0_6.out.below HH7.out)
    have R1_7 := Lib.hid (R1_6.out.below HH7.out)
    have T2_7 := Lib.hid (T2_6.out.below HH7.out)
    have R4_7 := Lib.hid (R4_6.out.below HH7.out)
    have R5_7 := Lib.hid (R5_6.out.below HH7.out)
    have T6_7 := Lib.hid (T6.out.below HH7.out)
    have TB_7 := Lib.hid (TB_6.out.trans ((HH7.out).mono TB_6.out.size))
    have hz_7 := TB_7.out.size
    have R7 := Lib.hid (rd_own O7.out)
    clear ho7 hb7
    rw [HN.out]
    go_wp2_with fail
    refine (lsame_yes A4 A0 n n c4 c0 b0 b0 w7 R4_7.out R0_7.out HN.out HN.out (by omega) (by omega) rfl).mono ?_
    rintro e w8 ⟨rfl, d8, rfl⟩
    have HH8 := Lib.hid (below_drewN (Below.refl w7.heap.size w7) d8)
    obtain ⟨w8, hw8⟩ : ∃ w8 : World, w8 = w7.drewN d8 := ⟨_, rfl⟩
    rw [← hw8] at HH8 ⊢
    clear hw8
    have R0_8 := Lib.hid (R0_7.out.below HH8.out)
    have R1_8 := Lib.hid (R1_7.out.below HH8.out)
    have T2_8 := Lib.hid (T2_7.out.below HH8.out)
    have R4_8 := Lib.hid (R4_7.out.below HH8.out)
    have R5_8 := Lib.hid (R5_7.out.below HH8.out)
    have T6_8 := Lib.hid (T6_7.out.below HH8.out)
    have R7_8 := Lib.hid (R7.out.below HH8.out)
    have TB_8 := Lib.hid (TB_7.out.trans ((HH8.out).mono TB_7.out.size))
    have hz_8 := TB_8.out.size
    go_wp2_with fail
    refine (lsame_yes A5 A0 n n c5 c0 b0 b0 w8 R5_8.out R0_8.out HN.out HN.out (by omega) (by omega) rfl).mono ?_
    rintro e w9 ⟨rfl, d9, rfl⟩
    have HH9 := Lib.hid (below_drewN (Below.refl w8.heap.size w8) d9)
    obtain ⟨w9, hw9⟩ : ∃ w9 : World, w9 = w8.drewN d9 := ⟨_, rfl⟩
    rw [← hw9] at HH9 ⊢
    clear hw9
    have R0_9 := Lib.hid (R0_8.out.below HH9.out)
    have R1_9 := Lib.hid (R1_8.out.below HH9.out)
    have T2_9 := Lib.hid (T2_8.out.below HH9.out)
    have R4_9 := Lib.hid (R4_8.out.below HH9.out)
    have R5_9 := Lib.hid (R5_8.out.below HH9.out)
    have T6_9 := Lib.hid (T6_8.out.below HH9.out)
    have R7_9 := Lib.hid (R7_8.out.below HH9.out)
    have TB_9 := Lib.hid (TB_8.out.trans ((HH9.out).mono TB_8.out.size))
    have hz_9 := TB_9.out.size
    go_wp2_with fail
    refine (sameTokens_yes A6 A2 T.length c6 c2 l6 l2 w9 T6_9.out.rd T2_9.out.rd (Q6.out.trans Q2.out.symm) T6_9.out.len T6_9.out.ok T2_9.out.ok (by omega)).mono ?_
    rintro e w10 ⟨rfl, d10, rfl⟩
    have HH10 := Lib.hid (below_drewN (Below.refl w9.heap.size w9) d10)
    obtain ⟨w10, hw10⟩ : ∃ w10 : World, w10 = w9.drewN d10 := ⟨_, rfl⟩
    rw [← hw10] at HH10 ⊢
    clear hw10
    have R0_10 := Lib.hid (R0_9.out.below HH10.out)
    have R1_10 := Lib.hid (R1_9.out.below HH10.out)
    have T2_10 := Lib.hid (T2_9.out.below HH10.out)
    have R4_10 := Lib.hid (R4_9.out.below HH10.out)
    have R5_10 := Lib.hid (R5_9.out.below HH10.out)
    have T6_10 := Lib.hid (T6_9.out.below HH10.out)
    have R7_10 := Lib.hid (R7_9.out.below HH10.out)
    have TB_10 := Lib.hid (TB_9.out.trans ((HH10.out).mono TB_9.out.size))
    have hz_10 := TB_10.out.size
    go_wp2_with fail
    refine (lsame_yes A7 A1 Y.length Y.length c7 c1 Y Y w10 R7_10.out R1_10.out rfl rfl (by omega) (by omega) rfl).mono ?_
    rintro e w11 ⟨rfl, d11, rfl⟩
    have HH11 := Lib.hid (below_drewN (Below.refl w10.heap.size w10) d11)
    obtain ⟨w11, hw11⟩ : ∃ w11 : World, w11 = w10.drewN d11 := ⟨_, rfl⟩
    rw [← hw11] at HH11 ⊢
    clear hw11
    have R0_11 := Lib.hid (R0_10.out.below HH11.out)
    have R1_11 := Lib.hid (R1_10.out.below HH11.out)
    have T2_11 := Lib.hid (T2_10.out.below HH11.out)
    have R4_11 := Lib.hid (R4_10.out.below HH11.out)
    have R5_11 := Lib.hid (R5_10.out.below HH11.out)
    have T6_11 := Lib.hid (T6_10.out.below HH11.out)
    have R7_11 := Lib.hid (R7_10.out.below HH11.out)
    have TB_11 := Lib.hid (TB_10.out.trans ((HH11.out).mono TB_10.out.size))
    have hz_11 := TB_11.out.size
    go_wp2_with fail
    go_ret
    exact ⟨rfl, TB_11.out⟩
end Go.Proofs.Ytmdpncjffikmiaa
