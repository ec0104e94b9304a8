/- The walk of RecordRound. -/
import Derived.Test.YtjipebedibjoiaaRecWorks
import Derived.Test.YtjipebedibjoiaaRecFull
import Derived.Deep.CutRange
namespace Go.Proofs.Ytjipebedibjoiaa
open Go Go.RowKit
set_option linter.unusedVariables false
set_option linter.unusedSimpArgs false

theorem renc_len' (x : Rc) : (renc x).1.length ≤ 1124 := by
  unfold renc
  split
  · rename_i h
    have := bdy_len (chk_may h)
    simp only
    rw [wrap_length]
    omega
  · simp
set_option maxHeartbeats 4000000 in
set_option maxRecDepth 100000 in
theorem recordRound_walk (x0 : Rc) (A1 : Option Addr) (c1 : Nat) (b1 : List Nat) (A2 : Option Addr) (c2 : Nat) (b2 : List Nat) (w : World) (c1l : b1.length ≤ c1) (r1 : Rd w A1 (b8 b1)) (y1 : By b1) (l1 : b1.length ≤ 140737488351232) (c2l : b2.length ≤ c2) (r2 : Rd w A2 (b8 b2)) (y2 : By b2) (l2 : b2.length ≤ 140737488351232) :
    Calls Try.prog 10 #[x0.v, .slice A1 b1.length c1, .slice A2 b2.length c2] w fun e w' => e = .returned (.bool true) ∧ Below w.heap.size w w' := by
  obtain ⟨m1, hm1⟩ : ∃ m, m = b1.length := ⟨_, rfl⟩
  obtain ⟨m2, hm2⟩ : ∃ m, m = b2.length := ⟨_, rfl⟩
  rw [← hm1] at c1l ⊢
  rw [← hm2] at c2l ⊢
  have HR1 := Lib.hid r1
  have HR2 := Lib.hid r2
  have HM1 := Lib.hid hm1.symm
  have HM2 := Lib.hid hm2.symm
  have HY1 := Lib.hid y1
  have HY2 := Lib.hid y2
  have PE := Lib.hid (fun W => recencode_is x0 W)
  have PC := Lib.hid (fun W => check_is x0 W)
  have PS := Lib.hid (fun W => recsize_is x0 W)
  have PB := Lib.hid (fun W (hb : Below w.heap.size w W) => recdecode_is A2 m2 c2 b2 W (r2.below hb) hm2.symm c2l y2 (by omega))
  unfold DecPost at PB
  have HREN := Lib.hid (fun (x : Rc) (n : Nat) (h : rdec b2 = (x, n, 0)) => renc_of_rdec h)
  have HBAD := Lib.hid (fun (h : (rdec b2).2.2 ≠ 0) => rdec_bad h)
  have hl1' : m1 ≤ 140737488351232 := by omega
  have hl2' : m2 ≤ 140737488351232 := by omega
  have HCH := Lib.hid (fun h => @chk_may x0 h)
  have HOK := Lib.hid (fun h => @renc_ok x0 h)
  have hrl := renc_len' x0
  obtain ⟨⟨V, z⟩, hq⟩ : ∃ q, q = renc x0 := ⟨_, rfl⟩
  have hzc : z = ((chk x0 : Nat) : Int) := by
    by_cases h : chk x0 = 0
    · rw [renc_ok h] at hq; injection hq with _ hz; rw [hz, h]; rfl
    · rw [renc_bad h] at hq; injection hq
  unfold rsize at PS
  rw [← hq] at PE PS HOK hrl
  rw [← hzc] at PC
  simp only at PS hrl
  have PD := Lib.hid (fun (h : z = 0) A c t (W : World) (hr : Rd W A (b8 (V ++ t))) (hlen : (V ++ t).length ≤ c) (ht : By t) (htl : t.length ≤ 140737488351232) => by
    have hc : chk x0 = 0 := by omega
    have hm := HCH.out hc
    have hV : V = wrap 169 (bdy x0) := by have := HOK.out hc; injection this
    have := recdecode_is A (V ++ t).length c (V ++ t) W hr rfl hlen (by rw [hV]; exact By.append (wrap_by (by omega) (bdy_by hm)) ht) (by rw [List.length_append]; omega)
    rw [hV, rdec_wrap hm t] at this
    rw [← hV] at this
    have hl : V.length = (bdy x0).length + 9 := by rw [hV, wrap_length]
    rw [← hl] at this
    exact this)
  have PT := Lib.hid (fun (h : z = 0) A c i (W : World) (hr : Rd W A (b8 V)) (hi : i < V.length) (hic : i ≤ c) => by
    have hc : chk x0 = 0 := by omega
    have hm := HCH.out hc
    have hV : V = wrap 169 (bdy x0) := by have := HOK.out hc; injection this
    have hl : V.length = (bdy x0).length + 9 := by rw [hV, wrap_length]
    have hr' := hr.take_ i
    rw [← b8_take] at hr'
    have := recdecode_is A i c (V.take i) W hr' (by rw [List.length_take]; omega) hic (by rw [hV]; exact (wrap_by (by omega) (bdy_by hm)).take i) (by omega)
    rw [hV, rdec_torn hm i (by omega)] at this
    exact this)
  unfold DecPost at PD PT
  clear r1 r2 y1 y2 hm1 hm2 l1 l2 hq hzc
  obtain ⟨N, hN⟩ : ∃ N, V.length = N := ⟨_, rfl⟩
  have HN := Lib.hid hN
  rw [hN] at PS hrl
  obtain ⟨k, o, t, p, s, key, vl⟩ := x0
  unfold Rc.v rc0 at PT
  unfold Rc.v at PE PC PS PD ⊢
  simp only at PE PC PS PD PT ⊢
  have T0 := Lib.hid ((Below.refl w.heap.size w).alloc (Nat.le_refl _) (rcObj ⟨k, o, t, p, s, key, vl⟩))
  have BX0 := Lib.hid (RBox.new w ⟨k, o, t, p, s, key, vl⟩)
  obtain ⟨x0, x1, x2, x3, x4, x5, x6⟩ := BX0.out.facts
  simp only at x0 x1 x2 x3 x4 x5 x6
  have PT' : Hid (∀ (h : z = 0) (A : Option Addr) (c i : Nat) (W : World), Rd W A (b8 V) → i < V.length → i ≤ c → Calls Try.prog 30 #[.slice A i c] W fun e w' => e = .returned (.tuple #[.agg #[.int .i64 0, .int .i64 0, .int .i64 0, .int .i64 0, .int .i64 0, .string ⟨#[]⟩, .string ⟨#[]⟩], .int .i64 0, .int .i64 40]) ∧ Below W.heap.size W w') := Lib.hid (fun h A c i W a b d => PT.out h A c i W a b d)
  clear hN PT
  go_enter Try.func10, Try.ntmps10
  go_wp2_with fail
  refine (PE.out _).mono ?_
  rintro e w1 ⟨A3, c3, rfl, ho3, hb3⟩
  simp only [HN.out] at ho3 ⊢
  obtain ⟨hnc3, hcm3⟩ := own_cap ho3
  have RV := Lib.hid (rd_own ho3)
  have BX1 := Lib.hid (BX0.out.below hb3 (by simp))
  have T1 := Lib.hid (T0.out.trans (hb3.mono (by simp)))
  clear ho3 hb3 x0 x1 x2 x3 x4 x5 x6 BX0
  go_wp2_with fail
  refine (works_is _).mono ?_
  rintro e w2 ⟨rfl, hb2⟩
  have BX2 := Lib.hid (BX1.out.below hb2 BX1.out.lt)
  have T2 := Lib.hid (T1.out.trans (hb2.mono T1.out.size))
  have RV2 := Lib.hid (RV.out.below hb2)
  clear hb2 RV BX1
  obtain ⟨x0, x1, x2, x3, x4, x5, x6⟩ := BX2.out.facts
  simp only at x0 x1 x2 x3 x4 x5 x6
  go_wp2_with fail
  refine (PC.out _).mono ?_
  rintro e w3 ⟨rfl, hb3⟩
  have BX3 := Lib.hid (BX2.out.below hb3 BX2.out.lt)
  have T3 := Lib.hid (T2.out.trans (hb3.mono T2.out.size))
  have RV3 := Lib.hid (RV2.out.below hb3)
  clear hb3 RV2 BX2 x0 x1 x2 x3 x4 x5 x6
  have hzz : ((z == 0) != (z == 0)) = false := by simp
  go_upto_if 37 with (fail)
  go_cut [] from 9 (fun wx => Below w.heap.size w wx)
  case first =>
    by_cases hz0 : z = 0
    · have hz1 : (z == 0) = true := by rw [beq_iff_eq]; exact hz0
      have PD1 := Lib.hid (fun A c W hr hc => PD.out hz0 A c b1 W hr hc HY1.out (by rw [HM1.out]; exact hl1'))
      have PT1 := Lib.hid (PT'.out hz0)
      have hlen : (V ++ b1).length = N + m1 := by rw [List.length_append, HN.out, HM1.out]
      rw [hlen] at PD1
      simp only [HN.out] at PD1 PT1
      have h0 := Lib.hid (own_lit w3 w3.heap.size [] 5 0 (Nat.le_refl _) (by decide) rfl)
      have hr3 := Lib.hid (RV3.out.below ((Below.refl w3.heap.size w3).alloc (Nat.le_refl _) (.cells [].toArray 5)))
      clear hz0 PD PT' hlen PE PC HCH HOK HREN HBAD PB
      go_wp2_with (first
        | (at_builtin; (refine app8 _ rfl (.tmp 39) (.tmp 40) rfl w3.heap.size _ 0 [] rfl h0.out A3 N c3 V rfl HN.out hr3.out (by omega) (by simp) ?_); intro v1 w4 hown1 hg1 hn1; have HO4 := Lib.hid hown1; have HB4 := Lib.hid (((Below.refl w3.heap.size w3).alloc (Nat.le_refl _) (.cells [].toArray 5)).trans (below_of_grown hg1 (by simp) (fun k hk => (h0.out.lt k hk).1))); clear hown1 hg1 hn1)
        | (at_builtin; (refine app8 _ rfl (.tmp 41) (.tmp 42) rfl w3.heap.size v1 _ V rfl HO4.out A1 m1 c1 b1 rfl HM1.out (HR1.out.below (T3.out.trans (HB4.out.mono T3.out.size))) (by omega) HB4.out.size ?_); intro v2 w5 hown2 hg2 hn2; have HO5 := Lib.hid hown2; have HB5 := Lib.hid (HB4.out.trans (below_of_grown hg2 HB4.out.size (fun k hk => (HO4.out.lt k hk).1))); obtain ⟨A5, c5, hv5, hnc5, hcm5, hA5⟩ := own_shape hown2; subst hv5; clear hown2 hg2 hn2 hA5))
      refine (PD1.out A5 c5 w5 (rd_own HO5.out) (by omega)).mono ?_
      rintro e w6 ⟨rfl, hb6⟩
      have B6 := Lib.hid (HB5.out.trans (hb6.mono HB5.out.size))
      have BX6 := Lib.hid (BX3.out.below B6.out BX3.out.lt)
      have T6 := Lib.hid (T3.out.trans (B6.out.mono T3.out.size))
      have hlt6 : w.heap.size < w6.heap.size := Nat.lt_of_lt_of_le BX3.out.lt B6.out.size
      have RV6 := Lib.hid (RV3.out.below B6.out)
      clear hb6 HO4 HO5 HB4 HB5 h0 hr3
      obtain ⟨x0, x1, x2, x3, x4, x5, x6⟩ := BX6.out.facts
      simp only at x0 x1 x2 x3 x4 x5 x6
      go_wp2_with fail
      refine (PS.out _).mono ?_
      rintro e w7 ⟨rfl, hb7⟩
      have T7 := Lib.hid ((T6.out.alloc T6.out.size (rcObj ⟨k, o, t, p, s, key, vl⟩)).trans (hb7.mono (by have := T6.out.size; simp; omega)))
      have RV7 := Lib.hid ((RV6.out.below ((Below.refl _ _).alloc (Nat.le_refl _) (rcObj ⟨k, o, t, p, s, key, vl⟩))).below hb7)
      clear hb7 x0 x1 x2 x3 x4 x5 x6 RV6 RV3 BX6 BX3 T6
      go_wp2_with fail
      go_loopw [12] (fun i wr => ∃ j : Nat, j ≤ N ∧ i = .int .i64 j ∧ Below w.heap.size w wr ∧ Rd wr A3 (b8 V)) (fun i _ => N - (intOf i).toNat)
      case atStart => exact ⟨0, Nat.zero_le _, rfl, T7.out, RV7.out⟩
      case round =>
        obtain ⟨j, hj, rfl, hbe, hrv⟩ := hrel
        by_cases hlt : j < N
        · obtain ⟨g3, off3, rfl, hg3, _⟩ := hrv.some_ (by rw [HN.out]; omega)
          have HBE := Lib.hid hbe
          have HRV := Lib.hid hrv
          have i0 : (0 : Int) ≤ (j : Int) := by omega
          have i1 : (j : Int) ≤ (c3 : Int) := by omega
          clear hbe hrv RV7 T7
          go_wp2_with fail
          refine (PT1.out (some ⟨g3, off3, none⟩) c3 j wr HRV.out hlt (by omega)).mono ?_
          rintro e w8 ⟨rfl, hb8⟩
          have HBE8 := Lib.hid (HBE.out.trans (hb8.mono HBE.out.size))
          have HRV8 := Lib.hid (HRV.out.below hb8)
          clear hb8
          go_wp2_with fail
          go_roundw
          case rel => exact ⟨j + 1, by omega, by go_num, HBE8.out.alloc HBE8.out.size _, HRV8.out.below ((Below.refl _ _).alloc (Nat.le_refl _) _)⟩
          case measure => simp [intOf]; omega
        · have HBE := Lib.hid hbe
          clear hbe hrv RV7 T7
          go_wp2_with fail
          go_meet
          case rel => exact HBE.out
    · have hz1 : (z == 0) = false := by rw [beq_eq_false_iff_ne]; exact hz0
      go_wp2_with fail
      go_meet
      case rel => exact T3.out
  case' rest => have TC := Lib.hid hcut; clear hcut RV3 BX3 T3 PD PT' PE PC PS HCH HOK hzz HR1 HY1
  by_cases hok : (rdec b2).2.2 = 0
  · obtain ⟨⟨⟨xk, xo, xt, xp, xs, xkey, xval⟩, n3, e3⟩, hq3⟩ : ∃ q, q = rdec b2 := ⟨_, rfl⟩
    rw [← hq3] at hok PB
    simp only at hok
    subst hok
    obtain ⟨he3, hm3, hn3⟩ := HREN.out _ _ hq3.symm
    have PE3 := Lib.hid (fun W => recencode_is ⟨xk, xo, xt, xp, xs, xkey, xval⟩ W)
    rw [he3] at PE3
    have hlt3 : (b2.take n3).length = n3 := by rw [List.length_take]; omega
    rw [HM2.out] at hn3
    obtain ⟨Y, hY⟩ : ∃ Y, Y = b2.take n3 := ⟨_, rfl⟩
    have HRY := Lib.hid (fun W (h : Below w.heap.size w W) => by
      have := (HR2.out.below h).take_ n3
      rw [← b8_take, ← hY] at this
      exact this)
    rw [← hY] at PE3 hlt3
    unfold Rc.v at PB PE3
    simp only at PB PE3
    clear hq3 he3 hm3 hY
    go_wp2_with fail
    refine (PB.out _ TC.out).mono ?_
    rintro e w9 ⟨rfl, hb9⟩
    have T9 := Lib.hid (TC.out.trans (hb9.mono TC.out.size))
    have BX9 := Lib.hid (RBox.new w9 ⟨xk, xo, xt, xp, xs, xkey, xval⟩)
    obtain ⟨x0, x1, x2, x3, x4, x5, x6⟩ := BX9.out.facts
    simp only at x0 x1 x2 x3 x4 x5 x6
    clear hb9 BX9
    go_wp2_with fail
    refine (PE3.out _).mono ?_
    rintro e w10 ⟨A10, c10, rfl, ho10, hb10⟩
    simp only [hlt3] at ho10 ⊢
    have HO10 := Lib.hid ho10
    have T10 := Lib.hid ((T9.out.alloc T9.out.size (rcObj ⟨xk, xo, xt, xp, xs, xkey, xval⟩)).trans (hb10.mono (by have := T9.out.size; simp; omega)))
    have i0 : (0 : Int) ≤ (n3 : Int) := by omega
    have i1 : (n3 : Int) ≤ (m2 : Int) := by omega
    have i2 : (n3 : Int) ≤ (c2 : Int) := by omega
    clear ho10 hb10 x0 x1 x2 x3 x4 x5 x6
    go_wp2_with fail
    refine (same_yes A10 A2 n3 n3 c10 c2 Y Y w10 (rd_own HO10.out) (HRY.out _ T10.out) hlt3 hlt3 (by omega) (by omega) rfl).mono ?_
    rintro e w11 ⟨rfl, d11, rfl⟩
    go_wp2_with fail
    go_ret
    exact ⟨rfl, below_drewN T10.out d11⟩
  · obtain ⟨hb1, hb2⟩ := HBAD.out hok
    have hok' : (((rdec b2).2.2 : Int) != 0) = true := by rw [bne_iff_ne]; omega
    rw [hb1, hb2] at PB
    obtain ⟨e3, he3⟩ : ∃ e3, e3 = (rdec b2).2.2 := ⟨_, rfl⟩
    rw [← he3] at PB hok'
    unfold Rc.v rc0 at PB
    simp only at PB
    clear hok hb1 hb2 he3
    have PB' : Hid (∀ W : World, Below w.heap.size w W → Calls Try.prog 30 #[.slice A2 m2 c2] W fun e w' => e = .returned (.tuple #[.agg #[.int .i64 0, .int .i64 0, .int .i64 0, .int .i64 0, .int .i64 0, .string ⟨#[]⟩, .string ⟨#[]⟩], .int .i64 0, .int .i64 (e3 : Int)]) ∧ Below W.heap.size W w') := Lib.hid (fun W h => PB.out W h)
    go_wp2_with fail
    refine (PB'.out _ TC.out).mono ?_
    rintro e w9 ⟨rfl, hb9⟩
    have T9 := Lib.hid (TC.out.trans (hb9.mono TC.out.size))
    clear hb9
    go_wp2_with fail
    go_ret
    exact ⟨rfl, T9.out.alloc T9.out.size _⟩
end Go.Proofs.Ytjipebedibjoiaa
