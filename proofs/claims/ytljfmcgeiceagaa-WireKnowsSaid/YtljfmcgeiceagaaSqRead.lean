/- Read, the program's. -/
import Derived.Test.YtljfmcgeiceagaaSqTs
import Derived.Test.YtljfmcgeiceagaaSqRdP
import Derived.Test.YtljfmcgeiceagaaF4
namespace Go.Proofs.Ytljfmcgeiceagaa
open Go Go.RowKit
set_option linter.unusedVariables false
set_option linter.unusedSimpArgs false

theorem rdLoop_end {n f z : Nat} {s : Rs} {ts : List Tk} (h : s.rest = 0) (h1 : s.err = 0) (hz : z = n) : rdLoop n (f + 1) s z ts = (ts, 0) := by rw [rdLoop, if_pos h, if_pos ⟨h1, hz⟩]
theorem rdLoop_bad {n f z : Nat} {s : Rs} {ts : List Tk} (h : s.rest = 0) (h1 : ¬ (s.err = 0 ∧ z = n)) : rdLoop n (f + 1) s z ts = ([], 20) := by rw [rdLoop, if_pos h, if_neg h1]
theorem rdLoop_long {n f z : Nat} {s : Rs} {ts : List Tk} (h : ¬ s.rest = 0) (h1 : 4096 < s.num.1 / 2) : rdLoop n (f + 1) s z ts = ([], 20) := by rw [rdLoop, if_neg h, if_pos h1]
theorem rdLoop_wrong {n f z : Nat} {s : Rs} {ts : List Tk} (h : ¬ s.rest = 0) (h1 : ¬ 4096 < s.num.1 / 2) {t : Tk} (ht : (rdTok s).1 = t) (h2 : rt t z = false) : rdLoop n (f + 1) s z ts = ([], 20) := by rw [rdLoop, if_neg h, if_neg h1, ht, if_neg (by simp [h2])]
theorem rdLoop_over {n f z : Nat} {s : Rs} {ts : List Tk} (h : ¬ s.rest = 0) (h1 : ¬ 4096 < s.num.1 / 2) {t : Tk} (ht : (rdTok s).1 = t) (h2 : rt t z = true) (h3 : n < z + t.lit.length + t.l.toNat) : rdLoop n (f + 1) s z ts = ([], 20) := by rw [rdLoop, if_neg h, if_neg h1, ht, if_pos h2, if_pos h3]
theorem rdLoop_next {n f z : Nat} {s s' : Rs} {ts : List Tk} (h : ¬ s.rest = 0) (h1 : ¬ 4096 < s.num.1 / 2) {t : Tk} (ht : rdTok s = (t, s')) (h2 : rt t z = true) (h3 : ¬ n < z + t.lit.length + t.l.toNat) {z' : Nat} (hz : z' = z + t.lit.length + t.l.toNat) : rdLoop n (f + 1) s z ts = rdLoop n f s' z' (ts ++ [t]) := by subst hz; rw [rdLoop, if_neg h, if_neg h1, ht, if_pos h2, if_neg h3]

theorem run_field0 (x y : Int) (W : World) : (Instr.field 72 (.agg #[.int .i64 x, .int .i64 y]) 0).run Try.prog W = .ok (.int .i64 x) W := by kernel_rfl
theorem toks_snoc (l : List TkV) (y : TkV) : toks (l ++ [y]) = toks l ++ [y.tk] := by simp [toks]
theorem Bt.thaw {W : World} {g : Nat} {x : TkV} (h : Bt W g x) : W.frozen? ⟨g, 0, none⟩ = false ∧ W.frozen? ⟨g, 1, none⟩ = false ∧ W.frozen? ⟨g, 2, none⟩ = false := by
  unfold Bt at h
  refine ⟨?_, ?_, ?_⟩ <;> simp [World.frozen?, h]
theorem Rs.failAt_rest (s : Rs) (e : Int) (q : Nat) : (s.failAt e q).rest ≤ s.rest := by
  unfold Rs.failAt
  split
  · exact Nat.le_refl _
  · unfold Rs.rest; simp
theorem Rs.take_rest (s : Rs) (n : Int) : (s.take n).2.rest ≤ s.rest ∧ (s.take n).1.length ≤ s.rest := by
  unfold Rs.take
  split
  · exact ⟨Nat.le_refl _, by simp⟩
  split
  · exact ⟨s.failAt_rest _ _, by simp⟩
  split
  · exact ⟨s.failAt_rest _ _, by simp⟩
  · refine ⟨by unfold Rs.rest Rs.go; simp only; omega, ?_⟩
    rw [List.length_take, List.length_drop]
    unfold Rs.rest
    omega
theorem Rs.num_rest {s : Rs} (h : s.Ok) : s.num.2.rest ≤ s.rest ∧ (s.rest ≠ 0 → s.num.2.rest < s.rest) := by
  by_cases h0 : s.err = 0
  · obtain ⟨v, k, x, hr, hv, h1 | h1⟩ := Rs.num_cases h h0
    · have hk : 0 < k := by
        obtain ⟨v', e1, e2, _⟩ := Uv.ru_taken (s.bs.drop s.p) 0 0 (by_drop h.by_ s.p) (by omega) (by omega) (by rw [hr]; exact h1.1)
        rw [hr] at e2
        simp only at e2
        have := Uv.uv_pos v'
        omega
      rw [h1.2.2]
      unfold Rs.rest Rs.go
      simp only
      omega
    · rw [h1.2.2]
      unfold Rs.rest
      simp only
      omega
  · rw [Rs.num_bad h0]
    have := h.bad h0
    unfold Rs.rest
    exact ⟨Nat.le_refl _, fun h => by omega⟩
theorem rdTok_rest {s : Rs} (h : s.Ok) (h0 : ¬ s.rest = 0) : (rdTok s).2.rest < s.rest ∧ (rdTok s).1.lit.length ≤ s.rest := by
  have h1 := (Rs.num_rest h).2 h0
  unfold rdTok
  split
  · have := Rs.take_rest s.num.2 (s.num.1 / 2 : Nat)
    simp only
    omega
  · have := (Rs.num_rest h.num.1).1
    split
    · simp only [List.length_nil]; omega
    · simp only [List.length_nil]; omega

set_option maxHeartbeats 2000000 in
set_option maxRecDepth 100000 in
theorem read_is (A : Option Addr) (n c : Nat) (bs : List Nat) (w : World) (hr : Rd w A (b8 bs)) (hn : bs.length = n) (hby : By bs) (hl : n ≤ 140737488351232) :
    Calls Try.prog 95 #[.slice A n c] w (AnsT w (rd bs)) := by
  have P1 := Lib.hid (newReader_is A n c bs w hr hn hby hl)
  have HOK := ok0 hby (by omega)
  have hnum := HOK.num
  obtain ⟨⟨m, s1⟩, hm⟩ : ∃ q, q = (rd0 bs).num := ⟨_, rfl⟩
  have HM := Lib.hid hm.symm
  obtain ⟨q, hq⟩ : ∃ q, q = rd bs := ⟨_, rfl⟩
  have HQ : Hid (q = if 4096 < m then ([], 20) else rdLoop m (n + 1) s1 0 []) := Lib.hid (by rw [hq]; unfold rd; rw [← hm, hn])
  rw [← hm] at hnum
  have hm64 := hnum.2.1
  simp only at hm64
  have HS1 : Hid (s1.rest < n + 1) := Lib.hid (by have := hnum.2.2; simp only at this; unfold Rs.rest; rw [this]; unfold rd0; simp only; omega)
  rw [← hq]
  clear hr hn hby hq hm hnum HOK
  go_enter Try.func95, Try.ntmps95
  go_wp2_with fail
  refine P1.out.mono ?_
  rintro e w1 ⟨g, rv, rfl, hrd1, hb1⟩
  have HR1 : Hid (RT w.heap.size w w1 g rv (rd0 bs) w1.heap.size (.slice none 0 0) 0 []) := Lib.hid ⟨hrd1, hrd1.lt, fun q hq => (hrd1.own.lt q hq).2, Ts.nil _ _, hb1, Nat.le_refl _, hb1.size⟩
  clear P1 hrd1 hb1
  go_wp2_with fail
  refine (uv_r w.heap.size g rv _ w1 HR1.out.rd).mono ?_
  rw [HM.out]
  rintro e w2 ⟨rfl, ht2⟩
  have HR2 := Lib.hid (HR1.out.turned ht2)
  clear ht2 HR1
  obtain ⟨B, hB⟩ : ∃ B, B = w1.heap.size := ⟨_, rfl⟩
  rw [← hB] at HR2
  clear hB
  simp only
  by_cases hlong : 4096 < m
  · have HQ2 : Hid (q = ([], 20)) := Lib.hid (by rw [HQ.out, if_pos hlong])
    go_wp2_with fail
    go_ret2
    exact ansT_none _ _ _ _ HQ2.out HR2.out.bel
  · have HQ2 : Hid (q = rdLoop m (n + 1) s1 0 []) := Lib.hid (by rw [HQ.out, if_neg hlong])
    clear HQ
    go_wp2_with fail
    go_loopw [6, 7] (fun v i wr => ∃ (N z f : Nat) (s : Rs) (l : List TkV), i = .int .i64 z ∧ z ≤ m ∧ N ≤ z ∧ Hid (q = rdLoop m f s z (toks l)) ∧ Hid (s.rest < f) ∧ Hid (RT w.heap.size w wr g rv s B v N l)) (fun _ i _ => m - (intOf i).toNat)
    case atStart => exact ⟨0, 0, n + 1, s1, [], rfl, Nat.zero_le _, Nat.zero_le _, HQ2, HS1, HR2⟩
    case round =>
      clear HQ2 HS1 HR2 HM
      obtain ⟨N, z, f, s, l, rfl, hz, hN, HQ3, HF, HR3⟩ := hrel
      obtain ⟨f, rfl⟩ : ∃ f', f = f' + 1 := ⟨f - 1, by have := HF.out; omega⟩
      obtain ⟨A9, c9, rfl, _⟩ := own_shape HR3.out.ts.row
      have HRS := Lib.hid (show s.rest ≤ 140737488351232 by have := HR3.out.rd.ok.sz; unfold Rs.rest; omega)
      go_wp2_with fail
      refine (rest_is w.heap.size g rv s wr HR3.out.rd).mono ?_
      rintro e w3 ⟨rfl, d3, rfl⟩
      have HR4 := Lib.hid (HR3.out.below (below_drewN (Below.refl _ _) d3))
      clear HR3
      by_cases h0 : s.rest = 0
      · by_cases he : s.err = 0
        · have hfin : s.fin.1 = 0 := by
            unfold Rs.fin
            unfold Rs.rest at h0
            rw [if_neg (by simp [he]), if_neg (by omega)]
          go_wp2_with fail
          refine (end_r w.heap.size g rv s _ HR4.out.rd).mono ?_
          rw [hfin]
          rintro e w4 ⟨rfl, hb4⟩
          have HR5 := Lib.hid (HR4.out.below hb4)
          have hfld := fun W => run_field0 0 ((s.fin.2 : Nat) : Int) W
          clear hb4
          by_cases hzm : z = m
          · have HE : Hid (q = (toks l, 0)) := Lib.hid (HQ3.out.trans (rdLoop_end h0 he hzm))
            have hne : ((z : Int) != (m : Int)) = false := by rw [bne_eq_false_iff_eq]; omega
            clear hzm
            go_wp2_with fail
            go_ret2
            exact ansT_some _ _ _ A9 c9 N l _ HE.out (HR5.out.ts.mono HR5.out.bB) HR5.out.bel
          · have HE : Hid (q = ([], 20)) := Lib.hid (HQ3.out.trans (rdLoop_bad h0 (fun h => hzm h.2)))
            have hne : ((z : Int) != (m : Int)) = true := by rw [bne_iff_ne]; omega
            clear hzm
            go_wp2_with fail
            go_ret2
            exact ansT_none _ _ _ _ HE.out HR5.out.bel
        · have hfin : s.fin.1 = s.err := by
            unfold Rs.fin
            rw [if_pos (by simpa using he)]
          have HE : Hid (q = ([], 20)) := Lib.hid (HQ3.out.trans (rdLoop_bad h0 (fun h => he h.1)))
          have hne : ((s.err : Int) != 0) = true := by rw [bne_iff_ne]; exact he
          go_wp2_with fail
          refine (end_r w.heap.size g rv s _ HR4.out.rd).mono ?_
          rw [hfin]
          rintro e w4 ⟨rfl, hb4⟩
          have HR5 := Lib.hid (HR4.out.below hb4)
          have hfld := fun W => run_field0 s.err ((s.fin.2 : Nat) : Int) W
          clear hb4
          go_wp2_with fail
          go_ret2
          exact ansT_none _ _ _ _ HE.out HR5.out.bel
      · have hu64 := HR4.out.rd.ok.num.2.1
        have HBS := Lib.hid HR4.out.rd.ok.num.2.2
        have HTB := Lib.hid (rdTok_by HR4.out.rd.ok)
        have HTR := Lib.hid (rdTok_rest HR4.out.rd.ok h0)
        obtain ⟨⟨u, s5⟩, hu⟩ : ∃ p, p = s.num := ⟨_, rfl⟩
        have HU1 := Lib.hid hu.symm
        rw [← hu] at hu64 HBS
        simp only at hu64 HBS
        go_wp2_with fail
        refine (uv_r w.heap.size g rv s _ HR4.out.rd).mono ?_
        rw [← hu]
        simp only
        rintro e w5 ⟨rfl, ht5⟩
        have HR5 := Lib.hid (HR4.out.turned ht5)
        clear hu ht5
        by_cases hlong1 : 4096 < u / 2
        · have HE : Hid (q = ([], 20)) := Lib.hid (HQ3.out.trans (rdLoop_long h0 (by rw [HU1.out]; exact hlong1)))
          have hl3 : (4096 : Int) < (u : Int) / 2 := by omega
          go_wp2_with fail
          go_ret2
          exact ansT_none _ _ _ _ HE.out HR5.out.bel
        · have hlong2 : ¬ 4096 < s.num.1 / 2 := by rw [HU1.out]; exact hlong1
          have HX := Lib.hid HR5.out.box
          have hl3 : ¬ (4096 : Int) < (u : Int) / 2 := by omega
          by_cases hm2 : u % 2 = 0
          · have hm3 : (u : Int) % 2 = 0 := by omega
            have PW := Lib.hid (fun W h => raw_r w.heap.size g rv s5 ((u / 2 : Nat) : Int) W h)
            unfold Rawed at PW
            rw [show ((u / 2 : Nat) : Int) = (u : Int) / 2 by omega] at PW
            obtain ⟨⟨lit, s6⟩, hs6⟩ : ∃ p, p = s5.take ((u : Int) / 2) := ⟨_, rfl⟩
            have HT6 : Hid (rdTok s = (⟨lit, 0, 0⟩, s6)) := Lib.hid (by unfold rdTok; rw [HU1.out]; simp only; rw [if_pos hm2, show ((u / 2 : Nat) : Int) = (u : Int) / 2 by omega, ← hs6])
            rw [← hs6] at PW
            simp only at PW
            clear hs6
            have HU : Hid (rdTok s = (⟨lit, 0, 0⟩, s6)) := HT6
            have HBY : Hid (By lit) := Lib.hid (by have h := HTB.out; rw [HT6.out] at h; exact h)
            have HLS : Hid (lit.length ≤ 140737488351232) := Lib.hid (by have h := HTR.out.2; rw [HT6.out] at h; have := HRS.out; simp only at h; omega)
            have HSR : Hid (s6.rest < f) := Lib.hid (by have h := HTR.out.1; rw [HT6.out] at h; have := HF.out; simp only at h; omega)
            go_wp2_with fail
            refine (PW.out _ HX.out.rt.rd).mono ?_
            rintro e w6 ⟨A6, c6, rfl, ho6, ht6⟩
            have HX6 := Lib.hid (HX.out.turned ht6)
            obtain ⟨c0, c1, c2⟩ := HX6.out.bt.facts
            obtain ⟨f0, f1, f2⟩ := HX6.out.bt.thaw
            have HX7 := Lib.hid (HX6.out.lit (own_mono ho6 (by simp)))
            have hls := HLS.out
            clear ho6 ht6 HX
            simp only [tkZero] at c0 c1 c2
            have HPL : Hid (PlTk ⟨A6, c6, lit, 0, 0⟩) := Lib.hid ⟨HBY.out, by have := HLS.out; simp only; omega, by simp only; omega, by simp only; omega⟩
            obtain ⟨b, hb⟩ : ∃ b, b = rt ⟨lit, 0, 0⟩ z := ⟨_, rfl⟩
            have HBV := Lib.hid hb.symm
            have PR := Lib.hid (fun W => right_is ⟨A6, c6, lit, 0, 0⟩ z W (by omega) (by simp only; omega) (by simp only; omega) (by have := HLS.out; simp only; omega))
            simp only [TkV.val, TkV.tk] at PR
            rw [← hb] at PR
            clear hb
            go_wp2_with fail
            refine (PR.out _).mono ?_
            rintro e w8 ⟨rfl, hb8⟩
            have HX8 := Lib.hid (HX7.out.below hb8)
            clear hb8 c0 c1 c2 f0 f1 f2
            obtain ⟨c0, c1, c2⟩ := HX8.out.bt.facts
            simp only at c0 c1 c2
            rcases b with _ | _
            · have HE : Hid (q = ([], 20)) := Lib.hid (HQ3.out.trans (rdLoop_wrong h0 hlong2 (by rw [HT6.out]) HBV.out))
              go_wp2_with fail
              go_ret2
              exact ansT_none _ _ _ _ HE.out HX8.out.rt.bel
            · have HRC := Lib.hid (rt_cases HBV.out)
              have hl258 : 0 ≤ 0 ∧ 0 ≤ 258 ∧ 1 ≤ (lit.length : Int) + (0 : Int) := by
                rcases HRC.out with h | h
                · have e1 : (0 : Int) = 0 := h.2.2
                  have e2 : 0 < lit.length := h.1
                  try simp only [List.length_nil] at e2
                  omega
                · have e1 : (5 : Int) ≤ 0 := h.2.1
                  have e2 : (0 : Int) ≤ 258 := h.2.2.1
                  omega
              have HLN : Hid ((0 : Int) = (((0 : Int).toNat : Nat) : Int)) := Lib.hid (by omega)
              by_cases hov : (m : Int) < (z : Int) + ((lit.length : Int) + (0 : Int))
              · have HE : Hid (q = ([], 20)) := Lib.hid (HQ3.out.trans (rdLoop_over h0 hlong2 (by rw [HT6.out]) HBV.out (by simp only [List.length_nil]; omega)))
                go_wp2_with fail
                go_ret2
                exact ansT_none _ _ _ _ HE.out HX8.out.rt.bel
              · have HE := Lib.hid (HQ3.out.trans (rdLoop_next h0 hlong2 (HT6.out) HBV.out (by simp only [List.length_nil]; omega) (z' := z + lit.length) (by simp only [List.length_nil]; omega)))
                have HBW := Lib.hid HX8.out.rt.BW
                go_wp2_with (at_builtin; go_loud ((refine pushT w8 rfl (.tmp 61) (.tmp 63) (by rfl) B (.slice A9 N c9) N l (by rfl) HX8.out.rt.ts.row ⟨A6, c6, lit, 0, 0⟩ w8.heap.size (by rfl) (by rfl) (by omega) HBW.out ?_); intro v9 w9 ho9 hg9 hn9; have HR9 := Lib.hid (HX8.out.push HPL.out ho9 hg9 hn9); clear ho9 hg9 hn9))
                go_roundw
                case rel => exact ⟨N + 1, z + lit.length, f, _, _, by go_num, by omega, by omega, Lib.hid (by rw [toks_snoc]; exact HE.out), HSR, HR9⟩
                case measure => simp [intOf]; omega
          · have hm3 : ¬ (u : Int) % 2 = 0 := by omega
            have hd64 := HR5.out.rd.ok.num.2.1
            have PW := Lib.hid (fun W h => uv_r w.heap.size g rv s5 W h)
            unfold Gave at PW
            obtain ⟨⟨d, s6⟩, hs6⟩ : ∃ p, p = s5.num := ⟨_, rfl⟩
            rw [← hs6] at PW hd64
            simp only at PW hd64
            have HD6 := Lib.hid hs6.symm
            clear hs6
            by_cases hd2 : d ≤ 2048
            · have HT6 : Hid (rdTok s = (⟨[], (d : Int), (u : Int) / 2⟩, s6)) := Lib.hid (by unfold rdTok; rw [HU1.out]; simp only; rw [if_neg hm2, HD6.out]; simp only; rw [if_pos hd2, show ((u / 2 : Nat) : Int) = (u : Int) / 2 by omega])
              have HBY : Hid (By ([] : List Nat)) := Lib.hid (fun b hb => by cases hb)
              have HLS : Hid (([] : List Nat).length ≤ 140737488351232) := Lib.hid (by simp)
              have HSR : Hid (s6.rest < f) := Lib.hid (by have h := HTR.out.1; rw [HT6.out] at h; have := HF.out; simp only at h; omega)
              go_wp2_with fail
              refine (PW.out _ HX.out.rt.rd).mono ?_
              rintro e w6 ⟨rfl, ht6⟩
              have HX6 := Lib.hid (HX.out.turned ht6)
              obtain ⟨c0, c1, c2⟩ := HX6.out.bt.facts
              obtain ⟨f0, f1, f2⟩ := HX6.out.bt.thaw
              have HX7 := Lib.hid (HX6.out.dl (d : Int) ((u : Int) / 2))
              clear ht6 HX
              simp only [tkZero] at c0 c1 c2
              have HPL : Hid (PlTk ⟨none, 0, [], (d : Int), ((u : Int) / 2)⟩) := Lib.hid ⟨HBY.out, by have := HLS.out; simp only; omega, by simp only; omega, by simp only; omega⟩
              obtain ⟨b, hb⟩ : ∃ b, b = rt ⟨[], (d : Int), ((u : Int) / 2)⟩ z := ⟨_, rfl⟩
              have HBV := Lib.hid hb.symm
              have PR := Lib.hid (fun W => right_is ⟨none, 0, [], (d : Int), ((u : Int) / 2)⟩ z W (by omega) (by simp only; omega) (by simp only; omega) (by have := HLS.out; simp only; omega))
              simp only [TkV.val, TkV.tk] at PR
              rw [← hb] at PR
              clear hb
              go_wp2_with fail
              refine (PR.out _).mono ?_
              rintro e w8 ⟨rfl, hb8⟩
              have HX8 := Lib.hid (HX7.out.below hb8)
              clear hb8 c0 c1 c2 f0 f1 f2
              obtain ⟨c0, c1, c2⟩ := HX8.out.bt.facts
              simp only at c0 c1 c2
              rcases b with _ | _
              · have HE : Hid (q = ([], 20)) := Lib.hid (HQ3.out.trans (rdLoop_wrong h0 hlong2 (by rw [HT6.out]) HBV.out))
                go_wp2_with fail
                go_ret2
                exact ansT_none _ _ _ _ HE.out HX8.out.rt.bel
              · have HRC := Lib.hid (rt_cases HBV.out)
                have hl258 : 0 ≤ ((u : Int) / 2) ∧ ((u : Int) / 2) ≤ 258 ∧ 1 ≤ 0 + (((u : Int) / 2) : Int) := by
                  rcases HRC.out with h | h
                  · have e1 : (((u : Int) / 2) : Int) = 0 := h.2.2
                    have e2 : 0 < [].length := h.1
                    try simp only [List.length_nil] at e2
                    omega
                  · have e1 : (5 : Int) ≤ ((u : Int) / 2) := h.2.1
                    have e2 : (((u : Int) / 2) : Int) ≤ 258 := h.2.2.1
                    omega
                have HLN : Hid ((((u : Int) / 2) : Int) = (((((u : Int) / 2) : Int).toNat : Nat) : Int)) := Lib.hid (by omega)
                by_cases hov : (m : Int) < (z : Int) + (0 + (((u : Int) / 2) : Int))
                · have HE : Hid (q = ([], 20)) := Lib.hid (HQ3.out.trans (rdLoop_over h0 hlong2 (by rw [HT6.out]) HBV.out (by simp only [List.length_nil]; omega)))
                  go_wp2_with fail
                  go_ret2
                  exact ansT_none _ _ _ _ HE.out HX8.out.rt.bel
                · have HE := Lib.hid (HQ3.out.trans (rdLoop_next h0 hlong2 (HT6.out) HBV.out (by simp only [List.length_nil]; omega) (z' := z + u / 2) (by simp only [List.length_nil]; omega)))
                  have HBW := Lib.hid HX8.out.rt.BW
                  go_wp2_with (at_builtin; go_loud ((refine pushT w8 rfl (.tmp 61) (.tmp 63) (by rfl) B (.slice A9 N c9) N l (by rfl) HX8.out.rt.ts.row ⟨none, 0, [], (d : Int), ((u : Int) / 2)⟩ w8.heap.size (by rfl) (by rfl) (by omega) HBW.out ?_); intro v9 w9 ho9 hg9 hn9; have HR9 := Lib.hid (HX8.out.push HPL.out ho9 hg9 hn9); clear ho9 hg9 hn9))
                  go_roundw
                  case rel => exact ⟨N + 1, z + u / 2, f, _, _, by go_num, by omega, by omega, Lib.hid (by rw [toks_snoc]; exact HE.out), HSR, HR9⟩
                  case measure => simp [intOf]; omega
            · have HT6 : Hid (rdTok s = (⟨[], 0, 0⟩, s6)) := Lib.hid (by unfold rdTok; rw [HU1.out]; simp only; rw [if_neg hm2, HD6.out]; simp only; rw [if_neg hd2])
              have hd3 : ¬ (d : Int) ≤ 2048 := by omega
              go_wp2_with fail
              refine (PW.out _ HX.out.rt.rd).mono ?_
              rintro e w6 ⟨rfl, ht6⟩
              have HX6 := Lib.hid (HX.out.turned ht6)
              obtain ⟨c0, c1, c2⟩ := HX6.out.bt.facts
              clear ht6 HX
              simp only [tkZero] at c0 c1 c2
              have PR := Lib.hid (fun W => right_is tkZero z W (by omega) (by simp only [tkZero]; omega) (by simp only [tkZero]; omega) (by simp [tkZero]))
              simp only [tkZero, TkV.val, TkV.tk] at PR
              rw [rt_none] at PR
              have HE : Hid (q = ([], 20)) := Lib.hid (HQ3.out.trans (rdLoop_wrong h0 hlong2 (by rw [HT6.out]) (rt_none z)))
              go_wp2_with fail
              refine (PR.out _).mono ?_
              rintro e w8 ⟨rfl, hb8⟩
              have HX8 := Lib.hid (HX6.out.below hb8)
              go_wp2_with fail
              go_ret2
              exact ansT_none _ _ _ _ HE.out HX8.out.rt.bel
end Go.Proofs.Ytljfmcgeiceagaa
