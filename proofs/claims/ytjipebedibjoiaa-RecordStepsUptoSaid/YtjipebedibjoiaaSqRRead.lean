/- Read, the document's. -/
import Derived.Test.YtjipebedibjoiaaSqRNum
import Derived.Test.YtjipebedibjoiaaSqTs
import Derived.Test.YtjipebedibjoiaaS1
import Derived.Test.YtjipebedibjoiaaF1
import Derived.Test.YtjipebedibjoiaaS2
namespace Go.Proofs.Ytjipebedibjoiaa
open Go Go.RowKit
set_option linter.unusedVariables false
set_option linter.unusedSimpArgs false

theorem nA_none {b : List Nat} {q v x : Nat} (h : nAt b q = (v, x, false)) : nA b q = none := by
  unfold nAt at h
  cases e : nA b q with
  | none => rfl
  | some p => rw [e] at h; simp at h
theorem nA_some {b : List Nat} {q v x : Nat} (h : nAt b q = (v, x, true)) : nA b q = some (v, x) := by
  unfold nAt at h
  cases e : nA b q with
  | none => rw [e] at h; simp at h
  | some p => rw [e] at h; simp only [Prod.mk.injEq, and_true] at h; rw [← h.1, ← h.2]
section
variable {b : List Nat} {f q v x d e : Nat} {ts : List Tk}
theorem rr_end (h : b.length ≤ q) : rrLoop b (f + 1) q ts = some ts := by rw [rrLoop, if_neg (by omega)]
theorem rr_bad (h : q < b.length) (h1 : nAt b q = (v, x, false)) : rrLoop b (f + 1) q ts = none := by rw [rrLoop, if_pos h, nA_none h1]
theorem rr_short (h : q < b.length) (h1 : nAt b q = (v, x, true)) (h2 : v % 2 = 0) (h3 : b.length - x < v / 2) : rrLoop b (f + 1) q ts = none := by
  rw [rrLoop, if_pos h, nA_some h1]
  simp only
  rw [if_pos h2, if_pos h3]
theorem rr_lit (h : q < b.length) (h1 : nAt b q = (v, x, true)) (h2 : v % 2 = 0) (h3 : ¬ b.length - x < v / 2) {t : Tk} (ht : t = ⟨(b.drop x).take (v / 2), 0, 0⟩) : rrLoop b (f + 1) q ts = rrLoop b f (x + v / 2) (ts ++ [t]) := by
  subst ht
  rw [rrLoop, if_pos h, nA_some h1]
  simp only
  rw [if_pos h2, if_neg h3]
theorem rr_bad2 (h : q < b.length) (h1 : nAt b q = (v, x, true)) (h2 : ¬ v % 2 = 0) (h3 : nAt b x = (d, e, false)) : rrLoop b (f + 1) q ts = none := by
  rw [rrLoop, if_pos h, nA_some h1]
  simp only
  rw [if_neg h2, nA_none h3]
theorem rr_match (h : q < b.length) (h1 : nAt b q = (v, x, true)) (h2 : ¬ v % 2 = 0) (h3 : nAt b x = (d, e, true)) {t : Tk} (ht : t = ⟨[], (d : Nat), (v / 2 : Nat)⟩) : rrLoop b (f + 1) q ts = rrLoop b f e (ts ++ [t]) := by
  subst ht
  rw [rrLoop, if_pos h, nA_some h1]
  simp only
  rw [if_neg h2, nA_some h3]
theorem rrd_bad (h : nAt b 0 = (v, x, false)) : rrd1 b = none := by unfold rrd1; rw [nA_none h]
theorem rrd_go (h : nAt b 0 = (v, x, true)) : rrd1 b = rrLoop b (b.length + 1) x [] := by unfold rrd1; rw [nA_some h]
end
theorem toks_push (l : List TkV) (y : TkV) : toks (l ++ [y]) = toks l ++ [y.tk] := by simp [toks]

set_option maxHeartbeats 4000000 in
set_option maxRecDepth 100000 in
theorem rread_is (A : Option Addr) (n c : Nat) (bs : List Nat) (w : World) (hr : Rd w A (b8 bs)) (hn : bs.length = n) (hby : By bs) (hl : n ≤ 3000000000000) :
    Calls Try.prog 118 #[.slice A n c] w (AnsT w (rd bs)) := by
  have HNA : Hid (∀ (x : Nat) (W : World), Below w.heap.size w W → x ≤ n → Calls Try.prog 148 #[.slice A n c, .int .i64 (x : Int)] W fun e w' => e = .returned (.tuple #[.int .i64 ((nAt bs x).1 : Int), .int .i64 ((nAt bs x).2.1 : Int), .bool (nAt bs x).2.2]) ∧ ∃ m, w' = W.drewN m) :=
    Lib.hid (fun x W hb hx => numberAt_is A n c x bs W (hr.below hb) hn hby (by omega) hx)
  have HLE : Hid (∀ x, x ≤ n → (nAt bs x).1 < 2097152 ∧ x ≤ (nAt bs x).2.1 ∧ (nAt bs x).2.1 ≤ n ∧ ((nAt bs x).2.2 = true → x < (nAt bs x).2.1)) := Lib.hid (fun x hx => by rw [← hn]; exact nAt_le hby (by rw [hn]; exact hx))
  have HR := Lib.hid hr
  have HN := Lib.hid hn
  have HY := Lib.hid hby
  have HNO : Hid (rrd1 bs = none → rd bs = ([], 20)) := Lib.hid (rd_none hby (by omega))
  have HYES : Hid (∀ ts, wr ts = (bs, 0) → rd bs = (ts, 0)) := Lib.hid (fun ts h => rd_yes hby (by omega) h)
  have HBAD : Hid (∀ ts, rrd1 bs = some ts → wr ts ≠ (bs, 0) → rd bs = ([], 20)) := Lib.hid (fun ts h h1 => rd_no hby (by omega) h h1)
  obtain ⟨q, hq⟩ : ∃ q, q = rd bs := ⟨_, rfl⟩
  rw [← hq] at HNO HYES HBAD ⊢
  clear hr hn hby hq
  obtain ⟨p0, hp0⟩ : ∃ p, p = nAt bs 0 := ⟨_, rfl⟩
  have P0 := Lib.hid (HNA.out 0 w (Below.refl _ _) (Nat.zero_le _))
  have hL0 := HLE.out 0 (Nat.zero_le _)
  rw [← hp0] at P0 hL0
  rw [show ((0 : Nat) : Int) = 0 from rfl] at P0
  have H0 := Lib.hid hp0.symm
  clear hp0
  obtain ⟨v0, q0, b0⟩ := p0
  simp only at P0 hL0
  have hq0 : q0 ≤ n := hL0.2.2.1
  clear hL0
  rcases b0 with _ | _
  · have HE : Hid (q = ([], 20)) := Lib.hid (HNO.out (rrd_bad H0.out))
    go_enter Try.func118, Try.ntmps118
    go_wp2_with fail
    refine P0.out.mono ?_
    rintro e w1 ⟨rfl, d1, rfl⟩
    go_wp2_with fail
    go_ret2
    exact ansT_none _ _ _ _ HE.out (below_drewN (Below.refl _ _) d1)
  · have HG : Hid (rrd1 bs = rrLoop bs (n + 1) q0 []) := Lib.hid (by rw [rrd_go H0.out, HN.out])
    obtain ⟨R, hR⟩ : ∃ R, R = rrd1 bs := ⟨_, rfl⟩
    rw [← hR] at HNO HBAD HG
    clear hR H0
    go_enter Try.func118, Try.ntmps118
    go_wp2_with fail
    refine P0.out.mono ?_
    rintro e w1 ⟨rfl, d1, rfl⟩
    have HB1 := Lib.hid (below_drewN (Below.refl w.heap.size w) d1)
    clear P0
    go_wp2_with fail
    go_loopw [5, 7] (fun i v wr => ∃ (N q1 f : Nat) (l : List TkV), i = .int .i64 q1 ∧ q1 ≤ n ∧ N ≤ q1 ∧ n - q1 < f ∧ Hid (R = rrLoop bs f q1 (toks l)) ∧ Hid (Ts wr w.heap.size v N l) ∧ Hid (Below w.heap.size w wr)) (fun i _ _ => n - (intOf i).toNat)
    case atStart => exact ⟨0, q0, n + 1, [], rfl, hq0, Nat.zero_le _, by omega, HG, Lib.hid (Ts.nil _ _), HB1⟩
    case round =>
      clear HG HB1 hq0
      obtain ⟨N, q1, f, l, rfl, hq1, hN, hf, HQ, HT, HB⟩ := hrel
      have hsz := HB.out.size
      obtain ⟨f, rfl⟩ : ∃ f', f = f' + 1 := ⟨f - 1, by omega⟩
      obtain ⟨A9, c9, rfl, _⟩ := own_shape HT.out.row
      by_cases hlt : q1 < n
      · have HLT : Hid (q1 < bs.length) := Lib.hid (by rw [HN.out]; exact hlt)
        obtain ⟨p1, hp1⟩ : ∃ p, p = nAt bs q1 := ⟨_, rfl⟩
        have P1 := Lib.hid (HNA.out q1 wr HB.out hq1)
        have hL1 := HLE.out q1 hq1
        rw [← hp1] at P1 hL1
        have H1 := Lib.hid hp1.symm
        clear hp1
        obtain ⟨v1, x1, b1⟩ := p1
        simp only at P1 hL1
        obtain ⟨hv1, hx1, hx2, hx3⟩ := hL1
        rcases b1 with _ | _
        · have HE : Hid (q = ([], 20)) := Lib.hid (HNO.out (HQ.out.trans (rr_bad HLT.out H1.out)))
          clear hx3
          go_wp2_with fail
          refine P1.out.mono ?_
          rintro e w2 ⟨rfl, d2, rfl⟩
          go_wp2_with fail
          go_ret2
          exact ansT_none _ _ _ _ HE.out (below_drewN HB.out d2)
        · have hx4 : q1 < x1 := hx3 rfl
          clear hx3
          by_cases hm : v1 % 2 = 0
          · have hm3 : ((v1 : Int) % 2 == 0) = true := by rw [beq_iff_eq]; omega
            by_cases hs : n - x1 < v1 / 2
            · have HE : Hid (q = ([], 20)) := Lib.hid (HNO.out (HQ.out.trans (rr_short HLT.out H1.out hm (by rw [HN.out]; exact hs))))
              have hs3 : (n : Int) - (x1 : Int) < (v1 : Int) / 2 := by omega
              go_wp2_with fail
              refine P1.out.mono ?_
              rintro e w2 ⟨rfl, d2, rfl⟩
              go_wp2_with fail
              go_ret2
              exact ansT_none _ _ _ _ HE.out (below_drewN HB.out d2)
            · obtain ⟨m, hmm⟩ : ∃ m, m = v1 / 2 := ⟨_, rfl⟩
              have hmi : (v1 : Int) / 2 = (m : Int) := by omega
              have hxm : x1 + m ≤ n := by omega
              obtain ⟨L, hL⟩ : ∃ L, L = (bs.drop x1).take m := ⟨_, rfl⟩
              have hLl : L.length = m := by rw [hL, List.length_take, List.length_drop, HN.out]; omega
              have HLL := Lib.hid hLl
              have HLB : Hid (By L) := Lib.hid (by rw [hL]; exact (HY.out.drop x1).take m)
              have HNX : Hid (rrLoop bs (f + 1) q1 (toks l) = rrLoop bs f (x1 + m) (toks l ++ [⟨L, 0, 0⟩])) := Lib.hid (by rw [rr_lit HLT.out H1.out hm (by rw [HN.out]; exact hs) rfl, ← hmm, ← hL])
              have HLG : Hid (∀ (j z : Nat), bs[x1 + j]? = some z → j < m → L.take (j + 1) = L.take j ++ [z]) := Lib.hid (fun j z hz hj => by
                have : L[j]? = some z := by rw [hL, List.getElem?_take, if_pos hj, List.getElem?_drop]; exact hz
                have := take_push this []
                simpa using this)
              have hs3 : ¬ (n : Int) - (x1 : Int) < (m : Int) := by omega
              have HMI := Lib.hid hmi
              have hm4 : m ≤ 1048576 := by omega
              clear hL hLl hmm hs
              go_wp2_with fail
              refine P1.out.mono ?_
              rintro e w2 ⟨rfl, d2, rfl⟩
              have HT2 := Lib.hid (HT.out.below (below_drewN (Below.refl _ _) d2))
              have HB2 := Lib.hid (below_drewN HB.out d2)
              clear HT HB P1
              obtain ⟨wo, hwo⟩ : ∃ wo : World, wo = wr.drewN d2 := ⟨_, rfl⟩
              have hszo : w.heap.size ≤ wo.heap.size := by rw [hwo]; simpa using hsz
              rw [← hwo] at HT2 HB2 ⊢
              clear hwo
              go_wp2_with fail
              go_loopw [12, 13] (fun v i wi => ∃ (j : Nat), j ≤ m ∧ i = .int .i64 j ∧ Hid (wi.ownsRow wo.heap.size 5 1 v j (b8 (L.take j))) ∧ Hid (Below wo.heap.size wo wi)) (fun _ i _ => m - (intOf i).toNat)
              case atStart => exact ⟨0, Nat.zero_le _, rfl, Lib.hid (World.ownsRow_nil _ _ _ _), Lib.hid (Below.refl _ _)⟩
              case round =>
                obtain ⟨j, hj, rfl, HO, HBj⟩ := hrel
                have hszj := HBj.out.size
                by_cases hjl : j < m
                · obtain ⟨z, hz⟩ : ∃ z, bs[x1 + j]? = some z := ⟨_, List.getElem?_eq_getElem (by rw [HN.out]; omega)⟩
                  obtain ⟨gx, ox, rfl, hgx, hcx⟩ := HR.out.at_ hz
                  replace hcx := ((HB2.out.trans (HBj.out.mono hszo)).cell (p := ⟨gx, ox + (x1 + j), none⟩) hgx).trans hcx
                  have HTP := Lib.hid (HLG.out j z hz hjl)
                  have j0 : (0 : Int) ≤ (x1 : Int) + (j : Int) := by omega
                  have j1 : (x1 : Int) + (j : Int) < (n : Int) := by omega
                  clear hz
                  go_wp2_with (at_builtin; go_loud ((refine push8 wr (by rfl) (.tmp 56) (.tmp 63) (by rfl) wo.heap.size _ j (L.take j) (by rfl) HO.out _ z rfl (by rfl) (by omega) (by omega) ?_); intro v2 w2 hown2 hg2 hn2; have HO2 := Lib.hid hown2; have HBB2 := Lib.hid (HBj.out.trans (below_of_grown hg2 (by omega) (fun k hk => (HO.out.lt k hk).1))); clear hown2 hg2 hn2))
                  go_roundw
                  case rel => exact ⟨j + 1, by omega, by go_num, Lib.hid (by rw [HTP.out]; exact HO2.out), HBB2⟩
                  case measure => simp [intOf]; omega
                · have hje : j = m := by omega
                  have HOE : Hid (wr.ownsRow wo.heap.size 5 1 u12 L.length (b8 L)) := Lib.hid (by have h := HO.out; rw [List.take_of_length_le (by rw [HLL.out]; omega)] at h; rw [HLL.out, ← hje]; exact h)
                  obtain ⟨A7, c7, rfl, hsh⟩ := own_shape HOE.out
                  have HYO : Hid (OwnTk wr wo.heap.size ⟨A7, c7, L, 0, 0⟩) := HOE
                  have HPL : Hid (PlTk ⟨A7, c7, L, 0, 0⟩) := Lib.hid ⟨HLB.out, by simp only; rw [HLL.out]; omega, by simp only; omega, by simp only; omega⟩
                  have HT3 := Lib.hid (HT2.out.below HBj.out)
                  have HVB : Hid ((∀ x ∈ l, ∀ a : Addr, x.A = some a → a.block < wo.heap.size) ∧ ∀ q, (Value.slice A9 N c9).ownBlock = some q → q < wo.heap.size) := Lib.hid ⟨fun x hx a ha => ((HT2.out.lit x hx).lt ha).2, fun q hq => (HT2.out.row.lt q hq).2⟩
                  have HB3 := Lib.hid (HB2.out.trans (HBj.out.mono hszo))
                  subst hje
                  clear HO hsh HT2
                  go_wp2_with (at_builtin; go_loud ((refine pushT wr rfl (.tmp 65) (.tmp 68) (by rfl) w.heap.size (.slice A9 N c9) N l (by rfl) HT3.out.row ⟨A7, c7, L, 0, 0⟩ wr.heap.size (by rfl) (by rfl) (by omega) (by omega) ?_); intro v9 w9 ho9 hg9 hn9; have HB9 := Lib.hid (HB3.out.trans (below_of_grown hg9 (by omega) (fun k hk => (HT3.out.row.lt k hk).1))); have HT9 := Lib.hid (HT3.out.push (bb := wo.heap.size) HVB.out.1 HVB.out.2 HYO.out hszo HPL.out ho9 hg9 hn9); clear ho9 hg9 hn9))
                  go_roundw
                  case rel => exact ⟨N + 1, x1 + j, f, _, by go_num, by omega, by omega, by omega, Lib.hid (by rw [toks_push]; exact HQ.out.trans HNX.out), HT9, HB9⟩
                  case measure => simp [intOf]; omega
          · have hm3 : ¬ (v1 : Int) % 2 = 0 := by omega
            obtain ⟨p2, hp2⟩ : ∃ p, p = nAt bs x1 := ⟨_, rfl⟩
            have P2 := Lib.hid (fun W h => HNA.out x1 W h hx2)
            have hL2 := HLE.out x1 hx2
            rw [← hp2] at P2 hL2
            have H2 := Lib.hid hp2.symm
            clear hp2
            obtain ⟨v2, x2, b2⟩ := p2
            simp only at P2 hL2
            obtain ⟨hv2, hy1, hy2, hy3⟩ := hL2
            clear hy3
            go_wp2_with fail
            refine P1.out.mono ?_
            rintro e w2 ⟨rfl, d2, rfl⟩
            have HT2 := Lib.hid (HT.out.below (below_drewN (Below.refl _ _) d2))
            have HB2 := Lib.hid (below_drewN HB.out d2)
            clear HT HB P1
            rcases b2 with _ | _
            · have HE : Hid (q = ([], 20)) := Lib.hid (HNO.out (HQ.out.trans (rr_bad2 HLT.out H1.out hm H2.out)))
              go_wp2_with fail
              refine (P2.out _ HB2.out).mono ?_
              rintro e w3 ⟨rfl, d3, rfl⟩
              go_wp2_with fail
              go_ret2
              exact ansT_none _ _ _ _ HE.out (by have h := below_drewN HB2.out d3; rwa [World.drewN_drewN] at h)
            · have HNX := Lib.hid (rr_match (f := f) (ts := toks l) HLT.out H1.out hm H2.out (t := ⟨[], (v2 : Int), (v1 : Int) / 2⟩) (by simp only [Tk.mk.injEq, true_and]; omega))
              go_wp2_with fail
              refine (P2.out _ HB2.out).mono ?_
              rintro e w3 ⟨rfl, d3, rfl⟩
              have HT3 := Lib.hid (HT2.out.below (below_drewN (Below.refl _ _) d3))
              have HB3 := Lib.hid (below_drewN HB2.out d3)
              clear HT2 HB2
              obtain ⟨wo, hwo⟩ : ∃ wo : World, wo = (wr.drewN d2).drewN d3 := ⟨_, rfl⟩
              have hszo : w.heap.size ≤ wo.heap.size := by rw [hwo]; simpa using hsz
              rw [← hwo] at HT3 HB3 ⊢
              clear hwo
              have HYO : Hid (OwnTk wo wo.heap.size ⟨none, 0, [], (v2 : Int), (v1 : Int) / 2⟩) := Lib.hid (World.ownsRow_nil _ _ _ _)
              have HPL : Hid (PlTk ⟨none, 0, [], (v2 : Int), (v1 : Int) / 2⟩) := Lib.hid ⟨(fun b hb => by cases hb), by simp, by simp only; omega, by simp only; omega⟩
              have HVB : Hid ((∀ x ∈ l, ∀ a : Addr, x.A = some a → a.block < wo.heap.size) ∧ ∀ q, (Value.slice A9 N c9).ownBlock = some q → q < wo.heap.size) := Lib.hid ⟨fun x hx a ha => ((HT3.out.lit x hx).lt ha).2, fun q hq => (HT3.out.row.lt q hq).2⟩
              go_wp2_with (at_builtin; go_loud ((refine pushT wo rfl (.tmp 82) (.tmp 87) (by rfl) w.heap.size (.slice A9 N c9) N l (by rfl) HT3.out.row ⟨none, 0, [], (v2 : Int), (v1 : Int) / 2⟩ wo.heap.size (by rfl) (by rfl) (by omega) (by omega) ?_); intro v9 w9 ho9 hg9 hn9; have HB9 := Lib.hid (HB3.out.trans (below_of_grown hg9 (by omega) (fun k hk => (HT3.out.row.lt k hk).1))); have HT9 := Lib.hid (HT3.out.push (bb := wo.heap.size) HVB.out.1 HVB.out.2 HYO.out hszo HPL.out ho9 hg9 hn9); clear ho9 hg9 hn9))
              go_roundw
              case rel => exact ⟨N + 1, x2, f, _, by go_num, by omega, by omega, by omega, Lib.hid (by rw [toks_push]; exact HQ.out.trans HNX.out), HT9, HB9⟩
              case measure => simp [intOf]; omega
      · have HRS : Hid (R = some (toks l)) := Lib.hid (HQ.out.trans (rr_end (by rw [HN.out]; omega)))
        have PW := Lib.hid (rwrite_is A9 N c9 l wr HT.out.rd HT.out.len HT.out.ok (by omega))
        have HWL := Lib.hid (sp_wr_len (toks l))
        obtain ⟨⟨Y, z⟩, hY⟩ : ∃ y, y = Go.Proofs.Ytjipebedibjoiaa.wr (toks l) := ⟨_, rfl⟩
        rw [← hY] at PW HWL
        simp only at PW HWL
        have HW := Lib.hid hY.symm
        clear hY HQ
        go_wp2_with fail
        refine PW.out.mono ?_
        rintro e w2 ⟨A2, c2, rfl, ho2, hb2⟩
        have HT2 := Lib.hid (HT.out.below hb2)
        have HO2 := Lib.hid (rd_own ho2)
        have HB2 := Lib.hid (HB.out.trans (hb2.mono hsz))
        simp only at HO2
        clear ho2 hb2 PW HT HB
        by_cases hz : z = 0
        · subst hz
          have hYl := HWL.out
          by_cases hYb : Y = bs
          · have HE : Hid (q = (toks l, 0)) := Lib.hid (HYES.out _ (by rw [HW.out, hYb]))
            have PS := Lib.hid (rsame_yes A2 A Y.length n c2 c Y bs w2 HO2.out (HR.out.below HB2.out) rfl HN.out (by omega) (by omega) hYb)
            clear hYb
            go_wp2_with fail
            refine PS.out.mono ?_
            rintro e w3 ⟨rfl, d3, rfl⟩
            go_wp2_with fail
            go_ret2
            exact ansT_some _ _ _ A9 c9 N l _ HE.out (HT2.out.below (below_drewN (Below.refl _ _) d3)) (below_drewN HB2.out d3)
          · have HE : Hid (q = ([], 20)) := Lib.hid (HBAD.out _ HRS.out (by rw [HW.out]; intro h; injection h with h _; exact hYb h))
            have PS := Lib.hid (rsame_no A2 A Y.length n c2 c Y bs w2 HO2.out (HR.out.below HB2.out) rfl HN.out (by omega) (by omega) hYb)
            clear hYb
            go_wp2_with fail
            refine PS.out.mono ?_
            rintro e w3 ⟨rfl, d3, rfl⟩
            go_wp2_with fail
            go_ret2
            exact ansT_none _ _ _ _ HE.out (below_drewN HB2.out d3)
        · have HE : Hid (q = ([], 20)) := Lib.hid (HBAD.out _ HRS.out (by rw [HW.out]; intro h; injection h with _ h; exact hz h))
          have hne : ((z : Int) != 0) = true := by rw [bne_iff_ne]; exact hz
          clear hz
          go_wp2_with fail
          go_ret2
          exact ansT_none _ _ _ _ HE.out HB2.out
end Go.Proofs.Ytjipebedibjoiaa
