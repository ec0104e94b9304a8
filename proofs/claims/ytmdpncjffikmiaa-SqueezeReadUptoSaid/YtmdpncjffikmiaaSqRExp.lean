/- Expand, the document's: the text of tokens. -/
import Derived.Test.YtmdpncjffikmiaaSqExp3
namespace Go.Proofs.Ytmdpncjffikmiaa
open Go Go.RowKit
set_option linter.unusedVariables false
set_option linter.unusedSimpArgs false

theorem take_push {l : List Nat} {j z : Nat} (h : l[j]? = some z) (T : List Nat) : T ++ l.take (j + 1) = (T ++ l.take j) ++ [z] := by
  obtain ⟨hj, rfl⟩ := List.getElem?_eq_some_iff.1 h
  rw [List.take_succ_eq_append_getElem hj, List.append_assoc]

section
variable (A : Option Addr) (n c : Nat) (l : List TkV) (w : World) (hr : Rd w A (tkCells l)) (hn : l.length = n) (hok : ∀ x ∈ l, x.Ok w) (hl : n ≤ 4000000000000)
include hr hn hok hl

set_option maxHeartbeats 2000000 in
set_option maxRecDepth 100000 in
theorem rexpand_is : Calls Try.prog 16 #[.slice A n c] w (Ans8 w (exp [] (toks l))) := by
  have HN := Lib.hid hn
  have HR := Lib.hid hr
  have HOK := Lib.hid hok
  have HS0 : Hid (exp [] (toks l) = exp [] ((toks l).drop 0)) := Lib.hid (by rw [List.drop_zero])
  obtain ⟨q, hq⟩ : ∃ q, q = exp [] (toks l) := ⟨_, rfl⟩
  rw [← hq] at HS0 ⊢
  clear hq hr hn hok
  go_enter Try.func16, Try.ntmps16
  go_wp2
  go_loopw [4, 5] (fun v i wr => ∃ (k N : Nat) (T : List Nat) (vi : Value), k ≤ n ∧ N ≤ 4096 ∧ i = .int .i64 k ∧ v = vi ∧ Hid (N = T.length) ∧ Hid (wr.ownsRow w.heap.size 5 1 vi N (b8 T)) ∧ Hid (q = exp T ((toks l).drop k)) ∧ Hid (Below w.heap.size w wr)) (fun _ i _ => n - (intOf i).toNat)
  case atStart => exact ⟨0, 0, [], _, Nat.zero_le _, by omega, rfl, rfl, Lib.hid rfl, Lib.hid (World.ownsRow_nil _ _ _ _), HS0, Lib.hid (Below.refl _ _)⟩
  case round =>
    obtain ⟨k, N, T, vi, hk, hN4, rfl, rfl, HT, HO, HQ, HB⟩ := hrel
    have hsz := HB.out.size
    obtain ⟨A9, c9, rfl, _⟩ := own_shape HO.out
    by_cases hlt : k < n
    · obtain ⟨x, hx⟩ : ∃ x, l[k]? = some x := ⟨_, List.getElem?_eq_getElem (by rw [HN.out]; exact hlt)⟩
      have HXO := Lib.hid (HOK.out x (List.mem_of_getElem? hx))
      obtain ⟨g, off, rfl, hg, hc0, hc1, hc2⟩ := HR.out.tok hx
      have HST : Hid (exp T ((toks l).drop k) = exp T (x.tk :: (toks l).drop (k + 1))) := Lib.hid (exp_drop (toks_get hx) T)
      have HCC : Hid (∀ W, Below w.heap.size w W → W.cell? ⟨g, off + k * 3, none⟩ = some (.slice x.A x.lit.length x.c) ∧ W.cell? ⟨g, off + k * 3 + 1, none⟩ = some (.int .i64 x.d) ∧ W.cell? ⟨g, off + k * 3 + 2, none⟩ = some (.int .i64 x.l)) :=
        Lib.hid (fun W h => ⟨(h.cell (p := ⟨g, off + k * 3, none⟩) hg).trans hc0, (h.cell (p := ⟨g, off + k * 3 + 1, none⟩) hg).trans hc1, (h.cell (p := ⟨g, off + k * 3 + 2, none⟩) hg).trans hc2⟩)
      clear hc0 hc1 hc2
      have hd64 := HXO.out.d64
      have hl64 := HXO.out.l64
      have hsz8 := HXO.out.sz
      have hcap := HXO.out.cap
      have PR := Lib.hid (fun W => rright_is x N W (by omega) hd64 hl64 hsz8)
      have HL : Hid (N = T.length → rt x.tk N = rt x.tk T.length) := Lib.hid (fun h => by rw [h])
      obtain ⟨xA, xc, lit, d, ll⟩ := x
      simp only at HCC hd64 hl64 hsz8 hcap
      obtain ⟨hc0, hc1, hc2⟩ := HCC.out wr HB.out
      unfold TkV.val at PR
      simp only at PR
      obtain ⟨b, hb⟩ : ∃ b, b = rt (TkV.tk ⟨xA, xc, lit, d, ll⟩) N := ⟨_, rfl⟩
      rw [← hb] at PR
      have HBV := Lib.hid hb
      clear hb hx
      rcases b with _ | _
      · have HV := Lib.hid (exp_bad (r := (toks l).drop (k + 1)) ((HL.out HT.out).symm.trans HBV.out.symm))
        go_wp2_with (go_at_call 46; refine (PR.out _).mono ?_; rintro e w1 ⟨rfl, hb1⟩; have HB1 := Lib.hid hb1; clear hb1)
        go_ret2
        exact ans8_none _ _ _ _ (HQ.out.trans (HST.out.trans HV.out)) (HB.out.trans (HB1.out.mono (by omega)))
      · have hL : 0 ≤ ll ∧ ll ≤ 258 := by
          rcases rt_cases HBV.out.symm with h | h
          · have h2 : ll = 0 := h.2.2
            omega
          · have h2 : 5 ≤ ll := h.2.1
            exact ⟨by omega, h.2.2.1⟩
        have hrt : rt (TkV.tk ⟨xA, xc, lit, d, ll⟩) T.length = true := ((HL.out HT.out).symm.trans HBV.out.symm)
        have i0 : (0 : Int) ≤ (k : Int) := by omega
        have i1 : (k : Int) < (n : Int) := by omega
        by_cases hlong : (4096 : Int) < (N : Int) + (lit.length : Int) + ll
        · have HV := Lib.hid (exp_long (r := (toks l).drop (k + 1)) hrt (by have := HT.out; show 4096 < T.length + lit.length + ll.toNat; omega))
          clear hrt
          go_wp2_with (go_at_call 46; refine (PR.out _).mono ?_; rintro e w1 ⟨rfl, hb1⟩; have HB1 := Lib.hid hb1; obtain ⟨b0, b1, b2⟩ := HCC.out w1 (HB.out.trans (hb1.mono (by omega))); clear hb1)
          go_quiet (fail)
          go_wp2
          go_ret2
          exact ans8_none _ _ _ _ (HQ.out.trans (HST.out.trans HV.out)) (below_drewN (HB.out.trans (HB1.out.mono (by omega))) _)
        · have HV := Lib.hid (exp_next (r := (toks l).drop (k + 1)) hrt (by have := HT.out; show ¬ 4096 < T.length + lit.length + ll.toNat; omega))
          have HRT := Lib.hid (rt_cases hrt)
          have HLE : Hid (T.length + lit.length + ll.toNat ≤ 4096) := Lib.hid (by have := HT.out; omega)
          have HLN : Hid ((addTk T (TkV.tk ⟨xA, xc, lit, d, ll⟩)).length ≤ 4096) := Lib.hid (by rw [addTk_length]; exact HLE.out)
          have hNl : N + lit.length + ll.toNat ≤ 4096 := by omega
          clear hrt
          go_wp2_with (go_at_call 46; refine (PR.out _).mono ?_; rintro e w1 ⟨rfl, hb1⟩; have HB1 := Lib.hid (HB.out.trans (hb1.mono (by omega))); have HO1 := Lib.hid (own_below HO.out hb1); obtain ⟨b0, b1, b2⟩ := HCC.out w1 (HB.out.trans (hb1.mono (by omega))); clear hb1)
          go_quiet (fail)
          go_wp2
          clear b0 b1 b2 hc0 hc1 hc2 PR
          obtain ⟨wo, rfl⟩ : ∃ wo : World, wo = wr := ⟨_, rfl⟩
          go_loopw [4, 7] (fun v i wi => ∃ (j M : Nat) (vi : Value), j ≤ lit.length ∧ M = N + j ∧ i = .int .i64 j ∧ v = vi ∧ Hid (wi.ownsRow w.heap.size 5 1 vi M (b8 (T ++ lit.take j))) ∧ Hid (Below w.heap.size w wi)) (fun _ i _ => lit.length - (intOf i).toNat)
          case atStart => exact ⟨0, N, _, Nat.zero_le _, rfl, rfl, rfl, Lib.hid (by rw [List.take_zero, List.append_nil]; exact own_below HO1.out (below_drewN (Below.refl _ _) _)), Lib.hid (below_drewN HB1.out _)⟩
          case round =>
            clear HO1 HB1
            obtain ⟨j, M, vj, hj, hM, rfl, rfl, HOj, HBj⟩ := hrel
            have HM := Lib.hid hM
            obtain ⟨hc0, hc1, hc2⟩ := HCC.out _ HBj.out
            have hszj := HBj.out.size
            by_cases hjl : j < lit.length
            · obtain ⟨z, hz⟩ : ∃ z, lit[j]? = some z := ⟨_, List.getElem?_eq_getElem hjl⟩
              obtain ⟨gx, ox, rfl, hgx, hcx⟩ := HXO.out.rd.at_ hz
              replace hcx := (HBj.out.cell (p := ⟨gx, ox + j, none⟩) hgx).trans hcx
              have HTP := Lib.hid (take_push hz T)
              have j0 : (0 : Int) ≤ (j : Int) := by omega
              have j1 : (j : Int) < (lit.length : Int) := by omega
              clear hz hM
              go_wp2_with (at_builtin; go_loud ((refine push8 wr (by rfl) (.tmp 50) (.tmp 59) (by rfl) w.heap.size _ M (T ++ lit.take j) (by rfl) HOj.out _ z rfl (by rfl) (by have := HM.out; omega) (by omega) ?_); intro v2 w2 hown2 hg2 hn2; have HO2 := Lib.hid hown2; have HB2 := Lib.hid (HBj.out.trans (below_of_grown hg2 (by omega) (fun k hk => (HOj.out.lt k hk).1))); clear hown2 hg2 hn2))
              go_roundw
              case rel => exact ⟨j + 1, M + 1, _, by omega, by have := HM.out; omega, by go_num, rfl, Lib.hid (by rw [HTP.out]; exact HO2.out), HB2⟩
              case measure => simp [intOf]; omega
            · have hje : j = lit.length := by omega
              have HOE : Hid (wr.ownsRow w.heap.size 5 1 u4 M (b8 (T ++ lit))) := Lib.hid (by have h := HOj.out; rw [List.take_of_length_le (by omega)] at h; exact h)
              clear HOj
              have hML : M = N + lit.length := by have := HM.out; omega
              have HML := Lib.hid hML
              have HRC := Lib.hid (show ll = 0 ∨ (1 ≤ d ∧ d ≤ N) by
                rcases HRT.out with h | h
                · exact .inl h.2.2
                · exact .inr ⟨h.2.2.2.1, by have h2 : d ≤ (T.length : Int) := h.2.2.2.2.2; rw [HT.out]; exact h2⟩)
              clear hM hML
              subst hje
              go_wp2_with fail
              clear hc0 hc1 hc2
              obtain ⟨wo2, rfl⟩ : ∃ wo2 : World, wo2 = wr := ⟨_, rfl⟩
              go_loopw [4, 8] (fun v i wi => ∃ (p P : Nat) (vi : Value), (p : Int) ≤ ll ∧ P = M + p ∧ i = .int .i64 p ∧ v = vi ∧ Hid (wi.ownsRow w.heap.size 5 1 vi P (b8 (copyN (T ++ lit) d.toNat p))) ∧ Hid (Below w.heap.size w wi)) (fun _ i _ => (ll - intOf i).toNat)
              case atStart => exact ⟨0, M, _, by omega, rfl, rfl, rfl, HOE, HBj⟩
              case round =>
                clear HOE HBj hszj
                obtain ⟨p, P, vp, hp, hP, rfl, rfl, HOp, HBp⟩ := hrel
                have HP := Lib.hid hP
                obtain ⟨hc0, hc1, hc2⟩ := HCC.out _ HBp.out
                have hszp := HBp.out.size
                clear hP
                by_cases hpl : (p : Int) < ll
                · have hPN : P ≤ 4095 := by have := HP.out; have := HML.out; omega
                  have hNP : N ≤ P := by have := HP.out; have := HML.out; omega
                  have hd : 1 ≤ d ∧ d ≤ N := by
                    rcases HRC.out with h | h
                    · omega
                    · exact h
                  obtain ⟨A8, c8, rfl, hsh⟩ := own_shape HOp.out
                  obtain ⟨gp, rfl, hgp1, hgp2, _, _⟩ := own_pos HOp.out (by omega)
                  have hTl : (copyN (T ++ lit) d.toNat p).length = P := by rw [copyN_length, List.length_append, HP.out, HML.out, HT.out]
                  obtain ⟨S, hS⟩ : ∃ S, S = copyN (T ++ lit) d.toNat p := ⟨_, rfl⟩
                  have HNX : Hid (copyN (T ++ lit) d.toNat (p + 1) = S ++ [S.getD (P - d.toNat) 0]) := Lib.hid (by rw [hS]; simp only [copyN, addOne, hTl])
                  rw [← hS] at HOp hTl
                  obtain ⟨z, hz⟩ : ∃ z, z = S.getD (P - d.toNat) 0 := ⟨_, rfl⟩
                  rw [← hz] at HNX
                  have hcell : wr.cell? ⟨gp, ((P : Int) - d).toNat, none⟩ = some (.int .u8 (z : Int)) := by
                    have h := (HOp.out.cellAt (P - d.toNat) (by omega)).trans (b8_get1 (by omega))
                    rw [show ((P : Int) - d).toNat = P - d.toNat by omega, h, hz]
                  have p0 : (0 : Int) ≤ (P : Int) - d := by omega
                  have p1 : (P : Int) - d < (P : Int) := by omega
                  clear hS hz hTl hsh
                  go_wp2_with (at_builtin; go_loud ((refine push8 wr (by rfl) (.tmp 70) (.tmp 82) (by rfl) w.heap.size _ P S (by rfl) HOp.out _ z rfl (by rfl) (by omega) (by omega) ?_); intro v2 w2 hown2 hg2 hn2; have HO2 := Lib.hid hown2; have HB2 := Lib.hid (HBp.out.trans (below_of_grown hg2 (by omega) (fun k hk => (HOp.out.lt k hk).1))); clear hown2 hg2 hn2))
                  go_roundw
                  case rel => exact ⟨p + 1, P + 1, _, by omega, by have := HP.out; omega, by go_num, rfl, Lib.hid (by rw [HNX.out]; exact HO2.out), HB2⟩
                  case measure => simp [intOf]; omega
                · have hpe : p = ll.toNat := by omega
                  have HOF : Hid (wr.ownsRow w.heap.size 5 1 u4 P (b8 (copyN (T ++ lit) d.toNat ll.toNat))) := Lib.hid (by rw [← hpe]; exact HOp.out)
                  have HLF : Hid (P = (addTk T (TkV.tk ⟨xA, xc, lit, d, ll⟩)).length) := Lib.hid (by rw [addTk_length]; show P = T.length + lit.length + ll.toNat; have := HP.out; have := HML.out; have := HT.out; omega)
                  have hP4 : P ≤ 4096 := by have := HP.out; have := HML.out; omega
                  clear HOp hpe
                  go_wp2_with fail
                  go_roundw
                  case rel => exact ⟨k + 1, P, _, _, by omega, hP4, by go_num, rfl, HLF, HOF, Lib.hid (HQ.out.trans (HST.out.trans HV.out)), HBp⟩
                  case measure => simp [intOf]; omega
    · have hkn : k = n := by omega
      have HF : Hid (q = (T, 0)) := Lib.hid (by rw [HQ.out, List.drop_of_length_le (by simp [toks, HN.out]; omega)]; rfl)
      clear hk hlt
      go_wp2_with fail
      go_ret2
      exact ans8_some _ _ _ T _ _ _ HF.out HT.out HO.out HB.out
end
end Go.Proofs.Ytmdpncjffikmiaa
