/- The walk of RecordSteps (printed by gen_rcsteps.py). -/
import Derived.Test.YtjipebedibjoiaaRecKeepP
import Derived.Test.YtjipebedibjoiaaG1
import Derived.Test.YtjipebedibjoiaaD3
import Derived.Test.YtjipebedibjoiaaC1
import Derived.Deep.CutRange
namespace Go.Proofs.Ytjipebedibjoiaa
open Go Go.RowKit
set_option linter.unusedVariables false
set_option linter.unusedSimpArgs false

set_option maxRecDepth 100000 in
/-- Records behind a row of the call's own, as a step of a region that draws. -/
theorem step_appR (w : World) {ops : Array Oper} {o : Oper} {a : Act} {K : Act → World → Prop} {Q : Exit → Act → World → Prop} {E : Prop} (hgd : o.guard = none) (s x : Operand)
    (ho : o.op = .call { callee := .builtin .append, args := #[s, x], argTypes := #[22, 22] })
    (base : Nat) (v : Value) (n : Nat) (xs : List Value) (hs : a.eval s = v) (hown : w.ownsRow base 31 7 v n xs)
    (A : Option Addr) (m c : Nat) (l : List Rc) (hx : a.eval x = .slice A m c) (hl : l.length = m) (hr : Rd w A (rcCells l))
    (hbytes : (n + m) * 72 ≤ 140737488355328) (hbase : base ≤ w.heap.size)
    (h : ∀ v' w', w'.ownsRow base 31 7 v' (n + m) (xs ++ rcCells l) → w.grownBy w' v.ownBlock → K (a.put o.dst v') w') :
    if Region.wanted o (yielded ops a.tmps) = true then Oper.wp Try.prog o a w K Q else E := by
  have hw : Region.wanted o (yielded ops a.tmps) = true := by simp [Region.wanted, hgd]
  rw [if_pos hw]
  obtain ⟨i0, hi, hz0, hz1, hz2⟩ := info_parts infoRec
  have ht := Try.underlying22
  have h63 : n + m ≤ maxLen := by unfold maxLen; omega
  have key : ∃ v' w', (Builtin.append_ #[22, 22] o.type #[v, .slice A m c]).run Try.prog w = .ok v' w' ∧ w'.ownsRow base 31 7 v' (n + m) (xs ++ rcCells l) ∧ w.grownBy w' v.ownBlock := by
    rcases A with _ | ad
    · have hn : l = [] := by
        cases l with
        | nil => rfl
        | cons y r =>
          obtain ⟨g, off, hh, _⟩ := hr (by rw [rcCells_cons]; simp [Rc.cells])
          cases hh
      subst hn
      have hm : m = 0 := by simpa using hl.symm
      subst hm
      refine ⟨v, w, ?_, by simpa [rcCells] using hown, ⟨rfl, rfl, rfl, Nat.le_refl _, fun _ _ _ => rfl⟩⟩
      rcases hown.2 with ⟨rfl, rfl⟩ | ⟨g, cap, cur, rfl, _, _, hnc, _⟩
      · simp [Builtin.append_, run_underlying ht, sizeOf, typeInfo, hi, Builtin.lenOf, Builtin.firstCells]
      · simp [Builtin.append_, run_underlying ht, sizeOf, typeInfo, hi, Builtin.lenOf, Builtin.firstCells, hnc, storeCells]
    · have hcells : ∀ j u, (rcCells l)[j]? = some u → w.cell? (ad.add j) = some u := by
        intro j u hu
        obtain ⟨g, off, hh, _, hc⟩ := hr (by intro e; rw [e] at hu; simp at hu)
        injection hh with hh
        subst hh
        rw [add_zero_off]
        exact hc j u hu
      obtain ⟨v', w', hrun, h2, h3, _, h5⟩ := run_append_own_at (P := Try.prog) w base 22 o.type 31 i0 _ 7 72 ht hi hz0 hz1 hz2 rfl (by omega) v n xs hown ad m c (rcCells l) (by rw [rcCells_length, hl]) hcells (rcCells_one _) h63 hbytes hbase
      exact ⟨v', w', hrun, h2, h3⟩
  obtain ⟨v', w', hrun, h2, h3⟩ := key
  unfold Oper.wp execOp
  simp only [ho, resolve, invoke, builtin, Sem.run_bind, Sem.run_pure, Result.andThen_ok, List.map_toArray, List.map_cons, List.map_nil, hs, hx, hrun]
  exact h v' w' h2 h3
def RestR (w : World) (R : Nat) (rest : List Rc) (v : Value) (wx : World) : Prop := ∃ A c, v = .slice A R c ∧ wx.ownsRow w.heap.size 31 7 (.slice A R c) R (rcCells rest) ∧ Below w.heap.size w wx
theorem restr_mk {w W W' : World} {R n k : Nat} {rest a b : List Rc} {v v1 : Value} {base : Nat} {xs : List Value} (hb : Below w.heap.size w W) (hB : base = W.heap.size) (ho : W'.ownsRow base 31 7 v n xs) (hx : xs = rcCells rest) (hn : n = R) (hg : Below base W W') : RestR w R rest v W' := by
  subst hB hx hn
  obtain ⟨A, c, rfl, _⟩ := own_shape ho
  exact ⟨A, c, rfl, own_lower ho hb.size, hb.trans (hg.mono hb.size)⟩
theorem own_pos2 {w : World} {base : Nat} {e : TypeId} {size n c : Nat} {A : Option Addr} {xs : List Value} (h : w.ownsRow base e size (.slice A n c) n xs) : (c = 0 ∧ A = none) ∨ ∃ g, A = some ⟨g, 0, none⟩ := by
  rcases h.2 with ⟨hv, h0⟩ | ⟨g, cap, cur, hv, _⟩
  · injection hv with hv _ hc
    exact .inl ⟨hc, hv⟩
  · injection hv with hv _ _
    exact .inr ⟨g, hv⟩
theorem rcCells_drop2 (l : List Rc) (p : Nat) : rcCells (l.drop p) = (rcCells l).drop (p * 7) := by
  by_cases h : p ≤ l.length
  · have e : rcCells l = rcCells (l.take p) ++ rcCells (l.drop p) := by rw [← rcCells_append, List.take_append_drop]
    have hl : (rcCells (l.take p)).length = p * 7 := by rw [rcCells_length, List.length_take]; omega
    rw [e, List.drop_left' hl]
  · rw [List.drop_of_length_le (by omega), List.drop_of_length_le (by rw [rcCells_length]; omega)]
    rfl
theorem rd_drop_rc2 {w : World} {g : Nat} {l : List Rc} (h : Rd w (some ⟨g, 0, none⟩) (rcCells l)) (p : Nat) : Rd w (some ⟨g, p * 7, none⟩) (rcCells (l.drop p)) := by
  intro hn
  obtain ⟨g', off, e, hg, hc⟩ := h (by rintro e; apply hn; rw [rcCells_drop2, e, List.drop_nil])
  injection e with e
  injection e with e1 e2
  subst e1 e2
  refine ⟨g, p * 7, rfl, hg, fun k u hu => ?_⟩
  rw [rcCells_drop2, List.getElem?_drop] at hu
  have := hc (p * 7 + k) u hu
  rw [Nat.zero_add] at this
  exact this
set_option maxHeartbeats 16000000 in
set_option maxRecDepth 100000 in
theorem recordStepsU_walk (A0 : Option Addr) (c0 : Nat) (b0 : List Rc) (a1 : Int) (a2 : Int) (a3 : Int) (a4 : Int) (w : World) (c0l : b0.length ≤ c0) (r0 : Rd w A0 (rcCells b0)) (y0 : ∀ x ∈ b0, x.Ok) (l0 : b0.length * 72 ≤ 140737488351232) (w1 : -9223372036854775808 ≤ a1 ∧ a1 ≤ 9223372036854775807) (w2 : -9223372036854775808 ≤ a2 ∧ a2 ≤ 9223372036854775807) (w3 : -9223372036854775808 ≤ a3 ∧ a3 ≤ 9223372036854775807) (w4 : -9223372036854775808 ≤ a4 ∧ a4 ≤ 9223372036854775807) (ub : b0.length ≤ 1048576) :
    Calls Try.prog 14 #[.slice A0 b0.length c0, .int .i64 a1, .int .i64 a2, .int .i64 a3, .int .i64 a4] w fun e w' => e = .returned (.bool true) ∧ Below w.heap.size w w' := by
  have PO := Lib.hid (rowOf_is A0 b0.length c0 b0 w r0 rfl (by omega))
  unfold RowPost at PO
  have hrise := rowM_is b0
  have hN1 : (rowM b0).length ≤ 1048576 := by have := rowM_len b0 []; unfold rowM; simp at this; omega
  obtain ⟨m, hm⟩ : ∃ m, m = rowM b0 := ⟨_, rfl⟩
  rw [← hm] at PO hrise hN1
  obtain ⟨N, hN⟩ : ∃ N, N = m.length := ⟨_, rfl⟩
  rw [← hN] at PO hN1
  have HN := Lib.hid hN.symm
  have HMY := Lib.hid hrise.may
  clear r0 y0 l0 hm hN hrise c0l w1 w2 w3 w4
  go_enter Try.func14, Try.ntmps14
  go_wp2_with fail
  refine PO.out.mono ?_
  rintro e wa ⟨A1, c1, B, d, rfl, -, hom, hba⟩
  have HOM := Lib.hid hom
  have HBA := Lib.hid hba
  have hnd : N ≤ d := by obtain ⟨_, _, e, h, _⟩ := own_shape hom; injection e with _ _ e3; omega
  clear hom hba PO
  by_cases h1 : a1 < 0
  · go_wp2_with fail
    refine (works_is _).mono ?_
    rintro e wc ⟨rfl, hbc⟩
    have HBC := Lib.hid (HBA.out.trans (hbc.mono HBA.out.size))
    clear hbc HBA
    go_wp2_with fail
    go_ret
    exact ⟨rfl, HBC.out⟩
  by_cases h2 : (N : Int) < a1
  · go_wp2_with fail
    refine (works_is _).mono ?_
    rintro e wc ⟨rfl, hbc⟩
    have HBC := Lib.hid (HBA.out.trans (hbc.mono HBA.out.size))
    clear hbc HBA
    go_wp2_with fail
    go_ret
    exact ⟨rfl, HBC.out⟩
  by_cases h3 : a3 < a2
  · go_wp2_with fail
    refine (works_is _).mono ?_
    rintro e wc ⟨rfl, hbc⟩
    have HBC := Lib.hid (HBA.out.trans (hbc.mono HBA.out.size))
    clear hbc HBA
    go_wp2_with fail
    go_ret
    exact ⟨rfl, HBC.out⟩
  by_cases h4 : a2 < 0
  · go_wp2_with fail
    refine (works_is _).mono ?_
    rintro e wc ⟨rfl, hbc⟩
    have HBC := Lib.hid (HBA.out.trans (hbc.mono HBA.out.size))
    clear hbc HBA
    go_wp2_with fail
    go_ret
    exact ⟨rfl, HBC.out⟩
  by_cases h5 : a4 < 0
  · go_wp2_with fail
    refine (works_is _).mono ?_
    rintro e wc ⟨rfl, hbc⟩
    have HBC := Lib.hid (HBA.out.trans (hbc.mono HBA.out.size))
    clear hbc HBA
    go_wp2_with fail
    go_ret
    exact ⟨rfl, HBC.out⟩
  obtain ⟨C, hC⟩ : ∃ C : Nat, a1 = (C : Int) := ⟨a1.toNat, by omega⟩
  subst hC
  have hCN : C ≤ N := by omega
  obtain ⟨H, hH⟩ : ∃ H : Int, H = min a4 1099511627776 := ⟨_, rfl⟩
  have h6 : ¬ a3 < 0 := by omega
  have hTl : (m.take C).length = C := by rw [List.length_take, HN.out]; omega
  have hTm : ∀ x ∈ m.take C, May x := fun x hx => HMY.out x (List.mem_of_mem_take hx)
  have hDm : ∀ x ∈ m.drop C, May x := fun x hx => HMY.out x (List.mem_of_mem_drop hx)
  obtain ⟨⟨F1, k1⟩, hq1⟩ : ∃ q, q = cmpW (m.take C) a2 a4 := ⟨_, rfl⟩
  have hF1 : F1 = flt (Kp a2 H) (m.take C) := by
    have e := congrArg Prod.fst hq1
    rw [cmpW_yes h4 h5 (fun x hx => may_chk (hTm x hx)), ← hH, cmp_all] at e
    exact e
  have hF1l : F1.length ≤ C := by have := cmpW_len (m.take C) a2 a4; rw [← hq1, hTl] at this; exact this
  obtain ⟨L1, hL1⟩ : ∃ L1, L1 = F1.length := ⟨_, rfl⟩
  have P1 := Lib.hid (fun W (hr : Rd W B (rcCells (m.take C))) => compact_is B C d (m.take C) a2 a4 W hr hTl (by omega))
  rw [← hq1] at P1
  unfold CmpPost at P1
  simp only at P1
  rw [← hL1] at P1
  have hF1m : ∀ x ∈ F1, May x := fun x hx => hTm x (flt_sub _ (hF1 ▸ hx)).1
  obtain ⟨rest, hrest⟩ : ∃ rest, rest = F1 ++ m.drop C := ⟨_, rfl⟩
  have hRl : rest.length = L1 + (N - C) := by rw [hrest, List.length_append, List.length_drop, HN.out, hL1]
  have hRm : ∀ x ∈ rest, May x := fun x hx => by
    rw [hrest] at hx
    rcases List.mem_append.1 hx with hx | hx
    · exact hF1m x hx
    · exact hDm x hx
  obtain ⟨⟨G, k2⟩, hq2⟩ : ∃ q, q = cmpW m a3 a4 := ⟨_, rfl⟩
  obtain ⟨⟨G', k3⟩, hq3⟩ : ∃ q, q = cmpW rest a3 a4 := ⟨_, rfl⟩
  have hGG : G' = G := by
    have e2 := congrArg Prod.fst hq2
    have e3 := congrArg Prod.fst hq3
    rw [cmpW_yes h6 h5 (fun x hx => may_chk (HMY.out x hx)), ← hH, cmp_all] at e2
    rw [cmpW_yes h6 h5 (fun x hx => may_chk (hRm x hx)), ← hH, cmp_all] at e3
    have e2' : G = flt (Kp a3 H) m := e2
    have e3' : G' = flt (Kp a3 H) rest := e3
    rw [e2', e3', hrest, hF1, flt_flt (fun x hx => hx.imp id (fun h => by omega)), List.take_append_drop]
  subst hGG
  have hFR : foldW rest = foldW m := by rw [hrest, hF1, fold_keep, List.take_append_drop]
  obtain ⟨R, hR⟩ : ∃ R, R = L1 + (N - C) := ⟨_, rfl⟩
  rw [← hR] at hRl
  have hRN : R ≤ N := by omega
  obtain ⟨LG, hLG⟩ : ∃ LG, LG = G'.length := ⟨_, rfl⟩
  have hGl : LG ≤ N := by have := cmpW_len m a3 a4; rw [← hq2, HN.out] at this; rw [hLG]; exact this
  have HQ2 := Lib.hid hq2.symm
  have HQ3 := Lib.hid hq3.symm
  have HRL := Lib.hid hRl
  have HRM := Lib.hid hRm
  have HFR := Lib.hid hFR
  have hFl := foldW_len m
  rw [HN.out] at hFl
  obtain ⟨F, hF⟩ : ∃ F, F = foldW m := ⟨_, rfl⟩
  rw [← hF] at hFl
  have HFF := Lib.hid hF.symm
  obtain ⟨LF, hLF⟩ : ∃ LF, LF = F.length := ⟨_, rfl⟩
  rw [← hLF] at hFl
  have HLF := Lib.hid hLF.symm
  have HLG := Lib.hid hLG.symm
  have HL1 := Lib.hid hL1.symm
  have HRE := Lib.hid hrest
  have HR := Lib.hid hR
  have c0 : (0 : Int) ≤ (C : Int) := by omega
  have c1 : (C : Int) ≤ (N : Int) := by omega
  have c2 : (C : Int) ≤ (d : Int) := by omega
  have RT := Lib.hid (show Rd wa B (rcCells (m.take C)) by rw [rcCells_take]; exact (rd_own HOM.out).take_ _)
  have hL1C : L1 ≤ C := by rw [hL1]; exact hF1l
  have HGL := Lib.hid hGl
  have HFL := Lib.hid hFl
  have HRN := Lib.hid hRN
  clear hF1l hGl hFl hRN
  clear hq1 hq2 hq3 hF1 hTl hTm hDm hF1m hrest hRm hFR hF hLF hLG hL1 hH hR hRl
  go_wp2_with fail
  refine (P1.out wa RT.out).mono ?_
  rintro e wb ⟨A2, c2', rfl, ho2, hbb⟩
  have HO2 := Lib.hid (rd_own ho2)
  have HOMb := Lib.hid (own_below HOM.out hbb)
  have HB2 := Lib.hid (HBA.out.trans (hbb.mono HBA.out.size))
  clear hbb HBA HOM P1 ho2 RT
  go_upto_region 5 with (fail)
  go_cut [15] from 56 to 62 (fun s15 wx => RestR wb R rest s15 wx)
  case first =>
    clear HQ2 HQ3 HRL HRM HFR HFF HMY HLF HLG HGL HFL HRN
    have HE0 : Hid (((wb.alloc (.cells #[] 31)).drewN 1).ownsRow wb.heap.size 31 7 (.slice (some ⟨wb.heap.size, 0, none⟩) 0 0) 0 []) := Lib.hid (own_below (World.ownsRow_made wb #[] 0 (Nat.le_refl _) (by decide) rfl) (below_drewN (Below.refl _ _) 1))
    have HEB : Hid (Below wb.heap.size wb ((wb.alloc (.cells #[] 31)).drewN 1)) := Lib.hid (below_drewN ((Below.refl wb.heap.size wb).alloc (Nat.le_refl _) _) 1)
    have RDM := Lib.hid (rd_own HOMb.out)
    by_cases i2 : d = C
    · have hNC : N - C = 0 := by omega
      have i3 := i2.symm
      clear i2
      subst i3
      rcases own_pos2 HOMb.out with ⟨hd0, hB⟩ | ⟨g, hB⟩
      · subst hB
        clear hd0
        go_wp2_with fail
        go_region_law (first
          | (refine step_appR _ rfl (.tmp 56) (.tmp 57) rfl wb.heap.size _ 0 [] rfl HE0.out A2 L1 c2' F1 rfl HL1.out (HO2.out.below HEB.out) (by omega) (HEB.out.size) ?_; intro v1 w1 hown1 hg1; rw [Nat.zero_add] at hown1; have HO1 := Lib.hid hown1; have HB1 := Lib.hid (HEB.out.trans (below_of_grown hg1 HEB.out.size (fun q hq => by injection hq with hq; exact Nat.le_of_eq hq))); obtain ⟨A5, c5, hv5, _⟩ := own_shape hown1; subst hv5; clear hown1 hg1)
          | (refine step_appR _ rfl (.tmp 58) (.tmp 61) rfl wb.heap.size _ L1 _ rfl HO1.out _ 0 _ (m.drop C) rfl (by rw [List.length_drop, HN.out]; omega) ((show Rd wb none (rcCells (m.drop C)) by rw [List.drop_of_length_le (by rw [HN.out]; omega)]; exact Rd.nil_ _ _).below HB1.out) (by omega) (HB1.out.size) ?_; intro v2 w2 hown2 hg2; have HO3 := Lib.hid hown2; have HB3 := Lib.hid (HB1.out.trans (below_of_grown hg2 HB1.out.size (fun q hq => (HO1.out.lt q hq).1))); obtain ⟨A6, c6, hv6, _⟩ := own_shape hown2; subst hv6; clear hown2 hg2))
        all_goals
          try go_wp2_with fail
          go_meet
          case rel =>
            have e1 : R = L1 + 0 := by have := HR.out; omega
            have e2 : rcCells rest = [] ++ rcCells F1 ++ rcCells (m.drop C) := by rw [HRE.out, rcCells_append]; rfl
            exact ⟨A6, c6, by rw [e1] <;> rfl, by rw [e1, e2]; exact HO3.out, HB3.out⟩
      · subst hB
        go_wp2_with fail
        go_region_law (first
          | (refine step_appR _ rfl (.tmp 56) (.tmp 57) rfl wb.heap.size _ 0 [] rfl HE0.out A2 L1 c2' F1 rfl HL1.out (HO2.out.below HEB.out) (by omega) (HEB.out.size) ?_; intro v1 w1 hown1 hg1; rw [Nat.zero_add] at hown1; have HO1 := Lib.hid hown1; have HB1 := Lib.hid (HEB.out.trans (below_of_grown hg1 HEB.out.size (fun q hq => by injection hq with hq; exact Nat.le_of_eq hq))); obtain ⟨A5, c5, hv5, _⟩ := own_shape hown1; subst hv5; clear hown1 hg1)
          | (refine step_appR _ rfl (.tmp 58) (.tmp 61) rfl wb.heap.size _ L1 _ rfl HO1.out _ 0 _ (m.drop C) rfl (by rw [List.length_drop, HN.out]; omega) ((show Rd wb (some ⟨g, 0, none⟩) (rcCells (m.drop C)) by rw [List.drop_of_length_le (by rw [HN.out]; omega)]; exact Rd.nil_ _ _).below HB1.out) (by omega) (HB1.out.size) ?_; intro v2 w2 hown2 hg2; have HO3 := Lib.hid hown2; have HB3 := Lib.hid (HB1.out.trans (below_of_grown hg2 HB1.out.size (fun q hq => (HO1.out.lt q hq).1))); obtain ⟨A6, c6, hv6, _⟩ := own_shape hown2; subst hv6; clear hown2 hg2))
        all_goals
          try go_wp2_with fail
          go_meet
          case rel =>
            have e1 : R = L1 + 0 := by have := HR.out; omega
            have e2 : rcCells rest = [] ++ rcCells F1 ++ rcCells (m.drop C) := by rw [HRE.out, rcCells_append]; rfl
            exact ⟨A6, c6, by rw [e1] <;> rfl, by rw [e1, e2]; exact HO3.out, HB3.out⟩
    · rcases own_pos2 HOMb.out with ⟨hd0, hB⟩ | ⟨g, hB⟩
      · omega
      · subst hB
        have RD := Lib.hid (rd_drop_rc2 RDM.out C)
        go_wp2_with fail
        go_region_law (first
          | (refine step_appR _ rfl (.tmp 56) (.tmp 57) rfl wb.heap.size _ 0 [] rfl HE0.out A2 L1 c2' F1 rfl HL1.out (HO2.out.below HEB.out) (by omega) (HEB.out.size) ?_; intro v1 w1 hown1 hg1; rw [Nat.zero_add] at hown1; have HO1 := Lib.hid hown1; have HB1 := Lib.hid (HEB.out.trans (below_of_grown hg1 HEB.out.size (fun q hq => by injection hq with hq; exact Nat.le_of_eq hq))); obtain ⟨A5, c5, hv5, _⟩ := own_shape hown1; subst hv5; clear hown1 hg1)
          | (refine step_appR _ rfl (.tmp 58) (.tmp 61) rfl wb.heap.size _ L1 _ rfl HO1.out _ (N - C) _ (m.drop C) rfl (by rw [List.length_drop, HN.out]) (RD.out.below HB1.out) (by omega) (HB1.out.size) ?_; intro v2 w2 hown2 hg2; have HO3 := Lib.hid hown2; have HB3 := Lib.hid (HB1.out.trans (below_of_grown hg2 HB1.out.size (fun q hq => (HO1.out.lt q hq).1))); obtain ⟨A6, c6, hv6, _⟩ := own_shape hown2; subst hv6; clear hown2 hg2))
        all_goals
          try go_wp2_with fail
          go_meet
          case rel =>
            have e1 : R = L1 + (N - C) := by have := HR.out; omega
            have e2 : rcCells rest = [] ++ rcCells F1 ++ rcCells (m.drop C) := by rw [HRE.out, rcCells_append]; rfl
            exact ⟨A6, c6, by rw [e1] <;> rfl, by rw [e1, e2]; exact HO3.out, HB3.out⟩
  case' rest => obtain ⟨A3, c3, rfl, ho3, hbc⟩ := hcut
  have HO3 := Lib.hid ho3
  have RM3 := Lib.hid (rd_own (own_below HOMb.out hbc))
  have HB3 := Lib.hid (HB2.out.trans (hbc.mono HB2.out.size))
  clear ho3 hbc HOMb HB2 HO2 HR HRE HL1
  go_wp2_with fail
  have P2 := compact_is A3 R c3 rest a3 a4 _ (rd_own HO3.out) HRL.out (by have := HRN.out; omega)
  rw [HQ3.out] at P2
  unfold CmpPost at P2
  simp only at P2
  rw [HLG.out] at P2
  refine P2.mono ?_
  clear P2
  rintro e wd ⟨A4, c4, rfl, ho4, hbd⟩
  have HO4 := Lib.hid ho4
  have HO34 := Lib.hid (own_below HO3.out hbd)
  have RM4 := Lib.hid (RM3.out.below hbd)
  have HB4 := Lib.hid (HB3.out.trans (hbd.mono HB3.out.size))
  clear ho4 hbd HO3 RM3 HB3
  go_wp2_with fail
  have P3 := compact_is B N d m a3 a4 _ RM4.out HN.out (by omega)
  rw [HQ2.out] at P3
  unfold CmpPost at P3
  simp only at P3
  rw [HLG.out] at P3
  refine P3.mono ?_
  clear P3
  rintro e we ⟨A5, c5, rfl, ho5, hbe⟩
  have HO5 := Lib.hid ho5
  have HO35 := Lib.hid (own_below HO34.out hbe)
  have HO45 := Lib.hid (own_below HO4.out hbe)
  have RM5 := Lib.hid (RM4.out.below hbe)
  have HB5 := Lib.hid (HB4.out.trans (hbe.mono HB4.out.size))
  clear ho5 hbe HO4 HO34 RM4 HB4
  go_wp2_with fail
  refine (works_is _).mono ?_
  rintro e wf ⟨rfl, hbf⟩
  have R35 := Lib.hid (rd_own (own_below HO35.out hbf))
  have R45 := Lib.hid (rd_own (own_below HO45.out hbf))
  have R55 := Lib.hid (rd_own (own_below HO5.out hbf))
  have RM6 := Lib.hid (RM5.out.below hbf)
  have HB6 := Lib.hid (HB5.out.trans (hbf.mono HB5.out.size))
  clear hbf HO5 HO35 HO45 RM5 HB5
  go_wp2_with fail
  refine (alike_yes A4 A5 LG c4 c5 G' wf R45.out R55.out HLG.out (by have := HGL.out; omega)).mono ?_
  rintro e w9 ⟨rfl, d9, hw9⟩
  have R39 : Hid (Rd w9 A3 (rcCells rest)) := Lib.hid (by rw [hw9]; exact R35.out.below (below_drewN (Below.refl _ _) _))
  have RM9 : Hid (Rd w9 B (rcCells m)) := Lib.hid (by rw [hw9]; exact RM6.out.below (below_drewN (Below.refl _ _) _))
  have HB9 : Hid (Below w.heap.size w w9) := Lib.hid (by rw [hw9]; exact below_drewN HB6.out _)
  clear hw9 R35 R45 R55 RM6 HB6
  go_wp2_with fail
  have P4 := fold_is A3 R c3 rest w9 R39.out HRL.out (fun x hx => by have := (HRM.out x hx).key; omega) (by have := HRN.out; omega)
  rw [HFR.out, HFF.out] at P4
  unfold FoldPost at P4
  rw [HLF.out] at P4
  refine P4.mono ?_
  clear P4
  rintro e wg ⟨A7, c7, rfl, ho7, hbg⟩
  have HO7 := Lib.hid ho7
  have RM10 := Lib.hid (RM9.out.below hbg)
  have HB10 := Lib.hid (HB9.out.trans (hbg.mono HB9.out.size))
  clear ho7 hbg RM9 HB9 R39
  go_wp2_with fail
  have P5 := fold_is B N d m wg RM10.out HN.out (fun x hx => by have := (HMY.out x hx).key; omega) (by omega)
  rw [HFF.out] at P5
  unfold FoldPost at P5
  rw [HLF.out] at P5
  refine P5.mono ?_
  clear P5
  rintro e wh ⟨A8, c8, rfl, ho8, hbh⟩
  have R8 := Lib.hid (rd_own ho8)
  have R78 := Lib.hid (rd_own (own_below HO7.out hbh))
  have HB11 := Lib.hid (HB10.out.trans (hbh.mono HB10.out.size))
  clear ho8 hbh HO7 RM10 HB10
  go_wp2_with fail
  refine (alike_yes A7 A8 LF c7 c8 F wh R78.out R8.out HLF.out (by have := HFL.out; omega)).mono ?_
  rintro e wi ⟨rfl, di, hwi⟩
  have HB12 : Hid (Below w.heap.size w wi) := Lib.hid (by rw [hwi]; exact below_drewN HB11.out _)
  clear hwi R8 R78 HB11
  go_wp2_with fail
  go_ret
  exact ⟨rfl, HB12.out⟩
end Go.Proofs.Ytjipebedibjoiaa
