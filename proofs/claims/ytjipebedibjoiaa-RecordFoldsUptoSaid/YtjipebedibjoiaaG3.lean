/- Several texts in one: RecRFold, WalkRecordFolds. -/
import Derived.Test.YtjipebedibjoiaaG1
import Derived.Test.YtjipebedibjoiaaC2
import Derived.Test.YtjipebedibjoiaaD4
/- chronicleref4.Fold (printed by gen_rcrfold.py). -/
namespace Go.Proofs.Ytjipebedibjoiaa
open Go Go.RowKit
set_option linter.unusedVariables false
set_option linter.unusedSimpArgs false

theorem rcCells_drop (l : List Rc) (p : Nat) : rcCells (l.drop p) = (rcCells l).drop (p * 7) := by
  by_cases h : p ≤ l.length
  · have e : rcCells l = rcCells (l.take p) ++ rcCells (l.drop p) := by rw [← rcCells_append, List.take_append_drop]
    have hl : (rcCells (l.take p)).length = p * 7 := by rw [rcCells_length, List.length_take]; omega
    rw [e, List.drop_left' hl]
  · rw [List.drop_of_length_le (by omega), List.drop_of_length_le (by rw [rcCells_length]; omega)]
    rfl
theorem rd_drop_rc {w : World} {g : Nat} {l : List Rc} (h : Rd w (some ⟨g, 0, none⟩) (rcCells l)) (p : Nat) : Rd w (some ⟨g, p * 7, none⟩) (rcCells (l.drop p)) := by
  intro hn
  obtain ⟨g', off, e, hg, hc⟩ := h (by rintro e; apply hn; rw [rcCells_drop, e, List.drop_nil])
  injection e with e
  injection e with e1 e2
  subst e1 e2
  refine ⟨g, p * 7, rfl, hg, fun k u hu => ?_⟩
  rw [rcCells_drop, List.getElem?_drop] at hu
  have := hc (p * 7 + k) u hu
  rw [Nat.zero_add] at this
  exact this
theorem own_pos' {w : World} {base : Nat} {e : TypeId} {size n c : Nat} {A : Option Addr} {xs : List Value} (h : w.ownsRow base e size (.slice A n c) n xs) (hc : 0 < c) : ∃ g, A = some ⟨g, 0, none⟩ := by
  rcases h.2 with ⟨hv, h0⟩ | ⟨g, cap, cur, hv, _⟩
  · injection hv with _ _ hv
    omega
  · injection hv with hv _ _
    exact ⟨g, hv⟩
theorem own_opt {w : World} {base : Nat} {e : TypeId} {size n c : Nat} {A : Option Addr} {xs : List Value} (h : w.ownsRow base e size (.slice A n c) n xs) : A = none ∨ ∃ g, A = some ⟨g, 0, none⟩ := by
  rcases h.2 with ⟨hv, h0⟩ | ⟨g, cap, cur, hv, _⟩
  · injection hv with hv _ _
    exact .inl hv
  · injection hv with hv _ _
    exact .inr ⟨g, hv⟩
set_option maxHeartbeats 8000000 in
set_option maxRecDepth 100000 in
theorem rfold_is (A : Option Addr) (n c : Nat) (l : List Rc) (w : World) (hr : Rd w A (rcCells l)) (hn : l.length = n) (hk : ∀ x ∈ l, x.key.size ≤ 140737488355328) (hl : n ≤ 1099511627776) :
    Calls Try.prog 38 #[.slice A n c] w (FoldPost w (foldW l)) := by
  have HR := Lib.hid hr
  have HN := Lib.hid hn
  have HK := Lib.hid hk
  have PL := Lib.hid (fun W (hW : Below w.heap.size w W) (i : Nat) (x : Rc) (hx : l[i]? = some x) => rlast_is A n c i l x W (hr.below hW) hn hx hl)
  unfold RLastPost at PL
  have HFU : Hid (foldF l n = foldW l) := Lib.hid (by rw [foldW, hn])
  clear hr hn hk
  go_enter Try.func38, Try.ntmps38
  go_wp2
  go_loopw [3, 4] (fun o i wr => ∃ j : Nat, j ≤ n ∧ i = .int .i64 j ∧ wr.ownsRow w.heap.size 31 7 o (foldF l j).length (rcCells (foldF l j)) ∧ Below w.heap.size w wr) (fun _ i _ => n - (intOf i).toNat)
  case atStart => exact ⟨0, Nat.zero_le _, rfl, World.ownsRow_nil _ _ _ _, Below.refl _ _⟩
  case round =>
    obtain ⟨j, hj, rfl, hown, hbe⟩ := hrel
    have hfl := foldF_len l j
    have HME := Lib.hid (fun z => foldF_mem l z j)
    by_cases hlt : j < n
    · obtain ⟨x, hx⟩ : ∃ x, l[j]? = some x := ⟨_, List.getElem?_eq_getElem (by rw [HN.out]; exact hlt)⟩
      have HX := Lib.hid hx
      have HKX := Lib.hid (HK.out x (List.mem_of_getElem? hx))
      have HPT := Lib.hid (fun h h' => fold_put hx h h')
      have HSK := Lib.hid (fun h => fold_skip hx h)
      obtain ⟨acc, hacc⟩ : ∃ acc, acc = foldF l j := ⟨_, rfl⟩
      rw [← hacc] at hown hfl HME HPT HSK
      obtain ⟨N, hN⟩ : ∃ N, N = acc.length := ⟨_, rfl⟩
      rw [← hN] at hown hfl
      have HNN := Lib.hid hN
      obtain ⟨A5, c5, hv5, hc5a, hc5b, hA5⟩ := own_shape hown
      subst hv5
      have HO := Lib.hid hown
      have HB := Lib.hid hbe
      have P1 := Lib.hid (PL.out _ hbe j x hx)
      have hwz := hbe.size
      obtain ⟨g, off, rfl, hg, x0, x1, x2, x3, x4, x5, x6⟩ := (HR.out.below hbe).rec hx
      have i0 : (0 : Int) ≤ (j : Int) := by omega
      have i1 : (j : Int) < (n : Int) := by omega
      clear hx hacc hN hown hbe hA5
      by_cases hk1 : x.k = 1
      rotate_left
      · have HST := Lib.hid (HSK.out (fun h => hk1 h.1))
        obtain ⟨xk, xo, xt, xp, xs, xkey, xval⟩ := x
        simp only at x0 x1 x2 x3 x4 x5 x6 hk1
        have hkb : (xk != 1) = true := by rw [bne_iff_ne]; exact hk1
        clear HPT HSK hk1 P1
        go_wp2_with fail
        go_roundw
        case rel => exact ⟨j + 1, by omega, by go_num, by rw [HST.out, ← HNN.out]; exact HO.out, HB.out⟩
        case measure => simp [intOf]; omega
      obtain ⟨xk, xo, xt, xp, xs, xkey, xval⟩ := x
      simp only at x0 x1 x2 x3 x4 x5 x6 hk1 HKX HPT HSK
      have hkb : (xk != 1) = false := by rw [bne_eq_false_iff_eq]; exact hk1
      have HK1 := Lib.hid hk1
      clear hk1
      go_wp2_with fail
      refine P1.out.mono ?_
      rintro e w2 ⟨b, hb, rfl, hb2⟩
      have HO2 := Lib.hid (own_below HO.out hb2)
      have HB2 := Lib.hid (HB.out.trans (hb2.mono hwz))
      have HBB := Lib.hid hb
      have hs2 := hb2.size
      clear hb hb2 P1 HO HB x0 x1 x2 x3 x4 x5 x6
      cases b
      · have HST := Lib.hid (HSK.out (fun h => by have := HBB.out.2 h.2; cases this))
        clear HPT HSK HBB
        go_wp2_with fail
        go_roundw
        case rel => exact ⟨j + 1, by omega, by go_num, by rw [HST.out, ← HNN.out]; exact HO2.out, HB2.out⟩
        case measure => simp [intOf]; omega
      have HST := Lib.hid (HPT.out HK1.out (HBB.out.1 rfl))
      clear HPT HSK HBB
      go_wp2_with fail
      go_loopw [6] (fun kv wk => ∃ p : Nat, p ≤ N ∧ kv = .int .i64 p ∧ wk.ownsRow w.heap.size 31 7 (.slice A5 N c5) N (rcCells acc) ∧ Below w.heap.size w wk ∧ Hid (∀ i y, i < p → acc[i]? = some y → kcmp y ⟨xk, xo, xt, xp, xs, xkey, xval⟩ < 0)) (fun kv _ => N - (intOf kv).toNat)
      case atStart => exact ⟨0, Nat.zero_le _, rfl, HO2.out, HB2.out, Lib.hid (fun i y h => absurd h (Nat.not_lt_zero _))⟩
      case round =>
        obtain ⟨p, hp, rfl, hok, hbk, HC⟩ := hrel
        have HO3' := Lib.hid hok
        have HBK := Lib.hid hbk
        obtain ⟨g2, off2, he, hg2, x0, x1, x2, x3, x4, x5, x6⟩ := (HR.out.below hbk).rec HX.out
        injection he with he
        injection he with he1 he2
        subst he1 he2
        simp only at x0 x1 x2 x3 x4 x5 x6
        clear hok hbk HO2 HB2 hs2
        by_cases hpl : p < N
        · obtain ⟨y, hy⟩ : ∃ y, acc[p]? = some y := ⟨_, List.getElem?_eq_getElem (by rw [← HNN.out]; exact hpl)⟩
          obtain ⟨g5, hA, hg51, hg52, _, _⟩ := own_pos HO3'.out (by omega)
          subst hA
          obtain ⟨g6, off6, he, hg6, y0, y1, y2, y3, y4, y5, y6⟩ := (rd_own HO3'.out).rec hy
          injection he with he
          injection he with he1 he2
          subst he1 he2
          have hky : y.key.size ≤ 140737488355328 := by
            obtain ⟨i, _, hi, _⟩ := (HME.out y).1 (List.mem_of_getElem? hy)
            exact HK.out y (List.mem_of_getElem? hi)
          obtain ⟨z, hz⟩ : ∃ z, z = cmp (sb y.key) (sb xkey) := ⟨_, rfl⟩
          have PC := Lib.hid (fun W => rcompare_any y.key xkey W hky HKX.out)
          rw [← hz] at PC
          have HZ := Lib.hid hz
          have HY := Lib.hid hy
          have p0 : (0 : Int) ≤ (p : Int) := by omega
          have p1 : (p : Int) < (N : Int) := by omega
          have p2 : decide (p < N) = true := decide_eq_true hpl
          obtain ⟨yk, yo, yt, yp, ys, ykey, yval⟩ := y
          simp only [Nat.zero_add] at y0 y1 y2 y3 y4 y5 y6
          simp only at PC
          clear hz hy hky
          by_cases hzl : z < 0
          · have HC2 : Hid (∀ i y, i < p + 1 → acc[i]? = some y → kcmp y ⟨xk, xo, xt, xp, xs, xkey, xval⟩ < 0) := Lib.hid (fun i y h1 h2 => by
              by_cases hip : i = p
              · subst hip
                rw [HY.out] at h2
                injection h2 with h2
                subst h2
                show cmp _ _ < 0
                rw [← HZ.out]
                exact hzl
              · exact HC.out i y (by omega) h2)
            have hzd : decide (z < 0) = true := decide_eq_true hzl
            clear HC HY HZ
            go_wp2_with fail
            go_quiet (exact Calls.quiet_of (PC.out _))
            go_wp2_with fail
            go_roundw
            case rel => exact ⟨p + 1, by omega, by go_num, own_below HO3'.out (below_drewN (Below.refl _ _) _), below_drewN HBK.out _, HC2⟩
            case measure => simp [intOf]; omega
          · have HI : Hid (insK ⟨xk, xo, xt, xp, xs, xkey, xval⟩ acc = acc.take p ++ ⟨xk, xo, xt, xp, xs, xkey, xval⟩ :: acc.drop p) := Lib.hid (insK_at (by rw [← HNN.out]; exact hp) HC.out (fun y h2 => by
              rw [HY.out] at h2
              injection h2 with h2
              subst h2
              show ¬ cmp _ _ < 0
              rw [← HZ.out]
              exact hzl))
            have hzd : decide (z < 0) = false := decide_eq_false hzl
            have i2 : ¬ c5 = p := by omega
            have p4 : (p : Int) ≤ (N : Int) := by omega
            have p5 : (p : Int) ≤ (c5 : Int) := by omega
            clear HC HY HZ
            go_wp2_with fail
            go_quiet (exact Calls.quiet_of (PC.out _))
            obtain ⟨W, hW⟩ : ∃ W, W = wr.drewN nq := ⟨_, rfl⟩
            have HOW : Hid (W.ownsRow w.heap.size 31 7 (.slice (some ⟨g5, 0, none⟩) N c5) N (rcCells acc)) := Lib.hid (by rw [hW]; exact own_below HO3'.out (below_drewN (Below.refl _ _) _))
            have HBW : Hid (Below w.heap.size w W) := Lib.hid (by rw [hW]; exact below_drewN HBK.out _)
            obtain ⟨gx, offx, hex, hgx, x0, x1, x2, x3, x4, x5, x6⟩ := (HR.out.below HBW.out).rec HX.out
            injection hex with hex
            injection hex with hex1 hex2
            subst hex1 hex2
            simp only at x0 x1 x2 x3 x4 x5 x6
            have RT := Lib.hid (show Rd W ((some ⟨g5, 0, none⟩)) (rcCells (acc.take p)) by rw [rcCells_take]; exact (rd_own HOW.out).take_ _)
            have RD := Lib.hid (show Rd W (some ⟨g5, p * 7, none⟩) (rcCells (acc.drop p)) from rd_drop_rc (rd_own HOW.out) p)
            have hws := HBW.out.size
            rw [← hW]
            clear hW HO3' HBK hg2
            have x0' := fun (w' : World) (hb : Below W.heap.size W w') => hb
            go_wp2_with (first
              | (at_builtin; (refine appR W rfl (.tmp 45) (.tmp 48) rfl W.heap.size (.slice none 0 0) 0 [] rfl (World.ownsRow_nil _ _ _ _) _ p _ (acc.take p) rfl (by rw [List.length_take, ← HNN.out]; omega) RT.out (by omega) (Nat.le_refl _) ?_); intro v1 w1 hown1 hg1 hn1; have HO1 := Lib.hid hown1; have hb1 := below_of_grown hg1 (Nat.le_refl _) (fun q hq => by cases hq); have HB1 := Lib.hid hb1; have hs1 := hb1.size; have y0 := (hb1.cell (p := ⟨_, _, none⟩) hgx).trans x0; have y1 := (hb1.cell (p := ⟨_, _, none⟩) hgx).trans x1; have y2 := (hb1.cell (p := ⟨_, _, none⟩) hgx).trans x2; have y3 := (hb1.cell (p := ⟨_, _, none⟩) hgx).trans x3; have y4 := (hb1.cell (p := ⟨_, _, none⟩) hgx).trans x4; have y5 := (hb1.cell (p := ⟨_, _, none⟩) hgx).trans x5; have y6 := (hb1.cell (p := ⟨_, _, none⟩) hgx).trans x6; have hgx1 : _ < w1.heap.size := Nat.lt_of_lt_of_le hgx hs1; clear hown1 hg1 hn1 hb1)
              | (at_builtin; (refine pushR _ rfl (.tmp 50) (.tmp 55) rfl W.heap.size _ (0 + p) _ rfl HO1.out ⟨xk, xo, xt, xp, xs, xkey, xval⟩ _ (by first | rfl | simp) rfl (by omega) (by omega) ?_); intro v3 w3 hown3 hg3 hn3; have HO3 := Lib.hid hown3; have HB3 := Lib.hid (HB1.out.trans (below_of_grown hg3 HB1.out.size (fun q hq => (HO1.out.lt q hq).1))); have hs3 := HB3.out.size; clear hown3 hg3 hn3)
              | (at_builtin; go_loud ((refine appR w3 rfl (.tmp 57) (.tmp 60) rfl W.heap.size v3 (0 + p + 1) _ rfl HO3.out _ (N - p) _ (acc.drop p) rfl (by have := List.length_drop (l := acc) (i := p); have := HNN.out; omega) (RD.out.below HB3.out) (by omega) (by omega) ?_); intro v4 w4 hown4 hg4 hn4; have HO4 := Lib.hid hown4; have HB4 := Lib.hid (HBW.out.trans ((HB3.out.trans (below_of_grown hg4 HB3.out.size (fun q hq => (HO3.out.lt q hq).1))).mono hws)); clear hown4 hg4 hn4)))
            go_wp2_with fail
            go_roundw
            case rel => exact ⟨j + 1, by omega, by go_num, by
              have e1 : (foldF l (j + 1)).length = 0 + p + 1 + (N - p) := by rw [HST.out, insK_len, ← HNN.out]; omega
              have e2 : rcCells (foldF l (j + 1)) = [] ++ rcCells (acc.take p) ++ (⟨xk, xo, xt, xp, xs, xkey, xval⟩ : Rc).cells ++ rcCells (acc.drop p) := by rw [HST.out, HI.out, rcCells_append, rcCells_cons]; simp
              rw [e1, e2]
              exact own_lower HO4.out hws, HB4.out⟩
            case measure => simp [intOf]; omega
        · have hpN : p = N := by omega
          have HI : Hid (insK ⟨xk, xo, xt, xp, xs, xkey, xval⟩ acc = acc.take p ++ ⟨xk, xo, xt, xp, xs, xkey, xval⟩ :: acc.drop p) := Lib.hid (insK_at (by rw [← HNN.out]; exact hp) HC.out (fun y h2 => by
            have := (List.getElem?_eq_some_iff.1 h2).1
            rw [← HNN.out] at this
            omega))
          have HPN := Lib.hid hpN
          clear hpN
          have p2 : decide (p < N) = false := decide_eq_false hpl
          have p3 : decide ((p : Int) < (N : Int)) = false := decide_eq_false (by omega)
          have p0 : (0 : Int) ≤ (p : Int) := by omega
          have p4 : (p : Int) ≤ (N : Int) := by omega
          have p5 : (p : Int) ≤ (c5 : Int) := by omega
          clear HC
          go_wp2_with fail
          go_quiet (fail)
          by_cases i2 : c5 = p
          · have i3 := i2.symm
            clear i2
            subst i3
            rcases own_opt HO3'.out with hA | ⟨g5, hA⟩
            · subst hA
              obtain ⟨W, hW⟩ : ∃ W, W = wr.drewN nq := ⟨_, rfl⟩
              have HOW : Hid (W.ownsRow w.heap.size 31 7 (.slice none N p) N (rcCells acc)) := Lib.hid (by rw [hW]; exact own_below HO3'.out (below_drewN (Below.refl _ _) _))
              have HBW : Hid (Below w.heap.size w W) := Lib.hid (by rw [hW]; exact below_drewN HBK.out _)
              obtain ⟨gx, offx, hex, hgx, x0, x1, x2, x3, x4, x5, x6⟩ := (HR.out.below HBW.out).rec HX.out
              injection hex with hex
              injection hex with hex1 hex2
              subst hex1 hex2
              simp only at x0 x1 x2 x3 x4 x5 x6
              have RT := Lib.hid (show Rd W (none) (rcCells (acc.take p)) by rw [rcCells_take]; exact (rd_own HOW.out).take_ _)
              have RD := Lib.hid (show Rd W (none) (rcCells (acc.drop p)) from (by rw [List.drop_of_length_le (by rw [← HNN.out]; omega)]; exact Rd.nil_ _ _))
              have hws := HBW.out.size
              rw [← hW]
              clear hW HO3' HBK hg2
              have x0' := fun (w' : World) (hb : Below W.heap.size W w') => hb
              go_wp2_with (first
                | (at_builtin; (refine appR W rfl (.tmp 45) (.tmp 48) rfl W.heap.size (.slice none 0 0) 0 [] rfl (World.ownsRow_nil _ _ _ _) _ p _ (acc.take p) rfl (by rw [List.length_take, ← HNN.out]; omega) RT.out (by omega) (Nat.le_refl _) ?_); intro v1 w1 hown1 hg1 hn1; have HO1 := Lib.hid hown1; have hb1 := below_of_grown hg1 (Nat.le_refl _) (fun q hq => by cases hq); have HB1 := Lib.hid hb1; have hs1 := hb1.size; have y0 := (hb1.cell (p := ⟨_, _, none⟩) hgx).trans x0; have y1 := (hb1.cell (p := ⟨_, _, none⟩) hgx).trans x1; have y2 := (hb1.cell (p := ⟨_, _, none⟩) hgx).trans x2; have y3 := (hb1.cell (p := ⟨_, _, none⟩) hgx).trans x3; have y4 := (hb1.cell (p := ⟨_, _, none⟩) hgx).trans x4; have y5 := (hb1.cell (p := ⟨_, _, none⟩) hgx).trans x5; have y6 := (hb1.cell (p := ⟨_, _, none⟩) hgx).trans x6; have hgx1 : _ < w1.heap.size := Nat.lt_of_lt_of_le hgx hs1; clear hown1 hg1 hn1 hb1)
                | (at_builtin; (refine pushR _ rfl (.tmp 50) (.tmp 55) rfl W.heap.size _ (0 + p) _ rfl HO1.out ⟨xk, xo, xt, xp, xs, xkey, xval⟩ _ (by first | rfl | simp) rfl (by omega) (by omega) ?_); intro v3 w3 hown3 hg3 hn3; have HO3 := Lib.hid hown3; have HB3 := Lib.hid (HB1.out.trans (below_of_grown hg3 HB1.out.size (fun q hq => (HO1.out.lt q hq).1))); have hs3 := HB3.out.size; clear hown3 hg3 hn3)
                | (at_builtin; go_loud ((refine appR w3 rfl (.tmp 57) (.tmp 60) rfl W.heap.size v3 (0 + p + 1) _ rfl HO3.out _ 0 _ (acc.drop p) rfl (by have := List.length_drop (l := acc) (i := p); have := HNN.out; omega) (RD.out.below HB3.out) (by omega) (by omega) ?_); intro v4 w4 hown4 hg4 hn4; have HO4 := Lib.hid hown4; have HB4 := Lib.hid (HBW.out.trans ((HB3.out.trans (below_of_grown hg4 HB3.out.size (fun q hq => (HO3.out.lt q hq).1))).mono hws)); clear hown4 hg4 hn4)))
              go_wp2_with fail
              go_roundw
              case rel => exact ⟨j + 1, by omega, by go_num, by
                have e1 : (foldF l (j + 1)).length = 0 + p + 1 + 0 := by rw [HST.out, insK_len, ← HNN.out]; omega
                have e2 : rcCells (foldF l (j + 1)) = [] ++ rcCells (acc.take p) ++ (⟨xk, xo, xt, xp, xs, xkey, xval⟩ : Rc).cells ++ rcCells (acc.drop p) := by rw [HST.out, HI.out, rcCells_append, rcCells_cons]; simp
                rw [e1, e2]
                exact own_lower HO4.out hws, HB4.out⟩
              case measure => simp [intOf]; omega
            · subst hA
              obtain ⟨W, hW⟩ : ∃ W, W = wr.drewN nq := ⟨_, rfl⟩
              have HOW : Hid (W.ownsRow w.heap.size 31 7 (.slice (some ⟨g5, 0, none⟩) N p) N (rcCells acc)) := Lib.hid (by rw [hW]; exact own_below HO3'.out (below_drewN (Below.refl _ _) _))
              have HBW : Hid (Below w.heap.size w W) := Lib.hid (by rw [hW]; exact below_drewN HBK.out _)
              obtain ⟨gx, offx, hex, hgx, x0, x1, x2, x3, x4, x5, x6⟩ := (HR.out.below HBW.out).rec HX.out
              injection hex with hex
              injection hex with hex1 hex2
              subst hex1 hex2
              simp only at x0 x1 x2 x3 x4 x5 x6
              have RT := Lib.hid (show Rd W ((some ⟨g5, 0, none⟩)) (rcCells (acc.take p)) by rw [rcCells_take]; exact (rd_own HOW.out).take_ _)
              have RD := Lib.hid (show Rd W (some ⟨g5, 0, none⟩) (rcCells (acc.drop p)) from (by rw [List.drop_of_length_le (by rw [← HNN.out]; omega)]; exact Rd.nil_ _ _))
              have hws := HBW.out.size
              rw [← hW]
              clear hW HO3' HBK hg2
              have x0' := fun (w' : World) (hb : Below W.heap.size W w') => hb
              go_wp2_with (first
                | (at_builtin; (refine appR W rfl (.tmp 45) (.tmp 48) rfl W.heap.size (.slice none 0 0) 0 [] rfl (World.ownsRow_nil _ _ _ _) _ p _ (acc.take p) rfl (by rw [List.length_take, ← HNN.out]; omega) RT.out (by omega) (Nat.le_refl _) ?_); intro v1 w1 hown1 hg1 hn1; have HO1 := Lib.hid hown1; have hb1 := below_of_grown hg1 (Nat.le_refl _) (fun q hq => by cases hq); have HB1 := Lib.hid hb1; have hs1 := hb1.size; have y0 := (hb1.cell (p := ⟨_, _, none⟩) hgx).trans x0; have y1 := (hb1.cell (p := ⟨_, _, none⟩) hgx).trans x1; have y2 := (hb1.cell (p := ⟨_, _, none⟩) hgx).trans x2; have y3 := (hb1.cell (p := ⟨_, _, none⟩) hgx).trans x3; have y4 := (hb1.cell (p := ⟨_, _, none⟩) hgx).trans x4; have y5 := (hb1.cell (p := ⟨_, _, none⟩) hgx).trans x5; have y6 := (hb1.cell (p := ⟨_, _, none⟩) hgx).trans x6; have hgx1 : _ < w1.heap.size := Nat.lt_of_lt_of_le hgx hs1; clear hown1 hg1 hn1 hb1)
                | (at_builtin; (refine pushR _ rfl (.tmp 50) (.tmp 55) rfl W.heap.size _ (0 + p) _ rfl HO1.out ⟨xk, xo, xt, xp, xs, xkey, xval⟩ _ (by first | rfl | simp) rfl (by omega) (by omega) ?_); intro v3 w3 hown3 hg3 hn3; have HO3 := Lib.hid hown3; have HB3 := Lib.hid (HB1.out.trans (below_of_grown hg3 HB1.out.size (fun q hq => (HO1.out.lt q hq).1))); have hs3 := HB3.out.size; clear hown3 hg3 hn3)
                | (at_builtin; go_loud ((refine appR w3 rfl (.tmp 57) (.tmp 60) rfl W.heap.size v3 (0 + p + 1) _ rfl HO3.out _ 0 _ (acc.drop p) rfl (by have := List.length_drop (l := acc) (i := p); have := HNN.out; omega) (RD.out.below HB3.out) (by omega) (by omega) ?_); intro v4 w4 hown4 hg4 hn4; have HO4 := Lib.hid hown4; have HB4 := Lib.hid (HBW.out.trans ((HB3.out.trans (below_of_grown hg4 HB3.out.size (fun q hq => (HO3.out.lt q hq).1))).mono hws)); clear hown4 hg4 hn4)))
              go_wp2_with fail
              go_roundw
              case rel => exact ⟨j + 1, by omega, by go_num, by
                have e1 : (foldF l (j + 1)).length = 0 + p + 1 + 0 := by rw [HST.out, insK_len, ← HNN.out]; omega
                have e2 : rcCells (foldF l (j + 1)) = [] ++ rcCells (acc.take p) ++ (⟨xk, xo, xt, xp, xs, xkey, xval⟩ : Rc).cells ++ rcCells (acc.drop p) := by rw [HST.out, HI.out, rcCells_append, rcCells_cons]; simp
                rw [e1, e2]
                exact own_lower HO4.out hws, HB4.out⟩
              case measure => simp [intOf]; omega
          · obtain ⟨g5, hA⟩ := own_pos' HO3'.out (by omega)
            subst hA
            obtain ⟨W, hW⟩ : ∃ W, W = wr.drewN nq := ⟨_, rfl⟩
            have HOW : Hid (W.ownsRow w.heap.size 31 7 (.slice (some ⟨g5, 0, none⟩) N c5) N (rcCells acc)) := Lib.hid (by rw [hW]; exact own_below HO3'.out (below_drewN (Below.refl _ _) _))
            have HBW : Hid (Below w.heap.size w W) := Lib.hid (by rw [hW]; exact below_drewN HBK.out _)
            obtain ⟨gx, offx, hex, hgx, x0, x1, x2, x3, x4, x5, x6⟩ := (HR.out.below HBW.out).rec HX.out
            injection hex with hex
            injection hex with hex1 hex2
            subst hex1 hex2
            simp only at x0 x1 x2 x3 x4 x5 x6
            have RT := Lib.hid (show Rd W ((some ⟨g5, 0, none⟩)) (rcCells (acc.take p)) by rw [rcCells_take]; exact (rd_own HOW.out).take_ _)
            have RD := Lib.hid (show Rd W (some ⟨g5, p * 7, none⟩) (rcCells (acc.drop p)) from rd_drop_rc (rd_own HOW.out) p)
            have hws := HBW.out.size
            rw [← hW]
            clear hW HO3' HBK hg2
            have x0' := fun (w' : World) (hb : Below W.heap.size W w') => hb
            go_wp2_with (first
              | (at_builtin; (refine appR W rfl (.tmp 45) (.tmp 48) rfl W.heap.size (.slice none 0 0) 0 [] rfl (World.ownsRow_nil _ _ _ _) _ p _ (acc.take p) rfl (by rw [List.length_take, ← HNN.out]; omega) RT.out (by omega) (Nat.le_refl _) ?_); intro v1 w1 hown1 hg1 hn1; have HO1 := Lib.hid hown1; have hb1 := below_of_grown hg1 (Nat.le_refl _) (fun q hq => by cases hq); have HB1 := Lib.hid hb1; have hs1 := hb1.size; have y0 := (hb1.cell (p := ⟨_, _, none⟩) hgx).trans x0; have y1 := (hb1.cell (p := ⟨_, _, none⟩) hgx).trans x1; have y2 := (hb1.cell (p := ⟨_, _, none⟩) hgx).trans x2; have y3 := (hb1.cell (p := ⟨_, _, none⟩) hgx).trans x3; have y4 := (hb1.cell (p := ⟨_, _, none⟩) hgx).trans x4; have y5 := (hb1.cell (p := ⟨_, _, none⟩) hgx).trans x5; have y6 := (hb1.cell (p := ⟨_, _, none⟩) hgx).trans x6; have hgx1 : _ < w1.heap.size := Nat.lt_of_lt_of_le hgx hs1; clear hown1 hg1 hn1 hb1)
              | (at_builtin; (refine pushR _ rfl (.tmp 50) (.tmp 55) rfl W.heap.size _ (0 + p) _ rfl HO1.out ⟨xk, xo, xt, xp, xs, xkey, xval⟩ _ (by first | rfl | simp) rfl (by omega) (by omega) ?_); intro v3 w3 hown3 hg3 hn3; have HO3 := Lib.hid hown3; have HB3 := Lib.hid (HB1.out.trans (below_of_grown hg3 HB1.out.size (fun q hq => (HO1.out.lt q hq).1))); have hs3 := HB3.out.size; clear hown3 hg3 hn3)
              | (at_builtin; go_loud ((refine appR w3 rfl (.tmp 57) (.tmp 60) rfl W.heap.size v3 (0 + p + 1) _ rfl HO3.out _ (N - p) _ (acc.drop p) rfl (by have := List.length_drop (l := acc) (i := p); have := HNN.out; omega) (RD.out.below HB3.out) (by omega) (by omega) ?_); intro v4 w4 hown4 hg4 hn4; have HO4 := Lib.hid hown4; have HB4 := Lib.hid (HBW.out.trans ((HB3.out.trans (below_of_grown hg4 HB3.out.size (fun q hq => (HO3.out.lt q hq).1))).mono hws)); clear hown4 hg4 hn4)))
            go_wp2_with fail
            go_roundw
            case rel => exact ⟨j + 1, by omega, by go_num, by
              have e1 : (foldF l (j + 1)).length = 0 + p + 1 + (N - p) := by rw [HST.out, insK_len, ← HNN.out]; omega
              have e2 : rcCells (foldF l (j + 1)) = [] ++ rcCells (acc.take p) ++ (⟨xk, xo, xt, xp, xs, xkey, xval⟩ : Rc).cells ++ rcCells (acc.drop p) := by rw [HST.out, HI.out, rcCells_append, rcCells_cons]; simp
              rw [e1, e2]
              exact own_lower HO4.out hws, HB4.out⟩
            case measure => simp [intOf]; omega
    · have hjn : j = n := by omega
      subst hjn
      obtain ⟨A5, c5, hv5, hc5a, hc5b, hA5⟩ := own_shape hown
      rw [HFU.out] at hown hv5
      obtain ⟨N, hN⟩ : ∃ N, N = (foldW l).length := ⟨_, rfl⟩
      rw [← hN] at hown hv5
      subst hv5
      have HO := Lib.hid hown
      have HB := Lib.hid hbe
      have HNN := Lib.hid hN
      clear hown hbe hA5 hN HME hfl hc5a
      go_wp2_with fail
      go_ret
      exact foldpost_mk HNN.out HO.out (Nat.le_refl _) HB.out
end Go.Proofs.Ytjipebedibjoiaa

/- The walk of RecordFolds. -/
namespace Go.Proofs.Ytjipebedibjoiaa
open Go Go.RowKit
set_option linter.unusedVariables false
set_option linter.unusedSimpArgs false

set_option maxHeartbeats 2000000 in
set_option maxRecDepth 100000 in
theorem recordFoldsU_walk (A0 : Option Addr) (c0 : Nat) (b0 : List Rc) (w : World) (c0l : b0.length ≤ c0) (r0 : Rd w A0 (rcCells b0)) (y0 : ∀ x ∈ b0, x.Ok) (l0 : b0.length * 72 ≤ 140737488351232) (ub : b0.length ≤ 1048576) :
    Calls Try.prog 8 #[.slice A0 b0.length c0] w fun e w' => e = .returned (.bool true) ∧ Below w.heap.size w w' := by
  obtain ⟨n, hn⟩ : ∃ n, n = b0.length := ⟨_, rfl⟩
  rw [← hn] at c0l ub ⊢
  have HN := Lib.hid hn.symm
  have HR0 := Lib.hid r0
  have hk0 : ∀ x ∈ b0, x.key.size ≤ 140737488355328 := fun x hx => by have := (y0 x hx).key; omega
  have hkm : ∀ x ∈ b0.map mv, x.key.size ≤ 140737488355328 := fun x hx => by
    obtain ⟨y, hy, rfl⟩ := List.mem_map.1 hx
    exact hk0 y hy
  have PM := Lib.hid (moved_is A0 n c0 b0 w r0 hn.symm (by omega))
  have PC := Lib.hid (fun A c W (hr : Rd W A (rcCells (b0.map mv))) => fold_is A n c (b0.map mv) W hr (by rw [List.length_map, hn]) hkm (by omega))
  have PR := Lib.hid (fun W (hb : Below w.heap.size w W) => rfold_is A0 n c0 b0 W (r0.below hb) hn.symm hk0 (by omega))
  have hlen := foldW_len b0
  rw [← hn] at hlen
  have PC0 := Lib.hid (fun A c W (hr : Rd W A (rcCells b0)) => fold_is A n c b0 W hr hn.symm hk0 (by omega))
  obtain ⟨K, hq⟩ : ∃ q, q = foldW b0 := ⟨_, rfl⟩
  rw [← hq] at PR PC0 hlen
  unfold FoldPost at PC PR PC0
  obtain ⟨N, hN⟩ : ∃ N, N = K.length := ⟨_, rfl⟩
  rw [← hN] at PR PC0 hlen
  have HNN := Lib.hid hN.symm
  have bN : ((N : Int) + 64 == IntKind.i64.wrap ((N : Int) + 64)) = true := by rw [IntKind.wrap_i64, beq_iff_eq]; omega
  clear hn r0 y0 l0 hq hN hk0 hkm
  go_enter Try.func8, Try.ntmps8
  go_wp2_with fail
  refine PM.out.mono ?_
  rintro e wa ⟨B, d, rfl, hof, hba⟩
  obtain ⟨gf, hB, hgf1, hgf2, hcf, hcm⟩ := own_pos hof (by omega)
  subst hB
  have HF := Lib.hid (⟨hof, hba⟩ : FullR w wa gf d n (b0.map mv))
  have RF := Lib.hid (HF.out.rf (by rw [List.length_map, HN.out]))
  clear hof hba hgf1 hgf2 hcf hcm PM
  go_wp2_with fail
  refine (PC.out _ d wa RF.out).mono ?_
  rintro e w3 ⟨A3, c3, rfl, -, hb3⟩
  have HF3 := Lib.hid (HF.out.below hb3)
  clear hb3 HF RF PC
  go_wp2_with fail
  refine (back_is gf d n c0 A0 (b0.map mv) b0 w w3 HF3.out (by rw [List.length_map, HN.out]) HR0.out HN.out (by omega)).mono ?_
  rintro e w4 ⟨rfl, hf4⟩
  have HF4 := Lib.hid hf4
  have G4 := Lib.hid (hf4.rf HN.out)
  clear hf4 HF3
  go_wp2_with fail
  refine (PC0.out _ d w4 G4.out).mono ?_
  rintro e w5 ⟨A5, c5, rfl, ho5, hb5⟩
  have HO5 := Lib.hid ho5
  have HF5 := Lib.hid (HF4.out.below hb5)
  have G5 := Lib.hid (HF5.out.rf HN.out)
  clear ho5 hb5 HF4 G4
  go_wp2_with fail
  refine (PC0.out _ d w5 G5.out).mono ?_
  rintro e w6 ⟨A6, c6, rfl, ho6, hb6⟩
  have HO6 := Lib.hid ho6
  have HB6 := Lib.hid hb6
  clear ho6 hb6 G5
  go_wp2_with fail
  refine (spoilt_own w5.heap.size N _ (rcCells K) w6 HO6.out (by omega) HB6.out.size).mono ?_
  rintro e w7 ⟨rfl, hb7⟩
  have HB7 := Lib.hid (HB6.out.trans hb7)
  have HF7 := Lib.hid (HF5.out.below HB7.out)
  have HO57 := Lib.hid (own_below HO5.out HB7.out)
  clear hb7 HF5 HO5 HB6 HO6 HB7
  go_wp2_with fail
  refine (PR.out _ HF7.out.be).mono ?_
  rintro e w8 ⟨A8, c8, rfl, ho8, hb8⟩
  have HO8 := Lib.hid ho8
  have HF8 := Lib.hid (HF7.out.below hb8)
  have HO58 := Lib.hid (own_below HO57.out hb8)
  clear ho8 hb8 HF7 HO57 PR
  go_wp2_with fail
  refine (alike_yes A5 A8 N c5 c8 K w8 (rd_own HO58.out) (rd_own HO8.out) HNN.out (by omega)).mono ?_
  rintro e w9 ⟨rfl, d9, rfl⟩
  have HF9 := Lib.hid (HF8.out.below (below_drewN (Below.refl _ _) d9))
  have R9 := Lib.hid (HR0.out.below HF9.out.be)
  go_wp2_with fail
  refine (kept_is gf d n c0 A0 b0 w _ HF9.out R9.out HN.out (by omega)).mono ?_
  rintro e w10 ⟨rfl, d10, rfl⟩
  go_wp2_with fail
  go_ret
  exact ⟨rfl, below_drewN HF8.out.be _⟩
end Go.Proofs.Ytjipebedibjoiaa
