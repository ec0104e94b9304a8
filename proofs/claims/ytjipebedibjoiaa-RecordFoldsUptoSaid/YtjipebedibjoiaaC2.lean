/- Several texts in one: RecRLast, RecRCompact. -/
import Derived.Test.YtjipebedibjoiaaC1
import Derived.BigQuiet
/- chronicleref4.last, Young. -/
namespace Go.Proofs.Ytjipebedibjoiaa
open Go Go.RowKit
set_option linter.unusedVariables false
set_option linter.unusedSimpArgs false

def RLastPost (l : List Rc) (i : Nat) (x : Rc) (w : World) (e : Ending) (w' : World) : Prop := ∃ b : Bool, (b = true ↔ Last l i x) ∧ e = .returned (.bool b) ∧ Below w.heap.size w w'
set_option maxHeartbeats 2000000 in
set_option maxRecDepth 100000 in
theorem rlast_is (A : Option Addr) (n c i : Nat) (l : List Rc) (x : Rc) (w : World) (hr : Rd w A (rcCells l)) (hn : l.length = n) (hx : l[i]? = some x) (hl : n ≤ 1099511627776) :
    Calls Try.prog 42 #[.slice A n c, .int .i64 (i : Int)] w (RLastPost l i x w) := by
  have HR := Lib.hid hr
  have HN := Lib.hid hn
  have HX := Lib.hid hx
  have hin : i < n := by rw [← hn]; exact (List.getElem?_eq_some_iff.1 hx).1
  have hw0 : IntKind.i64.wrap ((i : Int) + 1) = (i : Int) + 1 := by rw [IntKind.wrap_i64]; omega
  obtain ⟨g, off, rfl, hg, x0, x1, x2, x3, x4, x5, x6⟩ := hr.rec hx
  clear hr hn hx x0 x1 x2 x3 x4 x6
  go_enter Try.func42, Try.ntmps42
  go_wp2
  go_loopw [5] (fun iv wr => ∃ j : Nat, i + 1 ≤ j ∧ j ≤ n ∧ iv = .int .i64 j ∧ Below w.heap.size w wr ∧ Hid (∀ k y, i < k → k < j → l[k]? = some y → y.key ≠ x.key)) (fun iv _ => n - (intOf iv).toNat)
  case atStart => exact ⟨i + 1, Nat.le_refl _, by omega, by go_num, Below.refl _ _, Lib.hid (fun k y h1 h2 => by omega)⟩
  case round =>
    obtain ⟨j, hj1, hj, rfl, hbe, HC⟩ := hrel
    have HB := Lib.hid hbe
    by_cases hlt : j < n
    · obtain ⟨y, hy⟩ : ∃ y, l[j]? = some y := ⟨_, List.getElem?_eq_getElem (by rw [HN.out]; exact hlt)⟩
      obtain ⟨g', off', he, hg', y0, y1, y2, y3, y4, y5, y6⟩ := (HR.out.below hbe).rec hy
      have z5 := (hbe.cell (p := ⟨g, off + i * 7 + 5, none⟩) hg).trans x5
      injection he with he
      injection he with he1 he2
      subst he1 he2
      have j0 : (0 : Int) ≤ (j : Int) := by omega
      have j1 : (j : Int) < (n : Int) := by omega
      have i0 : (0 : Int) ≤ (i : Int) := by omega
      have i1 : (i : Int) < (n : Int) := by omega
      have HY := Lib.hid hy
      obtain ⟨xk, xo, xt, xp, xs, xkey, xval⟩ := x
      obtain ⟨yk, yo, yt, yp, ys, ykey, yval⟩ := y
      simp only at z5 y5 HC
      clear hy y0 y1 y2 y3 y4 y6 x5 hbe
      by_cases hk : ykey = xkey
      · have hkb : (ykey == xkey) = true := (MapKept.bytes_beq _ _).2 hk
        have HF : Hid (false = true ↔ Last l i ⟨xk, xo, xt, xp, xs, xkey, xval⟩) := Lib.hid ⟨fun h => (Bool.false_ne_true h).elim, fun h => absurd hk (h j _ (by omega) HY.out)⟩
        have hkd : decide (ykey = xkey) = true := decide_eq_true hk
        subst hk
        go_wp2_with fail
        go_quiet (fail)
        go_wp2_with fail
        go_ret
        exact ⟨_, HF.out, rfl, below_drewN HB.out _⟩
      · have hkb : (ykey == xkey) = false := by cases h : ykey == xkey; rfl; exact absurd ((MapKept.bytes_beq _ _).1 h) hk
        have HC2 : Hid (∀ k y, i < k → k < j + 1 → l[k]? = some y → y.key ≠ xkey) := Lib.hid (fun k y h1 h2 h3 => by
          by_cases hkj : k = j
          · subst hkj; rw [HY.out] at h3; injection h3 with h3; subst h3; exact hk
          · exact HC.out k y h1 (by omega) h3)
        have hkd : (ykey.toList == xkey.toList) = false := by rw [ByteArray.toList_eq, ByteArray.toList_eq, beq_eq_false_iff_ne]; exact fun h => hk (WideShapes.bytes_inj h)
        clear HC
        go_wp2_with fail
        go_quiet (fail)
        go_wp2_with fail
        go_roundw
        case rel => exact ⟨j + 1, by omega, by omega, by go_num, below_drewN HB.out _, HC2⟩
        case measure => simp [intOf]; omega
    · have hjn : j = n := by omega
      subst hjn
      have HF : Hid (Last l i x) := Lib.hid (fun k y h1 h2 => HC.out k y h1 (by rw [← HN.out]; exact (List.getElem?_eq_some_iff.1 h2).1) h2)
      clear HC hbe x5
      go_wp2_with fail
      go_ret
      exact ⟨true, ⟨fun _ => HF.out, fun _ => rfl⟩, rfl, HB.out⟩
end Go.Proofs.Ytjipebedibjoiaa

/- chronicleref4.Young, Compact. -/
namespace Go.Proofs.Ytjipebedibjoiaa
open Go Go.RowKit
set_option linter.unusedVariables false
set_option linter.unusedSimpArgs false

set_option maxRecDepth 100000 in
theorem ryoung_is (t now hor : Int) (w : World) (ht : 0 ≤ t ∧ t < 1125899906842624) (hh : 0 ≤ hor) :
    Calls Try.prog 43 #[.int .i64 t, .int .i64 now, .int .i64 hor] w fun e w' => e = .returned (.bool (decide (now < t + min hor 1099511627776))) ∧ w = w' := by
  obtain ⟨ht1, ht2⟩ := ht
  obtain ⟨H, hH⟩ : ∃ H : Int, H = min hor 1099511627776 := ⟨_, rfl⟩
  rw [← hH]
  have hH0 : 0 ≤ H := by rw [hH]; omega
  have hH1 : H ≤ 1099511627776 := by rw [hH]; omega
  have hw : IntKind.i64.wrap (t + H) = t + H := by rw [IntKind.wrap_i64]; omega
  have HHH := Lib.hid hH
  clear hH
  by_cases h3 : hor ≤ 1099511627776
  · have hHe : H = hor := by rw [HHH.out]; omega
    subst hHe
    clear HHH
    go_enter Try.func43, Try.ntmps43
    go_wp2
    go_ret
    exact ⟨rfl, rfl⟩
  · have hHe : H = 1099511627776 := by rw [HHH.out]; omega
    subst hHe
    clear HHH
    go_enter Try.func43, Try.ntmps43
    go_wp2
    go_ret
    exact ⟨rfl, rfl⟩
set_option maxHeartbeats 4000000 in
set_option maxRecDepth 100000 in
theorem rcompact_is (A : Option Addr) (n c : Nat) (l : List Rc) (now hor : Int) (w : World) (hr : Rd w A (rcCells l)) (hn : l.length = n) (hl : n ≤ 1099511627776) :
    Calls Try.prog 19 #[.slice A n c, .int .i64 now, .int .i64 hor] w (CmpPost w (cmpW l now hor)) := by
  have HR := Lib.hid hr
  have HN := Lib.hid hn
  obtain ⟨q, hq⟩ : ∃ q, q = cmpW l now hor := ⟨_, rfl⟩
  rw [← hq]
  have HQ := Lib.hid hq
  have PL := Lib.hid (fun W (hW : Below w.heap.size w W) (i : Nat) (x : Rc) (hx : l[i]? = some x) => rlast_is A n c i l x W (hr.below hW) hn hx hl)
  unfold RLastPost at PL
  clear hr hn hq
  go_enter Try.func19, Try.ntmps19
  by_cases h1 : now < 0
  · have HE := Lib.hid (HQ.out.trans (cmpW_no (.inl h1)))
    clear PL
    go_wp2
    go_ret2
    exact cmppost_nil HE.out (Below.refl _ _)
  by_cases h2 : hor < 0
  · have HE := Lib.hid (HQ.out.trans (cmpW_no (.inr (.inl h2))))
    clear PL
    go_wp2
    go_ret2
    exact cmppost_nil HE.out (Below.refl _ _)
  have HY := Lib.hid (fun h3 => HQ.out.trans (cmpW_yes (l := l) (now := now) (hor := hor) h1 h2 h3))
  have HNO := Lib.hid (fun h3 => HQ.out.trans (cmpW_no (l := l) (now := now) (hor := hor) (.inr (.inr h3))))
  clear HQ
  obtain ⟨H, hH⟩ : ∃ H : Int, H = min hor 1099511627776 := ⟨_, rfl⟩
  have PY := Lib.hid (fun t W (ht : 0 ≤ t ∧ t < 1125899906842624) => ryoung_is t now hor W ht (by omega))
  rw [← hH] at HY PY
  have hH0 : 0 ≤ H := by rw [hH]; omega
  have hH1 : H ≤ 1099511627776 := by rw [hH]; omega
  clear hH
  go_wp2_with fail
  go_loopw [8] (fun i wr => ∃ k : Nat, k ≤ n ∧ i = .int .i64 k ∧ Below w.heap.size w wr ∧ Hid (∀ j x, j < k → l[j]? = some x → chk x = 0)) (fun i _ => n - (intOf i).toNat)
  case atStart => exact ⟨0, Nat.zero_le _, rfl, Below.refl _ _, Lib.hid (fun j x h => absurd h (Nat.not_lt_zero _))⟩
  case round =>
    obtain ⟨k, hk, rfl, hbe, HC⟩ := hrel
    by_cases hlt : k < n
    · obtain ⟨x, hx⟩ : ∃ x, l[k]? = some x := ⟨_, List.getElem?_eq_getElem (by rw [HN.out]; exact hlt)⟩
      obtain ⟨g, off, rfl, hg, x0, x1, x2, x3, x4, x5, x6⟩ := (HR.out.below hbe).rec hx
      have PC := Lib.hid (fun W => rcheck_is x W)
      have HB := Lib.hid hbe
      have HX := Lib.hid hx
      obtain ⟨z, hz⟩ : ∃ z, z = chk x := ⟨_, rfl⟩
      rw [← hz] at PC
      have HZ := Lib.hid hz
      have i0 : (0 : Int) ≤ (k : Int) := by omega
      have i1 : (k : Int) < (n : Int) := by omega
      have HX2 := Lib.hid (fun (h : z ≠ 0) => (⟨x, List.mem_of_getElem? hx, by rw [← hz]; exact h⟩ : ∃ x ∈ l, chk x ≠ 0))
      have HC2 := Lib.hid (fun (h : z = 0) j y (hj : j < k + 1) (hy : l[j]? = some y) => (show chk y = 0 from by
        by_cases hjk : j = k
        · subst hjk; rw [hx] at hy; injection hy with hy; subst hy; rw [← hz]; exact h
        · exact HC.out j y (by omega) hy))
      obtain ⟨xk, xo, xt, xp, xs, xkey, xval⟩ := x
      unfold Rc.v at PC
      simp only at PC x0 x1 x2 x3 x4 x5 x6
      clear hx hz hbe PL HC HX HZ PY
      by_cases hz0 : z = 0
      · have HC3 := Lib.hid (HC2.out hz0)
        clear HC2 HX2
        subst hz0
        go_wp2_with fail
        refine (PC.out _).mono ?_
        rintro e w1 ⟨rfl, hb1⟩
        have HB1 := Lib.hid (HB.out.trans (hb1.mono HB.out.size))
        clear hb1
        go_wp2_with fail
        go_roundw
        case rel => exact ⟨k + 1, by omega, by go_num, HB1.out, HC3⟩
        case measure => simp [intOf]; omega
      · have HE := Lib.hid (HNO.out (HX2.out hz0))
        clear HC2 HX2
        have hz' : ((z : Int) != 0) = true := by rw [bne_iff_ne]; omega
        go_wp2_with fail
        refine (PC.out _).mono ?_
        rintro e w1 ⟨rfl, hb1⟩
        have HB1 := Lib.hid (HB.out.trans (hb1.mono HB.out.size))
        clear hb1
        go_wp2_with fail
        go_ret2
        exact cmppost_nil HE.out HB1.out
    · have hkn : k = n := by omega
      subst hkn
      have hck : ∀ x ∈ l, chk x = 0 := fun x hx => by
        obtain ⟨j, hj, rfl⟩ := List.getElem_of_mem hx
        exact HC.out j _ (by rw [← HN.out]; exact hj) (List.getElem?_eq_getElem hj)
      have HE := HY.out hck
      have hmay : ∀ x ∈ l, May x := fun x hx => chk_may (hck x hx)
      have HB := Lib.hid hbe
      have HMY := Lib.hid hmay
      have HEE := Lib.hid HE
      have HFL := Lib.hid (cmpF_len l now H)
      have HFM := Lib.hid (cmpF_mark l now H hmay)
      clear hck hmay hbe HE HC HNO HY
      obtain ⟨w1, hw1⟩ : ∃ w1, w1 = wr := ⟨_, rfl⟩
      subst hw1
      go_wp2_with fail
      go_loopw [9, 10, 11] (fun o mk i wr => ∃ j : Nat, j ≤ k ∧ i = .int .i64 j ∧ mk = .int .i64 (cmpF l now H j).2 ∧ wr.ownsRow w.heap.size 31 7 o (cmpF l now H j).1.length (rcCells (cmpF l now H j).1) ∧ Below w.heap.size w wr) (fun _ _ i _ => k - (intOf i).toNat)
      case atStart => exact ⟨0, Nat.zero_le _, rfl, rfl, World.ownsRow_nil _ _ _ _, HB.out⟩
      case round =>
        obtain ⟨j, hj, rfl, rfl, hown, hbe⟩ := hrel
        have hfl := HFL.out j
        have hfm := HFM.out j
        by_cases hlt : j < k
        · obtain ⟨x, hx⟩ : ∃ x, l[j]? = some x := ⟨_, List.getElem?_eq_getElem (by rw [HN.out]; exact hlt)⟩
          obtain ⟨g, off, rfl, hg, x0, x1, x2, x3, x4, x5, x6⟩ := (HR.out.below hbe).rec hx
          have hmx := HMY.out x (List.mem_of_getElem? hx)
          have PL1 := Lib.hid (PL.out _ hbe j x hx)
          have PY1 := Lib.hid (fun W => PY.out x.t W hmx.t)
          have HSK := Lib.hid (fun h => cmp_skip (now := now) (h := H) hx h)
          have HKP := Lib.hid (fun h h' => cmp_keep (now := now) (h := H) hx h h')
          have HDR := Lib.hid (fun h h' => cmp_drop (now := now) (h := H) hx h h')
          obtain ⟨⟨acc, z⟩, hq⟩ : ∃ q, q = cmpF l now H j := ⟨_, rfl⟩
          rw [← hq] at hown hfl hfm HSK HKP HDR ⊢
          simp only at hown hfl hfm HSK HKP HDR ⊢
          obtain ⟨N, hN⟩ : ∃ N, N = acc.length := ⟨_, rfl⟩
          rw [← hN] at hown hfl
          obtain ⟨A5, c5, hv5, hc5a, hc5b, hA5⟩ := own_shape hown
          subst hv5
          have HNN := Lib.hid hN
          have HO := Lib.hid hown
          have HBE := Lib.hid hbe
          have hw1 : IntKind.i64.wrap (x.o + 1) = x.o + 1 := by have := hmx.o; rw [IntKind.wrap_i64]; omega
          have hbs := hbe.size
          have i0 : (0 : Int) ≤ (j : Int) := by omega
          have i1 : (j : Int) < (k : Int) := by omega
          have HK12 := Lib.hid hmx.k
          obtain ⟨xk, xo, xt, xp, xs, xkey, xval⟩ := x
          simp only at x0 x1 x2 x3 x4 x5 x6 hw1 PY1 PL1 HSK HKP HDR HK12
          clear hx hmx hq hN hown hbe hA5 PL PY
          go_wp2_with fail
          refine PL1.out.mono ?_
          rintro e w2 ⟨b, hbl, rfl, hb2⟩
          have HBL := Lib.hid hbl
          have HO2 := Lib.hid (own_below HO.out hb2)
          have HBE2 := Lib.hid (HBE.out.trans (hb2.mono hbs))
          have y0 := (hb2.cell (p := ⟨g, off + j * 7, none⟩) hg).trans x0
          have y1 := (hb2.cell (p := ⟨g, off + j * 7 + 1, none⟩) hg).trans x1
          have y2 := (hb2.cell (p := ⟨g, off + j * 7 + 2, none⟩) hg).trans x2
          have y3 := (hb2.cell (p := ⟨g, off + j * 7 + 3, none⟩) hg).trans x3
          have y4 := (hb2.cell (p := ⟨g, off + j * 7 + 4, none⟩) hg).trans x4
          have y5 := (hb2.cell (p := ⟨g, off + j * 7 + 5, none⟩) hg).trans x5
          have y6 := (hb2.cell (p := ⟨g, off + j * 7 + 6, none⟩) hg).trans x6
          have hs2 := hb2.size
          have hg2 : g < w2.heap.size := by omega
          clear hbl hb2 x0 x1 x2 x3 x4 x5 x6 HO HBE PL1
          cases hbb : b with
          | false =>
            have HST := Lib.hid (HSK.out (fun h => by have := HBL.out.2 h; rw [hbb] at this; cases this))
            subst hbb
            clear HSK HKP HDR HBL
            go_wp2_with fail
            go_roundw
            case rel => exact ⟨j + 1, by omega, by go_num, by rw [HST.out], by rw [HST.out, ← HNN.out]; exact HO2.out, HBE2.out⟩
            case measure => simp [intOf]; omega
          | true =>
            have HLA := Lib.hid (HBL.out.1 hbb)
            subst hbb
            clear HBL HSK
            by_cases hk1 : xk = 1
            · have HST := Lib.hid (HKP.out HLA.out (.inl hk1))
              have hkb : (xk == 2) = false := by rw [beq_eq_false_iff_ne, hk1]; decide
              clear HKP HDR HLA PY1 hk1
              go_wp2_with (at_builtin; (refine pushR _ rfl (.tmp 65) (.tmp 70) rfl w.heap.size _ N (rcCells acc) rfl (by exact HO2.out) ⟨xk, xo, xt, xp, xs, xkey, xval⟩ _ (by simp) rfl (by omega) (by have := HBE2.out.size; simp; omega) ?_); intro v4 w4 hown4 hg4 hn4; have HO4 := Lib.hid hown4; have HB4 := Lib.hid (HBE2.out.trans (below_of_grown hg4 (by have := HBE2.out.size; simp; omega) (fun q hq => (HO2.out.lt q hq).1))); clear hown4 hg4 hn4)
              go_wp2_with fail
              go_roundw
              case rel => exact ⟨j + 1, by omega, by go_num, by rw [HST.out], by rw [HST.out, rcCells_append, List.length_append, ← HNN.out]; simpa [rcCells] using HO4.out, HB4.out⟩
              case measure => simp [intOf]; omega
            · have hkb : (xk == 2) = true := by rw [beq_iff_eq]; exact HK12.out.resolve_left hk1
              by_cases hy : now < xt + H
              · have HST := Lib.hid (HKP.out HLA.out (.inr hy))
                have hyd : decide (now < xt + H) = true := decide_eq_true hy
                rw [hyd] at PY1
                clear HKP HDR HLA hk1 hy hyd
                go_wp2_with fail
                refine (PY1.out _).mono ?_
                rintro e w3 ⟨rfl, rfl⟩
                go_wp2_with (at_builtin; (refine pushR _ rfl (.tmp 65) (.tmp 70) rfl w.heap.size _ N (rcCells acc) rfl (by exact HO2.out) ⟨xk, xo, xt, xp, xs, xkey, xval⟩ _ (by simp) rfl (by omega) (by have := HBE2.out.size; simp; omega) ?_); intro v4 w4 hown4 hg4 hn4; have HO4 := Lib.hid hown4; have HB4 := Lib.hid (HBE2.out.trans (below_of_grown hg4 (by have := HBE2.out.size; simp; omega) (fun q hq => (HO2.out.lt q hq).1))); clear hown4 hg4 hn4)
                go_wp2_with fail
                go_roundw
                case rel => exact ⟨j + 1, by omega, by go_num, by rw [HST.out], by rw [HST.out, rcCells_append, List.length_append, ← HNN.out]; simpa [rcCells] using HO4.out, HB4.out⟩
                case measure => simp [intOf]; omega
              · have HST := Lib.hid (HDR.out HLA.out (fun h => h.elim hk1 hy))
                have hyd : decide (now < xt + H) = false := decide_eq_false hy
                rw [hyd] at PY1
                clear HKP HDR HLA hk1 hy hyd
                go_wp2_with fail
                refine (PY1.out _).mono ?_
                rintro e w3 ⟨rfl, rfl⟩
                by_cases hmm : z ≤ xo + 1
                · have hmx : Hid (max z (xo + 1) = xo + 1) := Lib.hid (by omega)
                  go_wp2_with fail
                  go_roundw
                  case rel => exact ⟨j + 1, by omega, by go_num, by rw [HST.out]; simp only; rw [hmx.out]; congr 1; split <;> omega, by rw [HST.out]; simp only; rw [← HNN.out]; exact HO2.out, HBE2.out⟩
                  case measure => simp [intOf]; omega
                · have hmx : Hid (max z (xo + 1) = z) := Lib.hid (by omega)
                  go_wp2_with fail
                  go_roundw
                  case rel => exact ⟨j + 1, by omega, by go_num, by rw [HST.out]; simp only; rw [hmx.out]; congr 1; split <;> omega, by rw [HST.out]; simp only; rw [← HNN.out]; exact HO2.out, HBE2.out⟩
                  case measure => simp [intOf]; omega
        · have hjk : j = k := by omega
          subst hjk
          obtain ⟨A5, c5, hv5, hc5a, hc5b, hA5⟩ := own_shape hown
          subst hv5
          have HO := Lib.hid hown
          have HBE := Lib.hid hbe
          have HEND := Lib.hid (HEE.out.trans (by rw [HN.out]))
          clear hown hbe hfl hfm hA5 PL PY
          go_wp2_with fail
          go_ret2
          exact cmppost_mk (HEND.out) rfl HO.out HBE.out
end Go.Proofs.Ytjipebedibjoiaa
