/- Several texts in one: RecSpoil, RecMoved, RecKept. -/
import Derived.Test.YtjipebedibjoiaaD3
/- chroniclelaw4.spoilt. -/
namespace Go.Proofs.Ytjipebedibjoiaa
open Go Go.RowKit
set_option linter.unusedVariables false
set_option linter.unusedSimpArgs false

/-- Seven cells stored into a row of the call's own. -/
theorem own_put7 {w : World} {base g n c : Nat} {e : TypeId} {size : Nat} {xs : List Value} (h : w.ownsRow base e size (.slice (some ⟨g, 0, none⟩) n c) n xs) (j : Nat) (u0 u1 u2 u3 u4 u5 u6 : Value) :
    (((((((w.setCell ⟨g, j, none⟩ u0).setCell ⟨g, j + 1, none⟩ u1).setCell ⟨g, j + 2, none⟩ u2).setCell ⟨g, j + 3, none⟩ u3).setCell ⟨g, j + 4, none⟩ u4).setCell ⟨g, j + 5, none⟩ u5).setCell ⟨g, j + 6, none⟩ u6).ownsRow base e size (.slice (some ⟨g, 0, none⟩) n c) n (((((((xs.set j u0).set (j + 1) u1).set (j + 2) u2).set (j + 3) u3).set (j + 4) u4).set (j + 5) u5).set (j + 6) u6) ∧
    w.grownBy (((((((w.setCell ⟨g, j, none⟩ u0).setCell ⟨g, j + 1, none⟩ u1).setCell ⟨g, j + 2, none⟩ u2).setCell ⟨g, j + 3, none⟩ u3).setCell ⟨g, j + 4, none⟩ u4).setCell ⟨g, j + 5, none⟩ u5).setCell ⟨g, j + 6, none⟩ u6) (some g) := by
  have h0 := h.stored j u0
  have h1 := h0.1.stored (j + 1) u1
  have h2 := h1.1.stored (j + 2) u2
  have h3 := h2.1.stored (j + 3) u3
  have h4 := h3.1.stored (j + 4) u4
  have h5 := h4.1.stored (j + 5) u5
  have h6 := h5.1.stored (j + 6) u6
  exact ⟨h6.1, grown_trans h0.2 (grown_trans h1.2 (grown_trans h2.2 (grown_trans h3.2 (grown_trans h4.2 (grown_trans h5.2 h6.2)))))⟩
theorem own_len {w : World} {base n : Nat} {e : TypeId} {size : Nat} {v : Value} {xs : List Value} (h : w.ownsRow base e size v n xs) : xs.length = n * size := h.1
set_option maxHeartbeats 1000000 in
set_option maxRecDepth 100000 in
theorem spoilt_own (base n : Nat) (v : Value) (xs : List Value) (w : World) (h : w.ownsRow base 31 7 v n xs) (hl : n ≤ 1500000000000) (hb : base ≤ w.heap.size) :
    Calls Try.prog 18 #[v] w fun e w' => e = .returned (.int .i64 ((n : Int) + 64)) ∧ Below base w w' := by
  obtain ⟨A, c, rfl, hnc, hcm, hAb⟩ := own_shape h
  have HO := Lib.hid h
  clear h
  go_enter Try.func18, Try.ntmps18
  go_wp2
  go_loopw [3] (fun i wr => ∃ (k : Nat) (zs : List Value), k ≤ n ∧ i = .int .i64 k ∧ wr.ownsRow base 31 7 (.slice A n c) n zs ∧ Below base w wr) (fun i _ => n - (intOf i).toNat)
  case atStart => exact ⟨0, xs, Nat.zero_le _, rfl, HO.out, Below.refl _ _⟩
  case round =>
    obtain ⟨k, zs, hk, rfl, hown, hbel⟩ := hrel
    by_cases hlt : k < n
    · obtain ⟨g, hA, hgb, hgl, _, _⟩ := own_pos hown (by omega)
      subst hA
      have hz := own_len hown
      have hc : ∀ j, j < 7 → ∃ u, wr.cell? ⟨g, k * 7 + j, none⟩ = some u := fun j hj => ⟨_, (hown.cellAt (k * 7 + j) (by omega)).trans (List.getElem?_eq_getElem (by omega))⟩
      obtain ⟨y0, c0⟩ := hc 0 (by omega)
      obtain ⟨y1, c1⟩ := hc 1 (by omega)
      obtain ⟨y2, c2⟩ := hc 2 (by omega)
      obtain ⟨y3, c3⟩ := hc 3 (by omega)
      obtain ⟨y4, c4⟩ := hc 4 (by omega)
      obtain ⟨y5, c5⟩ := hc 5 (by omega)
      obtain ⟨y6, c6⟩ := hc 6 (by omega)
      rw [Nat.add_zero] at c0
      have f0 := hown.frozenAt (k * 7)
      have f1 := hown.frozenAt (k * 7 + 1)
      have f2 := hown.frozenAt (k * 7 + 2)
      have f3 := hown.frozenAt (k * 7 + 3)
      have f4 := hown.frozenAt (k * 7 + 4)
      have f5 := hown.frozenAt (k * 7 + 5)
      have f6 := hown.frozenAt (k * 7 + 6)
      have HS := Lib.hid (own_put7 hown (k * 7) (.int .i64 (-1)) (.int .i64 (k : Int)) (.int .i64 0) (.int .i64 0) (.int .i64 0) (.string ⟨#[]⟩) (.string ⟨#[]⟩))
      have HBE := Lib.hid hbel
      have i0 : (0 : Int) ≤ (k : Int) := by omega
      have i1 : (k : Int) < (n : Int) := by omega
      clear hown hz hc HO hbel
      go_wp2
      go_roundw
      case rel => exact ⟨k + 1, _, by omega, by go_num, HS.out.1, HBE.out.trans (below_of_grown HS.out.2 (by have := HBE.out.size; omega) (fun j hj => by injection hj with hj; subst hj; exact hgb))⟩
      case measure => simp [intOf]; omega
    · clear hnc hcm hAb HO
      obtain ⟨wo, hwo⟩ : ∃ wo : World, wo = wr := ⟨_, rfl⟩
      rw [← hwo] at hown hbel ⊢
      clear hwo
      go_wp2
      go_loopw [0, 4] (fun b i wr => ∃ (k : Nat) (zs : List Value), k ≤ 64 ∧ i = .int .i64 k ∧ wr.ownsRow base 31 7 b (n + k) zs ∧ Below base w wr) (fun _ i _ => 64 - (intOf i).toNat)
      case atStart => exact ⟨0, zs, Nat.zero_le _, rfl, hown, hbel⟩
      case round =>
        obtain ⟨j, ys, hj, rfl, hown', hbel'⟩ := hrel
        have hsz := hbel'.size
        by_cases hlt : j < 64
        · go_wp2_with (at_builtin; (refine pushR wr rfl (.tmp 20) (.tmp 22) rfl base u0 (n + j) ys rfl hown' ⟨-2, 0, 0, 0, 0, ⟨#[]⟩, ⟨#[]⟩⟩ _ rfl rfl (by omega) (by omega) ?_); intro v' w1 hown1 hg1 _)
          have hb1 := hbel'.trans (below_of_grown hg1 (by omega) (fun k hk => (hown'.lt k hk).1))
          clear hg1 hown'
          go_wp2
          go_roundw
          case rel => exact ⟨j + 1, _, by omega, by go_num, by rw [← Nat.add_assoc]; exact hown1, hb1⟩
          case measure => simp [intOf]; omega
        · have hj64 : j = 64 := by omega
          subst hj64
          obtain ⟨A', c', hv, _⟩ := own_shape hown'
          subst hv
          clear hown'
          go_wp2
          go_ret
          exact ⟨by go_num, hbel'⟩
end Go.Proofs.Ytjipebedibjoiaa

/- chroniclelaw4.moved, back, kept. -/
namespace Go.Proofs.Ytjipebedibjoiaa
open Go Go.RowKit
set_option linter.unusedVariables false
set_option linter.unusedSimpArgs false

def mv (x : Rc) : Rc := ⟨x.k, IntKind.i64.wrap (x.o + 1), IntKind.i64.wrap (x.t - 1), x.p, x.s, x.key, x.val⟩
def mk77 : Rc := ⟨-77, 0, 0, 0, 0, ⟨#[]⟩, ⟨#[]⟩⟩
theorem map_take_succ {l : List Rc} {j : Nat} {x : Rc} (h : l[j]? = some x) : (l.take (j + 1)).map mv = (l.take j).map mv ++ [mv x] := by
  obtain ⟨hj, rfl⟩ := List.getElem?_eq_some_iff.1 h
  rw [List.take_succ_eq_append_getElem hj, List.map_append]
  rfl
set_option maxHeartbeats 2000000 in
set_option maxRecDepth 100000 in
theorem moved_is (A : Option Addr) (n c : Nat) (l : List Rc) (w : World) (hr : Rd w A (rcCells l)) (hn : l.length = n) (hl : n ≤ 1099511627776) :
    Calls Try.prog 15 #[.slice A n c] w fun e w' => ∃ B d, e = .returned (.slice B n d) ∧ w'.ownsRow w.heap.size 31 7 (.slice B (n + 1) d) (n + 1) (rcCells (l.map mv ++ [mk77])) ∧ Below w.heap.size w w' := by
  have HR := Lib.hid hr
  have HN := Lib.hid hn
  have hfull : l.take n = l := List.take_of_length_le (by omega)
  have HFU := Lib.hid hfull
  clear hr hn hfull
  go_enter Try.func15, Try.ntmps15
  go_wp2
  go_loopw [3, 4] (fun o i wr => ∃ j : Nat, j ≤ n ∧ i = .int .i64 j ∧ wr.ownsRow w.heap.size 31 7 o j (rcCells ((l.take j).map mv)) ∧ Below w.heap.size w wr) (fun _ i _ => n - (intOf i).toNat)
  case atStart => exact ⟨0, Nat.zero_le _, rfl, World.ownsRow_nil _ _ _ _, Below.refl _ _⟩
  case round =>
    obtain ⟨j, hj, rfl, hown, hbe⟩ := hrel
    obtain ⟨A5, c5, hv5, hc5a, hc5b, hA5⟩ := own_shape hown
    subst hv5
    have HO := Lib.hid hown
    have HB := Lib.hid hbe
    have hbs := hbe.size
    by_cases hlt : j < n
    · obtain ⟨x, hx⟩ : ∃ x, l[j]? = some x := ⟨_, List.getElem?_eq_getElem (by rw [HN.out]; exact hlt)⟩
      obtain ⟨g, off, rfl, hg, x0, x1, x2, x3, x4, x5, x6⟩ := (HR.out.below hbe).rec hx
      have HST := Lib.hid (map_take_succ hx)
      have i0 : (0 : Int) ≤ (j : Int) := by omega
      have i1 : (j : Int) < (n : Int) := by omega
      obtain ⟨acc, hacc⟩ : ∃ acc, acc = (l.take j).map mv := ⟨_, rfl⟩
      rw [← hacc] at HO HST
      obtain ⟨xk, xo, xt, xp, xs, xkey, xval⟩ := x
      simp only at x0 x1 x2 x3 x4 x5 x6
      obtain ⟨o1, ho1⟩ : ∃ o1, o1 = IntKind.i64.wrap (xo + 1) := ⟨_, rfl⟩
      obtain ⟨t1, ht1⟩ : ∃ t1, t1 = IntKind.i64.wrap (xt - 1) := ⟨_, rfl⟩
      have HST2 : Hid ((l.take (j + 1)).map mv = acc ++ [⟨xk, o1, t1, xp, xs, xkey, xval⟩]) := Lib.hid (by rw [HST.out, ho1, ht1]; rfl)
      have ho2 := ho1.symm
      have ht2 := ht1.symm
      clear hx hown hbe hA5 hacc HST ho1 ht1
      go_wp2_with (at_builtin; (refine pushR _ rfl (.tmp 24) (.tmp 26) rfl w.heap.size _ j (rcCells acc) rfl (by exact HO.out.alloc (rcObj ⟨xk, o1, t1, xp, xs, xkey, xval⟩)) ⟨xk, o1, t1, xp, xs, xkey, xval⟩ _ (by simp) rfl (by omega) (by simp; omega) ?_); intro v2 w2 hown2 hg2 hn2; have HO2 := Lib.hid hown2; have HB2 := Lib.hid ((HB.out.alloc HB.out.size (rcObj ⟨xk, o1, t1, xp, xs, xkey, xval⟩)).trans (below_of_grown hg2 (by simp; omega) (fun q hq => (HO.out.lt q hq).1))); clear hown2 hg2 hn2)
      go_wp2_with fail
      go_roundw
      case rel => exact ⟨j + 1, by omega, by go_num, by rw [HST2.out, rcCells_append]; simpa [rcCells] using HO2.out, HB2.out⟩
      case measure => simp [intOf]; omega
    · have hjn : j = n := by omega
      subst hjn
      rw [HFU.out] at HO
      have i0 : (0 : Int) ≤ (j : Int) := by omega
      obtain ⟨acc, hacc⟩ : ∃ acc, acc = l.map mv := ⟨_, rfl⟩
      rw [← hacc] at HO
      have HAC := Lib.hid hacc
      clear hown hbe hA5 hacc HFU
      go_wp2_with (at_builtin; go_loud ((refine pushR _ rfl (.tmp 28) (.tmp 30) rfl w.heap.size _ j (rcCells acc) rfl (by exact HO.out) ⟨-77, 0, 0, 0, 0, ⟨#[]⟩, ⟨#[]⟩⟩ _ (by first | rfl | simp) rfl (by omega) (by first | omega | (simp; omega)) ?_); intro v2 w2 hown2 hg2 hn2; obtain ⟨A6, c6, hv6, hc6a, hc6b, hA6⟩ := own_shape hown2; subst hv6; have HO2 := Lib.hid hown2; have HB2 := Lib.hid (HB.out.trans (below_of_grown hg2 (by omega) (fun q hq => (HO.out.lt q hq).1))); have i6 : (j : Int) ≤ (c6 : Int) := (by omega); clear hown2 hg2 hn2 hA6))
      go_wp2_with fail
      go_ret
      exact ⟨A6, c6, rfl, by rw [← HAC.out, rcCells_append]; simpa [rcCells, mk77] using HO2.out, HB2.out⟩
end Go.Proofs.Ytjipebedibjoiaa

/- chroniclelaw4.back, kept: a row of records with a mark behind it. -/
namespace Go.Proofs.Ytjipebedibjoiaa
open Go Go.RowKit
set_option linter.unusedVariables false
set_option linter.unusedSimpArgs false

structure FullR (w wr : World) (gf cf n : Nat) (l : List Rc) : Prop where
  f : wr.ownsRow w.heap.size 31 7 (.slice (some ⟨gf, 0, none⟩) (n + 1) cf) (n + 1) (rcCells (l ++ [mk77]))
  be : Below w.heap.size w wr
section
variable {w wr W : World} {gf cf n : Nat} {l l' : List Rc}
theorem FullR.sz (h : FullR w wr gf cf n l) : w.heap.size ≤ wr.heap.size := h.be.size
theorem FullR.below (h : FullR w wr gf cf n l) (hb : Below wr.heap.size wr W) : FullR w W gf cf n l := ⟨own_below h.f hb, h.be.trans (hb.mono h.sz)⟩
theorem FullR.rf (h : FullR w wr gf cf n l) (hn : l.length = n) : Rd wr (some ⟨gf, 0, none⟩) (rcCells l) := by
  have := (rd_own h.f).take_ (n * 7)
  rw [rcCells_append, List.take_left' (by rw [rcCells_length, hn])] at this
  exact this
theorem FullR.cap (h : FullR w wr gf cf n l) : n + 1 ≤ cf := by
  obtain ⟨A, c, e, h1, _, _⟩ := own_shape h.f
  injection e with _ _ e3
  omega
end
theorem rc_set7 (a : List Rc) (y x : Rc) (b : List Rc) : (((((((rcCells (a ++ y :: b)).set (a.length * 7) (.int .i64 x.k)).set (a.length * 7 + 1) (.int .i64 x.o)).set (a.length * 7 + 2) (.int .i64 x.t)).set (a.length * 7 + 3) (.int .i64 x.p)).set (a.length * 7 + 4) (.int .i64 x.s)).set (a.length * 7 + 5) (.string x.key)).set (a.length * 7 + 6) (.string x.val) = rcCells (a ++ x :: b) := by
  rw [rcCells_append, rcCells_append, rcCells_cons, rcCells_cons, ← rcCells_length a]
  have e : ∀ (C D : List Value) (j : Nat) (v : Value), (C ++ D).set (C.length + j) v = C ++ D.set j v := fun C D j v => by
    rw [List.set_append_right _ _ (by omega), Nat.add_sub_cancel_left]
  have e0 := e (rcCells a) (y.cells ++ rcCells b) 0 (.int .i64 x.k)
  rw [Nat.add_zero] at e0
  rw [e0, e, e, e, e, e, e]
  simp [Rc.cells]
theorem back_step {l l0 : List Rc} {k n : Nat} {x : Rc} (hk : k < n) (h0 : l0.length = n) (hl : l.length = n) (hx : l[k]? = some x) :
    (((((((rcCells (l.take k ++ l0.drop k ++ [mk77])).set (k * 7) (.int .i64 x.k)).set (k * 7 + 1) (.int .i64 x.o)).set (k * 7 + 2) (.int .i64 x.t)).set (k * 7 + 3) (.int .i64 x.p)).set (k * 7 + 4) (.int .i64 x.s)).set (k * 7 + 5) (.string x.key)).set (k * 7 + 6) (.string x.val) = rcCells (l.take (k + 1) ++ l0.drop (k + 1) ++ [mk77]) := by
  have hlen : (l.take k).length = k := by rw [List.length_take]; omega
  have hd : l0.drop k = l0[k]'(by omega) :: l0.drop (k + 1) := (List.drop_eq_getElem_cons (by omega))
  obtain ⟨hk2, rfl⟩ := List.getElem?_eq_some_iff.1 hx
  have ht : l.take (k + 1) = l.take k ++ [l[k]] := List.take_succ_eq_append_getElem hk2
  have := rc_set7 (l.take k) (l0[k]'(by omega)) l[k] (l0.drop (k + 1) ++ [mk77])
  rw [hlen] at this
  rw [hd, ht, List.append_assoc, List.cons_append, this]
  simp only [List.append_assoc, List.cons_append, List.nil_append]
set_option maxHeartbeats 2000000 in
set_option maxRecDepth 100000 in
theorem back_is (gf cf n c : Nat) (A : Option Addr) (l0 l : List Rc) (w0 w : World) (h : FullR w0 w gf cf n l0) (h0 : l0.length = n) (hr : Rd w0 A (rcCells l)) (hn : l.length = n) (hl : n ≤ 1099511627776) :
    Calls Try.prog 17 #[.slice (some ⟨gf, 0, none⟩) n cf, .slice A n c] w fun e w' => e = .returned (.tuple #[]) ∧ FullR w0 w' gf cf n l := by
  have HR := Lib.hid hr
  have HN := Lib.hid hn
  have H0 := Lib.hid h0
  have hcf := h.cap
  have hstart : l.take 0 ++ l0.drop 0 = l0 := by simp
  have hend : l.take n ++ l0.drop n = l := by rw [List.take_of_length_le (by omega), List.drop_of_length_le (by omega), List.append_nil]
  have HS := Lib.hid (hstart.symm ▸ h : FullR w0 w gf cf n (l.take 0 ++ l0.drop 0))
  have HE := Lib.hid hend
  clear hr hn h0 h hstart hend
  go_enter Try.func17, Try.ntmps17
  go_wp2
  go_loopw [4] (fun i wr => ∃ k : Nat, k ≤ n ∧ i = .int .i64 k ∧ FullR w0 wr gf cf n (l.take k ++ l0.drop k)) (fun i _ => n - (intOf i).toNat)
  case atStart => exact ⟨0, Nat.zero_le _, rfl, HS.out⟩
  case round =>
    obtain ⟨k, hk, rfl, hF⟩ := hrel
    have HF := Lib.hid hF
    clear hF HS
    by_cases hlt : k < n
    · obtain ⟨x, hx⟩ : ∃ x, l[k]? = some x := ⟨_, List.getElem?_eq_getElem (by rw [HN.out]; exact hlt)⟩
      obtain ⟨g, off, rfl, hg, x0, x1, x2, x3, x4, x5, x6⟩ := (HR.out.below HF.out.be).rec hx
      have hz := own_len HF.out.f
      have hc : ∀ j, j < 7 → ∃ u, wr.cell? ⟨gf, k * 7 + j, none⟩ = some u := fun j hj => ⟨_, (HF.out.f.cellAt (k * 7 + j) (by omega)).trans (List.getElem?_eq_getElem (by omega))⟩
      obtain ⟨y0, c0⟩ := hc 0 (by omega)
      obtain ⟨y1, c1⟩ := hc 1 (by omega)
      obtain ⟨y2, c2⟩ := hc 2 (by omega)
      obtain ⟨y3, c3⟩ := hc 3 (by omega)
      obtain ⟨y4, c4⟩ := hc 4 (by omega)
      obtain ⟨y5, c5⟩ := hc 5 (by omega)
      obtain ⟨y6, c6⟩ := hc 6 (by omega)
      rw [Nat.add_zero] at c0
      have f0 := HF.out.f.frozenAt (k * 7)
      have f1 := HF.out.f.frozenAt (k * 7 + 1)
      have f2 := HF.out.f.frozenAt (k * 7 + 2)
      have f3 := HF.out.f.frozenAt (k * 7 + 3)
      have f4 := HF.out.f.frozenAt (k * 7 + 4)
      have f5 := HF.out.f.frozenAt (k * 7 + 5)
      have f6 := HF.out.f.frozenAt (k * 7 + 6)
      have hst := back_step hlt H0.out HN.out hx
      have HP := Lib.hid (own_put7 HF.out.f (k * 7) (.int .i64 x.k) (.int .i64 x.o) (.int .i64 x.t) (.int .i64 x.p) (.int .i64 x.s) (.string x.key) (.string x.val))
      rw [hst] at HP
      have hgb := (HF.out.f.lt gf rfl).1
      have hgs := HF.out.sz
      obtain ⟨xk, xo, xt, xp, xs, xkey, xval⟩ := x
      simp only at x0 x1 x2 x3 x4 x5 x6 HP
      have i0 : (0 : Int) ≤ (k : Int) := by omega
      have i1 : (k : Int) < (n : Int) := by omega
      clear hz hc hst hx
      go_wp2
      go_roundw
      case rel => exact ⟨k + 1, by omega, by go_num, ⟨HP.out.1, HF.out.be.trans (below_of_grown HP.out.2 hgs (fun j hj => by injection hj with hj; subst hj; exact hgb))⟩⟩
      case measure => simp [intOf]; omega
    · have hkn : k = n := by omega
      subst hkn
      rw [HE.out] at HF
      clear HE
      go_wp2
      go_end0
      exact ⟨rfl, HF.out⟩
theorem FullR.mark {w wr : World} {gf cf n : Nat} {l : List Rc} (h : FullR w wr gf cf n l) (hn : l.length = n) : wr.cell? ⟨gf, n * 7, none⟩ = some (.int .i64 (-77)) := by
  have hl : (l ++ [mk77])[n]? = some mk77 := by rw [← hn]; simp
  obtain ⟨g, off, e, hg, x0, _⟩ := (rd_own h.f).rec hl
  injection e with e
  injection e with e1 e2
  subst e1 e2
  rw [Nat.zero_add] at x0
  exact x0
set_option maxHeartbeats 2000000 in
set_option maxRecDepth 100000 in
theorem kept_is (gf cf n c : Nat) (A : Option Addr) (l : List Rc) (w0 w : World) (h : FullR w0 w gf cf n l) (hr : Rd w A (rcCells l)) (hn : l.length = n) (hl : n ≤ 1099511627776) :
    Calls Try.prog 21 #[.slice (some ⟨gf, 0, none⟩) n cf, .slice A n c] w fun e w' => Looks w w' e (.bool true) := by
  have hcf := h.cap
  have hm := h.mark hn
  have PA := Lib.hid (alike_yes (some ⟨gf, 0, none⟩) A n cf c l w (h.rf hn) hr hn (by omega))
  unfold Looks at PA
  have hgs := (h.f.lt gf rfl).2
  have i0 : (0 : Int) ≤ (n : Int) := by omega
  have i1 : (n : Int) + 1 ≤ (cf : Int) := by omega
  have i2 : (n : Int) < (n : Int) + 1 := by omega
  have i3 : (0 : Int) ≤ (n : Int) + 1 := by omega
  have i4 : n + 1 ≤ cf := by omega
  clear h hr hn
  go_enter Try.func21, Try.ntmps21
  go_wp2_with fail
  refine PA.out.mono ?_
  rintro e w1 ⟨rfl, d1, rfl⟩
  go_wp2_with fail
  go_ret
  exact ⟨rfl, _, rfl⟩
end Go.Proofs.Ytjipebedibjoiaa
