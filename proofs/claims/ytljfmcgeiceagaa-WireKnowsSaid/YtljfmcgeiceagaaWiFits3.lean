/- chroniclelaw16.alike, kept, back at a response that holds records alone. -/
import Derived.Test.YtljfmcgeiceagaaWiFits2
namespace Go.Proofs.Ytljfmcgeiceagaa
open Go Go.RowKit
set_option linter.unusedVariables false
set_option linter.unusedSimpArgs false

abbrev boxObj (rs ns : Value) : Obj := .cells #[.int .u32 0, .int .i64 0, .int .i64 0, .int .i64 0, .int .i64 0, .bool false, rs, ns] 37
theorem two_boxes (w : World) (r1 n1 r2 n2 : Value) : RBx ((w.alloc (boxObj r1 n1)).alloc (boxObj r2 n2)) w.heap.size r1 n1 ∧ RBx ((w.alloc (boxObj r1 n1)).alloc (boxObj r2 n2)) (w.heap.size + 1) r2 n2 ∧ Below w.heap.size w ((w.alloc (boxObj r1 n1)).alloc (boxObj r2 n2)) ∧ w.heap.size + 1 < ((w.alloc (boxObj r1 n1)).alloc (boxObj r2 n2)).heap.size := by
  refine ⟨(RBx.new w _ _).below ((Below.refl _ _).alloc (Nat.le_refl _) _) (by simp), ?_, ((Below.refl _ _).alloc (Nat.le_refl _) _).alloc (by simp) _, by simp⟩
  have := RBx.new (w.alloc (boxObj r1 n1)) r2 n2
  simpa using this
set_option maxHeartbeats 4000000 in
set_option maxRecDepth 100000 in
theorem alike0_is (A B N1 N2 : Option Addr) (n c d c1 c2 : Nat) (l : List Rc) (w : World) (ha : Rd w A (rcCells l)) (hb : Rd w B (rcCells l)) (hn : l.length = n) (hl : n ≤ 2000000000000) :
    Calls Try.prog 41 #[rsV (.slice A n c) (.slice N1 0 c1), rsV (.slice B n d) (.slice N2 0 c2)] w fun e w' => e = .returned (.bool true) ∧ Below w.heap.size w w' := by
  have HA := Lib.hid ha
  have HB := Lib.hid hb
  have HN := Lib.hid hn
  have hne : ((n : Int) != (n : Int)) = false := by simp
  unfold rsV
  clear ha hb hn
  go_enter Try.func41, Try.ntmps41
  go_upto_region 3 with (fail)
  obtain ⟨hx1, hx2, hbe, hsz⟩ := two_boxes w (.slice A n c) (.slice N1 0 c1) (.slice B n d) (.slice N2 0 c2)
  have HX1 := Lib.hid hx1
  have HX2 := Lib.hid hx2
  have HBE := Lib.hid hbe
  clear hx1 hx2 hbe hsz
  unfold boxObj at HX1 HX2 HBE
  generalize ((w.alloc (.cells #[.int .u32 0, .int .i64 0, .int .i64 0, .int .i64 0, .int .i64 0, .bool false, .slice A n c, .slice N1 0 c1] 37)).alloc (.cells #[.int .u32 0, .int .i64 0, .int .i64 0, .int .i64 0, .int .i64 0, .bool false, .slice B n d, .slice N2 0 c2] 37)) = W0 at HX1 HX2 HBE ⊢
  have HA0 := Lib.hid (HA.out.below HBE.out)
  have HB0 := Lib.hid (HB.out.below HBE.out)
  obtain ⟨-, -, -, -, -, -, x6, x7⟩ := HX1.out.facts
  obtain ⟨-, -, -, -, -, -, y6, y7⟩ := HX2.out.facts
  clear HA HB HX1 HX2
  go_wp2_with fail
  go_loop [5] (fun i => i = .int .i64 0) (fun i => 0)
  case atStart => rfl
  case round =>
    subst hrel
    go_wp2_with fail
    go_loopw [6] (fun i wr => ∃ k j : Nat, k ≤ n ∧ i = .int .i64 k ∧ wr = W0.drewN j) (fun i _ => n - (intOf i).toNat)
    case atStart => exact ⟨0, 0, Nat.zero_le _, rfl, rfl⟩
    case round =>
      obtain ⟨k, j, hk, rfl, rfl⟩ := hrel
      by_cases hlt : k < n
      · obtain ⟨x, hx⟩ : ∃ x, l[k]? = some x := ⟨_, List.getElem?_eq_getElem (by rw [HN.out]; exact hlt)⟩
        obtain ⟨g, off, rfl, hg, hc0, hc1, hc2, hc3, hc4, hc5, hc6⟩ := HA0.out.rec hx
        obtain ⟨g', off', rfl, hg', hd0, hd1, hd2, hd3, hd4, hd5, hd6⟩ := HB0.out.rec hx
        obtain ⟨xk, xo, xt, xp, xs, xkey, xval⟩ := x
        simp only at hc0 hc1 hc2 hc3 hc4 hc5 hc6 hd0 hd1 hd2 hd3 hd4 hd5 hd6
        have i0 : (0 : Int) ≤ (k : Int) := by omega
        have i1 : (k : Int) < (n : Int) := by omega
        clear hx
        go_wp2_with fail
        go_quiet (fail)
        go_wp2_with fail
        go_roundw
        case rel => exact ⟨k + 1, _, by omega, by go_num, rfl⟩
        case measure => simp [intOf]; omega
      · have hk2 : k = n := by omega
        subst hk2
        go_wp2_with fail
        go_ret
        exact ⟨rfl, below_drewN HBE.out _⟩
set_option maxHeartbeats 4000000 in
set_option maxRecDepth 100000 in
theorem kept0_is (gf d gn dn n c : Nat) (A : Option Addr) (l : List Rc) (w0 w : World) (h : FullR w0 w gf d n l) (hm : NmM w0 w gn dn) (hr : Rd w A (rcCells l)) (hn : l.length = n) (hl : n ≤ 1954687338211) :
    Calls Try.prog 24 #[rsV (.slice (some ⟨gf, 0, none⟩) n d) (.slice (some ⟨gn, 0, none⟩) 0 dn), rsV (.slice A n c) (.slice none 0 0)] w fun e w' => e = .returned (.bool true) ∧ Below w.heap.size w w' := by
  have hcf := h.cap
  have hgs := (h.f.lt gf rfl).2
  have hgn := hm.lt
  have hdn := hm.cap
  have HM1 := Lib.hid (h.mark hn)
  have HM2 := Lib.hid hm.c
  have PA := Lib.hid (fun W (hb : Below w.heap.size w W) => alike0_is (some ⟨gf, 0, none⟩) A (some ⟨gn, 0, none⟩) none n d c dn 0 l W ((h.rf hn).below hb) (hr.below hb) hn (by omega))
  have i0 : (0 : Int) ≤ (n : Int) := by omega
  have i1 : (n : Int) + 1 ≤ (d : Int) := by omega
  have i2 : (n : Int) < (n : Int) + 1 := by omega
  have i3 : (0 : Int) ≤ (n : Int) + 1 := by omega
  have i4 : n + 1 ≤ d := by omega
  have i5 : (1 : Int) ≤ (dn : Int) := by omega
  unfold rsV at PA ⊢
  clear h hm hr hn
  go_enter Try.func24, Try.ntmps24
  obtain ⟨hx1, hx2, hbe, hsz⟩ := two_boxes w (.slice (some ⟨gf, 0, none⟩) n d) (.slice (some ⟨gn, 0, none⟩) 0 dn) (.slice A n c) (.slice none 0 0)
  have HX1 := Lib.hid hx1
  have HX2 := Lib.hid hx2
  have HBE := Lib.hid hbe
  have HSZ := Lib.hid hsz
  clear hx1 hx2 hbe hsz
  go_wp2_with fail
  refine (PA.out _ HBE.out).mono ?_
  rintro e w1 ⟨rfl, hb1⟩
  obtain ⟨-, -, -, -, -, -, x6, x7⟩ := (HX1.out.below hb1 (Nat.lt_trans (Nat.lt_succ_self _) HSZ.out)).facts
  have HB1 := Lib.hid (HBE.out.trans (hb1.mono HBE.out.size))
  have m1 := (HB1.out.cell (p := ⟨gf, n * 7, none⟩) hgs).trans HM1.out
  have m2 := (HB1.out.cell (p := ⟨gn, 0, none⟩) hgn).trans HM2.out
  clear hb1 PA HX1 HX2
  go_wp2_with fail
  go_ret
  exact ⟨by first | rfl | simp, HB1.out⟩
theorem grown_drew {a b : World} {r : Option Nat} (h : a.grownBy b r) : a.grownBy b.drew r := ⟨h.os, h.tape, h.output, h.size, h.block⟩
theorem grown_more {a b c : World} {g : Nat} (h : a.grownBy b (some g)) (k : b.grownBy c (some g)) : a.grownBy c (some g) := ⟨k.os.trans h.os, k.tape.trans h.tape, k.output.trans h.output, Nat.le_trans h.size k.size, fun j hj hne => (k.block j (Nat.lt_of_lt_of_le hj h.size) hne).trans (h.block j hj hne)⟩
theorem grown_new {a b : World} {g r k : Nat} {u : Value} (h : a.grownBy b (some g)) (hr : a.heap.size ≤ r) : a.grownBy (b.setCell ⟨r, k, none⟩ u) (some g) := ⟨h.os, h.tape, h.output, by simpa using h.size, fun j hj hne => ((stored_grown b r k u).block j (Nat.lt_of_lt_of_le hj h.size) (fun e => by injection e with e; omega)).trans (h.block j hj hne)⟩
theorem FullR.drew {w W : World} {gf d n : Nat} {l : List Rc} (h : FullR w W gf d n l) : FullR w W.drew gf d n l := h.below (Below.refl _ _).drew
theorem NmM.drew {w W : World} {gn dn : Nat} (h : NmM w W gn dn) : NmM w W.drew gn dn := h.below (Below.refl _ _).drew
theorem RBx.drew {W : World} {b : Nat} {rs ns : Value} (h : RBx W b rs ns) : RBx W.drew b rs ns := h.below (Below.refl _ _).drew h.lt
set_option maxHeartbeats 4000000 in
set_option maxRecDepth 100000 in
theorem back0_is (gf d gn dn n c : Nat) (A : Option Addr) (l0 l : List Rc) (w0 w : World) (h : FullR w0 w gf d n l0) (hm : NmM w0 w gn dn) (hr : Rd w0 A (rcCells l)) (h0 : l0.length = n) (hn : l.length = n) (hl : n ≤ 1954687338211) (hng : gn ≠ gf) :
    Calls Try.prog 22 #[rsV (.slice (some ⟨gf, 0, none⟩) n d) (.slice (some ⟨gn, 0, none⟩) 0 dn), rsV (.slice A n c) (.slice none 0 0)] w fun e w' => e = .returned (.tuple #[]) ∧ FullR w0 w' gf d n l ∧ NmM w0 w' gn dn ∧ w.grownBy w' (some gf) := by
  have HR := Lib.hid hr
  have HN := Lib.hid hn
  have H0 := Lib.hid h0
  have hcf := h.cap
  have hgs := (h.f.lt gf rfl).2
  have hend : l.take n ++ l0.drop n = l := by rw [List.take_of_length_le (by omega), List.drop_of_length_le (by omega), List.append_nil]
  have HE := Lib.hid hend
  have HF0 : Hid (FullR w0 w gf d n (l.take 0 ++ l0.drop 0)) := Lib.hid (by simpa using h)
  have HM0 := Lib.hid hm
  unfold rsV
  clear hr hn h0 h hm hend
  go_enter Try.func22, Try.ntmps22
  obtain ⟨hx1, hx2, hbe, hsz⟩ := two_boxes w (.slice (some ⟨gf, 0, none⟩) n d) (.slice (some ⟨gn, 0, none⟩) 0 dn) (.slice A n c) (.slice none 0 0)
  have HX1 := Lib.hid hx1
  have HX2 := Lib.hid hx2
  have HF1 := Lib.hid (HF0.out.below hbe)
  have HM1 := Lib.hid (HM0.out.below hbe)
  have HGW := Lib.hid (grown_of_below hbe (some gf))
  unfold boxObj at HX1 HX2 HF1 HM1 HGW hsz
  have hsw : w0.heap.size ≤ w.heap.size := HF0.out.sz
  clear hx1 hx2 hbe HF0 HM0
  go_wp2_with fail
  generalize ((w.alloc (.cells #[.int .u32 0, .int .i64 0, .int .i64 0, .int .i64 0, .int .i64 0, .bool false, .slice (some ⟨gf, 0, none⟩) n d, .slice (some ⟨gn, 0, none⟩) 0 dn] 37)).alloc (.cells #[.int .u32 0, .int .i64 0, .int .i64 0, .int .i64 0, .int .i64 0, .bool false, .slice A n c, .slice none 0 0] 37)) = W0 at HX1 HX2 HF1 HM1 HGW hsz ⊢
  obtain ⟨-, -, -, -, -, -, x6, x7⟩ := HX1.out.facts
  obtain ⟨-, -, -, -, -, -, y6, y7⟩ := HX2.out.facts
  go_loop [4] (fun i => i = .int .i64 0) (fun i => 0)
  case atStart => rfl
  case round =>
    subst hrel
    go_wp2_with fail
    go_loopw [5] (fun i wr => ∃ k : Nat, k ≤ n ∧ i = .int .i64 k ∧ Hid (FullR w0 wr gf d n (l.take k ++ l0.drop k)) ∧ Hid (NmM w0 wr gn dn) ∧ Hid (RBx wr w.heap.size (.slice (some ⟨gf, 0, none⟩) n d) (.slice (some ⟨gn, 0, none⟩) 0 dn)) ∧ Hid (RBx wr (w.heap.size + 1) (.slice A n c) (.slice none 0 0)) ∧ Hid (w.grownBy wr (some gf))) (fun i _ => n - (intOf i).toNat)
    case atStart => exact ⟨0, Nat.zero_le _, rfl, HF1, HM1, HX1, HX2, HGW⟩
    case round =>
      clear x6 x7 y6 y7 HX1 HX2 HF1 HM1 HGW
      obtain ⟨k, hk, rfl, HF, HM, HX1, HX2, HGW⟩ := hrel
      obtain ⟨-, -, -, -, -, -, x6, x7⟩ := HX1.out.facts
      obtain ⟨-, -, -, -, -, -, y6, y7⟩ := HX2.out.facts
      by_cases hlt : k < n
      · obtain ⟨x, hx⟩ : ∃ x, l[k]? = some x := ⟨_, List.getElem?_eq_getElem (by rw [HN.out]; exact hlt)⟩
        obtain ⟨g, off, rfl, hg, x0', x1', x2', x3', x4', x5', x6'⟩ := (HR.out.below HF.out.be).rec hx
        have hz := own_len HF.out.f
        have hc : ∀ j, j < 7 → ∃ u, wr.cell? ⟨gf, k * 7 + j, none⟩ = some u := fun j hj => ⟨_, (HF.out.f.cellAt (k * 7 + j) (by omega)).trans (List.getElem?_eq_getElem (by omega))⟩
        obtain ⟨z0, c0⟩ := hc 0 (by omega)
        obtain ⟨z1, c1⟩ := hc 1 (by omega)
        obtain ⟨z2, c2⟩ := hc 2 (by omega)
        obtain ⟨z3, c3⟩ := hc 3 (by omega)
        obtain ⟨z4, c4⟩ := hc 4 (by omega)
        obtain ⟨z5, c5⟩ := hc 5 (by omega)
        obtain ⟨z6, c6⟩ := hc 6 (by omega)
        rw [Nat.add_zero] at c0
        have f0 := HF.out.f.frozenAt (k * 7)
        have f1 := HF.out.f.frozenAt (k * 7 + 1)
        have f2 := HF.out.f.frozenAt (k * 7 + 2)
        have f3 := HF.out.f.frozenAt (k * 7 + 3)
        have f4 := HF.out.f.frozenAt (k * 7 + 4)
        have f5 := HF.out.f.frozenAt (k * 7 + 5)
        have f6 := HF.out.f.frozenAt (k * 7 + 6)
        have hst := back_step hlt H0.out HN.out hx
        have HP := Lib.hid (own_put7 HF.out.f (k * 7) (.int .i64 x.k) (.int .i64 x.o) (.int .i64 x.t) (.int .i64 x.p) (.int .i64 x.s) (.string x.key) (.string x.val))
        rw [hst] at HP
        have hgb := (HF.out.f.lt gf rfl).1
        have hgr := HF.out.sz
        have HFN : Hid (FullR w0 (((((((wr.setCell ⟨gf, k * 7, none⟩ (.int .i64 x.k)).setCell ⟨gf, k * 7 + 1, none⟩ (.int .i64 x.o)).setCell ⟨gf, k * 7 + 2, none⟩ (.int .i64 x.t)).setCell ⟨gf, k * 7 + 3, none⟩ (.int .i64 x.p)).setCell ⟨gf, k * 7 + 4, none⟩ (.int .i64 x.s)).setCell ⟨gf, k * 7 + 5, none⟩ (.string x.key)).setCell ⟨gf, k * 7 + 6, none⟩ (.string x.val)) gf d n (l.take (k + 1) ++ l0.drop (k + 1))) := Lib.hid ⟨HP.out.1, HF.out.be.trans (below_of_grown HP.out.2 hgr (fun j hj => by injection hj with hj; subst hj; exact hgb))⟩
        have HG := Lib.hid HP.out.2
        have hb1 : w.heap.size ≠ gf := by omega
        have hb2 : w.heap.size + 1 ≠ gf := by omega
        have i0 : (0 : Int) ≤ (k : Int) := by omega
        have i1 : (k : Int) < (n : Int) := by omega
        obtain ⟨xk, xo, xt, xp, xs, xkey, xval⟩ := x
        simp only at x0' x1' x2' x3' x4' x5' x6' HFN HG
        clear hz hc hst hx HP
        go_wp2_with fail
        refine wp_region_still_tail 9 (by kernel_rfl) (by kernel_rfl) ?_
        simp only [List.take_succ_cons, List.take_zero, List.drop_succ_cons, List.drop_zero]
        repeat still_step
        refine wpStill_nil ?_
        change wpList _ _ _ _ _ wr.drew
        go_wp2_with fail
        go_roundw
        case rel => exact ⟨k + 1, by omega, by go_num, Lib.hid HFN.out.drew, Lib.hid (NmM.drew ⟨HG.out.cell HM.out.c (fun e => hng (by injection e)), Nat.lt_of_lt_of_le HM.out.lt HG.out.size, HM.out.ge, HM.out.cap⟩), Lib.hid (HX1.out.grown HG.out (fun e => hb1 (by injection e))).drew, Lib.hid (HX2.out.grown HG.out (fun e => hb2 (by injection e))).drew, Lib.hid (grown_drew (grown_more HGW.out HG.out))⟩
        case measure => simp [intOf]; omega
      · have hkn : k = n := by omega
        subst hkn
        rw [HE.out] at HF
        clear HE
        go_wp2_with fail
        go_end0
        exact ⟨rfl, HF.out, HM.out, HGW.out⟩
end Go.Proofs.Ytljfmcgeiceagaa
