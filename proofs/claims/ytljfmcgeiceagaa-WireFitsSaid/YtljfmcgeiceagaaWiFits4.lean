/- chroniclelaw16.moved at a response that holds records alone. -/
import Derived.Test.YtljfmcgeiceagaaWiFits3
import Derived.Laws.Concat
namespace Go.Proofs.Ytljfmcgeiceagaa
open Go Go.RowKit
set_option linter.unusedVariables false
set_option linter.unusedSimpArgs false

def mvx (x : Rc) : Rc := ⟨x.k, IntKind.i64.wrap (x.o + 1), x.t, x.p, x.s, x.key, x.val ++ ⟨#[120]⟩⟩
theorem rc_set1 (a : List Rc) (y : Rc) (b : List Rc) (v : Int) : (rcCells (a ++ y :: b)).set (a.length * 7 + 1) (.int .i64 v) = rcCells (a ++ (⟨y.k, v, y.t, y.p, y.s, y.key, y.val⟩ : Rc) :: b) := by
  rw [rcCells_append, rcCells_append, rcCells_cons, rcCells_cons, ← rcCells_length a, List.set_append_right _ _ (by omega), Nat.add_sub_cancel_left]
  rfl
theorem rc_set6 (a : List Rc) (y : Rc) (b : List Rc) (v : ByteArray) : (rcCells (a ++ y :: b)).set (a.length * 7 + 6) (.string v) = rcCells (a ++ (⟨y.k, y.o, y.t, y.p, y.s, y.key, v⟩ : Rc) :: b) := by
  rw [rcCells_append, rcCells_append, rcCells_cons, rcCells_cons, ← rcCells_length a, List.set_append_right _ _ (by omega), Nat.add_sub_cancel_left]
  rfl
/-- Behind k rounds. -/
def mvl (l : List Rc) (k : Nat) : List Rc := (l.take k).map mvx ++ l.drop k
theorem mvl_get {l : List Rc} {k : Nat} {x : Rc} (hx : l[k]? = some x) : mvl l k = (l.take k).map mvx ++ x :: l.drop (k + 1) ∧ ((l.take k).map mvx).length = k := by
  obtain ⟨hk, rfl⟩ := List.getElem?_eq_some_iff.1 hx
  refine ⟨by unfold mvl; rw [List.drop_eq_getElem_cons hk], by rw [List.length_map, List.length_take]; omega⟩
theorem mvl_step {l : List Rc} {k : Nat} {x : Rc} (hx : l[k]? = some x) : mvl l (k + 1) = (l.take k).map mvx ++ mvx x :: l.drop (k + 1) := by
  obtain ⟨hk, rfl⟩ := List.getElem?_eq_some_iff.1 hx
  unfold mvl
  rw [List.take_succ_eq_append_getElem hk, List.map_append, List.append_assoc]
  rfl
theorem FullR.put {w W : World} {gf d n : Nat} {l l' : List Rc} {k : Nat} {u : Value} (h : FullR w W gf d n l) (he : (rcCells (l ++ [mk77])).set k u = rcCells (l' ++ [mk77])) : FullR w (W.setCell ⟨gf, k, none⟩ u) gf d n l' := by
  have hs := h.f.stored k u
  rw [he] at hs
  exact ⟨hs.1, h.be.trans (below_of_grown hs.2 h.sz (fun j hj => by injection hj with hj; subst hj; exact (h.f.lt gf rfl).1))⟩
theorem NmM.put {w W : World} {gn dn gf k : Nat} {u : Value} (h : NmM w W gn dn) (hne : gn ≠ gf) : NmM w (W.setCell ⟨gf, k, none⟩ u) gn dn := h.stored (fun e => hne e.symm)
set_option maxHeartbeats 4000000 in
set_option maxRecDepth 100000 in
theorem moved0_is (gf d gn dn n : Nat) (l : List Rc) (w0 w : World) (h : FullR w0 w gf d n l) (hm : NmM w0 w gn dn) (hn : l.length = n) (hl : n ≤ 1954687338211) (hng : gn ≠ gf) (hv : ∀ x ∈ l, x.val.size ≤ 140737488351232) :
    Calls Try.prog 21 #[rsV (.slice (some ⟨gf, 0, none⟩) n d) (.slice (some ⟨gn, 0, none⟩) 0 dn)] w fun e w' => e = .returned (rsV (.slice (some ⟨gf, 0, none⟩) n d) (.slice (some ⟨gn, 0, none⟩) 0 dn)) ∧ FullR w0 w' gf d n (l.map mvx) ∧ NmM w0 w' gn dn ∧ w.grownBy w' (some gf) := by
  have HN := Lib.hid hn
  have hcf := h.cap
  have hgs := (h.f.lt gf rfl).2
  have hend : mvl l n = l.map mvx := by unfold mvl; rw [List.take_of_length_le (by omega), List.drop_of_length_le (by omega), List.append_nil]
  have HE := Lib.hid hend
  have HF0 : Hid (FullR w0 w gf d n (mvl l 0)) := Lib.hid (by unfold mvl; simpa using h)
  have HM0 := Lib.hid hm
  have HV := Lib.hid hv
  unfold rsV
  clear hn h hm hend hv
  go_enter Try.func21, Try.ntmps21
  obtain ⟨hx1, hx2, hbe, hsz⟩ := two_boxes w (.slice (some ⟨gf, 0, none⟩) n d) (.slice (some ⟨gn, 0, none⟩) 0 dn) (.slice none 0 0) (.slice none 0 0)
  have HX1 := Lib.hid hx1
  have HX2 := Lib.hid hx2
  have HF1 := Lib.hid (HF0.out.below hbe)
  have HM1 := Lib.hid (HM0.out.below hbe)
  have HGW := Lib.hid (grown_of_below hbe (some gf))
  have hgn1 := HM0.out.lt
  unfold boxObj at HX1 HX2 HF1 HM1 HGW hsz
  have hsw : w0.heap.size ≤ w.heap.size := HF0.out.sz
  clear hx1 hx2 hbe HF0 HM0
  go_wp2_with fail
  generalize ((w.alloc (.cells #[.int .u32 0, .int .i64 0, .int .i64 0, .int .i64 0, .int .i64 0, .bool false, .slice (some ⟨gf, 0, none⟩) n d, .slice (some ⟨gn, 0, none⟩) 0 dn] 37)).alloc (.cells #[.int .u32 0, .int .i64 0, .int .i64 0, .int .i64 0, .int .i64 0, .bool false, .slice none 0 0, .slice none 0 0] 37)) = W0 at HX1 HX2 HF1 HM1 HGW hsz ⊢
  obtain ⟨-, -, -, -, -, -, x6, x7⟩ := HX1.out.facts
  go_loop [3] (fun i => i = .int .i64 0) (fun i => 0)
  case atStart => rfl
  case round =>
    subst hrel
    go_wp2_with fail
    go_loopw [4] (fun i wr => ∃ k : Nat, k ≤ n ∧ i = .int .i64 k ∧ Hid (FullR w0 wr gf d n (mvl l k)) ∧ Hid (NmM w0 wr gn dn) ∧ Hid (RBx wr w.heap.size (.slice (some ⟨gf, 0, none⟩) n d) (.slice (some ⟨gn, 0, none⟩) 0 dn)) ∧ Hid (RBx wr (w.heap.size + 1) (.slice none 0 0) (.slice none 0 0)) ∧ Hid (w.grownBy wr (some gf))) (fun i _ => n - (intOf i).toNat)
    case atStart => exact ⟨0, Nat.zero_le _, rfl, HF1, HM1, HX1, HX2, HGW⟩
    case round =>
      clear x6 x7 HX1 HX2 HF1 HM1 HGW
      obtain ⟨k, hk, rfl, HF, HM, HX1, HX2, HGW⟩ := hrel
      obtain ⟨-, -, -, -, -, -, x6, x7⟩ := HX1.out.facts
      have hb1 : w.heap.size ≠ gf := by omega
      have hb2 : w.heap.size + 1 ≠ gf := by omega
      have hb3 : w.heap.size ≠ gn := by omega
      have hb4 : w.heap.size + 1 ≠ gn := by omega
      by_cases hlt : k < n
      · obtain ⟨x, hx⟩ : ∃ x, l[k]? = some x := ⟨_, List.getElem?_eq_getElem (by rw [HN.out]; exact hlt)⟩
        obtain ⟨hg1, hg2⟩ := mvl_get hx
        have hg3 := mvl_step hx
        obtain ⟨a, ha⟩ : ∃ a, a = (l.take k).map mvx := ⟨_, rfl⟩
        obtain ⟨b, hb⟩ : ∃ b, b = l.drop (k + 1) := ⟨_, rfl⟩
        rw [← ha, ← hb] at hg1 hg3
        rw [← ha] at hg2
        rw [hg1] at HF
        have HST := Lib.hid hg3
        have hrow : (a ++ x :: b ++ [mk77])[k]? = some x := by rw [List.append_assoc, List.getElem?_append_right (by omega), hg2, Nat.sub_self]; rfl
        obtain ⟨g', off', he, hgl, z0, z1, z2, z3, z4, z5, z6⟩ := (rd_own HF.out.f).rec hrow
        injection he with he
        injection he with he1 he2
        subst he1 he2
        simp only [Nat.zero_add] at z0 z1 z2 z3 z4 z5 z6
        have f1 := HF.out.f.frozenAt (k * 7 + 1)
        have f6 := HF.out.f.frozenAt (k * 7 + 6)
        obtain ⟨o1, ho1⟩ : ∃ o1, o1 = IntKind.i64.wrap (x.o + 1) := ⟨_, rfl⟩
        have e1 : (rcCells (a ++ x :: b ++ [mk77])).set (k * 7 + 1) (.int .i64 o1) = rcCells (a ++ (⟨x.k, o1, x.t, x.p, x.s, x.key, x.val⟩ : Rc) :: b ++ [mk77]) := by
          have := rc_set1 a x (b ++ [mk77]) o1
          rw [hg2] at this
          simpa using this
        have e6 : (rcCells (a ++ (⟨x.k, o1, x.t, x.p, x.s, x.key, x.val⟩ : Rc) :: b ++ [mk77])).set (k * 7 + 6) (.string (x.val ++ ⟨#[120]⟩)) = rcCells (a ++ mvx x :: b ++ [mk77]) := by
          have := rc_set6 a (⟨x.k, o1, x.t, x.p, x.s, x.key, x.val⟩ : Rc) (b ++ [mk77]) (x.val ++ ⟨#[120]⟩)
          rw [hg2] at this
          unfold mvx
          rw [← ho1]
          simpa using this
        have HF1 := Lib.hid ((HF.out.put e1).drew)
        have HM1 := Lib.hid ((HM.out.put (k := k * 7 + 1) (u := .int .i64 o1) hng).drew)
        have HX11 := Lib.hid ((HX1.out.other (k := k * 7 + 1) (u := .int .i64 o1) hb1).drew)
        have HX21 := Lib.hid ((HX2.out.other (k := k * 7 + 1) (u := .int .i64 o1) hb2).drew)
        have HG1 := Lib.hid (grown_drew (grown_more HGW.out (stored_grown wr gf (k * 7 + 1) (.int .i64 o1))))
        have ho2 := ho1.symm
        have hrow1 : (a ++ (⟨x.k, o1, x.t, x.p, x.s, x.key, x.val⟩ : Rc) :: b ++ [mk77])[k]? = some ⟨x.k, o1, x.t, x.p, x.s, x.key, x.val⟩ := by rw [List.append_assoc, List.getElem?_append_right (by omega), hg2, Nat.sub_self]; rfl
        have HROW := Lib.hid hrow1
        have hvs := HV.out x (List.mem_of_getElem? hx)
        have hadd := fun W => run_string_add_sum (P := Try.prog) (w := W) x.val ⟨#[120]⟩ (by have : (⟨#[120]⟩ : ByteArray).size = 1 := rfl; omega)
        obtain ⟨y, hy⟩ : ∃ y, x.val ++ ⟨#[120]⟩ = y := ⟨_, rfl⟩
        rw [hy] at hadd e6
        have HE6 := Lib.hid e6
        have hno : ¬ (9223372036854775807 < x.val.size + 1) := by omega
        have i0 : (0 : Int) ≤ (k : Int) := by omega
        have i1 : (k : Int) < (n : Int) := by omega
        obtain ⟨xk, xo, xt, xp, xs, xkey, xval⟩ := x
        simp only at z0 z1 z2 z3 z4 z5 z6 ho2 HF1 HE6 HROW hadd hno
        clear hx hg1 hg2 hg3 ha hb hrow hrow1 ho1 e1 e6 hy hvs
        go_wp2_with fail
        refine wp_region_still_tail 12 (by kernel_rfl) (by kernel_rfl) ?_
        simp only [List.take_succ_cons, List.take_zero, List.drop_succ_cons, List.drop_zero]
        repeat still_step
        refine wpStill_nil ?_
        change wpList _ _ _ _ _ wr.drew
        clear HF HM HX1 HX2 HGW
        go_wp2_with fail
        clear z0 z1 z2 z3 z4 z5 z6 f1 f6 x6 x7 ho2
        generalize (wr.setCell ⟨gf, k * 7 + 1, none⟩ (.int .i64 o1)).drew = W1 at HF1 HM1 HX11 HX21 HG1 ⊢
        obtain ⟨g', off', he, hgl2, z0, z1, z2, z3, z4, z5, z6⟩ := (rd_own HF1.out.f).rec HROW.out
        injection he with he
        injection he with he1 he2
        subst he1 he2
        simp only [Nat.zero_add] at z0 z1 z2 z3 z4 z5 z6
        obtain ⟨-, -, -, -, -, -, x6, x7⟩ := HX11.out.facts
        have f6 := HF1.out.f.frozenAt (k * 7 + 6)
        have HF2 := Lib.hid ((HF1.out.put HE6.out).drew)
        have HM2 := Lib.hid ((HM1.out.put (k := k * 7 + 6) (u := .string y) hng).drew)
        have HX12 := Lib.hid ((HX11.out.other (k := k * 7 + 6) (u := .string y) hb1).drew)
        have HX22 := Lib.hid ((HX21.out.other (k := k * 7 + 6) (u := .string y) hb2).drew)
        have HG2 := Lib.hid (grown_drew (grown_more HG1.out (stored_grown W1 gf (k * 7 + 6) (.string y))))
        clear HF1 HM1 HX11 HX21 HG1
        refine wp_region_still_tail 12 (by kernel_rfl) (by kernel_rfl) ?_
        simp only [List.take_succ_cons, List.take_zero, List.drop_succ_cons, List.drop_zero]
        repeat still_step
        refine wpStill_nil ?_
        change wpList _ _ _ _ _ W1.drew
        go_wp2_with fail
        go_roundw
        case rel => exact ⟨k + 1, by omega, by go_num, Lib.hid (by rw [HST.out]; exact HF2.out), HM2, HX12, HX22, HG2⟩
        case measure => simp [intOf]; omega
      · have hkn : k = n := by omega
        subst hkn
        rw [HE.out] at HF
        obtain ⟨x0, x1, x2, x3, x4, x5, -, -⟩ := HX1.out.facts
        obtain ⟨z0, z1, z2, z3, z4, z5, z6, z7⟩ := HX2.out.facts
        obtain ⟨k0, k1, k2, k3, k4, k5, k6, k7⟩ := HX2.out.marks
        clear HE
        go_wp2_with fail
        have HFI := Lib.hid (HX2.out.put8 (.slice (some ⟨gf, 0, none⟩) k d) (.slice (some ⟨gn, 0, none⟩) 0 dn))
        have hr1 : w0.heap.size ≤ w.heap.size + 1 := by omega
        have hFF := (((((((HF.out.stored (k := 0) (u := .int .u32 0) hr1 hb2).stored (k := 1) (u := .int .i64 0) hr1 hb2).stored (k := 2) (u := .int .i64 0) hr1 hb2).stored (k := 3) (u := .int .i64 0) hr1 hb2).stored (k := 4) (u := .int .i64 0) hr1 hb2).stored (k := 5) (u := .bool false) hr1 hb2).stored (k := 6) (u := .slice (some ⟨gf, 0, none⟩) k d) hr1 hb2).stored (k := 7) (u := .slice (some ⟨gn, 0, none⟩) 0 dn) hr1 hb2
        have hNN := (((((((HM.out.stored (k := 0) (u := .int .u32 0) hb4).stored (k := 1) (u := .int .i64 0) hb4).stored (k := 2) (u := .int .i64 0) hb4).stored (k := 3) (u := .int .i64 0) hb4).stored (k := 4) (u := .int .i64 0) hb4).stored (k := 5) (u := .bool false) hb4).stored (k := 6) (u := .slice (some ⟨gf, 0, none⟩) k d) hb4).stored (k := 7) (u := .slice (some ⟨gn, 0, none⟩) 0 dn) hb4
        have hr3 : w.heap.size ≤ w.heap.size + 1 := Nat.le_succ _
        have hGG := grown_new (k := 7) (u := .slice (some ⟨gn, 0, none⟩) 0 dn) (grown_new (k := 6) (u := .slice (some ⟨gf, 0, none⟩) k d) (grown_new (k := 5) (u := .bool false) (grown_new (k := 4) (u := .int .i64 0) (grown_new (k := 3) (u := .int .i64 0) (grown_new (k := 2) (u := .int .i64 0) (grown_new (k := 1) (u := .int .i64 0) (grown_new (k := 0) (u := .int .u32 0) HGW.out hr3) hr3) hr3) hr3) hr3) hr3) hr3) hr3
        clear x0 x1 x2 x3 x4 x5 x6 x7 z0 z1 z2 z3 z4 z5 z6 z7 k0 k1 k2 k3 k4 k5 k6 k7 HX1 HX2 HF HM
        generalize ((((((((wr.setCell ⟨w.heap.size + 1, 0, none⟩ (.int .u32 0)).setCell ⟨w.heap.size + 1, 1, none⟩ (.int .i64 0)).setCell ⟨w.heap.size + 1, 2, none⟩ (.int .i64 0)).setCell ⟨w.heap.size + 1, 3, none⟩ (.int .i64 0)).setCell ⟨w.heap.size + 1, 4, none⟩ (.int .i64 0)).setCell ⟨w.heap.size + 1, 5, none⟩ (.bool false)).setCell ⟨w.heap.size + 1, 6, none⟩ (.slice (some ⟨gf, 0, none⟩) k d)).setCell ⟨w.heap.size + 1, 7, none⟩ (.slice (some ⟨gn, 0, none⟩) 0 dn)) = W9 at HFI hFF hNN hGG ⊢
        obtain ⟨z0, z1, z2, z3, z4, z5, z6, z7⟩ := HFI.out.facts
        exact bodyPost_ret (v := .agg #[.int .u32 0, .int .i64 0, .int .i64 0, .int .i64 0, .int .i64 0, .bool false, .slice (some ⟨gf, 0, none⟩) k d, .slice (some ⟨gn, 0, none⟩) 0 dn]) (by simp [results, Try.results21, go_sem, z0, z1, z2, z3, z4, z5, z6, z7]) rfl ⟨rfl, hFF, hNN, hGG⟩
end Go.Proofs.Ytljfmcgeiceagaa
