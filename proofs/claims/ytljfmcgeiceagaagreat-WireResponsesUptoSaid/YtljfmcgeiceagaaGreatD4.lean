/- Several texts in one: RecSpoil, RecMoved, RecKept. -/
import Derived.Test.YtljfmcgeiceagaaGreatD3
/- chroniclelaw4.spoilt. -/
namespace Go.Proofs.YtljfmcgeiceagaaGreat
open Go Go.RowKit
set_option linter.unusedVariables false
set_option linter.unusedSimpArgs false

/-- Seven cells stored into a row of the call's own. -/
theorem own_put7 {w : World} {base g n c : Nat} {e : TypeId} {size : Nat} {xs : List Value} (h : w.ownsRow base e size (.slice (some ⟨g, 0, none⟩) n c) n xs) (j : Nat) (u0 u1 u2 u3 u4 u5 u6 : Value) :
    (((((((w.setCell ⟨g, j, none⟩ u0).setCell ⟨g, j + 1, none⟩ u1).setCell ⟨g, j + 2, none⟩ u2).setCell ⟨g, j + 3, none⟩ u3).setCell ⟨g, j + 4, none⟩ u4).setCell ⟨g, j + 5, none⟩ u5).setCell ⟨g, j + 6, none⟩ u6).ownsRow base e size (.slice (some ⟨g, 0, none⟩) n c) n (((((((xs.set j u0).set (j + 1) u1).set (j + 2) u2).set (j + 3) u3).set (j + 4) u4).set (j + 5) u5).set (j + 6) u6) ∧
    w.grownBy (((((((w.setCell ⟨g, j, none⟩ u0).setCell ⟨g, j + 1, none⟩ u1).setCell ⟨g, j + 2, none⟩ u2).setCell ⟨g, j + 3, none⟩ u3).setCell ⟨g, j + 4, none⟩ u4).setCell ⟨g, j + 5, none⟩ u5).setCell ⟨g, j + 6, none⟩ u6) (some g) := by
  have h0 := h.stored j u0
  have h1 := h0.1.stored (j + 1) u1
  have h2 := h1.1.stored (j + 2) u2
  have h3 := h2.1.stored (j + 3) u3
  have h4 := h3.1.stored (j + 4) u4
  have h5 := h4.1.stored (j + 5) u5
  have h6 := h5.1.stored (j + 6) u6
  exact ⟨h6.1, grown_trans h0.2 (grown_trans h1.2 (grown_trans h2.2 (grown_trans h3.2 (grown_trans h4.2 (grown_trans h5.2 h6.2)))))⟩
theorem own_len {w : World} {base n : Nat} {e : TypeId} {size : Nat} {v : Value} {xs : List Value} (h : w.ownsRow base e size v n xs) : xs.length = n * size := h.1
end Go.Proofs.YtljfmcgeiceagaaGreat

/- chroniclelaw4.moved, back, kept. -/
namespace Go.Proofs.YtljfmcgeiceagaaGreat
open Go Go.RowKit
set_option linter.unusedVariables false
set_option linter.unusedSimpArgs false

def mk77 : Rc := ⟨-77, 0, 0, 0, 0, ⟨#[]⟩, ⟨#[]⟩⟩
end Go.Proofs.YtljfmcgeiceagaaGreat

/- chroniclelaw4.back, kept: a row of records with a mark behind it. -/
namespace Go.Proofs.YtljfmcgeiceagaaGreat
open Go Go.RowKit
set_option linter.unusedVariables false
set_option linter.unusedSimpArgs false

structure FullR (w wr : World) (gf cf n : Nat) (l : List Rc) : Prop where
  f : wr.ownsRow w.heap.size 43 7 (.slice (some ⟨gf, 0, none⟩) (n + 1) cf) (n + 1) (rcCells (l ++ [mk77]))
  be : Below w.heap.size w wr
section
variable {w wr W : World} {gf cf n : Nat} {l l' : List Rc}
theorem FullR.sz (h : FullR w wr gf cf n l) : w.heap.size ≤ wr.heap.size := h.be.size
theorem FullR.below (h : FullR w wr gf cf n l) (hb : Below wr.heap.size wr W) : FullR w W gf cf n l := ⟨own_below h.f hb, h.be.trans (hb.mono h.sz)⟩
theorem FullR.rf (h : FullR w wr gf cf n l) (hn : l.length = n) : Rd wr (some ⟨gf, 0, none⟩) (rcCells l) := by
  have := (rd_own h.f).take_ (n * 7)
  rw [rcCells_append, List.take_left' (by rw [rcCells_length, hn])] at this
  exact this
theorem FullR.cap (h : FullR w wr gf cf n l) : n + 1 ≤ cf := by
  obtain ⟨A, c, e, h1, _, _⟩ := own_shape h.f
  injection e with _ _ e3
  omega
end
theorem rc_set7 (a : List Rc) (y x : Rc) (b : List Rc) : (((((((rcCells (a ++ y :: b)).set (a.length * 7) (.int .i64 x.k)).set (a.length * 7 + 1) (.int .i64 x.o)).set (a.length * 7 + 2) (.int .i64 x.t)).set (a.length * 7 + 3) (.int .i64 x.p)).set (a.length * 7 + 4) (.int .i64 x.s)).set (a.length * 7 + 5) (.string x.key)).set (a.length * 7 + 6) (.string x.val) = rcCells (a ++ x :: b) := by
  rw [rcCells_append, rcCells_append, rcCells_cons, rcCells_cons, ← rcCells_length a]
  have e : ∀ (C D : List Value) (j : Nat) (v : Value), (C ++ D).set (C.length + j) v = C ++ D.set j v := fun C D j v => by
    rw [List.set_append_right _ _ (by omega), Nat.add_sub_cancel_left]
  have e0 := e (rcCells a) (y.cells ++ rcCells b) 0 (.int .i64 x.k)
  rw [Nat.add_zero] at e0
  rw [e0, e, e, e, e, e, e]
  simp [Rc.cells]
theorem back_step {l l0 : List Rc} {k n : Nat} {x : Rc} (hk : k < n) (h0 : l0.length = n) (hl : l.length = n) (hx : l[k]? = some x) :
    (((((((rcCells (l.take k ++ l0.drop k ++ [mk77])).set (k * 7) (.int .i64 x.k)).set (k * 7 + 1) (.int .i64 x.o)).set (k * 7 + 2) (.int .i64 x.t)).set (k * 7 + 3) (.int .i64 x.p)).set (k * 7 + 4) (.int .i64 x.s)).set (k * 7 + 5) (.string x.key)).set (k * 7 + 6) (.string x.val) = rcCells (l.take (k + 1) ++ l0.drop (k + 1) ++ [mk77]) := by
  have hlen : (l.take k).length = k := by rw [List.length_take]; omega
  have hd : l0.drop k = l0[k]'(by omega) :: l0.drop (k + 1) := (List.drop_eq_getElem_cons (by omega))
  obtain ⟨hk2, rfl⟩ := List.getElem?_eq_some_iff.1 hx
  have ht : l.take (k + 1) = l.take k ++ [l[k]] := List.take_succ_eq_append_getElem hk2
  have := rc_set7 (l.take k) (l0[k]'(by omega)) l[k] (l0.drop (k + 1) ++ [mk77])
  rw [hlen] at this
  rw [hd, ht, List.append_assoc, List.cons_append, this]
  simp only [List.append_assoc, List.cons_append, List.nil_append]
theorem FullR.mark {w wr : World} {gf cf n : Nat} {l : List Rc} (h : FullR w wr gf cf n l) (hn : l.length = n) : wr.cell? ⟨gf, n * 7, none⟩ = some (.int .i64 (-77)) := by
  have hl : (l ++ [mk77])[n]? = some mk77 := by rw [← hn]; simp
  obtain ⟨g, off, e, hg, x0, _⟩ := (rd_own h.f).rec hl
  injection e with e
  injection e with e1 e2
  subst e1 e2
  rw [Nat.zero_add] at x0
  exact x0
end Go.Proofs.YtljfmcgeiceagaaGreat
