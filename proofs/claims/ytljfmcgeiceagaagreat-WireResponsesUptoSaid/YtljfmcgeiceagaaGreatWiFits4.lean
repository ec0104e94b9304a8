/- chroniclelaw16.moved at a response that holds records alone. -/
import Derived.Test.YtljfmcgeiceagaaGreatF5
import Derived.Laws.Concat
namespace Go.Proofs.YtljfmcgeiceagaaGreat
open Go Go.RowKit
set_option linter.unusedVariables false
set_option linter.unusedSimpArgs false

def mvx (x : Rc) : Rc := ⟨x.k, IntKind.i64.wrap (x.o + 1), x.t, x.p, x.s, x.key, x.val ++ ⟨#[120]⟩⟩
theorem rc_set1 (a : List Rc) (y : Rc) (b : List Rc) (v : Int) : (rcCells (a ++ y :: b)).set (a.length * 7 + 1) (.int .i64 v) = rcCells (a ++ (⟨y.k, v, y.t, y.p, y.s, y.key, y.val⟩ : Rc) :: b) := by
  rw [rcCells_append, rcCells_append, rcCells_cons, rcCells_cons, ← rcCells_length a, List.set_append_right _ _ (by omega), Nat.add_sub_cancel_left]
  rfl
theorem rc_set6 (a : List Rc) (y : Rc) (b : List Rc) (v : ByteArray) : (rcCells (a ++ y :: b)).set (a.length * 7 + 6) (.string v) = rcCells (a ++ (⟨y.k, y.o, y.t, y.p, y.s, y.key, v⟩ : Rc) :: b) := by
  rw [rcCells_append, rcCells_append, rcCells_cons, rcCells_cons, ← rcCells_length a, List.set_append_right _ _ (by omega), Nat.add_sub_cancel_left]
  rfl
/-- Behind k rounds. -/
def mvl (l : List Rc) (k : Nat) : List Rc := (l.take k).map mvx ++ l.drop k
theorem mvl_get {l : List Rc} {k : Nat} {x : Rc} (hx : l[k]? = some x) : mvl l k = (l.take k).map mvx ++ x :: l.drop (k + 1) ∧ ((l.take k).map mvx).length = k := by
  obtain ⟨hk, rfl⟩ := List.getElem?_eq_some_iff.1 hx
  refine ⟨by unfold mvl; rw [List.drop_eq_getElem_cons hk], by rw [List.length_map, List.length_take]; omega⟩
theorem mvl_step {l : List Rc} {k : Nat} {x : Rc} (hx : l[k]? = some x) : mvl l (k + 1) = (l.take k).map mvx ++ mvx x :: l.drop (k + 1) := by
  obtain ⟨hk, rfl⟩ := List.getElem?_eq_some_iff.1 hx
  unfold mvl
  rw [List.take_succ_eq_append_getElem hk, List.map_append, List.append_assoc]
  rfl
theorem FullR.put {w W : World} {gf d n : Nat} {l l' : List Rc} {k : Nat} {u : Value} (h : FullR w W gf d n l) (he : (rcCells (l ++ [mk77])).set k u = rcCells (l' ++ [mk77])) : FullR w (W.setCell ⟨gf, k, none⟩ u) gf d n l' := by
  have hs := h.f.stored k u
  rw [he] at hs
  exact ⟨hs.1, h.be.trans (below_of_grown hs.2 h.sz (fun j hj => by injection hj with hj; subst hj; exact (h.f.lt gf rfl).1))⟩
theorem NmM.put {w W : World} {gn dn gf k : Nat} {u : Value} (h : NmM w W gn dn) (hne : gn ≠ gf) : NmM w (W.setCell ⟨gf, k, none⟩ u) gn dn := h.stored (fun e => hne e.symm)
end Go.Proofs.YtljfmcgeiceagaaGreat
