/- Several texts in one: WiFits1, WiFits2, WiFits3. -/
import Derived.Test.YtljfmcgeiceagaaGreatD4
import Derived.Test.YtljfmcgeiceagaaGreatX6
import Derived.Deep.CutRange
import Derived.StillTailTactics
import Derived.BigQuiet
/- wire.Fits, and the reference's. -/
namespace Go.Proofs.YtljfmcgeiceagaaGreat
open Go Go.RowKit
set_option linter.unusedVariables false
set_option linter.unusedSimpArgs false

theorem rsize_le (x : Rc) : rsize x ≤ 1124 := by
  unfold rsize renc
  split
  next h => have := (bdy_len (chk_may h)).2; simp only [wrap_length]; omega
  next h => simp
end Go.Proofs.YtljfmcgeiceagaaGreat

/- chroniclelaw16.copied, moved, back, alike, kept at a response that holds records alone. -/
namespace Go.Proofs.YtljfmcgeiceagaaGreat
open Go Go.RowKit
set_option linter.unusedVariables false
set_option linter.unusedSimpArgs false

/-- The mark behind the names. -/
structure NmM (w wr : World) (gn dn : Nat) : Prop where
  c : wr.cell? ⟨gn, 0, none⟩ = some (.string ⟨#[47]⟩)
  lt : gn < wr.heap.size
  ge : w.heap.size ≤ gn
  cap : 1 ≤ dn
theorem NmM.below {w wr W : World} {gn dn : Nat} (h : NmM w wr gn dn) (hb : Below wr.heap.size wr W) : NmM w W gn dn :=
  ⟨(hb.cell (p := ⟨gn, 0, none⟩) h.lt).trans h.c, Nat.lt_of_lt_of_le h.lt hb.size, h.ge, h.cap⟩
theorem infoStr : (Tryz.prog.info? 9).map (fun i => (i.zero, i.size, i.bytes)) = some (some (.string ⟨#[]⟩), 1, 16) := by kernel_rfl
/-- A response's box. -/
def RBx (W : World) (b : Nat) (rs ns : Value) : Prop := W.heap[b]? = some (.cells #[.int .u32 0, .int .i64 0, .int .i64 0, .int .i64 0, .int .i64 0, .bool false, rs, ns] 26 (0, 0))
theorem RBx.new (W : World) (rs ns : Value) : RBx (W.alloc (.cells #[.int .u32 0, .int .i64 0, .int .i64 0, .int .i64 0, .int .i64 0, .bool false, rs, ns] 26)) W.heap.size rs ns := heap_alloc_new W _
section
variable {W W' : World} {b B : Nat} {rs ns : Value}
theorem RBx.lt (h : RBx W b rs ns) : b < W.heap.size := lt_of_block h
theorem RBx.below (h : RBx W b rs ns) (hb : Below B W W') (hlt : b < B) : RBx W' b rs ns := (hb.block b hlt).trans h
theorem RBx.grown {r : Option Nat} (h : RBx W b rs ns) (hg : W.grownBy W' r) (hr : some b ≠ r) : RBx W' b rs ns := (hg.block b h.lt hr).trans h
theorem RBx.facts (h : RBx W b rs ns) : W.cell? ⟨b, 0, none⟩ = some (.int .u32 0) ∧ W.cell? ⟨b, 1, none⟩ = some (.int .i64 0) ∧ W.cell? ⟨b, 2, none⟩ = some (.int .i64 0) ∧ W.cell? ⟨b, 3, none⟩ = some (.int .i64 0) ∧ W.cell? ⟨b, 4, none⟩ = some (.int .i64 0) ∧ W.cell? ⟨b, 5, none⟩ = some (.bool false) ∧ W.cell? ⟨b, 6, none⟩ = some rs ∧ W.cell? ⟨b, 7, none⟩ = some ns :=
  ⟨cell_of_row W b 0 _ _ _ h, cell_of_row W b 1 _ _ _ h, cell_of_row W b 2 _ _ _ h, cell_of_row W b 3 _ _ _ h, cell_of_row W b 4 _ _ _ h, cell_of_row W b 5 _ _ _ h, cell_of_row W b 6 _ _ _ h, cell_of_row W b 7 _ _ _ h⟩
theorem RBx.marks (h : RBx W b rs ns) : W.frozen? ⟨b, 0, none⟩ = false ∧ W.frozen? ⟨b, 1, none⟩ = false ∧ W.frozen? ⟨b, 2, none⟩ = false ∧ W.frozen? ⟨b, 3, none⟩ = false ∧ W.frozen? ⟨b, 4, none⟩ = false ∧ W.frozen? ⟨b, 5, none⟩ = false ∧ W.frozen? ⟨b, 6, none⟩ = false ∧ W.frozen? ⟨b, 7, none⟩ = false :=
  ⟨frozen_of_row W b 0 _ _ h, frozen_of_row W b 1 _ _ h, frozen_of_row W b 2 _ _ h, frozen_of_row W b 3 _ _ h, frozen_of_row W b 4 _ _ h, frozen_of_row W b 5 _ _ h, frozen_of_row W b 6 _ _ h, frozen_of_row W b 7 _ _ h⟩
end
theorem stored_grown (W : World) (b k : Nat) (u : Value) : W.grownBy (W.setCell ⟨b, k, none⟩ u) (some b) := ⟨rfl, rfl, rfl, by simp, fun j _ hj => heap_setCell_other W ⟨b, k, none⟩ j u (fun e => hj (by rw [e]))⟩
theorem RBx.other {W : World} {b b' k : Nat} {rs ns u : Value} (h : RBx W b rs ns) (hne : b ≠ b') : RBx (W.setCell ⟨b', k, none⟩ u) b rs ns := h.grown (stored_grown W b' k u) (fun e => hne (by injection e))
theorem own_keepW {w w' : World} {base n : Nat} {e : TypeId} {size : Nat} {v : Value} {xs : List Value} {r : Option Nat} (h : w.ownsRow base e size v n xs) (hg : w.grownBy w' r) (hne : ∀ q, r = some q → v.ownBlock ≠ some q) : w'.ownsRow base e size v n xs :=
  h.kept hg (by
    cases hv : v.ownBlock with
    | none => exact .inl rfl
    | some q =>
      right
      intro hh
      exact hne q hh.symm hv)
theorem FullR.stored {w W : World} {gf d n b k : Nat} {l : List Rc} {u : Value} (h : FullR w W gf d n l) (h1 : w.heap.size ≤ b) (h2 : b ≠ gf) : FullR w (W.setCell ⟨b, k, none⟩ u) gf d n l :=
  ⟨own_keepW h.f (stored_grown W b k u) (fun q hq e => by injection hq with hq; subst hq; injection e with e; exact h2 e.symm), h.be.trans (below_of_grown (stored_grown W b k u) h.sz (fun q hq => by injection hq with hq; exact hq ▸ h1))⟩
theorem NmM.stored {w W : World} {gn dn b k : Nat} {u : Value} (h : NmM w W gn dn) (h2 : b ≠ gn) : NmM w (W.setCell ⟨b, k, none⟩ u) gn dn :=
  ⟨(stored_grown W b k u).cell h.c (fun e => h2 (by injection e with e; exact e.symm)), by simpa using h.lt, h.ge, h.cap⟩
end Go.Proofs.YtljfmcgeiceagaaGreat

/- chroniclelaw16.alike, kept, back at a response that holds records alone. -/
namespace Go.Proofs.YtljfmcgeiceagaaGreat
open Go Go.RowKit
set_option linter.unusedVariables false
set_option linter.unusedSimpArgs false

theorem FullR.drew {w W : World} {gf d n : Nat} {l : List Rc} (h : FullR w W gf d n l) : FullR w W.drew gf d n l := h.below (Below.refl _ _).drew
theorem NmM.drew {w W : World} {gn dn : Nat} (h : NmM w W gn dn) : NmM w W.drew gn dn := h.below (Below.refl _ _).drew
theorem RBx.drew {W : World} {b : Nat} {rs ns : Value} (h : RBx W b rs ns) : RBx W.drew b rs ns := h.below (Below.refl _ _).drew h.lt
end Go.Proofs.YtljfmcgeiceagaaGreat
