/- What QuotaBound's rounds carry. -/
import Derived.Test.YthcmkjiemlfpcaaWalkQuotaWait
import Derived.Test.YthcmkjiemlfpcaaQPlain3
import Derived.Test.YthcmkjiemlfpcaaInts
import Derived.OneCell
namespace Go.Proofs.Ythcmkjiemlfpcaa
open Go Go.RowKit
set_option linter.unusedVariables false

theorem run_field3 (x0 x1 x2 x3 x4 x5 : Int) (W : World) : (Instr.field 23 (.agg #[.int .i64 x0, .int .i64 x1, .int .i64 x2, .int .i64 x3, .int .i64 x4, .int .i64 x5]) 3).run Try.prog W = .ok (.int .i64 x3) W := by kernel_rfl

theorem cells_setCell {w : World} {g : Nat} {cs : Array Value} {e : TypeId} {f : Nat × Nat} (h : w.heap[g]? = some (.cells cs e f)) (i : Nat) (u : Value) : (w.setCell ⟨g, i, none⟩ u).heap[g]? = some (.cells (cs.setIfInBounds i u) e f) := by
  have hlt := (Array.getElem?_eq_some_iff.1 h).1
  have h' := (Array.getElem?_eq_some_iff.1 h).2
  show (w.heap.modify g _)[g]? = _
  rw [Array.getElem?_eq_getElem (by simpa using hlt), Array.getElem_modify_self, h']
  rfl

theorem Bx.store {w : World} {g : Nat} {x0 x1 x2 x3 x4 x5 : Int} (h : Bx w g x0 x1 x2 x3 x4 x5) (y0 y1 y2 y3 y4 y5 : Int) :
    Bx ((((((w.setCell ⟨g, 0, none⟩ (.int .i64 y0)).setCell ⟨g, 1, none⟩ (.int .i64 y1)).setCell ⟨g, 2, none⟩ (.int .i64 y2)).setCell ⟨g, 3, none⟩ (.int .i64 y3)).setCell ⟨g, 4, none⟩ (.int .i64 y4)).setCell ⟨g, 5, none⟩ (.int .i64 y5)) g y0 y1 y2 y3 y4 y5 :=
  cells_setCell (cells_setCell (cells_setCell (cells_setCell (cells_setCell (cells_setCell h 0 _) 1 _) 2 _) 3 _) 4 _) 5 _

theorem Bx.grown {w w' : World} {g : Nat} {x0 x1 x2 x3 x4 x5 : Int} {row : Option Nat} (h : Bx w g x0 x1 x2 x3 x4 x5) (hg : w.grownBy w' row) (hne : some g ≠ row) : Bx w' g x0 x1 x2 x3 x4 x5 :=
  (hg.block g h.lt hne).trans h

structure BLoop (w wr : World) (g : Nat) (n d u now : Int) (k : Nat) (t0 : Int) (x3 x4 : Int) (tv kv : Value) (T K : List Int) : Prop where
  ot : wr.ownsRow w.heap.size 2 1 tv T.length (i64s T)
  ok : wr.ownsRow w.heap.size 2 1 kv K.length (i64s K)
  bx : Bx wr g n d u x3 x4 t0
  hi : Hist n d u now k t0 ⟨n, d, u, x3, x4, t0⟩ T K
  st : ∀ q, tv.ownBlock = some q → q ≠ g ∧ kv.ownBlock ≠ some q
  sk : ∀ q, kv.ownBlock = some q → q ≠ g
  gl : w.heap.size ≤ g
  be : Below w.heap.size w wr

variable {w wr W : World} {g : Nat} {n d u now : Int} {k : Nat} {t0 x3 x4 : Int} {tv kv : Value} {T K : List Int}

theorem BLoop.more (h : BLoop w wr g n d u now k t0 x3 x4 tv kv T K) (hb : Below wr.heap.size wr W) : BLoop w W g n d u now k t0 x3 x4 tv kv T K :=
  ⟨own_below h.ot hb, own_below h.ok hb, h.bx.below hb h.bx.lt, h.hi, h.st, h.sk, h.gl, h.be.trans (hb.mono h.be.size)⟩

theorem BLoop.skip (h : BLoop w wr g n d u now k t0 x3 x4 tv kv T K) : BLoop w wr g n d u now (k + 1) t0 x3 x4 tv kv T K :=
  ⟨h.ot, h.ok, h.bx, h.hi.skip, h.st, h.sk, h.gl, h.be⟩

/-- A bucket has come into the box. -/
theorem bloop_stored (ot : wr.ownsRow w.heap.size 2 1 tv T.length (i64s T)) (ok : wr.ownsRow w.heap.size 2 1 kv K.length (i64s K)) (bx : Bx wr g n d u x3 x4 t0)
    (st : ∀ q, tv.ownBlock = some q → q ≠ g ∧ kv.ownBlock ≠ some q) (sk : ∀ q, kv.ownBlock = some q → q ≠ g) (gl : w.heap.size ≤ g) (be : Below w.heap.size w wr)
    {k' : Nat} {t' y3 y4 : Int} (hh : Hist n d u now k' t' ⟨n, d, u, y3, y4, t'⟩ T K) :
    BLoop w ((((((wr.setCell ⟨g, 0, none⟩ (.int .i64 n)).setCell ⟨g, 1, none⟩ (.int .i64 d)).setCell ⟨g, 2, none⟩ (.int .i64 u)).setCell ⟨g, 3, none⟩ (.int .i64 y3)).setCell ⟨g, 4, none⟩ (.int .i64 y4)).setCell ⟨g, 5, none⟩ (.int .i64 t')) g n d u now k' t' y3 y4 tv kv T K := by
  have nt : ∀ i, tv.ownBlock ≠ some (⟨g, i, none⟩ : Addr).block := fun i e => (st g e).1 rfl
  have nk : ∀ i, kv.ownBlock ≠ some (⟨g, i, none⟩ : Addr).block := fun i e => sk g e rfl
  refine ⟨?_, ?_, bx.store n d u y3 y4 t', hh, st, sk, gl, ?_⟩
  · exact ownsRow_setCell_other (ownsRow_setCell_other (ownsRow_setCell_other (ownsRow_setCell_other (ownsRow_setCell_other (ownsRow_setCell_other ot (nt 0) _) (nt 1) _) (nt 2) _) (nt 3) _) (nt 4) _) (nt 5) _
  · exact ownsRow_setCell_other (ownsRow_setCell_other (ownsRow_setCell_other (ownsRow_setCell_other (ownsRow_setCell_other (ownsRow_setCell_other ok (nk 0) _) (nk 1) _) (nk 2) _) (nk 3) _) (nk 4) _) (nk 5) _
  · exact (((((be.setCell gl _).setCell gl _).setCell gl _).setCell gl _).setCell gl _).setCell gl _

/-- A tick is written down. -/
theorem BLoop.push_t (h : BLoop w wr g n d u now k t0 x3 x4 tv kv T K) {tv' : Value} {z : Int} (ho : W.ownsRow w.heap.size 2 1 tv' (T.length + 1) (i64s (T ++ [z]))) (hg : wr.grownBy W tv.ownBlock)
    (hb : tv'.ownBlock = tv.ownBlock ∨ ∃ q, tv'.ownBlock = some q ∧ wr.heap.size ≤ q) :
    W.ownsRow w.heap.size 2 1 kv K.length (i64s K) ∧ Bx W g n d u x3 x4 t0 ∧ (∀ q, tv'.ownBlock = some q → q ≠ g ∧ kv.ownBlock ≠ some q) ∧ Below w.heap.size w W := by
  refine ⟨h.ok.kept hg ?_, h.bx.grown hg (fun e => (h.st g e.symm).1 rfl), fun q hq => ?_, h.be.trans (below_of_grown hg h.be.size (fun q hq => (own_block_lt h.ot hq).1))⟩
  · cases e : kv.ownBlock with
    | none => exact .inl rfl
    | some q => exact .inr fun e' => (h.st q e'.symm).2 e
  · rcases hb with hb | ⟨q', hb, hl⟩
    · exact h.st q (hb ▸ hq)
    · rw [hb] at hq
      injection hq with hq
      subst hq
      refine ⟨?_, fun e => ?_⟩
      · have := h.bx.lt
        omega
      · have := (own_block_lt h.ok e).2
        omega

/-- How many were taken is written down. -/
theorem push_k {W W' : World} {kv' : Value} (ho : W.ownsRow w.heap.size 2 1 tv T.length (i64s T)) (hk : W.ownsRow w.heap.size 2 1 kv K.length (i64s K)) (hx : Bx W g n d u x3 x4 t0)
    (st : ∀ q, tv.ownBlock = some q → q ≠ g ∧ kv.ownBlock ≠ some q) (sk : ∀ q, kv.ownBlock = some q → q ≠ g) (gl : w.heap.size ≤ g) (be : Below w.heap.size w W)
    (hg : W.grownBy W' kv.ownBlock) (hb : kv'.ownBlock = kv.ownBlock ∨ ∃ q, kv'.ownBlock = some q ∧ W.heap.size ≤ q) :
    W'.ownsRow w.heap.size 2 1 tv T.length (i64s T) ∧ Bx W' g n d u x3 x4 t0 ∧ (∀ q, tv.ownBlock = some q → q ≠ g ∧ kv'.ownBlock ≠ some q) ∧ (∀ q, kv'.ownBlock = some q → q ≠ g) ∧ Below w.heap.size w W' := by
  refine ⟨ho.kept hg ?_, hx.grown hg (fun e => sk g e.symm rfl), fun q hq => ⟨(st q hq).1, fun e => ?_⟩, fun q hq => ?_, be.trans (below_of_grown hg be.size (fun q hq => (own_block_lt hk hq).1))⟩
  · cases e : tv.ownBlock with
    | none => exact .inl rfl
    | some q => exact .inr fun e' => (st q e).2 e'.symm
  · rcases hb with hb | ⟨q', hb, hl⟩
    · exact (st q hq).2 (hb ▸ e)
    · rw [hb] at e
      injection e with e
      subst e
      have := (own_block_lt ho hq).2
      omega
  · rcases hb with hb | ⟨q', hb, hl⟩
    · exact sk q (hb ▸ hq)
    · rw [hb] at hq
      injection hq with hq
      subst hq
      have := hx.lt
      omega

/-- Between two rounds: what was made since, and the box of what Take answered. -/
structure BMid (wr W : World) (g7 : Nat) (c0 c1 c2 c3 c4 c5 : Int) : Prop where
  bl : Below wr.heap.size wr W
  b7 : Bx W g7 c0 c1 c2 c3 c4 c5
  gl : wr.heap.size ≤ g7
theorem BMid.mk0 {wr w4 : World} (hb : Below wr.heap.size wr w4) (c0 c1 c2 c3 c4 c5 : Int) : BMid wr (w4.alloc (.cells #[.int .i64 c0, .int .i64 c1, .int .i64 c2, .int .i64 c3, .int .i64 c4, .int .i64 c5] 23)) w4.heap.size c0 c1 c2 c3 c4 c5 :=
  ⟨hb.alloc hb.size _, Bx.new w4 c0 c1 c2 c3 c4 c5, hb.size⟩
theorem BMid.st {wr w4 : World} (hb : Below wr.heap.size wr w4) (hz : Bx w4 wr.heap.size 0 0 0 0 0 0) (c0 c1 c2 c3 c4 c5 : Int) :
    BMid wr ((((((w4.setCell ⟨wr.heap.size, 0, none⟩ (.int .i64 c0)).setCell ⟨wr.heap.size, 1, none⟩ (.int .i64 c1)).setCell ⟨wr.heap.size, 2, none⟩ (.int .i64 c2)).setCell ⟨wr.heap.size, 3, none⟩ (.int .i64 c3)).setCell ⟨wr.heap.size, 4, none⟩ (.int .i64 c4)).setCell ⟨wr.heap.size, 5, none⟩ (.int .i64 c5)) wr.heap.size c0 c1 c2 c3 c4 c5 :=
  ⟨(((((hb.setCell (Nat.le_refl _) _).setCell (Nat.le_refl _) _).setCell (Nat.le_refl _) _).setCell (Nat.le_refl _) _).setCell (Nat.le_refl _) _).setCell (Nat.le_refl _) _, hz.store _ _ _ _ _ _, Nat.le_refl _⟩
theorem BMid.more {wr W W' : World} {g7 : Nat} {c0 c1 c2 c3 c4 c5 : Int} (h : BMid wr W g7 c0 c1 c2 c3 c4 c5) (hb : Below W.heap.size W W') : BMid wr W' g7 c0 c1 c2 c3 c4 c5 :=
  ⟨h.bl.trans (hb.mono h.bl.size), h.b7.below hb h.b7.lt, h.gl⟩
theorem BMid.drew {wr W : World} {g7 : Nat} {c0 c1 c2 c3 c4 c5 : Int} (h : BMid wr W g7 c0 c1 c2 c3 c4 c5) : BMid wr W.drew g7 c0 c1 c2 c3 c4 c5 := ⟨h.bl.drew, h.b7, h.gl⟩
theorem BMid.s {wr W : World} {g g7 gA oA : Nat} {c0 c1 c2 c3 c4 c5 x0 x1 x2 x3 x4 x5 m : Int} (h : BMid wr W g7 c0 c1 c2 c3 c4 c5) (hx : Bx wr g x0 x1 x2 x3 x4 x5) (hc : wr.cell? ⟨gA, oA, none⟩ = some (.int .i64 m)) :
    W.cell? ⟨g7, 0, none⟩ = some (.int .i64 c0) ∧ W.cell? ⟨g7, 1, none⟩ = some (.int .i64 c1) ∧ W.cell? ⟨g7, 2, none⟩ = some (.int .i64 c2) ∧ W.cell? ⟨g7, 3, none⟩ = some (.int .i64 c3) ∧ W.cell? ⟨g7, 4, none⟩ = some (.int .i64 c4) ∧ W.cell? ⟨g7, 5, none⟩ = some (.int .i64 c5) ∧ W.cell? ⟨g, 0, none⟩ = some (.int .i64 x0) ∧ W.cell? ⟨g, 1, none⟩ = some (.int .i64 x1) ∧ W.cell? ⟨g, 2, none⟩ = some (.int .i64 x2) ∧ W.cell? ⟨g, 3, none⟩ = some (.int .i64 x3) ∧ W.cell? ⟨g, 4, none⟩ = some (.int .i64 x4) ∧ W.cell? ⟨g, 5, none⟩ = some (.int .i64 x5) ∧ W.cell? ⟨gA, oA, none⟩ = some (.int .i64 m) ∧ BMid wr W g7 c0 c1 c2 c3 c4 c5 :=
  have f := h.b7.facts
  have e := (hx.below h.bl hx.lt).facts
  ⟨f.c0, f.c1, f.c2, f.c3, f.c4, f.c5, e.c0, e.c1, e.c2, e.c3, e.c4, e.c5, (h.bl.cell (p := ⟨gA, oA, none⟩) (World.block_lt_of_cell? wr _ hc)).trans hc, h⟩
theorem BMid.ofS {wr W : World} {g g7 gA oA : Nat} {c0 c1 c2 c3 c4 c5 x0 x1 x2 x3 x4 x5 m : Int} (h : W.cell? ⟨g7, 0, none⟩ = some (.int .i64 c0) ∧ W.cell? ⟨g7, 1, none⟩ = some (.int .i64 c1) ∧ W.cell? ⟨g7, 2, none⟩ = some (.int .i64 c2) ∧ W.cell? ⟨g7, 3, none⟩ = some (.int .i64 c3) ∧ W.cell? ⟨g7, 4, none⟩ = some (.int .i64 c4) ∧ W.cell? ⟨g7, 5, none⟩ = some (.int .i64 c5) ∧ W.cell? ⟨g, 0, none⟩ = some (.int .i64 x0) ∧ W.cell? ⟨g, 1, none⟩ = some (.int .i64 x1) ∧ W.cell? ⟨g, 2, none⟩ = some (.int .i64 x2) ∧ W.cell? ⟨g, 3, none⟩ = some (.int .i64 x3) ∧ W.cell? ⟨g, 4, none⟩ = some (.int .i64 x4) ∧ W.cell? ⟨g, 5, none⟩ = some (.int .i64 x5) ∧ W.cell? ⟨gA, oA, none⟩ = some (.int .i64 m) ∧ BMid wr W g7 c0 c1 c2 c3 c4 c5) : BMid wr W g7 c0 c1 c2 c3 c4 c5 := h.2.2.2.2.2.2.2.2.2.2.2.2.2

/-- What a statement that asks the bucket and one number looks at. -/
theorem bS {wr W : World} {g gA oA : Nat} {x0 x1 x2 x3 x4 x5 m : Int} (h : Below wr.heap.size wr W) (hx : Bx wr g x0 x1 x2 x3 x4 x5) (hc : wr.cell? ⟨gA, oA, none⟩ = some (.int .i64 m)) :
    W.cell? ⟨g, 0, none⟩ = some (.int .i64 x0) ∧ W.cell? ⟨g, 1, none⟩ = some (.int .i64 x1) ∧ W.cell? ⟨g, 2, none⟩ = some (.int .i64 x2) ∧ W.cell? ⟨g, 3, none⟩ = some (.int .i64 x3) ∧ W.cell? ⟨g, 4, none⟩ = some (.int .i64 x4) ∧ W.cell? ⟨g, 5, none⟩ = some (.int .i64 x5) ∧ W.cell? ⟨gA, oA, none⟩ = some (.int .i64 m) ∧ Below wr.heap.size wr W :=
  have e := (hx.below h hx.lt).facts
  ⟨e.c0, e.c1, e.c2, e.c3, e.c4, e.c5, (h.cell (p := ⟨gA, oA, none⟩) (World.block_lt_of_cell? wr _ hc)).trans hc, h⟩
theorem bOf {wr W : World} {g gA oA : Nat} {x0 x1 x2 x3 x4 x5 m : Int} (h : W.cell? ⟨g, 0, none⟩ = some (.int .i64 x0) ∧ W.cell? ⟨g, 1, none⟩ = some (.int .i64 x1) ∧ W.cell? ⟨g, 2, none⟩ = some (.int .i64 x2) ∧ W.cell? ⟨g, 3, none⟩ = some (.int .i64 x3) ∧ W.cell? ⟨g, 4, none⟩ = some (.int .i64 x4) ∧ W.cell? ⟨g, 5, none⟩ = some (.int .i64 x5) ∧ W.cell? ⟨gA, oA, none⟩ = some (.int .i64 m) ∧ Below wr.heap.size wr W) : Below wr.heap.size wr W := h.2.2.2.2.2.2.2
end Go.Proofs.Ythcmkjiemlfpcaa
