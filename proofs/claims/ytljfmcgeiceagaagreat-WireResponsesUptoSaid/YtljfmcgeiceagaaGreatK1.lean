/- Several texts in one: WiEnc, WiEnc2, WiDec1, WiDec2. -/
import Derived.Test.YtljfmcgeiceagaaGreatW1
import Derived.Test.YtljfmcgeiceagaaGreatX6
import Derived.Test.YtljfmcgeiceagaaGreatF5
import Derived.Test.YtljfmcgeiceagaaGreatX2
import Derived.Deep.RegionHeld3
import Derived.Deep.CutRange
import Derived.BigQuiet
/- wire.written at a response without lists (printed by gen_wienc.py). -/
namespace Go.Proofs.YtljfmcgeiceagaaGreat
open Go Go.RowKit
set_option linter.unusedVariables false
set_option linter.unusedSimpArgs false

/-- A response's box and the box of its records' bytes. -/
structure PB (W : World) (gr gl id op c : Nat) : Prop where
  lt1 : gr < W.heap.size
  lt2 : gl < W.heap.size
  c0 : W.cell? ⟨gr, 0, none⟩ = some (.int .u32 (id : Int))
  c1 : W.cell? ⟨gr, 1, none⟩ = some (.int .i64 (op : Int))
  c2 : W.cell? ⟨gr, 2, none⟩ = some (.int .i64 (c : Int))
  c3 : W.cell? ⟨gr, 3, none⟩ = some (.int .i64 0)
  c4 : W.cell? ⟨gr, 4, none⟩ = some (.int .i64 0)
  c5 : W.cell? ⟨gr, 5, none⟩ = some (.bool false)
  c6 : W.cell? ⟨gr, 6, none⟩ = some (.slice none 0 0)
  c7 : W.cell? ⟨gr, 7, none⟩ = some (.slice none 0 0)
  cl : W.cell? ⟨gl, 0, none⟩ = some (.slice none 0 0)
theorem PB.below {W W' : World} {gr gl id op c B : Nat} (h : PB W gr gl id op c) (hb : Below B W W') (h1 : gr < B) (h2 : gl < B) : PB W' gr gl id op c :=
  ⟨Nat.lt_of_lt_of_le h.lt1 hb.size, Nat.lt_of_lt_of_le h.lt2 hb.size, (hb.cell (p := ⟨gr, 0, none⟩) h1).trans h.c0, (hb.cell (p := ⟨gr, 1, none⟩) h1).trans h.c1, (hb.cell (p := ⟨gr, 2, none⟩) h1).trans h.c2, (hb.cell (p := ⟨gr, 3, none⟩) h1).trans h.c3, (hb.cell (p := ⟨gr, 4, none⟩) h1).trans h.c4, (hb.cell (p := ⟨gr, 5, none⟩) h1).trans h.c5, (hb.cell (p := ⟨gr, 6, none⟩) h1).trans h.c6, (hb.cell (p := ⟨gr, 7, none⟩) h1).trans h.c7, (hb.cell (p := ⟨gl, 0, none⟩) h2).trans h.cl⟩
end Go.Proofs.YtljfmcgeiceagaaGreat

/- wire.framed, written, EncodeResponse, CheckResponse at a response without lists. -/
namespace Go.Proofs.YtljfmcgeiceagaaGreat
open Go Go.RowKit
set_option linter.unusedVariables false
set_option linter.unusedSimpArgs false

def bts (id op c : Nat) : List Nat := [82, op, c, id, 0, 0, 0, 0, 0]
end Go.Proofs.YtljfmcgeiceagaaGreat

/- Reading the body of a response without lists. -/
namespace Go.Proofs.YtljfmcgeiceagaaGreat
open Go Go.RowKit
set_option linter.unusedVariables false
set_option linter.unusedSimpArgs false

theorem bd_wrap {b : List Nat} (hb : By b) (h1 : 0 < b.length) (h2 : b.length ≤ 4087) : bd (wrap 197 b) = (b, 0) := by
  obtain ⟨p1, p2, p3, p4⟩ := wrap_parts 197 b
  have hl := wrap_length 197 b
  have hv : val ((List.drop 1 (wrap 197 b)).take 4) = b.length := by rw [p2, val_fx (by omega)]
  have hh : hd (wrap 197 b) = (9 + (b.length : Int), 0) := by
    unfold hd
    rw [p1, hv, if_neg (by simp), if_neg (by omega), if_neg (by omega), if_neg (by omega)]
  unfold bd
  rw [hh, if_neg (by simp only [hl]; simp; omega), p2, p3, p4, val_fx (crcOf_lt hb)]
  exact if_pos rfl
abbrev stR (id op c k : Nat) : Rs := ⟨bts id op c, k, 0, 0⟩
def RB8 (W : World) (b : Nat) (x0 x1 x2 x3 x4 x5 : Value) : Prop := W.heap[b]? = some (.cells #[x0, x1, x2, x3, x4, x5, .slice none 0 0, .slice none 0 0] 26 (0, 0))
section
variable {W W' : World} {b : Nat} {x0 x1 x2 x3 x4 x5 : Value}
theorem RB8.lt (h : RB8 W b x0 x1 x2 x3 x4 x5) : b < W.heap.size := lt_of_block h
theorem RB8.below (h : RB8 W b x0 x1 x2 x3 x4 x5) (hb : Below W.heap.size W W') : RB8 W' b x0 x1 x2 x3 x4 x5 := (hb.block b h.lt).trans h
theorem RB8.kept {g : Nat} (h : RB8 W b x0 x1 x2 x3 x4 x5) (hk : KeptS W W' (fun q => q = g)) (hne : b ≠ g) : RB8 W' b x0 x1 x2 x3 x4 x5 := (hk.block b h.lt hne).trans h
theorem RB8.other {b' k : Nat} {u : Value} (h : RB8 W b x0 x1 x2 x3 x4 x5) (hne : b ≠ b') : RB8 (W.setCell ⟨b', k, none⟩ u) b x0 x1 x2 x3 x4 x5 := (heap_setCell_other W ⟨b', k, none⟩ b u (by simpa using hne)).trans h
theorem RB8.set3 (h : RB8 W b x0 x1 x2 x3 x4 x5) (u : Value) : RB8 (W.setCell ⟨b, 3, none⟩ u) b x0 x1 x2 u x4 x5 := heap_setCell_same W b 3 _ _ u h
theorem RB8.facts (h : RB8 W b x0 x1 x2 x3 x4 x5) : W.cell? ⟨b, 0, none⟩ = some x0 ∧ W.cell? ⟨b, 1, none⟩ = some x1 ∧ W.cell? ⟨b, 2, none⟩ = some x2 ∧ W.cell? ⟨b, 3, none⟩ = some x3 ∧ W.cell? ⟨b, 4, none⟩ = some x4 ∧ W.cell? ⟨b, 5, none⟩ = some x5 ∧ W.cell? ⟨b, 6, none⟩ = some (.slice none 0 0) ∧ W.cell? ⟨b, 7, none⟩ = some (.slice none 0 0) :=
  ⟨cell_of_row W b 0 _ _ _ h, cell_of_row W b 1 _ _ _ h, cell_of_row W b 2 _ _ _ h, cell_of_row W b 3 _ _ _ h, cell_of_row W b 4 _ _ _ h, cell_of_row W b 5 _ _ _ h, cell_of_row W b 6 _ _ _ h, cell_of_row W b 7 _ _ _ h⟩
theorem RB8.marks (h : RB8 W b x0 x1 x2 x3 x4 x5) : W.frozen? ⟨b, 0, none⟩ = false ∧ W.frozen? ⟨b, 1, none⟩ = false ∧ W.frozen? ⟨b, 2, none⟩ = false ∧ W.frozen? ⟨b, 3, none⟩ = false ∧ W.frozen? ⟨b, 4, none⟩ = false ∧ W.frozen? ⟨b, 5, none⟩ = false ∧ W.frozen? ⟨b, 6, none⟩ = false ∧ W.frozen? ⟨b, 7, none⟩ = false :=
  ⟨frozen_of_row W b 0 _ _ h, frozen_of_row W b 1 _ _ h, frozen_of_row W b 2 _ _ h, frozen_of_row W b 3 _ _ h, frozen_of_row W b 4 _ _ h, frozen_of_row W b 5 _ _ h, frozen_of_row W b 6 _ _ h, frozen_of_row W b 7 _ _ h⟩
end
end Go.Proofs.YtljfmcgeiceagaaGreat

/- wire.DecodeResponse at the frame of a response without lists. -/
namespace Go.Proofs.YtljfmcgeiceagaaGreat
open Go Go.RowKit
set_option linter.unusedVariables false
set_option linter.unusedSimpArgs false

/-- Under way: the reader at place k, its box, the result's box. -/
structure DS (w W : World) (base g : Nat) (v : Value) (gi go id op c k : Nat) : Prop where
  rd : Rdr base W 88 Rs.cells g v (stR id op c k)
  ci : W.heap[gi]? = some (.cells #[.pointer (some ⟨g, 0, none⟩)] 50 (0, 0))
  ro : RB8 W go (.int .u32 0) (.int .i64 0) (.int .i64 0) (.int .i64 0) (.int .i64 0) (.bool false)
  be : Below w.heap.size w W
  ge : w.heap.size ≤ g
  n1 : gi ≠ g
  n2 : go ≠ g
  n3 : gi ≠ go
section
variable {w W W' : World} {base g : Nat} {v : Value} {gi go id op c k k' b : Nat} {u : Value}
theorem DS.cell (h : DS w W base g v gi go id op c k) : W.cell? ⟨gi, 0, none⟩ = some (.pointer (some ⟨g, 0, none⟩)) := cell_of_row W gi 0 _ _ _ h.ci
theorem DS.gil (h : DS w W base g v gi go id op c k) : gi < W.heap.size := lt_of_block h.ci
theorem DS.below (h : DS w W base g v gi go id op c k) (hb : Below W.heap.size W W') : DS w W' base g v gi go id op c k :=
  ⟨h.rd.below hb, (hb.block gi h.gil).trans h.ci, h.ro.below hb, h.be.trans (hb.mono h.be.size), h.ge, h.n1, h.n2, h.n3⟩
theorem DS.stored {j : Nat} (h : DS w W base g v gi go id op c k) (hb : w.heap.size ≤ b) (h1 : b ≠ g) (h2 : b ≠ gi) (h3 : b ≠ go) (h4 : ∀ q, v.ownBlock = some q → q ≠ b) : DS w (W.setCell ⟨b, j, none⟩ u) base g v gi go id op c k :=
  ⟨h.rd.keptS (KeptS.of_grown (S := fun q => q = b) (stored_grown W b j u) (fun q hq => by injection hq with hq; exact hq.symm)) (fun e => h1 e.symm) (fun q hq e => h4 q hq e), (heap_setCell_other W ⟨b, j, none⟩ gi u (by simpa using fun e => h2 e.symm)).trans h.ci, h.ro.other (fun e => h3 e.symm), h.be.trans (below_of_grown (stored_grown W b j u) h.be.size (fun q hq => by injection hq with hq; exact hq ▸ hb)), h.ge, h.n1, h.n2, h.n3⟩
end
theorem cell_drew_d2 (W : World) (a : Addr) : W.drew.cell? a = W.cell? a := rfl
end Go.Proofs.YtljfmcgeiceagaaGreat
