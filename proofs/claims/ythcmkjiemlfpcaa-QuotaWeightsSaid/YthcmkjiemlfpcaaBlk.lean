/- Blocks of six cells: a bucket in memory. -/
import Derived.Test.YthcmkjiemlfpcaaQCheck
import Derived.Laws.Rows
namespace Go.Proofs.Ythcmkjiemlfpcaa
open Go Go.RowKit
set_option linter.unusedVariables false

/-- Block g holds a bucket's six cells. -/
def Bx (w : World) (g : Nat) (x0 x1 x2 x3 x4 x5 : Int) : Prop :=
  w.heap[g]? = some (.cells #[.int .i64 x0, .int .i64 x1, .int .i64 x2, .int .i64 x3, .int .i64 x4, .int .i64 x5] 23 (0, 0))

variable {w w' : World} {g x0 x1 x2 x3 x4 x5 : Nat}

structure BxF (w : World) (g : Nat) (x0 x1 x2 x3 x4 x5 : Int) : Prop where
  c0 : w.cell? ⟨g, 0, none⟩ = some (.int .i64 x0)
  c1 : w.cell? ⟨g, 1, none⟩ = some (.int .i64 x1)
  c2 : w.cell? ⟨g, 2, none⟩ = some (.int .i64 x2)
  c3 : w.cell? ⟨g, 3, none⟩ = some (.int .i64 x3)
  c4 : w.cell? ⟨g, 4, none⟩ = some (.int .i64 x4)
  c5 : w.cell? ⟨g, 5, none⟩ = some (.int .i64 x5)
  f0 : w.frozen? ⟨g, 0, none⟩ = false
  f1 : w.frozen? ⟨g, 1, none⟩ = false
  f2 : w.frozen? ⟨g, 2, none⟩ = false
  f3 : w.frozen? ⟨g, 3, none⟩ = false
  f4 : w.frozen? ⟨g, 4, none⟩ = false
  f5 : w.frozen? ⟨g, 5, none⟩ = false

theorem Bx.facts {w : World} {g : Nat} {x0 x1 x2 x3 x4 x5 : Int} (h : Bx w g x0 x1 x2 x3 x4 x5) : BxF w g x0 x1 x2 x3 x4 x5 := by
  unfold Bx at h
  constructor <;> first | (rw [cell_of_row w g _ _ _ _ h]; rfl) | simp [World.frozen?, h]

theorem Bx.lt {w : World} {g : Nat} {x0 x1 x2 x3 x4 x5 : Int} (h : Bx w g x0 x1 x2 x3 x4 x5) : g < w.heap.size := (Array.getElem?_eq_some_iff.1 h).1

theorem Bx.below {w w' : World} {B g : Nat} {x0 x1 x2 x3 x4 x5 : Int} (h : Bx w g x0 x1 x2 x3 x4 x5) (hb : Below B w w') (hg : g < B) : Bx w' g x0 x1 x2 x3 x4 x5 :=
  (hb.block g hg).trans h

theorem Bx.new (w : World) (x0 x1 x2 x3 x4 x5 : Int) : Bx (w.alloc (.cells #[.int .i64 x0, .int .i64 x1, .int .i64 x2, .int .i64 x3, .int .i64 x4, .int .i64 x5] 23)) w.heap.size x0 x1 x2 x3 x4 x5 :=
  heap_alloc_new w _

theorem Bx.alloc {w : World} {g : Nat} {x0 x1 x2 x3 x4 x5 : Int} (h : Bx w g x0 x1 x2 x3 x4 x5) (o : Obj) : Bx (w.alloc o) g x0 x1 x2 x3 x4 x5 :=
  h.below (B := w.heap.size) ((Below.refl _ _).alloc (Nat.le_refl _) _) h.lt

/-- A box, seen behind a call. -/
theorem bx_one {w w1 : World} {x0 x1 x2 x3 x4 x5 : Int} {B : Nat}
    (hb : Below B (w.alloc (.cells #[.int .i64 x0, .int .i64 x1, .int .i64 x2, .int .i64 x3, .int .i64 x4, .int .i64 x5] 23)) w1) (hB : w.heap.size < B) :
    Bx w1 w.heap.size x0 x1 x2 x3 x4 x5 := (Bx.new w x0 x1 x2 x3 x4 x5).below hb hB
/-- Two boxes, seen behind a call. -/
theorem bx_two {w w1 : World} {x0 x1 x2 x3 x4 x5 y0 y1 y2 y3 y4 y5 : Int} {B : Nat}
    (hb : Below B ((w.alloc (.cells #[.int .i64 x0, .int .i64 x1, .int .i64 x2, .int .i64 x3, .int .i64 x4, .int .i64 x5] 23)).alloc (.cells #[.int .i64 y0, .int .i64 y1, .int .i64 y2, .int .i64 y3, .int .i64 y4, .int .i64 y5] 23)) w1)
    (hB : w.heap.size + 1 < B) : Bx w1 w.heap.size x0 x1 x2 x3 x4 x5 ∧ Bx w1 (w.heap.size + 1) y0 y1 y2 y3 y4 y5 :=
  ⟨((Bx.new w x0 x1 x2 x3 x4 x5).alloc _).below hb (by omega), by
    have := (Bx.new (w.alloc (.cells #[.int .i64 x0, .int .i64 x1, .int .i64 x2, .int .i64 x3, .int .i64 x4, .int .i64 x5] 23)) y0 y1 y2 y3 y4 y5).below hb (by simp; omega)
    simpa using this⟩

theorem below2 {w w1 : World} {o p : Obj} {B : Nat} (hb : Below B ((w.alloc o).alloc p) w1) (hB : w.heap.size ≤ B) : Below w.heap.size w w1 :=
  (((Below.refl _ _).alloc (Nat.le_refl _) _).alloc (by simp) _).trans (hb.mono hB)
theorem below1 {w w1 : World} {o : Obj} {B : Nat} (hb : Below B (w.alloc o) w1) (hB : w.heap.size ≤ B) : Below w.heap.size w w1 :=
  ((Below.refl _ _).alloc (Nat.le_refl _) _).trans (hb.mono hB)

/-- One box of the call's own, behind whatever was made. -/
structure OneB (w W : World) (n d u l p t : Int) : Prop where
  a : Bx W w.heap.size n d u l p t
  z : w.heap.size + 1 ≤ W.heap.size
  h : Below w.heap.size w W
theorem OneB.mk0 (w : World) (n d u l p t : Int) : OneB w (w.alloc (.cells #[.int .i64 n, .int .i64 d, .int .i64 u, .int .i64 l, .int .i64 p, .int .i64 t] 23)) n d u l p t :=
  ⟨Bx.new w n d u l p t, by simp, (Below.refl _ _).alloc (Nat.le_refl _) _⟩
theorem OneB.more {w W W' : World} {n d u l p t : Int} (h : OneB w W n d u l p t) (hb : Below W.heap.size W W') : OneB w W' n d u l p t :=
  ⟨h.a.below hb h.a.lt, Nat.le_trans h.z hb.size, h.h.trans (hb.mono h.h.size)⟩
theorem OneB.drew {w W : World} {n d u l p t : Int} (h : OneB w W n d u l p t) : OneB w W.drew n d u l p t := ⟨h.a, h.z, h.h.drew⟩
theorem OneB.s {w W : World} {n d u l p t : Int} (h : OneB w W n d u l p t) : W.cell? ⟨w.heap.size, 0, none⟩ = some (.int .i64 n) ∧ W.cell? ⟨w.heap.size, 1, none⟩ = some (.int .i64 d) ∧ W.cell? ⟨w.heap.size, 2, none⟩ = some (.int .i64 u) ∧ W.cell? ⟨w.heap.size, 3, none⟩ = some (.int .i64 l) ∧ W.cell? ⟨w.heap.size, 4, none⟩ = some (.int .i64 p) ∧ W.cell? ⟨w.heap.size, 5, none⟩ = some (.int .i64 t) ∧ OneB w W n d u l p t :=
  ⟨h.a.facts.c0, h.a.facts.c1, h.a.facts.c2, h.a.facts.c3, h.a.facts.c4, h.a.facts.c5, h⟩
theorem OneB.ofS {w W : World} {n d u l p t : Int} (h : W.cell? ⟨w.heap.size, 0, none⟩ = some (.int .i64 n) ∧ W.cell? ⟨w.heap.size, 1, none⟩ = some (.int .i64 d) ∧ W.cell? ⟨w.heap.size, 2, none⟩ = some (.int .i64 u) ∧ W.cell? ⟨w.heap.size, 3, none⟩ = some (.int .i64 l) ∧ W.cell? ⟨w.heap.size, 4, none⟩ = some (.int .i64 p) ∧ W.cell? ⟨w.heap.size, 5, none⟩ = some (.int .i64 t) ∧ OneB w W n d u l p t) : OneB w W n d u l p t := h.2.2.2.2.2.2
end Go.Proofs.Ythcmkjiemlfpcaa
