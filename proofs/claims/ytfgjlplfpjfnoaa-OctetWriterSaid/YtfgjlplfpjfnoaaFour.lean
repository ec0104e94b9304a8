/- Two pairs of writers. -/
import Derived.Test.YtfgjlplfpjfnoaaBeyond
namespace Go.Proofs.Ytfgjlplfpjfnoaa
open Go Go.RowKit
set_option linter.unusedVariables false

/-- What steps write. -/
def outs (l : List Stp) : List Nat := l.flatMap Stp.out
theorem outs_len : ∀ {l : List Stp}, (∀ x ∈ l, x.Ok) → (outs l).length ≤ 10 * stSum l
  | [], _ => by simp [outs]
  | x :: r, h => by
    have h1 := outs_len (l := r) (fun y hy => h y (List.mem_cons_of_mem _ hy))
    have h2 := x.out_len (h x (List.mem_cons_self ..))
    have h3 : (outs (x :: r)).length = x.out.length + (outs r).length := by simp [outs]
    simp only [stSum]
    omega
theorem outs_take {l : List Stp} {k : Nat} {x : Stp} (hx : l[k]? = some x) : outs (l.take (k + 1)) = outs (l.take k) ++ x.out := by
  obtain ⟨hk, rfl⟩ := List.getElem?_eq_some_iff.1 hx
  unfold outs
  rw [List.take_succ_eq_append_getElem hk, List.flatMap_append]
  simp

structure Four (w : World) (W : World) (g1 : Nat) (v1 : Value) (g2 : Nat) (v2 : Value) (xs : List Nat) (g3 : Nat) (v3 : Value) (g4 : Nat) (v4 : Value) (ys : List Nat) : Prop where
  a : Two w.heap.size W g1 v1 xs g2 v2 xs
  b : Two w.heap.size W g3 v3 ys g4 v4 ys
  far : ∀ q, Foot g1 v1 g2 v2 q → ¬ Foot g3 v3 g4 v4 q
  be : Below w.heap.size w W

section
variable {w W W' : World} {g1 g2 g3 g4 : Nat} {v1 v2 v3 v4 z1 z2 : Value} {xs ys zs : List Nat}
theorem Four.below (h : Four w W g1 v1 g2 v2 xs g3 v3 g4 v4 ys) (hb : Below W.heap.size W W') : Four w W' g1 v1 g2 v2 xs g3 v3 g4 v4 ys :=
  ⟨h.a.below hb, h.b.below hb, h.far, h.be.trans (hb.mono h.be.size)⟩
theorem Four.left (h : Four w W g1 v1 g2 v2 xs g3 v3 g4 v4 ys) (hs : On2 w.heap.size W g1 v1 g2 v2 W' z1 zs z2 zs) : Four w W' g1 z1 g2 z2 zs g3 v3 g4 v4 ys ∧ Below w.heap.size W W' := by
  have hb : Below w.heap.size W W' := hs.kept.below (fun q hq => (h.a.foot q hq).1) h.be.size
  refine ⟨⟨hs.two, h.b.kept hs.kept (fun k hk e => h.far k e hk), ?_, h.be.trans hb⟩, hb⟩
  intro q hq hq'
  rcases hs.foot q hq with h1 | h1
  · exact h.far q h1 hq'
  · have := (h.b.foot q hq').2
    omega
theorem Four.right (h : Four w W g1 v1 g2 v2 xs g3 v3 g4 v4 ys) (hs : On2 w.heap.size W g3 v3 g4 v4 W' z1 zs z2 zs) : Four w W' g1 v1 g2 v2 xs g3 z1 g4 z2 zs ∧ Below w.heap.size W W' := by
  have hb : Below w.heap.size W W' := hs.kept.below (fun q hq => (h.b.foot q hq).1) h.be.size
  refine ⟨⟨h.a.kept hs.kept (fun k hk e => h.far k hk e), hs.two, ?_, h.be.trans hb⟩, hb⟩
  intro q hq hq'
  rcases hs.foot q hq' with h1 | h1
  · exact h.far q hq h1
  · have := (h.a.foot q hq).2
    omega
end

theorem two_new {base : Nat} {W : World} {g1 g2 : Nat} (h1 : W.heap[g1]? = some (.cells #[.slice none 0 0] 50 (0, 0))) (h2 : W.heap[g2]? = some (.cells #[.slice none 0 0] 58 (0, 0)))
    (hne : g1 ≠ g2) (hb1 : base ≤ g1) (hb2 : base ≤ g2) : Two base W g1 (.slice none 0 0) [] g2 (.slice none 0 0) [] :=
  ⟨⟨h1, World.ownsRow_nil _ _ _ _, (fun q h => by cases h), hb1⟩, ⟨h2, World.ownsRow_nil _ _ _ _, (fun q h => by cases h), hb2⟩, hne, (fun e => by cases e), (fun e => by cases e), (fun q e => by cases e)⟩

/-- The four, as they are made. -/
theorem four_new (w : World) : Four w ((((w.alloc (.cells #[.slice none 0 0] 50)).alloc (.cells #[.slice none 0 0] 50)).alloc (.cells #[.slice none 0 0] 58)).alloc (.cells #[.slice none 0 0] 58))
    w.heap.size (.slice none 0 0) (w.heap.size + 1 + 1) (.slice none 0 0) [] (w.heap.size + 1) (.slice none 0 0) (w.heap.size + 1 + 1 + 1) (.slice none 0 0) [] := by
  have hs : ∀ (W : World) (o : Obj), (W.alloc o).heap.size = W.heap.size + 1 := fun W o => by simp
  have ho : ∀ (W : World) (o : Obj) (k : Nat), k < W.heap.size → (W.alloc o).heap[k]? = W.heap[k]? := fun W o k hk => heap_alloc_old W o hk
  have hn : ∀ (W : World) (o : Obj) (k : Nat), k = W.heap.size → (W.alloc o).heap[k]? = some o := fun W o k hk => by subst hk; exact heap_alloc_new W o
  refine ⟨two_new ?_ ?_ (by omega) (by omega) (by omega), two_new ?_ ?_ (by omega) (by omega) (by omega), ?_, ((((Below.refl _ _).alloc (Nat.le_refl _) _).alloc (by rw [hs]; omega) _).alloc (by rw [hs, hs]; omega) _).alloc (by rw [hs, hs, hs]; omega) _⟩
  · rw [ho _ _ _ (by rw [hs, hs, hs]; omega), ho _ _ _ (by rw [hs, hs]; omega), ho _ _ _ (by rw [hs]; omega), hn _ _ _ rfl]
  · rw [ho _ _ _ (by rw [hs, hs, hs]; omega), hn _ _ _ (by rw [hs, hs])]
  · rw [ho _ _ _ (by rw [hs, hs, hs]; omega), ho _ _ _ (by rw [hs, hs]; omega), hn _ _ _ (by rw [hs])]
  · rw [hn _ _ _ (by rw [hs, hs, hs])]
  · intro q h h'
    rcases h with rfl | rfl | h | h <;> rcases h' with h' | h' | h' | h' <;> first | omega | cases h | cases h'
end Go.Proofs.Ytfgjlplfpjfnoaa
