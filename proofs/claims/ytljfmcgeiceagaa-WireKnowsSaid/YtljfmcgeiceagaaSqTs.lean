/- Tokens in memory of their own, beside a reader. -/
import Derived.Test.YtljfmcgeiceagaaS2
import Derived.Test.YtljfmcgeiceagaaF4
namespace Go.Proofs.Ytljfmcgeiceagaa
open Go Go.RowKit
set_option linter.unusedVariables false
set_option linter.unusedSimpArgs false

theorem own_keptS {W W' : World} {S : Nat → Prop} {base : Nat} {e : TypeId} {size n : Nat} {v : Value} {xs : List Value} (h : W.ownsRow base e size v n xs) (hk : KeptS W W' S) (hv : ∀ q, v.ownBlock = some q → ¬ S q) : W'.ownsRow base e size v n xs := by
  refine ⟨h.1, ?_⟩
  rcases h.2 with hn | ⟨q, cap, cur, he, hb, hh, rest⟩
  · exact .inl hn
  · exact .inr ⟨q, cap, cur, he, hb, (hk.block q (Array.getElem?_eq_some_iff.1 hh).1 (hv q (by rw [he]; rfl))).trans hh, rest⟩

/-- A token's own bytes. -/
def OwnTk (W : World) (base : Nat) (x : TkV) : Prop := W.ownsRow base 5 1 (.slice x.A x.lit.length x.c) x.lit.length (b8 x.lit)
def PlTk (x : TkV) : Prop := By x.lit ∧ x.lit.length ≤ 140737488351232 ∧ (-9223372036854775808 ≤ x.d ∧ x.d ≤ 9223372036854775807) ∧ -9223372036854775808 ≤ x.l ∧ x.l ≤ 9223372036854775807
theorem OwnTk.lt {W : World} {base : Nat} {x : TkV} (h : OwnTk W base x) {a : Addr} (ha : x.A = some a) : base ≤ a.block ∧ a.block < W.heap.size := by
  obtain ⟨A', c', hv, _, _, hb⟩ := own_shape h
  injection hv with h1
  exact hb a (h1.symm.trans ha)
theorem OwnTk.ok {W : World} {base : Nat} {x : TkV} (h : OwnTk W base x) (p : PlTk x) : x.Ok W := by
  obtain ⟨A', c', hv, h1, h2, _⟩ := own_shape h
  injection hv with _ _ h3
  subst h3
  exact ⟨h1, h2, rd_own h, p.1, p.2.1, p.2.2.1, p.2.2.2⟩

/-- Tokens, each with its bytes in memory of its own. -/
structure Ts (W : World) (B : Nat) (v : Value) (N : Nat) (l : List TkV) : Prop where
  row : W.ownsRow B 122 3 v N (tkCells l)
  lit : ∀ x ∈ l, OwnTk W B x
  pl : ∀ x ∈ l, PlTk x
  pw : l.Pairwise (fun x y => ∀ a b : Addr, x.A = some a → y.A = some b → a.block < b.block)
  off : ∀ x ∈ l, ∀ a : Addr, x.A = some a → v.ownBlock ≠ some a.block
theorem Ts.nil (W : World) (B : Nat) : Ts W B (.slice none 0 0) 0 [] := ⟨World.ownsRow_nil _ _ _ _, (fun x h => by cases h), (fun x h => by cases h), List.Pairwise.nil, (fun x h => by cases h)⟩
theorem Ts.keptS {W W' : World} {S : Nat → Prop} {B N : Nat} {v : Value} {l : List TkV} (h : Ts W B v N l) (hk : KeptS W W' S) (hv : ∀ q, v.ownBlock = some q → ¬ S q) (hl : ∀ x ∈ l, ∀ a : Addr, x.A = some a → ¬ S a.block) : Ts W' B v N l := by
  refine ⟨own_keptS h.row hk hv, fun x hx => ?_, h.pl, h.pw, h.off⟩
  refine own_keptS (h.lit x hx) hk (fun q hq => ?_)
  cases ha : x.A with
  | none => rw [ha] at hq; simp [Value.ownBlock] at hq
  | some a =>
    rw [ha] at hq
    simp only [Value.ownBlock, Option.some.injEq] at hq
    subst hq
    exact hl x hx a ha
theorem Ts.below {W W' : World} {B N : Nat} {v : Value} {l : List TkV} (h : Ts W B v N l) (hb : Below W.heap.size W W') : Ts W' B v N l := h.keptS (KeptS.of_below hb (fun _ => False)) (fun _ _ h => h) (fun _ _ _ _ h => h)
theorem Ts.mono {W : World} {B B' N : Nat} {v : Value} {l : List TkV} (h : Ts W B v N l) (hb : B' ≤ B) : Ts W B' v N l := ⟨own_mono h.row hb, fun x hx => own_mono (h.lit x hx) hb, h.pl, h.pw, h.off⟩
theorem Ts.len {W : World} {B N : Nat} {v : Value} {l : List TkV} (h : Ts W B v N l) : l.length = N := by
  have := h.row.1
  rw [tkCells_length] at this
  omega
theorem Ts.ok {W : World} {B N : Nat} {v : Value} {l : List TkV} (h : Ts W B v N l) : ∀ x ∈ l, x.Ok W := fun x hx => (h.lit x hx).ok (h.pl x hx)
theorem Ts.rd {W : World} {B N c : Nat} {A : Option Addr} {l : List TkV} (h : Ts W B (.slice A N c) N l) : Rd W A (tkCells l) := rd_own h.row
/-- One more. -/
theorem Ts.push {W W' : World} {B N bb : Nat} {v v' : Value} {l : List TkV} {y : TkV} (h : Ts W B v N l) (hb : ∀ x ∈ l, ∀ a : Addr, x.A = some a → a.block < bb) (hv : ∀ q, v.ownBlock = some q → q < bb) (hy : OwnTk W bb y) (hB : B ≤ bb) (hpl : PlTk y)
    (hrow : W'.ownsRow B 122 3 v' (N + 1) (tkCells (l ++ [y]))) (hg : W.grownBy W' v.ownBlock) (hn : v'.ownBlock = v.ownBlock ∨ ∃ k, v'.ownBlock = some k ∧ W.heap.size ≤ k) : Ts W' B v' (N + 1) (l ++ [y]) := by
  have key : ∀ (bx : Nat) (x : TkV), OwnTk W bx x → (∀ a : Addr, x.A = some a → v.ownBlock ≠ some a.block) → OwnTk W' bx x := by
    intro bx x hx ho
    refine hx.kept hg ?_
    cases ha : x.A with
    | none => exact .inl rfl
    | some a => exact .inr (fun e => ho a ha e.symm)
  have hyo : ∀ a : Addr, y.A = some a → v.ownBlock ≠ some a.block := by
    intro a ha e
    have h1 := (hy.lt ha).1
    have h2 := hv _ e
    omega
  refine ⟨hrow, ?_, ?_, ?_, ?_⟩
  · intro x hx
    rcases List.mem_append.1 hx with hx | hx
    · exact key B x (h.lit x hx) (h.off x hx)
    · rw [List.mem_singleton] at hx
      subst hx
      exact own_mono (key bb _ hy hyo) hB
  · intro x hx
    rcases List.mem_append.1 hx with hx | hx
    · exact h.pl x hx
    · rw [List.mem_singleton] at hx
      subst hx
      exact hpl
  · rw [List.pairwise_append]
    refine ⟨h.pw, List.pairwise_singleton _ _, fun x hx y' hy' => ?_⟩
    rw [List.mem_singleton] at hy'
    subst hy'
    intro a b ha hb'
    have h1 := hb x hx a ha
    have h2 := (hy.lt hb').1
    omega
  · intro x hx a ha e
    rcases hn with hn | ⟨k, hn, hk⟩
    · rw [hn] at e
      rcases List.mem_append.1 hx with hx | hx
      · exact h.off x hx a ha e
      · rw [List.mem_singleton] at hx
        subst hx
        exact hyo a ha e
    · rw [hn] at e
      injection e with e
      have h1 : a.block < W.heap.size := by
        rcases List.mem_append.1 hx with hx | hx
        · exact ((h.lit x hx).lt ha).2
        · rw [List.mem_singleton] at hx
          subst hx
          exact (hy.lt ha).2
      omega

/-- A reader and tokens. -/
structure RT (base : Nat) (w0 W : World) (g : Nat) (rv : Value) (s : Rs) (B : Nat) (v : Value) (N : Nat) (l : List TkV) : Prop where
  rd : Rdr base W 87 Rs.cells g rv s
  gB : g < B
  rvB : ∀ q, rv.ownBlock = some q → q < B
  ts : Ts W B v N l
  bel : Below base w0 W
  BW : B ≤ W.heap.size
  bB : base ≤ B
section
variable {base : Nat} {w0 W W' : World} {g : Nat} {rv : Value} {s s' : Rs} {B : Nat} {v : Value} {N : Nat} {l : List TkV}
theorem RT.tsB (h : RT base w0 W g rv s B v N l) : (∀ q, v.ownBlock = some q → B ≤ q ∧ q < W.heap.size) ∧ (∀ x ∈ l, ∀ a : Addr, x.A = some a → B ≤ a.block ∧ a.block < W.heap.size) := ⟨h.ts.row.lt, fun x hx a ha => (h.ts.lit x hx).lt ha⟩
theorem RT.turned (h : RT base w0 W g rv s B v N l) (ht : Turned base W 87 Rs.cells g rv s' W') : RT base w0 W' g rv s' B v N l := by
  have hgB := h.gB
  refine ⟨ht.rd, h.gB, h.rvB, h.ts.keptS ht.kept (fun q hq e => ?_) (fun x hx a ha e => ?_), h.bel.trans (ht.kept.below (fun q hq => ?_) (Nat.le_trans h.bB h.BW)), Nat.le_trans h.BW ht.kept.size, h.bB⟩
  · have := (h.tsB.1 q hq).1; omega
  · have := (h.tsB.2 x hx a ha).1; omega
  · rw [hq]; exact h.rd.gb
theorem RT.below (h : RT base w0 W g rv s B v N l) (hb : Below W.heap.size W W') : RT base w0 W' g rv s B v N l := ⟨h.rd.below hb, h.gB, h.rvB, h.ts.below hb, h.bel.trans (hb.mono (Nat.le_trans h.bB h.BW)), Nat.le_trans h.BW hb.size, h.bB⟩
/-- And a token in its block. -/
structure RTB (base : Nat) (w0 W : World) (g : Nat) (rv : Value) (s : Rs) (B : Nat) (v : Value) (N : Nat) (l : List TkV) (b : Nat) (x : TkV) : Prop where
  rt : RT base w0 W g rv s B v N l
  bt : Bt W b x
  own : OwnTk W (b + 1) x
  bB : B ≤ b
  vb : ∀ q, v.ownBlock = some q → q < b
  lb : ∀ y ∈ l, ∀ a : Addr, y.A = some a → a.block < b
theorem RT.box (h : RT base w0 W g rv s B v N l) : RTB base w0 (W.alloc (.cells #[.slice none 0 0, .int .i64 0, .int .i64 0] 122)) g rv s B v N l W.heap.size tkZero :=
  ⟨h.below ((Below.refl _ _).alloc (Nat.le_refl _) _), Bt.new W tkZero, World.ownsRow_nil _ _ _ _, h.BW, fun q hq => (h.tsB.1 q hq).2, fun x hx a ha => (h.tsB.2 x hx a ha).2⟩
variable {b : Nat} {x : TkV}
theorem RTB.below (h : RTB base w0 W g rv s B v N l b x) (hb : Below W.heap.size W W') : RTB base w0 W' g rv s B v N l b x := ⟨h.rt.below hb, h.bt.below hb h.bt.lt, own_below h.own hb, h.bB, h.vb, h.lb⟩
theorem RTB.turned (h : RTB base w0 W g rv s B v N l b x) (ht : Turned base W 87 Rs.cells g rv s' W') : RTB base w0 W' g rv s' B v N l b x := by
  have h1 := h.rt.gB
  have h2 := h.bB
  refine ⟨h.rt.turned ht, (ht.kept.block b h.bt.lt (by omega)).trans h.bt, own_keptS h.own ht.kept (fun q hq e => ?_), h.bB, h.vb, h.lb⟩
  have := (h.own.lt (a := ⟨q, 0, none⟩) ?_).1
  · simp only at this; omega
  · obtain ⟨A', c', hv, _⟩ := own_shape h.own
    rcases h.own.2 with ⟨hn, _⟩ | ⟨g', cap, cur, he, _⟩
    · rw [hn] at hq; simp [Value.ownBlock] at hq
    · rw [he] at hq
      simp only [Value.ownBlock, Option.some.injEq] at hq
      injection he with he
      rw [he, hq]
theorem RTB.store (h : RTB base w0 W g rv s B v N l b x) (hk : KeptS W W' (fun q => q = b)) {y : TkV} (hbt : Bt W' b y) (hy : OwnTk W (b + 1) y) : RTB base w0 W' g rv s B v N l b y := by
  have h1 := h.rt.gB
  have h2 := h.bB
  refine ⟨⟨h.rt.rd.keptS hk (by omega) (fun q hq => by have := h.rt.rvB q hq; omega), h.rt.gB, h.rt.rvB, h.rt.ts.keptS hk (fun q hq => by have := h.vb q hq; omega) (fun x hx a ha => by have := h.lb x hx a ha; omega), h.rt.bel.trans (hk.below (fun q hq => ?_) (Nat.le_trans h.rt.bB h.rt.BW)), Nat.le_trans h.rt.BW hk.size, h.rt.bB⟩, hbt, own_keptS hy hk (fun q hq e => ?_), h.bB, h.vb, h.lb⟩
  · rw [hq]; exact Nat.le_trans h.rt.bB h.bB
  · have := (World.ownsRow.lt hy q hq).1
    omega
theorem RTB.lit (h : RTB base w0 W g rv s B v N l b tkZero) {A : Option Addr} {c : Nat} {lit : List Nat} (hy : W.ownsRow (b + 1) 5 1 (.slice A lit.length c) lit.length (b8 lit)) : RTB base w0 (W.setCell ⟨b, 0, none⟩ (.slice A lit.length c)) g rv s B v N l b ⟨A, c, lit, 0, 0⟩ := by
  refine h.store (kept1_set W b 0 _) ?_ hy
  have := heap_setCell_same W b 0 _ _ (.slice A lit.length c) h.bt
  exact this
theorem RTB.dl (h : RTB base w0 W g rv s B v N l b tkZero) (d' l' : Int) : RTB base w0 ((W.setCell ⟨b, 2, none⟩ (.int .i64 l')).setCell ⟨b, 1, none⟩ (.int .i64 d')) g rv s B v N l b ⟨none, 0, [], d', l'⟩ := by
  refine h.store ((kept1_set W b 2 _).trans (kept1_set _ b 1 _) (fun q hq => .inl hq)) ?_ (World.ownsRow_nil _ _ _ _)
  have h1 := heap_setCell_same W b 2 _ _ (.int .i64 l') h.bt
  exact heap_setCell_same _ b 1 _ _ (.int .i64 d') h1
theorem RTB.push (h : RTB base w0 W g rv s B v N l b x) (hpl : PlTk x) {v' : Value} (hrow : W'.ownsRow B 122 3 v' (N + 1) (tkCells (l ++ [x]))) (hg : W.grownBy W' v.ownBlock) (hn : v'.ownBlock = v.ownBlock ∨ ∃ k, v'.ownBlock = some k ∧ W.heap.size ≤ k) : RT base w0 W' g rv s B v' (N + 1) (l ++ [x]) := by
  have h2 := h.bB
  have hk : KeptS W W' (fun q => v.ownBlock = some q) := KeptS.of_grown hg (fun q hq => hq)
  refine ⟨h.rt.rd.keptS hk (fun e => ?_) (fun q hq e => ?_), h.rt.gB, h.rt.rvB, h.rt.ts.push (bb := b + 1) (fun x hx a ha => Nat.lt_succ_of_lt (h.lb x hx a ha)) (fun q hq => Nat.lt_succ_of_lt (h.vb q hq)) h.own (by omega) hpl hrow hg hn, h.rt.bel.trans (below_of_grown hg (Nat.le_trans h.rt.bB h.rt.BW) (fun q hq => ?_)), Nat.le_trans h.rt.BW hg.size, h.rt.bB⟩
  · have := (h.rt.tsB.1 g e).1; have := h.rt.gB; omega
  · have := (h.rt.tsB.1 q e).1; have := h.rt.rvB q hq; omega
  · exact Nat.le_trans h.rt.bB (h.rt.tsB.1 q hq).1
end
/-- What a reader leaves: tokens of the call's own, and a code. -/
def AnsT (w : World) (q : List Tk × Int) (e : Ending) (w' : World) : Prop :=
  ∃ A c N l, e = .returned (.tuple #[.slice A N c, .int .i64 q.2]) ∧ toks l = q.1 ∧ Ts w' w.heap.size (.slice A N c) N l ∧ Below w.heap.size w w'
theorem ansT_some (w W : World) (q : List Tk × Int) (A : Option Addr) (c N : Nat) (l : List TkV) (z : Int) (hq : q = (toks l, z)) (ht : Ts W w.heap.size (.slice A N c) N l) (hb : Below w.heap.size w W) : AnsT w q (.returned (.tuple #[.slice A N c, .int .i64 z])) W := by
  subst hq
  exact ⟨A, c, N, l, rfl, rfl, ht, hb⟩
theorem ansT_none (w W : World) (q : List Tk × Int) (z : Int) (hq : q = ([], z)) (hb : Below w.heap.size w W) : AnsT w q (.returned (.tuple #[.slice none 0 0, .int .i64 z])) W := by
  subst hq
  exact ⟨none, 0, 0, [], rfl, rfl, Ts.nil _ _, hb⟩
end Go.Proofs.Ytljfmcgeiceagaa
