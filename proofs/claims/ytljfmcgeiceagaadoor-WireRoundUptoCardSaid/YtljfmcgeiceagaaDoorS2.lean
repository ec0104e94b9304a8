/- Several texts in one: Lm, Lm2, TokRow, PlaceT. -/
import Derived.Test.YtljfmcgeiceagaaDoorF1
import Derived.Test.YtljfmcgeiceagaaDoorF3
import Derived.Test.YtljfmcgeiceagaaDoorS1
import Derived.StillTailTactics
/- chroniclelaw2: spare, kept, fill, turned, lay: what the statements do to memory. -/
namespace Go.Proofs.YtljfmcgeiceagaaDoor
open Go Go.RowKit
set_option linter.unusedVariables false
set_option linter.unusedSimpArgs false

/-- The marks behind n bytes. -/
def pat (n : Nat) : List Nat := (List.range 64).map (fun j => 200 + (n + j) % 7)
theorem pat_length (n : Nat) : (pat n).length = 64 := by simp [pat]
theorem pat_get (n j : Nat) (h : j < 64) : (pat n)[j]? = some (200 + (n + j) % 7) := by simp [pat, h]
theorem pat_by (n : Nat) : By (pat n) := fun b hb => by
  obtain ⟨j, _, rfl⟩ := List.mem_map.1 hb
  omega

/-- One of a list's elements is laid over a list of the same length. -/
theorem set_lay {α : Type} (xs ys : List α) (k : Nat) (x : α) (hx : xs[k]? = some x) (hk : k < ys.length) : (xs.take k ++ ys.drop k).set k x = xs.take (k + 1) ++ ys.drop (k + 1) := by
  obtain ⟨h, rfl⟩ := List.getElem?_eq_some_iff.1 hx
  have hl : (xs.take k).length = k := by rw [List.length_take]; omega
  rw [List.set_append_right _ _ (by omega), hl, Nat.sub_self, List.drop_eq_getElem_cons hk, List.set_cons_zero, List.take_succ_eq_append_getElem h, List.append_assoc]
  rfl
theorem get_lay {α : Type} (xs ys : List α) (k : Nat) (hx : k ≤ xs.length) : (xs.take k ++ ys.drop k)[k]? = ys[k]? := by
  have hl : (xs.take k).length = k := by rw [List.length_take]; omega
  rw [List.getElem?_append_right (by omega), hl, Nat.sub_self, List.getElem?_drop, Nat.add_zero]

/-- One more byte laid into a row of the call's own. -/
theorem lay_one {base N c g k : Nat} {w : World} {xs ys : List Nat} (h : w.ownsRow base 5 1 (.slice (some ⟨g, 0, none⟩) N c) N (b8 (xs.take k ++ ys.drop k))) (hx : k < xs.length) (hy : k < ys.length) (hN : k < N) {x : Nat} (hxk : xs[k]? = some x) :
    (∃ y : Nat, w.cell? ⟨g, k, none⟩ = some (.int .u8 (y : Int))) ∧ w.frozen? ⟨g, k, none⟩ = false ∧
    (w.setCell ⟨g, k, none⟩ (.int .u8 (x : Int))).ownsRow base 5 1 (.slice (some ⟨g, 0, none⟩) N c) N (b8 (xs.take (k + 1) ++ ys.drop (k + 1))) ∧ w.grownBy (w.setCell ⟨g, k, none⟩ (.int .u8 (x : Int))) (some g) := by
  have hc := h.cellAt k (by omega)
  rw [b8_get, get_lay xs ys k (by omega), List.getElem?_eq_getElem hy] at hc
  have hf := h.frozenAt k
  have hst := h.stored k (.int .u8 (x : Int))
  rw [b8_set'', set_lay xs ys k x hxk hy] at hst
  exact ⟨⟨_, hc⟩, hf, hst.1, hst.2⟩

def Spared (w : World) (bs : List Nat) (n : Nat) (e : Ending) (w' : World) : Prop :=
  e = .returned (.slice (some ⟨w.heap.size, 0, none⟩) (n + 64) (n + 64)) ∧
    w'.ownsRow w.heap.size 5 1 (.slice (some ⟨w.heap.size, 0, none⟩) (n + 64) (n + 64)) (n + 64) (b8 (bs ++ pat n)) ∧ Below w.heap.size w w'

/-- Bytes with marks behind, read: as they were. -/
def Marked (w : World) (A : Option Addr) (bs : List Nat) : Prop := Rd w A (b8 (bs ++ pat bs.length))

theorem KeptS.heap {a b : World} {S : Nat → Prop} (h : KeptS a b S) : a.heap.size ≤ b.heap.size := h.size

/-- Bytes the other way round, each another one. -/
def inc (b : Nat) : Nat := (b + 1) % 256
def tn (bs : List Nat) : List Nat := (bs.map inc).reverse
theorem tn_length (bs : List Nat) : (tn bs).length = bs.length := by simp [tn]
theorem tn_by (bs : List Nat) : By (tn bs) := fun b hb => by
  simp only [tn, List.mem_reverse, List.mem_map] at hb
  obtain ⟨c, _, rfl⟩ := hb
  unfold inc
  omega
theorem tn_drop {bs : List Nat} {j x : Nat} (h : bs[j]? = some x) : tn (bs.drop j) = tn (bs.drop (j + 1)) ++ [inc x] := by
  obtain ⟨hl, rfl⟩ := List.getElem?_eq_some_iff.1 h
  unfold tn
  rw [List.drop_eq_getElem_cons hl, List.map_cons, List.reverse_cons]

end Go.Proofs.YtljfmcgeiceagaaDoor

/- chroniclelaw2: sameTokens, twins, unharmed, other: what the statements do to tokens. -/
namespace Go.Proofs.YtljfmcgeiceagaaDoor
open Go Go.RowKit
set_option linter.unusedVariables false
set_option linter.unusedSimpArgs false

/-- Tokens in a row of the call's own: their cells, and one of them laid anew. -/
theorem tok_row {w : World} {base g N c k : Nat} {xs : List TkV} {x : TkV} (h : w.ownsRow base 139 3 (.slice (some ⟨g, 0, none⟩) N c) N (tkCells xs)) (hk : xs[k]? = some x) :
    (w.cell? ⟨g, k * 3, none⟩ = some (.slice x.A x.lit.length x.c) ∧ w.cell? ⟨g, k * 3 + 1, none⟩ = some (.int .i64 x.d) ∧ w.cell? ⟨g, k * 3 + 2, none⟩ = some (.int .i64 x.l)) ∧
    w.frozen? ⟨g, k * 3, none⟩ = false ∧ w.frozen? ⟨g, k * 3 + 1, none⟩ = false ∧ w.frozen? ⟨g, k * 3 + 2, none⟩ = false := by
  have hn := h.1
  rw [tkCells_length] at hn
  have hl := (List.getElem?_eq_some_iff.1 hk).1
  obtain ⟨h0, h1, h2⟩ := tkCells_get hk
  exact ⟨⟨(h.cellAt _ (by omega)).trans h0, (h.cellAt _ (by omega)).trans h1, (h.cellAt _ (by omega)).trans h2⟩, h.frozenAt _, h.frozenAt _, h.frozenAt _⟩
theorem tok_stored {w : World} {base g N c k : Nat} {xs : List TkV} (h : w.ownsRow base 139 3 (.slice (some ⟨g, 0, none⟩) N c) N (tkCells xs)) (hk : k < xs.length) (y : TkV) :
    (((w.setCell ⟨g, k * 3, none⟩ (.slice y.A y.lit.length y.c)).setCell ⟨g, k * 3 + 1, none⟩ (.int .i64 y.d)).setCell ⟨g, k * 3 + 2, none⟩ (.int .i64 y.l)).ownsRow base 139 3 (.slice (some ⟨g, 0, none⟩) N c) N (tkCells (xs.set k y)) ∧
    w.grownBy (((w.setCell ⟨g, k * 3, none⟩ (.slice y.A y.lit.length y.c)).setCell ⟨g, k * 3 + 1, none⟩ (.int .i64 y.d)).setCell ⟨g, k * 3 + 2, none⟩ (.int .i64 y.l)) (some g) := by
  have h1 := h.stored (k * 3) (.slice y.A y.lit.length y.c)
  have h2 := h1.1.stored (k * 3 + 1) (.int .i64 y.d)
  have h3 := h2.1.stored (k * 3 + 2) (.int .i64 y.l)
  rw [tkCells_set3 y hk] at h3
  exact ⟨h3.1, grown_trans h1.2 (grown_trans h2.2 h3.2)⟩

theorem infoTok : (Tryd.prog.info? 139).map (fun i => (i.zero, i.size, i.bytes)) = some (some (.agg #[.slice none 0 0, .int .i64 0, .int .i64 0]), 3, 40) := by kernel_rfl

/-- A token's twin: its bytes in memory of their own, with marks behind. -/
structure Twin (W : World) (g0 : Nat) (x y : TkV) : Prop where
  lit : y.lit = x.lit
  d : y.d = x.d
  l : y.l = x.l
  c : y.c = x.lit.length + 64
  at_ : ∃ gi, y.A = some ⟨gi, 0, none⟩ ∧ g0 < gi
  rd : Rd W y.A (b8 (x.lit ++ pat x.lit.length))
theorem Twin.grown {W W' : World} {g0 g2 : Nat} {x y : TkV} (h : Twin W g0 x y) (hg : W.grownBy W' (some g2)) (h2 : g2 ≤ g0) : Twin W' g0 x y := by
  obtain ⟨gi, e, hne⟩ := h.at_
  exact ⟨h.lit, h.d, h.l, h.c, h.at_, h.rd.grown hg (fun a ha e2 => by rw [e] at ha; injection ha with ha; subst ha; injection e2 with e2; have e3 : gi = g2 := e2; omega)⟩
theorem Twin.below {W W' : World} {g0 : Nat} {x y : TkV} (h : Twin W g0 x y) (hb : Below W.heap.size W W') : Twin W' g0 x y := ⟨h.lit, h.d, h.l, h.c, h.at_, h.rd.below hb⟩
theorem Twin.tk {W : World} {g0 : Nat} {x y : TkV} (h : Twin W g0 x y) : y.tk = x.tk := by unfold TkV.tk; rw [h.lit, h.d, h.l]
theorem Twin.ok {W w : World} {g0 : Nat} {x y : TkV} (h : Twin W g0 x y) (o : x.Ok w) : y.Ok W := by
  have hs := o.sz
  refine ⟨?_, ?_, ?_, ?_, ?_, ?_, ?_⟩
  · rw [h.lit, h.c]; omega
  · rw [h.c]; unfold maxLen; omega
  · rw [h.lit]
    have := h.rd.take_ x.lit.length
    rw [b8_append, List.take_left' (b8_length _)] at this
    exact this
  · rw [h.lit]; exact o.by_
  · rw [h.lit]; exact hs
  · rw [h.d]; exact o.d64
  · rw [h.l]; exact o.l64

def tkZero : TkV := ⟨none, 0, [], 0, 0⟩
def tkEnd : TkV := ⟨none, 0, [], 77, -5⟩
/-- The first of them are twins of those. -/
def TwinsTo (W : World) (g0 : Nat) (l ms : List TkV) : Prop := ∀ (i : Nat) (y : TkV), ms[i]? = some y → ∃ x, l[i]? = some x ∧ Twin W g0 x y
def Twins (w : World) (l : List TkV) (n : Nat) (e : Ending) (W : World) : Prop :=
  ∃ ms, e = .returned (.slice (some ⟨w.heap.size, 0, none⟩) (n + 1) (n + 1)) ∧ W.ownsRow w.heap.size 139 3 (.slice (some ⟨w.heap.size, 0, none⟩) (n + 1) (n + 1)) (n + 1) (tkCells (ms ++ [tkEnd])) ∧ ms.length = n ∧ TwinsTo W w.heap.size l ms ∧ Below w.heap.size w W

theorem TwinsTo.grown {W W' : World} {g0 g2 : Nat} {l ms : List TkV} (h : TwinsTo W g0 l ms) (hg : W.grownBy W' (some g2)) (h2 : g2 ≤ g0) : TwinsTo W' g0 l ms := fun i y hy => by
  obtain ⟨x, hx, ht⟩ := h i y hy
  exact ⟨x, hx, ht.grown hg h2⟩
theorem TwinsTo.below {W W' : World} {g0 : Nat} {l ms : List TkV} (h : TwinsTo W g0 l ms) (hb : Below W.heap.size W W') : TwinsTo W' g0 l ms := fun i y hy => by
  obtain ⟨x, hx, ht⟩ := h i y hy
  exact ⟨x, hx, ht.below hb⟩
theorem twin_set {ms : List TkV} {k n : Nat} (h : ms.length = k) (hk : k < n) {y : TkV} : (ms ++ List.replicate (n + 1 - k) tkZero).set k y = (ms ++ [y]) ++ List.replicate (n + 1 - (k + 1)) tkZero := by
  rw [List.set_append_right _ _ (by omega), h, Nat.sub_self, show n + 1 - k = (n + 1 - (k + 1)) + 1 by omega, List.replicate_succ, List.set_cons_zero, List.append_assoc]
  rfl
theorem TwinsTo.snoc {wr w2 W : World} {g0 k xc : Nat} {xA : Option Addr} {lit : List Nat} {xd xl : Int} {l ms : List TkV} (h : TwinsTo wr g0 l ms) (hk : ms.length = k) (hx : l[k]? = some ⟨xA, xc, lit, xd, xl⟩)
    (hr : Rd w2 (some ⟨wr.heap.size, 0, none⟩) (b8 (lit ++ pat lit.length))) (hg : g0 < wr.heap.size) (hb : Below wr.heap.size wr w2) (hs : w2.grownBy W (some g0)) : TwinsTo W.drew g0 l (ms ++ [⟨some ⟨wr.heap.size, 0, none⟩, lit.length + 64, lit, xd, xl⟩]) := by
  have hd : Below W.heap.size W W.drew := (Below.refl _ _).drew
  intro i y hy
  rcases Nat.lt_or_ge i ms.length with hi | hi
  · rw [List.getElem?_append_left hi] at hy
    obtain ⟨x, h1, h2⟩ := h i y hy
    exact ⟨x, h1, ((h2.below hb).grown hs (Nat.le_refl _)).below hd⟩
  · rw [List.getElem?_append_right hi] at hy
    have hik : i - ms.length = 0 := by
      have := (List.getElem?_eq_some_iff.1 hy).1
      simp only [List.length_singleton] at this
      omega
    rw [hik] at hy
    simp only [List.getElem?_cons_zero, Option.some.injEq] at hy
    subst hy
    refine ⟨⟨xA, xc, lit, xd, xl⟩, by rw [show i = k by omega]; exact hx, ⟨rfl, rfl, rfl, rfl, ⟨_, rfl, by omega⟩, ?_⟩⟩
    refine (hr.grown hs (fun a ha e => ?_)).below hd
    injection ha with ha
    subst ha
    injection e with e
    have e' : wr.heap.size = g0 := e
    omega
theorem TwinsTo.toks {W : World} {g0 n : Nat} {l ms : List TkV} (h : TwinsTo W g0 l ms) (hl : l.length = n) (hm : ms.length = n) : toks ms = toks l := by
  apply List.ext_getElem?
  intro i
  unfold Go.Proofs.YtljfmcgeiceagaaDoor.toks
  rw [List.getElem?_map, List.getElem?_map]
  cases hy : ms[i]? with
  | none =>
    have : l[i]? = none := by rw [List.getElem?_eq_none_iff] at hy ⊢; omega
    rw [this]
  | some y =>
    obtain ⟨x, hx, ht⟩ := h i y hy
    rw [hx]
    simp [ht.tk]

theorem zeroToks (n : Nat) : (madeCells (Value.agg #[.slice none 0 0, .int .i64 0, .int .i64 0]).cells (n * 3)).toList = tkCells (List.replicate n tkZero) := by
  have hc : (Value.agg #[.slice none 0 0, .int .i64 0, .int .i64 0]).cells = #[.slice none 0 0, .int .i64 0, .int .i64 0] := by simp [Value.cells]
  rw [hc]
  apply List.ext_getElem?
  intro i
  by_cases hi : i < n * 3
  · have hk : (List.replicate n tkZero)[i / 3]? = some tkZero := by rw [List.getElem?_replicate, if_pos (by omega)]
    obtain ⟨h0, h1, h2⟩ := tkCells_get hk
    have hm : ((madeCells #[Value.slice none 0 0, .int .i64 0, .int .i64 0] (n * 3)).toList)[i]? = some (#[Value.slice none 0 0, .int .i64 0, .int .i64 0][i % 3]!) := by
      simp [madeCells, hi]
    rw [hm]
    rcases (show i % 3 = 0 ∨ i % 3 = 1 ∨ i % 3 = 2 by omega) with e | e | e
    · rw [e, show i = i / 3 * 3 by omega, h0]; rfl
    · rw [e, show i = i / 3 * 3 + 1 by omega, h1]; rfl
    · rw [e, show i = i / 3 * 3 + 2 by omega, h2]; rfl
  · rw [List.getElem?_eq_none (by simp [madeCells]; omega), List.getElem?_eq_none (by rw [tkCells_length, List.length_replicate]; omega)]

theorem TwinsTo.ok {W w : World} {g0 : Nat} {l ms : List TkV} (h : TwinsTo W g0 l ms) (ok : ∀ x ∈ l, x.Ok w) : ∀ y ∈ ms, y.Ok W := by
  intro y hy
  obtain ⟨i, hi⟩ := List.mem_iff_getElem?.1 hy
  obtain ⟨x, hx, ht⟩ := h i y hi
  exact ht.ok (ok x (List.mem_of_getElem? hx))
theorem rd_tkpre {W : World} {A : Option Addr} {xs ys : List TkV} (h : Rd W A (tkCells (xs ++ ys))) : Rd W A (tkCells xs) := by
  have := h.take_ (xs.length * 3)
  rw [tkCells_append, List.take_left' (tkCells_length xs)] at this
  exact this

end Go.Proofs.YtljfmcgeiceagaaDoor

/- Rows of tokens of the call's own; chroniclelaw2.other. -/
namespace Go.Proofs.YtljfmcgeiceagaaDoor
open Go Go.RowKit
set_option linter.unusedVariables false
set_option linter.unusedSimpArgs false

/-- Tokens behind a row of the call's own. -/
theorem appT (w : World) {ops : Array Oper} {rest : List Oper} {o : Oper} {a : Act} {Q : Exit → Act → World → Prop} (hgd : o.guard = none) (s x : Operand)
    (ho : o.op = .call { callee := .builtin .append, args := #[s, x], argTypes := #[133, 133] })
    (base : Nat) (v : Value) (n : Nat) (xs : List TkV) (hs : a.eval s = v) (hown : w.ownsRow base 139 3 v n (tkCells xs))
    (A : Option Addr) (m c : Nat) (news : List TkV) (hx : a.eval x = .slice A m c) (hl : news.length = m) (hr : Rd w A (tkCells news))
    (hbytes : (n + m) * 40 ≤ 140737488355328) (hbase : base ≤ w.heap.size)
    (h : ∀ v' w', w'.ownsRow base 139 3 v' (n + m) (tkCells (xs ++ news)) → w.grownBy w' v.ownBlock → (v'.ownBlock = v.ownBlock ∨ ∃ k, v'.ownBlock = some k ∧ w.heap.size ≤ k) → wpList Tryd.prog ops Q rest (a.put o.dst v') w') :
    wpList Tryd.prog ops Q (o :: rest) a w := by
  obtain ⟨i0, hi, hz0, hz1, hz2⟩ := info_parts infoTok
  refine wpList_app w hgd s x 133 ho base 139 i0 _ 3 40 Tryd.underlying133 hi hz0 hz1 hz2 rfl (by omega) v n (tkCells xs) hs hown A m c (tkCells news) hx (by rw [tkCells_length, hl]) hr (tkCells_one _) hbytes (by unfold maxLen; omega) hbase ?_
  intro v' w' h1 h2 h3
  exact h v' w' (by rw [tkCells_append]; exact h1) h2 h3

/-- One token, a literal slice of one. -/
theorem pushT (w : World) {ops : Array Oper} {rest : List Oper} {o : Oper} {a : Act} {Q : Exit → Act → World → Prop} (hgd : o.guard = none) (s x : Operand)
    (ho : o.op = .call { callee := .builtin .append, args := #[s, x], argTypes := #[133, 133] })
    (base : Nat) (v : Value) (n : Nat) (xs : List TkV) (hs : a.eval s = v) (hown : w.ownsRow base 139 3 v n (tkCells xs)) (y : TkV) (q : Nat) (hq : q = w.heap.size)
    (hx : a.eval x = .slice (some ⟨q, 0, none⟩) 1 1)
    (hbytes : (n + 1) * 40 ≤ 140737488355328) (hbase : base ≤ w.heap.size)
    (h : ∀ v' w', w'.ownsRow base 139 3 v' (n + 1) (tkCells (xs ++ [y])) → w.grownBy w' v.ownBlock → (v'.ownBlock = v.ownBlock ∨ ∃ k, v'.ownBlock = some k ∧ w.heap.size ≤ k) → wpList Tryd.prog ops Q rest (a.put o.dst v') w') :
    wpList Tryd.prog ops Q (o :: rest) a (w.alloc (.cells #[.slice y.A y.lit.length y.c, .int .i64 y.d, .int .i64 y.l] 139)) := by
  subst hq
  have hb : Below w.heap.size w (w.alloc (.cells #[.slice y.A y.lit.length y.c, .int .i64 y.d, .int .i64 y.l] 139)) := (Below.refl _ _).alloc (Nat.le_refl _) _
  refine appT (w.alloc (.cells #[.slice y.A y.lit.length y.c, .int .i64 y.d, .int .i64 y.l] 139)) hgd s x ho base v n xs hs (hown.alloc _) (some ⟨w.heap.size, 0, none⟩) 1 1 [y] hx rfl (rd_lit w _ _) hbytes (Nat.le_trans hbase hb.size) ?_
  intro v' w' h1 h2 h3
  refine h v' w' h1 ⟨h2.os.trans hb.os, h2.tape.trans hb.tape, h2.output.trans hb.output, Nat.le_trans hb.size h2.size, fun k hk hne => (h2.block k (Nat.lt_of_lt_of_le hk hb.size) hne).trans (hb.block k hk)⟩ ?_
  rcases h3 with h3 | ⟨k, h3, hk⟩
  · exact .inl h3
  · exact .inr ⟨k, h3, Nat.le_trans hb.size hk⟩

/-- Another token. -/
def bumpT (x : TkV) : TkV := if 0 < x.l ∧ x.l < 1000 then ⟨x.A, x.c, x.lit, x.d, x.l + 1⟩ else x
def oth (l : List TkV) : List TkV := (l.map bumpT).reverse
theorem oth_length (l : List TkV) : (oth l).length = l.length := by simp [oth]
theorem bumpT_ok {w : World} {x : TkV} (h : x.Ok w) : (bumpT x).Ok w := by
  unfold bumpT
  split
  · exact ⟨h.cap, h.cm, h.rd, h.by_, h.sz, h.d64, by simp only; omega⟩
  · exact h
theorem oth_ok {w : World} {l : List TkV} (h : ∀ x ∈ l, x.Ok w) : ∀ x ∈ oth l, x.Ok w := by
  intro x hx
  unfold oth at hx
  rw [List.mem_reverse, List.mem_map] at hx
  obtain ⟨y, hy, rfl⟩ := hx
  exact bumpT_ok (h y hy)
theorem oth_drop {l : List TkV} {j : Nat} {x : TkV} (h : l[j]? = some x) : oth (l.drop j) = oth (l.drop (j + 1)) ++ [bumpT x] := by
  obtain ⟨hl, rfl⟩ := List.getElem?_eq_some_iff.1 h
  unfold oth
  rw [List.drop_eq_getElem_cons hl, List.map_cons, List.reverse_cons]

def GotT (w : World) (l : List TkV) (n : Nat) (e : Ending) (w' : World) : Prop :=
  ∃ A c, e = .returned (.slice A n c) ∧ w'.ownsRow w.heap.size 139 3 (.slice A n c) n (tkCells l) ∧ Below w.heap.size w w'

end Go.Proofs.YtljfmcgeiceagaaDoor

/- chroniclelaw2: expandPlaced, writePlaced (printed by gen_sqtk.py). -/
namespace Go.Proofs.YtljfmcgeiceagaaDoor
open Go Go.RowKit
set_option linter.unusedVariables false
set_option linter.unusedSimpArgs false

theorem sp_exp_len (l : List Tk) : (exp [] l).1.length ≤ 140737488351232 := Nat.le_trans (exp_len l [] (by simp)) (by omega)
theorem flat_len : ∀ (l : List Tk), (∀ t ∈ l, Fine t) → (l.flatMap bt).length ≤ l.length * 4116
  | [], _ => by simp
  | t :: r, h => by
    have h1 := bt_len (h t (List.mem_cons_self ..))
    have h2 := flat_len r (fun t' ht' => h t' (List.mem_cons_of_mem _ ht'))
    simp only [List.flatMap_cons, List.length_append, List.length_cons]
    omega
theorem sp_wr_len (l : List Tk) : (wr l).1.length ≤ 140737488351232 := by
  unfold wr
  split
  · rename_i h
    have hl := exp_len l [] (by simp)
    have hf := fine_of_exp (ts := l) (text := []) (T := (exp [] l).1) (by rw [← h])
    have h1 := flat_len l hf.1
    have h2 := Uv.uv_len_64 (exp [] l).1.length (by omega)
    have h3 := hf.2
    unfold blk
    simp only [List.length_append, List.length_nil] at *
    omega
  · simp
theorem rd_kept {W W' : World} {A : Option Addr} {xs : List Value} {S : Nat → Prop} (h : Rd W A xs) (hk : KeptS W W' S) (hA : ∀ a, A = some a → ¬ S a.block) : Rd W' A xs := by
  intro hn
  obtain ⟨g, off, e, hg, hc⟩ := h hn
  have hb := hk.block g hg (hA _ e)
  refine ⟨g, off, e, Nat.lt_of_lt_of_le hg hk.size, fun k u hu => ?_⟩
  have h2 := hc k u hu
  have e2 : W'.cell? ⟨g, off + k, none⟩ = W.cell? ⟨g, off + k, none⟩ := by simp only [World.cell?, hb]
  exact e2.trans h2
/-- What was there before a row's own block changed. -/
theorem rd_beside {W W' : World} {A : Option Addr} {xs : List Value} {g B : Nat} (h : Rd W A xs) (hA : ∀ a, A = some a → a.block < B ∨ g < a.block) (hg : W.grownBy W' (some g)) (hB : B ≤ g) : Rd W' A xs :=
  h.grown hg (fun a ha e => by injection e with e; rcases hA a ha with h1 | h1 <;> omega)
theorem own_at {w : World} {base : Nat} {e : TypeId} {size n c : Nat} {A : Option Addr} {xs : List Value} (h : w.ownsRow base e size (.slice A n c) n xs) : ∀ a, A = some a → base ≤ a.block ∧ a.block < w.heap.size := by
  obtain ⟨A', c', hv, _, _, hb⟩ := own_shape h
  injection hv with h1
  subst h1
  exact hb

end Go.Proofs.YtljfmcgeiceagaaDoor
