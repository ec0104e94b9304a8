/- Several texts in one: Lm, Lm2, TokRow, PlaceT. -/
import Derived.Test.YtljfmcgeiceagaaGreatF1
import Derived.Test.YtljfmcgeiceagaaGreatF3
import Derived.Test.YtljfmcgeiceagaaGreatS1
import Derived.StillTailTactics
/- chroniclelaw2: spare, kept, fill, turned, lay: what the statements do to memory. -/
namespace Go.Proofs.YtljfmcgeiceagaaGreat
open Go Go.RowKit
set_option linter.unusedVariables false
set_option linter.unusedSimpArgs false

/-- The marks behind n bytes. -/
def pat (n : Nat) : List Nat := (List.range 64).map (fun j => 200 + (n + j) % 7)
theorem KeptS.heap {a b : World} {S : Nat → Prop} (h : KeptS a b S) : a.heap.size ≤ b.heap.size := h.size

end Go.Proofs.YtljfmcgeiceagaaGreat

/- chroniclelaw2: sameTokens, twins, unharmed, other: what the statements do to tokens. -/
namespace Go.Proofs.YtljfmcgeiceagaaGreat
open Go Go.RowKit
set_option linter.unusedVariables false
set_option linter.unusedSimpArgs false

theorem infoTok : (Tryz.prog.info? 125).map (fun i => (i.zero, i.size, i.bytes)) = some (some (.agg #[.slice none 0 0, .int .i64 0, .int .i64 0]), 3, 40) := by kernel_rfl

/-- A token's twin: its bytes in memory of their own, with marks behind. -/
structure Twin (W : World) (g0 : Nat) (x y : TkV) : Prop where
  lit : y.lit = x.lit
  d : y.d = x.d
  l : y.l = x.l
  c : y.c = x.lit.length + 64
  at_ : ∃ gi, y.A = some ⟨gi, 0, none⟩ ∧ g0 < gi
  rd : Rd W y.A (b8 (x.lit ++ pat x.lit.length))
theorem Twin.grown {W W' : World} {g0 g2 : Nat} {x y : TkV} (h : Twin W g0 x y) (hg : W.grownBy W' (some g2)) (h2 : g2 ≤ g0) : Twin W' g0 x y := by
  obtain ⟨gi, e, hne⟩ := h.at_
  exact ⟨h.lit, h.d, h.l, h.c, h.at_, h.rd.grown hg (fun a ha e2 => by rw [e] at ha; injection ha with ha; subst ha; injection e2 with e2; have e3 : gi = g2 := e2; omega)⟩
theorem Twin.below {W W' : World} {g0 : Nat} {x y : TkV} (h : Twin W g0 x y) (hb : Below W.heap.size W W') : Twin W' g0 x y := ⟨h.lit, h.d, h.l, h.c, h.at_, h.rd.below hb⟩
theorem Twin.tk {W : World} {g0 : Nat} {x y : TkV} (h : Twin W g0 x y) : y.tk = x.tk := by unfold TkV.tk; rw [h.lit, h.d, h.l]
theorem Twin.ok {W w : World} {g0 : Nat} {x y : TkV} (h : Twin W g0 x y) (o : x.Ok w) : y.Ok W := by
  have hs := o.sz
  refine ⟨?_, ?_, ?_, ?_, ?_, ?_, ?_⟩
  · rw [h.lit, h.c]; omega
  · rw [h.c]; unfold maxLen; omega
  · rw [h.lit]
    have := h.rd.take_ x.lit.length
    rw [b8_append, List.take_left' (b8_length _)] at this
    exact this
  · rw [h.lit]; exact o.by_
  · rw [h.lit]; exact hs
  · rw [h.d]; exact o.d64
  · rw [h.l]; exact o.l64

def tkZero : TkV := ⟨none, 0, [], 0, 0⟩
/-- The first of them are twins of those. -/
def TwinsTo (W : World) (g0 : Nat) (l ms : List TkV) : Prop := ∀ (i : Nat) (y : TkV), ms[i]? = some y → ∃ x, l[i]? = some x ∧ Twin W g0 x y
theorem TwinsTo.grown {W W' : World} {g0 g2 : Nat} {l ms : List TkV} (h : TwinsTo W g0 l ms) (hg : W.grownBy W' (some g2)) (h2 : g2 ≤ g0) : TwinsTo W' g0 l ms := fun i y hy => by
  obtain ⟨x, hx, ht⟩ := h i y hy
  exact ⟨x, hx, ht.grown hg h2⟩
theorem TwinsTo.below {W W' : World} {g0 : Nat} {l ms : List TkV} (h : TwinsTo W g0 l ms) (hb : Below W.heap.size W W') : TwinsTo W' g0 l ms := fun i y hy => by
  obtain ⟨x, hx, ht⟩ := h i y hy
  exact ⟨x, hx, ht.below hb⟩
theorem TwinsTo.ok {W w : World} {g0 : Nat} {l ms : List TkV} (h : TwinsTo W g0 l ms) (ok : ∀ x ∈ l, x.Ok w) : ∀ y ∈ ms, y.Ok W := by
  intro y hy
  obtain ⟨i, hi⟩ := List.mem_iff_getElem?.1 hy
  obtain ⟨x, hx, ht⟩ := h i y hi
  exact ht.ok (ok x (List.mem_of_getElem? hx))
end Go.Proofs.YtljfmcgeiceagaaGreat

/- Rows of tokens of the call's own; chroniclelaw2.other. -/
namespace Go.Proofs.YtljfmcgeiceagaaGreat
open Go Go.RowKit
set_option linter.unusedVariables false
set_option linter.unusedSimpArgs false

/-- Tokens behind a row of the call's own. -/
theorem appT (w : World) {ops : Array Oper} {rest : List Oper} {o : Oper} {a : Act} {Q : Exit → Act → World → Prop} (hgd : o.guard = none) (s x : Operand)
    (ho : o.op = .call { callee := .builtin .append, args := #[s, x], argTypes := #[120, 120] })
    (base : Nat) (v : Value) (n : Nat) (xs : List TkV) (hs : a.eval s = v) (hown : w.ownsRow base 125 3 v n (tkCells xs))
    (A : Option Addr) (m c : Nat) (news : List TkV) (hx : a.eval x = .slice A m c) (hl : news.length = m) (hr : Rd w A (tkCells news))
    (hbytes : (n + m) * 40 ≤ 140737488355328) (hbase : base ≤ w.heap.size)
    (h : ∀ v' w', w'.ownsRow base 125 3 v' (n + m) (tkCells (xs ++ news)) → w.grownBy w' v.ownBlock → (v'.ownBlock = v.ownBlock ∨ ∃ k, v'.ownBlock = some k ∧ w.heap.size ≤ k) → wpList Tryz.prog ops Q rest (a.put o.dst v') w') :
    wpList Tryz.prog ops Q (o :: rest) a w := by
  obtain ⟨i0, hi, hz0, hz1, hz2⟩ := info_parts infoTok
  refine wpList_app w hgd s x 120 ho base 125 i0 _ 3 40 Tryz.underlying120 hi hz0 hz1 hz2 rfl (by omega) v n (tkCells xs) hs hown A m c (tkCells news) hx (by rw [tkCells_length, hl]) hr (tkCells_one _) hbytes (by unfold maxLen; omega) hbase ?_
  intro v' w' h1 h2 h3
  exact h v' w' (by rw [tkCells_append]; exact h1) h2 h3

/-- One token, a literal slice of one. -/
theorem pushT (w : World) {ops : Array Oper} {rest : List Oper} {o : Oper} {a : Act} {Q : Exit → Act → World → Prop} (hgd : o.guard = none) (s x : Operand)
    (ho : o.op = .call { callee := .builtin .append, args := #[s, x], argTypes := #[120, 120] })
    (base : Nat) (v : Value) (n : Nat) (xs : List TkV) (hs : a.eval s = v) (hown : w.ownsRow base 125 3 v n (tkCells xs)) (y : TkV) (q : Nat) (hq : q = w.heap.size)
    (hx : a.eval x = .slice (some ⟨q, 0, none⟩) 1 1)
    (hbytes : (n + 1) * 40 ≤ 140737488355328) (hbase : base ≤ w.heap.size)
    (h : ∀ v' w', w'.ownsRow base 125 3 v' (n + 1) (tkCells (xs ++ [y])) → w.grownBy w' v.ownBlock → (v'.ownBlock = v.ownBlock ∨ ∃ k, v'.ownBlock = some k ∧ w.heap.size ≤ k) → wpList Tryz.prog ops Q rest (a.put o.dst v') w') :
    wpList Tryz.prog ops Q (o :: rest) a (w.alloc (.cells #[.slice y.A y.lit.length y.c, .int .i64 y.d, .int .i64 y.l] 125)) := by
  subst hq
  have hb : Below w.heap.size w (w.alloc (.cells #[.slice y.A y.lit.length y.c, .int .i64 y.d, .int .i64 y.l] 125)) := (Below.refl _ _).alloc (Nat.le_refl _) _
  refine appT (w.alloc (.cells #[.slice y.A y.lit.length y.c, .int .i64 y.d, .int .i64 y.l] 125)) hgd s x ho base v n xs hs (hown.alloc _) (some ⟨w.heap.size, 0, none⟩) 1 1 [y] hx rfl (rd_lit w _ _) hbytes (Nat.le_trans hbase hb.size) ?_
  intro v' w' h1 h2 h3
  refine h v' w' h1 ⟨h2.os.trans hb.os, h2.tape.trans hb.tape, h2.output.trans hb.output, Nat.le_trans hb.size h2.size, fun k hk hne => (h2.block k (Nat.lt_of_lt_of_le hk hb.size) hne).trans (hb.block k hk)⟩ ?_
  rcases h3 with h3 | ⟨k, h3, hk⟩
  · exact .inl h3
  · exact .inr ⟨k, h3, Nat.le_trans hb.size hk⟩

end Go.Proofs.YtljfmcgeiceagaaGreat

/- chroniclelaw2: expandPlaced, writePlaced (printed by gen_sqtk.py). -/
namespace Go.Proofs.YtljfmcgeiceagaaGreat
open Go Go.RowKit
set_option linter.unusedVariables false
set_option linter.unusedSimpArgs false

theorem flat_len : ∀ (l : List Tk), (∀ t ∈ l, Fine t) → (l.flatMap bt).length ≤ l.length * 4116
  | [], _ => by simp
  | t :: r, h => by
    have h1 := bt_len (h t (List.mem_cons_self ..))
    have h2 := flat_len r (fun t' ht' => h t' (List.mem_cons_of_mem _ ht'))
    simp only [List.flatMap_cons, List.length_append, List.length_cons]
    omega
theorem sp_wr_len (l : List Tk) : (wr l).1.length ≤ 140737488351232 := by
  unfold wr
  split
  · rename_i h
    have hl := exp_len l [] (by simp)
    have hf := fine_of_exp (ts := l) (text := []) (T := (exp [] l).1) (by rw [← h])
    have h1 := flat_len l hf.1
    have h2 := Uv.uv_len_64 (exp [] l).1.length (by omega)
    have h3 := hf.2
    unfold blk
    simp only [List.length_append, List.length_nil] at *
    omega
  · simp
theorem rd_kept {W W' : World} {A : Option Addr} {xs : List Value} {S : Nat → Prop} (h : Rd W A xs) (hk : KeptS W W' S) (hA : ∀ a, A = some a → ¬ S a.block) : Rd W' A xs := by
  intro hn
  obtain ⟨g, off, e, hg, hc⟩ := h hn
  have hb := hk.block g hg (hA _ e)
  refine ⟨g, off, e, Nat.lt_of_lt_of_le hg hk.size, fun k u hu => ?_⟩
  have h2 := hc k u hu
  have e2 : W'.cell? ⟨g, off + k, none⟩ = W.cell? ⟨g, off + k, none⟩ := by simp only [World.cell?, hb]
  exact e2.trans h2
theorem own_at {w : World} {base : Nat} {e : TypeId} {size n c : Nat} {A : Option Addr} {xs : List Value} (h : w.ownsRow base e size (.slice A n c) n xs) : ∀ a, A = some a → base ≤ a.block ∧ a.block < w.heap.size := by
  obtain ⟨A', c', hv, _, _, hb⟩ := own_shape h
  injection hv with h1
  subst h1
  exact hb

end Go.Proofs.YtljfmcgeiceagaaGreat
