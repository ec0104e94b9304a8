/- Several texts in one: Tok, SqExp, SqExp2, SqExp3, SqRExp, SqBlk, SqWr, SqRWr. -/
import Derived.Test.YtljfmcgeiceagaaGreatF1
import Derived.Test.YtljfmcgeiceagaaGreatF3
/- Tokens in memory; how lists of them are opened. -/
namespace Go.Proofs.YtljfmcgeiceagaaGreat
open Go Go.RowKit Go.ChangeShapes Go.WideShapes Go.ChangeAt Go.Deep
set_option linter.unusedVariables false
set_option linter.unusedSimpArgs false

/-- A token: bytes as they are, or so many from so far back. -/
structure Tk where
  lit : List Nat
  d : Int
  l : Int

/-- A token as it lies: where its bytes are, how many have room. -/
structure TkV where
  A : Option Addr
  c : Nat
  lit : List Nat
  d : Int
  l : Int
def TkV.tk (x : TkV) : Tk := ⟨x.lit, x.d, x.l⟩
def TkV.cells (x : TkV) : List Value := [.slice x.A x.lit.length x.c, .int .i64 x.d, .int .i64 x.l]
def TkV.val (x : TkV) : Value := .agg #[.slice x.A x.lit.length x.c, .int .i64 x.d, .int .i64 x.l]
/-- In range, and readable. -/
structure TkV.Ok (w : World) (x : TkV) : Prop where
  cap : x.lit.length ≤ x.c
  cm : x.c ≤ maxLen
  rd : Rd w x.A (b8 x.lit)
  by_ : By x.lit
  sz : x.lit.length ≤ 140737488351232
  d64 : -9223372036854775808 ≤ x.d ∧ x.d ≤ 9223372036854775807
  l64 : -9223372036854775808 ≤ x.l ∧ x.l ≤ 9223372036854775807
theorem TkV.Ok.below {w w' : World} {x : TkV} (h : x.Ok w) (hb : Below w.heap.size w w') : x.Ok w' := ⟨h.cap, h.cm, h.rd.below hb, h.by_, h.sz, h.d64, h.l64⟩

def tkCells (l : List TkV) : List Value := l.flatMap TkV.cells
theorem tkCells_append (a b : List TkV) : tkCells (a ++ b) = tkCells a ++ tkCells b := by simp [tkCells]
theorem tkCells_length (l : List TkV) : (tkCells l).length = l.length * 3 := by
  induction l with
  | nil => rfl
  | cons x r ih =>
    have : tkCells (x :: r) = x.cells ++ tkCells r := by simp [tkCells]
    rw [this, List.length_append, ih]
    simp [TkV.cells]
    omega
theorem tkCells_one (l : List TkV) : ∀ u ∈ tkCells l, u.oneCell' = true := by
  intro u hu
  obtain ⟨x, _, hx⟩ := List.mem_flatMap.1 hu
  simp only [TkV.cells, List.mem_cons, List.not_mem_nil, or_false] at hx
  rcases hx with rfl | rfl | rfl <;> rfl
theorem tkCells_get : ∀ {l : List TkV} {k : Nat} {x : TkV}, l[k]? = some x → (tkCells l)[k * 3]? = some (.slice x.A x.lit.length x.c) ∧ (tkCells l)[k * 3 + 1]? = some (.int .i64 x.d) ∧ (tkCells l)[k * 3 + 2]? = some (.int .i64 x.l)
  | [], k, x, h => by simp at h
  | y :: r, 0, x, h => by
    simp only [List.getElem?_cons_zero, Option.some.injEq] at h
    subst h
    simp [tkCells, TkV.cells]
  | y :: r, k + 1, x, h => by
    have h' : r[k]? = some x := by simpa using h
    have ih := tkCells_get h'
    have e : tkCells (y :: r) = y.cells ++ tkCells r := by simp [tkCells]
    have hl : y.cells.length = 3 := rfl
    rw [e, List.getElem?_append_right (by omega), List.getElem?_append_right (by omega), List.getElem?_append_right (by omega), hl, show (k + 1) * 3 - 3 = k * 3 by omega, show (k + 1) * 3 + 1 - 3 = k * 3 + 1 by omega, show (k + 1) * 3 + 2 - 3 = k * 3 + 2 by omega]
    exact ih
/-- The cells of one of them. -/
theorem Rd.tok {w : World} {A : Option Addr} {l : List TkV} (h : Rd w A (tkCells l)) {k : Nat} {x : TkV} (hk : l[k]? = some x) :
    ∃ g off, A = some ⟨g, off, none⟩ ∧ g < w.heap.size ∧ w.cell? ⟨g, off + k * 3, none⟩ = some (.slice x.A x.lit.length x.c) ∧ w.cell? ⟨g, off + k * 3 + 1, none⟩ = some (.int .i64 x.d) ∧ w.cell? ⟨g, off + k * 3 + 2, none⟩ = some (.int .i64 x.l) := by
  have hne : tkCells l ≠ [] := by
    intro e
    have := congrArg List.length e
    rw [tkCells_length] at this
    have hk' := (List.getElem?_eq_some_iff.1 hk).1
    simp only [List.length_nil] at this
    omega
  obtain ⟨g, off, e, hg, hc⟩ := h hne
  have h1 := tkCells_get hk
  refine ⟨g, off, e, hg, hc _ _ h1.1, ?_, ?_⟩
  · rw [Nat.add_assoc]; exact hc _ _ h1.2.1
  · rw [Nat.add_assoc]; exact hc _ _ h1.2.2

end Go.Proofs.YtljfmcgeiceagaaGreat

/- Expand: which tokens are right, and the text of tokens. (Printed by gen_sqexp.py.) -/
namespace Go.Proofs.YtljfmcgeiceagaaGreat
open Go Go.RowKit
set_option linter.unusedVariables false
set_option linter.unusedSimpArgs false

def rt (t : Tk) (n : Nat) : Bool := if 0 < t.lit.length then decide (t.d = 0 ∧ t.l = 0) else decide (5 ≤ t.l ∧ t.l ≤ 258 ∧ 1 ≤ t.d ∧ t.d ≤ 2048 ∧ t.d ≤ n)
def addOne (text : List Nat) (d : Nat) : List Nat := text ++ [text.getD (text.length - d) 0]
def copyN (text : List Nat) (d : Nat) : Nat → List Nat
  | 0 => text
  | k + 1 => addOne (copyN text d k) d
theorem copyN_length (text : List Nat) (d : Nat) : ∀ k, (copyN text d k).length = text.length + k
  | 0 => rfl
  | k + 1 => by simp [copyN, addOne, copyN_length text d k]; omega
def addTk (text : List Nat) (t : Tk) : List Nat := copyN (text ++ t.lit) t.d.toNat t.l.toNat
theorem addTk_length (text : List Nat) (t : Tk) : (addTk text t).length = text.length + t.lit.length + t.l.toNat := by
  unfold addTk
  rw [copyN_length, List.length_append]
def exp (text : List Nat) : List Tk → List Nat × Int
  | [] => (text, 0)
  | t :: r => if rt t text.length then (if 4096 < text.length + t.lit.length + t.l.toNat then ([], 2) else exp (addTk text t) r) else ([], 21)
theorem rt_cases {t : Tk} {n : Nat} (h : rt t n = true) : (0 < t.lit.length ∧ t.d = 0 ∧ t.l = 0) ∨ (t.lit = [] ∧ 5 ≤ t.l ∧ t.l ≤ 258 ∧ 1 ≤ t.d ∧ t.d ≤ 2048 ∧ t.d ≤ n) := by
  unfold rt at h
  split at h
  · have := of_decide_eq_true h
    exact .inl ⟨by assumption, this⟩
  · have := of_decide_eq_true h
    exact .inr ⟨List.eq_nil_of_length_eq_zero (by omega), this⟩
theorem exp_len : ∀ (ts : List Tk) (text : List Nat), text.length ≤ 4096 → (exp text ts).1.length ≤ 4096
  | [], text, h => h
  | t :: r, text, h => by
    unfold exp
    split
    · split
      · simp
      · exact exp_len r _ (by rw [addTk_length]; omega)
    · simp
theorem exp_drop {ts : List Tk} {k : Nat} {t : Tk} (hk : ts[k]? = some t) (text : List Nat) : exp text (ts.drop k) = exp text (t :: ts.drop (k + 1)) := by
  obtain ⟨h, rfl⟩ := List.getElem?_eq_some_iff.1 hk
  rw [List.drop_eq_getElem_cons h]

def toks (l : List TkV) : List Tk := l.map TkV.tk
theorem toks_get {l : List TkV} {k : Nat} {x : TkV} (h : l[k]? = some x) : (toks l)[k]? = some x.tk := by simp [toks, h]

set_option maxHeartbeats 800000 in
set_option maxRecDepth 100000 in
theorem right_is (x : TkV) (n : Nat) (w : World) (hn : n ≤ 4611686018427387904) (hd : -9223372036854775808 ≤ x.d ∧ x.d ≤ 9223372036854775807) (hl : -9223372036854775808 ≤ x.l ∧ x.l ≤ 9223372036854775807) (hs : x.lit.length ≤ 140737488351232) :
    Calls Tryz.prog 119 #[x.val, .int .i64 (n : Int)] w fun e w' => e = .returned (.bool (rt x.tk n)) ∧ Below w.heap.size w w' := by
  obtain ⟨A, c, lit, d, l⟩ := x
  simp only at hd hl hs
  unfold TkV.val TkV.tk
  simp only
  have hb := (Below.refl w.heap.size w).alloc (Nat.le_refl _) (.cells #[.slice A lit.length c, .int .i64 d, .int .i64 l] 125)
  have HB := Lib.hid hb
  have R1 : Hid (0 < lit.length → rt ⟨lit, d, l⟩ n = decide (d = 0 ∧ l = 0)) := Lib.hid (fun h => by unfold rt; rw [if_pos h])
  have R2 : Hid (¬ 0 < lit.length → rt ⟨lit, d, l⟩ n = decide (5 ≤ l ∧ l ≤ 258 ∧ 1 ≤ d ∧ d ≤ 2048 ∧ d ≤ n)) := Lib.hid (fun h => by unfold rt; rw [if_neg h])
  obtain ⟨m, hm⟩ : ∃ m, m = lit.length := ⟨_, rfl⟩
  rw [← hm] at hs R1 R2 HB ⊢
  obtain ⟨q, hq⟩ : ∃ q, q = rt ⟨lit, d, l⟩ n := ⟨_, rfl⟩
  rw [← hq] at R1 R2 ⊢
  clear hm hq hb
  go_enter Tryz.func119, Tryz.ntmps119
  by_cases h0 : 0 < m
  · by_cases h1 : d = 0
    · by_cases h2 : l = 0
      · have hv : q = true := (R1.out h0).trans (decide_eq_true (by omega))
        rw [hv]
        clear hv R1 R2 HB
        go_wp2
        go_ret
        exact ⟨by first | rfl | simp [*], (Below.refl _ _).alloc (Nat.le_refl _) _⟩
      · have hv : q = false := (R1.out h0).trans (decide_eq_false (by omega))
        rw [hv]
        clear hv R1 R2 HB
        go_wp2
        go_ret
        exact ⟨by first | rfl | simp [*], (Below.refl _ _).alloc (Nat.le_refl _) _⟩
    · have hv : q = false := (R1.out h0).trans (decide_eq_false (by omega))
      rw [hv]
      clear hv R1 R2 HB
      go_wp2
      go_ret
      exact ⟨by first | rfl | simp [*], (Below.refl _ _).alloc (Nat.le_refl _) _⟩
  · by_cases h1 : 5 ≤ l
    · by_cases h2 : l ≤ 258
      · by_cases h3 : 1 ≤ d
        · by_cases h4 : d ≤ 2048
          · by_cases h5 : d ≤ (n : Int)
            · have hv : q = true := (R2.out h0).trans (decide_eq_true (by omega))
              rw [hv]
              clear hv R1 R2 HB
              go_wp2
              go_ret
              exact ⟨by first | rfl | simp [*], (Below.refl _ _).alloc (Nat.le_refl _) _⟩
            · have hv : q = false := (R2.out h0).trans (decide_eq_false (by omega))
              rw [hv]
              clear hv R1 R2 HB
              go_wp2
              go_ret
              exact ⟨by first | rfl | simp [*], (Below.refl _ _).alloc (Nat.le_refl _) _⟩
          · have hv : q = false := (R2.out h0).trans (decide_eq_false (by omega))
            rw [hv]
            clear hv R1 R2 HB
            go_wp2
            go_ret
            exact ⟨by first | rfl | simp [*], (Below.refl _ _).alloc (Nat.le_refl _) _⟩
        · have hv : q = false := (R2.out h0).trans (decide_eq_false (by omega))
          rw [hv]
          clear hv R1 R2 HB
          go_wp2
          go_ret
          exact ⟨by first | rfl | simp [*], (Below.refl _ _).alloc (Nat.le_refl _) _⟩
      · have hv : q = false := (R2.out h0).trans (decide_eq_false (by omega))
        rw [hv]
        clear hv R1 R2 HB
        go_wp2
        go_ret
        exact ⟨by first | rfl | simp [*], (Below.refl _ _).alloc (Nat.le_refl _) _⟩
    · have hv : q = false := (R2.out h0).trans (decide_eq_false (by omega))
      rw [hv]
      clear hv R1 R2 HB
      go_wp2
      go_ret
      exact ⟨by first | rfl | simp [*], (Below.refl _ _).alloc (Nat.le_refl _) _⟩
set_option maxHeartbeats 800000 in
set_option maxRecDepth 100000 in
theorem rright_is (x : TkV) (n : Nat) (w : World) (hn : n ≤ 4611686018427387904) (hd : -9223372036854775808 ≤ x.d ∧ x.d ≤ 9223372036854775807) (hl : -9223372036854775808 ≤ x.l ∧ x.l ≤ 9223372036854775807) (hs : x.lit.length ≤ 140737488351232) :
    Calls Tryz.prog 124 #[x.val, .int .i64 (n : Int)] w fun e w' => e = .returned (.bool (rt x.tk n)) ∧ Below w.heap.size w w' := by
  obtain ⟨A, c, lit, d, l⟩ := x
  simp only at hd hl hs
  unfold TkV.val TkV.tk
  simp only
  have hb := (Below.refl w.heap.size w).alloc (Nat.le_refl _) (.cells #[.slice A lit.length c, .int .i64 d, .int .i64 l] 125)
  have HB := Lib.hid hb
  have R1 : Hid (0 < lit.length → rt ⟨lit, d, l⟩ n = decide (d = 0 ∧ l = 0)) := Lib.hid (fun h => by unfold rt; rw [if_pos h])
  have R2 : Hid (¬ 0 < lit.length → rt ⟨lit, d, l⟩ n = decide (5 ≤ l ∧ l ≤ 258 ∧ 1 ≤ d ∧ d ≤ 2048 ∧ d ≤ n)) := Lib.hid (fun h => by unfold rt; rw [if_neg h])
  obtain ⟨m, hm⟩ : ∃ m, m = lit.length := ⟨_, rfl⟩
  rw [← hm] at hs R1 R2 HB ⊢
  obtain ⟨q, hq⟩ : ∃ q, q = rt ⟨lit, d, l⟩ n := ⟨_, rfl⟩
  rw [← hq] at R1 R2 ⊢
  clear hm hq hb
  go_enter Tryz.func124, Tryz.ntmps124
  by_cases h0 : 0 < m
  · by_cases h1 : d = 0
    · by_cases h2 : l = 0
      · have hv : q = true := (R1.out h0).trans (decide_eq_true (by omega))
        rw [hv]
        clear hv R1 R2 HB
        go_wp2
        go_ret
        exact ⟨by first | rfl | simp [*], (Below.refl _ _).alloc (Nat.le_refl _) _⟩
      · have hv : q = false := (R1.out h0).trans (decide_eq_false (by omega))
        rw [hv]
        clear hv R1 R2 HB
        go_wp2
        go_ret
        exact ⟨by first | rfl | simp [*], (Below.refl _ _).alloc (Nat.le_refl _) _⟩
    · have hv : q = false := (R1.out h0).trans (decide_eq_false (by omega))
      rw [hv]
      clear hv R1 R2 HB
      go_wp2
      go_ret
      exact ⟨by first | rfl | simp [*], (Below.refl _ _).alloc (Nat.le_refl _) _⟩
  · by_cases h1 : 5 ≤ l
    · by_cases h2 : l ≤ 258
      · by_cases h3 : 1 ≤ d
        · by_cases h4 : d ≤ 2048
          · by_cases h5 : d ≤ (n : Int)
            · have hv : q = true := (R2.out h0).trans (decide_eq_true (by omega))
              rw [hv]
              clear hv R1 R2 HB
              go_wp2
              go_ret
              exact ⟨by first | rfl | simp [*], (Below.refl _ _).alloc (Nat.le_refl _) _⟩
            · have hv : q = false := (R2.out h0).trans (decide_eq_false (by omega))
              rw [hv]
              clear hv R1 R2 HB
              go_wp2
              go_ret
              exact ⟨by first | rfl | simp [*], (Below.refl _ _).alloc (Nat.le_refl _) _⟩
          · have hv : q = false := (R2.out h0).trans (decide_eq_false (by omega))
            rw [hv]
            clear hv R1 R2 HB
            go_wp2
            go_ret
            exact ⟨by first | rfl | simp [*], (Below.refl _ _).alloc (Nat.le_refl _) _⟩
        · have hv : q = false := (R2.out h0).trans (decide_eq_false (by omega))
          rw [hv]
          clear hv R1 R2 HB
          go_wp2
          go_ret
          exact ⟨by first | rfl | simp [*], (Below.refl _ _).alloc (Nat.le_refl _) _⟩
      · have hv : q = false := (R2.out h0).trans (decide_eq_false (by omega))
        rw [hv]
        clear hv R1 R2 HB
        go_wp2
        go_ret
        exact ⟨by first | rfl | simp [*], (Below.refl _ _).alloc (Nat.le_refl _) _⟩
    · have hv : q = false := (R2.out h0).trans (decide_eq_false (by omega))
      rw [hv]
      clear hv R1 R2 HB
      go_wp2
      go_ret
      exact ⟨by first | rfl | simp [*], (Below.refl _ _).alloc (Nat.le_refl _) _⟩
end Go.Proofs.YtljfmcgeiceagaaGreat

/- The text behind a token. -/
namespace Go.Proofs.YtljfmcgeiceagaaGreat
open Go Go.RowKit
set_option linter.unusedVariables false
set_option linter.unusedSimpArgs false

/-- A token in its block. -/
def Bt (W : World) (g : Nat) (x : TkV) : Prop := W.heap[g]? = some (.cells #[.slice x.A x.lit.length x.c, .int .i64 x.d, .int .i64 x.l] 125 (0, 0))
theorem Bt.facts {W : World} {g : Nat} {x : TkV} (h : Bt W g x) : W.cell? ⟨g, 0, none⟩ = some (.slice x.A x.lit.length x.c) ∧ W.cell? ⟨g, 1, none⟩ = some (.int .i64 x.d) ∧ W.cell? ⟨g, 2, none⟩ = some (.int .i64 x.l) :=
  ⟨cell_of_row W g 0 _ _ _ h, cell_of_row W g 1 _ _ _ h, cell_of_row W g 2 _ _ _ h⟩
theorem Bt.new (w : World) (x : TkV) : Bt (w.alloc (.cells #[.slice x.A x.lit.length x.c, .int .i64 x.d, .int .i64 x.l] 125)) w.heap.size x := heap_alloc_new w _
theorem Bt.below {W W' : World} {g B : Nat} {x : TkV} (h : Bt W g x) (hb : Below B W W') (hg : g < B) : Bt W' g x := (hb.block g hg).trans h
theorem Bt.lt {W : World} {g : Nat} {x : TkV} (h : Bt W g x) : g < W.heap.size := lt_of_block h
theorem Bt.grown {W W' : World} {g : Nat} {x : TkV} {r : Option Nat} (h : Bt W g x) (hg : W.grownBy W' r) (hr : r ≠ some g) : Bt W' g x := (hg.block g h.lt (fun e => hr e.symm)).trans h
theorem Bt.alloc {W : World} {g : Nat} {x : TkV} (h : Bt W g x) (o : Obj) : Bt (W.alloc o) g x := h.below ((Below.refl W.heap.size W).alloc (Nat.le_refl _) o) h.lt

theorem own_ne_next {v v' : Value} {g : Nat} {n : Nat} (h : v.ownBlock ≠ some g) (hn : v'.ownBlock = v.ownBlock ∨ ∃ k, v'.ownBlock = some k ∧ n ≤ k) (hg : g < n := by simp) : v'.ownBlock ≠ some g := by
  rcases hn with e | ⟨k, e, hk⟩
  · rw [e]; exact h
  · rw [e]; intro e2; injection e2 with e2; omega

/-- A row of bytes of the call's own, with what is needed of it. -/
def AddPost (base : Nat) (W : World) (xs : List Nat) (e : Ending) (W' : World) : Prop :=
  ∃ v, e = .returned v ∧ W'.ownsRow base 5 1 v xs.length (b8 xs) ∧ Below base W W'

theorem b8_get1 {l : List Nat} {k : Nat} (h : k < l.length) : (b8 l)[k]? = some (.int .u8 (l.getD k 0 : Nat)) := by
  rw [b8_get, List.getD_eq_getElem?_getD, List.getElem?_eq_getElem h]
  rfl

set_option maxHeartbeats 800000 in
set_option maxRecDepth 100000 in
theorem added_is (base : Nat) (v : Value) (xs : List Nat) (x : TkV) (w0 W : World) (hb0 : w0.heap.size ≤ base) (hb : Below base w0 W) (hbs : base ≤ W.heap.size) (hx : x.Ok w0) (hown : W.ownsRow base 5 1 v xs.length (b8 xs))
    (hr : rt x.tk xs.length = true) (hl : xs.length + x.lit.length + x.l.toNat ≤ 4096) :
    Calls Tryz.prog 120 #[v, x.val] W (AddPost base W (addTk xs x.tk)) := by
  have HX := Lib.hid (hx.rd.below (hb.mono hb0))
  have hrc := rt_cases hr
  have hHR : x.l = 0 ∨ (1 ≤ x.d ∧ x.d ≤ xs.length) := by
    rcases hrc with h | h
    · exact .inl h.2.2
    · exact .inr ⟨h.2.2.2.1, h.2.2.2.2.2⟩
  have hL : 0 ≤ x.l ∧ x.l ≤ 258 := by
    rcases hrc with h | h
    · have h2 : x.l = 0 := h.2.2
      omega
    · have h2 : 5 ≤ x.l := h.2.1
      exact ⟨by omega, h.2.2.1⟩
  have hcap := hx.cap
  have hd64 := hx.d64
  have hpost : AddPost base W (addTk xs x.tk) = AddPost base W (copyN (xs ++ x.lit) x.d.toNat x.l.toNat) := rfl
  rw [hpost]
  clear hpost hx hr hb hrc
  unfold TkV.val
  obtain ⟨A, c, lit, d, l⟩ := x
  simp only at HX hHR hL hl hcap hd64 ⊢
  have HR := Lib.hid hHR
  have HO := Lib.hid (hown.alloc (.cells #[.slice A lit.length c, .int .i64 d, .int .i64 l] 125))
  have HXR := Lib.hid (HX.out.below ((Below.refl W.heap.size W).alloc (Nat.le_refl _) (.cells #[.slice A lit.length c, .int .i64 d, .int .i64 l] 125)))
  have HBT := Lib.hid (Bt.new W ⟨A, c, lit, d, l⟩)
  have HLT := Lib.hid (fun q (hq : v.ownBlock = some q) => (hown.lt q hq))
  have HNE := Lib.hid (show v.ownBlock ≠ some W.heap.size by intro e; have := (hown.lt _ e).2; omega)
  obtain ⟨b0, b1, b2⟩ := HBT.out.facts
  simp only at b0 b1 b2
  clear hown hHR
  go_enter Tryz.func120, Tryz.ntmps120
  go_wp2_with (at_builtin; (refine app8 _ rfl (.tmp 5) (.tmp 7) rfl base v _ xs rfl HO.out A lit.length c lit rfl rfl HXR.out (by omega) (by simp; omega) ?_); intro v1 w1 hown1 hg1 hn1; have HO1 := Lib.hid hown1; have HT1 := Lib.hid (HBT.out.grown hg1 HNE.out); have HB1 := Lib.hid (((Below.refl base W).alloc hbs (.cells #[.slice A lit.length c, .int .i64 d, .int .i64 l] 125)).trans (below_of_grown hg1 (by simp; omega) (fun k hk => (HLT.out k hk).1))); have HN1 := Lib.hid (own_ne_next HNE.out hn1); obtain ⟨p0, p1, p2⟩ := HT1.out.facts; clear hown1 hg1 hn1)
  clear b0 b1 b2 HX HXR HO HBT HLT HNE
  go_loopw [0, 11] (fun v i wr => ∃ (k N : Nat) (vi : Value), (k : Int) ≤ l ∧ N = xs.length + lit.length + k ∧ i = .int .i64 k ∧ v = vi ∧ Hid (wr.ownsRow base 5 1 vi N (b8 (copyN (xs ++ lit) d.toNat k))) ∧ Hid (Bt wr W.heap.size ⟨A, c, lit, d, l⟩) ∧ Hid (vi.ownBlock ≠ some W.heap.size) ∧ Hid (Below base W wr)) (fun _ i _ => (l - intOf i).toNat)
  case atStart => exact ⟨0, _, _, by omega, rfl, rfl, rfl, HO1, HT1, HN1, HB1⟩
  case round =>
    obtain ⟨k, N, vi, hk, hN, rfl, rfl, HO, HT, HN, HB⟩ := hrel
    obtain ⟨b0, b1, b2⟩ := HT.out.facts
    simp only at b0 b1 b2
    have hszr := HB.out.size
    have hgt := HT.out.lt
    by_cases hlt : (k : Int) < l
    · have hd : 1 ≤ d ∧ d ≤ xs.length := by
        rcases HR.out with h | h
        · omega
        · exact h
      obtain ⟨A9, c9, rfl, hsh⟩ := own_shape HO.out
      obtain ⟨g, rfl, hg1, hg2, _, _⟩ := own_pos HO.out (by omega)
      have hTl : (copyN (xs ++ lit) d.toNat k).length = N := by rw [copyN_length, List.length_append, hN]
      obtain ⟨T, hT⟩ : ∃ T, T = copyN (xs ++ lit) d.toNat k := ⟨_, rfl⟩
      have HNX : Hid (copyN (xs ++ lit) d.toNat (k + 1) = T ++ [T.getD (N - d.toNat) 0]) := Lib.hid (by rw [hT]; simp only [copyN, addOne, hTl])
      rw [← hT] at HO hTl
      obtain ⟨z, hz⟩ : ∃ z, z = T.getD (N - d.toNat) 0 := ⟨_, rfl⟩
      rw [← hz] at HNX
      have hcell : wr.cell? ⟨g, ((N : Int) - d).toNat, none⟩ = some (.int .u8 (z : Int)) := by
        have h := (HO.out.cellAt (N - d.toNat) (by omega)).trans (b8_get1 (by omega))
        rw [show ((N : Int) - d).toNat = N - d.toNat by omega, h, hz]
      have i0 : (0 : Int) ≤ (N : Int) - d := by omega
      have i1 : (N : Int) - d < (N : Int) := by omega
      have i2 : N ≤ 4096 := by omega
      have HNk : Hid (N + 1 = xs.length + lit.length + (k + 1)) := Lib.hid (by omega)
      have hgne : g ≠ W.heap.size := fun e => HN.out (by rw [e]; rfl)
      clear hT hz hTl hsh hN
      go_wp2_with (at_builtin; go_loud ((refine push8 wr (by rfl) (.tmp 13) (.tmp 22) (by rfl) base (.slice (some ⟨g, 0, none⟩) N c9) N T (by rfl) HO.out _ z rfl (by rfl) (by omega) (by omega) ?_); intro v2 w2 hown2 hg2 hn2; have HO2 := Lib.hid hown2; have HB2 := Lib.hid (HB.out.trans (below_of_grown hg2 (by omega) (fun k hk => (HO.out.lt k hk).1))); have HT2 := Lib.hid (HT.out.grown hg2 HN.out); have HN2 := Lib.hid (own_ne_next HN.out hn2 hgt); clear hown2 hg2 hn2))
      go_roundw
      case rel => exact ⟨k + 1, N + 1, _, by omega, HNk.out, by go_num, rfl, Lib.hid (by rw [HNX.out]; exact HO2.out), HT2, HN2, HB2⟩
      case measure => simp [intOf]; omega
    · have hkl : k = l.toNat := by omega
      obtain ⟨A9, c9, rfl, hsh⟩ := own_shape HO.out
      have HF := HO.out
      rw [hkl] at HF
      have hTl : (copyN (xs ++ lit) d.toNat l.toNat).length = N := by rw [copyN_length, List.length_append, hN]; omega
      rw [← hTl] at HF
      have HG := Lib.hid HF
      clear HF hsh hN
      subst hTl
      go_wp2_with fail
      go_ret
      exact ⟨_, rfl, HG.out, HB.out⟩
end Go.Proofs.YtljfmcgeiceagaaGreat

/- Expand: the text of tokens. -/
namespace Go.Proofs.YtljfmcgeiceagaaGreat
open Go Go.RowKit
set_option linter.unusedVariables false
set_option linter.unusedSimpArgs false

/-- Bytes in new memory, and a code. -/
def Ans8 (w : World) (q : List Nat × Int) (e : Ending) (w' : World) : Prop :=
  ∃ A c, e = .returned (.tuple #[.slice A q.1.length c, .int .i64 q.2]) ∧ w'.ownsRow w.heap.size 5 1 (.slice A q.1.length c) q.1.length (b8 q.1) ∧ Below w.heap.size w w'
theorem ans8_none (w W : World) (q : List Nat × Int) (z : Int) (hq : q = ([], z)) (hb : Below w.heap.size w W) : Ans8 w q (.returned (.tuple #[.slice none 0 0, .int .i64 z])) W := by
  subst hq
  exact ⟨none, 0, rfl, World.ownsRow_nil _ _ _ _, hb⟩
theorem ans8_some (w W : World) (q : List Nat × Int) (xs : List Nat) (v : Value) (N : Nat) (z : Int) (hq : q = (xs, z)) (hN : N = xs.length) (hown : W.ownsRow w.heap.size 5 1 v N (b8 xs)) (hb : Below w.heap.size w W) : Ans8 w q (.returned (.tuple #[v, .int .i64 z])) W := by
  subst hq hN
  obtain ⟨A, c, rfl, h⟩ := own8_of hown
  exact ⟨A, c, rfl, h, hb⟩

theorem exp_bad {T : List Nat} {t : Tk} {r : List Tk} (h : rt t T.length = false) : exp T (t :: r) = ([], 21) := by rw [exp, if_neg (by simp [h])]
theorem exp_long {T : List Nat} {t : Tk} {r : List Tk} (h : rt t T.length = true) (h2 : 4096 < T.length + t.lit.length + t.l.toNat) : exp T (t :: r) = ([], 2) := by rw [exp, if_pos h, if_pos h2]
theorem exp_next {T : List Nat} {t : Tk} {r : List Tk} (h : rt t T.length = true) (h2 : ¬ 4096 < T.length + t.lit.length + t.l.toNat) : exp T (t :: r) = exp (addTk T t) r := by rw [exp, if_pos h, if_neg h2]

section
variable (A : Option Addr) (n c : Nat) (l : List TkV) (w : World) (hr : Rd w A (tkCells l)) (hn : l.length = n) (hok : ∀ x ∈ l, x.Ok w) (hl : n ≤ 4000000000000)
include hr hn hok hl

set_option maxHeartbeats 1000000 in
set_option maxRecDepth 100000 in
theorem expand_is : Calls Tryz.prog 110 #[.slice A n c] w (Ans8 w (exp [] (toks l))) := by
  have HN := Lib.hid hn
  have HR := Lib.hid hr
  have HOK := Lib.hid hok
  have HS0 : Hid (exp [] (toks l) = exp [] ((toks l).drop 0)) := Lib.hid (by rw [List.drop_zero])
  have HE0 : Hid (exp [] ((toks l).drop n) = exp [] ((toks l).drop n)) := Lib.hid rfl
  obtain ⟨q, hq⟩ : ∃ q, q = exp [] (toks l) := ⟨_, rfl⟩
  rw [← hq] at HS0 ⊢
  clear hq hr hn hok HE0
  go_enter Tryz.func110, Tryz.ntmps110
  go_wp2
  go_loopw [4, 9] (fun v i wr => ∃ (k N : Nat) (T : List Nat) (vi : Value), k ≤ n ∧ N ≤ 4096 ∧ i = .int .i64 k ∧ v = vi ∧ Hid (N = T.length) ∧ Hid (wr.ownsRow w.heap.size 5 1 vi N (b8 T)) ∧ Hid (q = exp T ((toks l).drop k)) ∧ Hid (Below w.heap.size w wr)) (fun _ i _ => n - (intOf i).toNat)
  case atStart => exact ⟨0, 0, [], _, Nat.zero_le _, by omega, rfl, rfl, Lib.hid rfl, Lib.hid (World.ownsRow_nil _ _ _ _), HS0, Lib.hid (Below.refl _ _)⟩
  case round =>
    obtain ⟨k, N, T, vi, hk, hN4, rfl, rfl, HT, HO, HQ, HB⟩ := hrel
    have hsz := HB.out.size
    obtain ⟨A9, c9, rfl, _⟩ := own_shape HO.out
    by_cases hlt : k < n
    · obtain ⟨x, hx⟩ : ∃ x, l[k]? = some x := ⟨_, List.getElem?_eq_getElem (by rw [HN.out]; exact hlt)⟩
      have HXO := Lib.hid (HOK.out x (List.mem_of_getElem? hx))
      obtain ⟨g, off, rfl, hg, hc0, hc1, hc2⟩ := HR.out.tok hx
      have HST : Hid (exp T ((toks l).drop k) = exp T (x.tk :: (toks l).drop (k + 1))) := Lib.hid (exp_drop (toks_get hx) T)
      replace hc0 := (HB.out.cell (p := ⟨g, off + k * 3, none⟩) hg).trans hc0
      replace hc1 := (HB.out.cell (p := ⟨g, off + k * 3 + 1, none⟩) hg).trans hc1
      replace hc2 := (HB.out.cell (p := ⟨g, off + k * 3 + 2, none⟩) hg).trans hc2
      have hd64 := HXO.out.d64
      have hl64 := HXO.out.l64
      have hsz8 := HXO.out.sz
      have PR := Lib.hid (fun W => right_is x N W (by omega) hd64 hl64 hsz8)
      have PA := Lib.hid (fun W h1 h2 h3 h4 h5 => added_is w.heap.size (.slice A9 N c9) T x w W (Nat.le_refl _) h1 h2 HXO.out h3 h4 h5)
      have HB0 := Lib.hid (Bt.new wr x)
      have HL : Hid (N = T.length → rt x.tk N = rt x.tk T.length) := Lib.hid (fun h => by rw [h])
      obtain ⟨xA, xc, lit, d, ll⟩ := x
      simp only at hc0 hc1 hc2 hd64 hl64 hsz8
      unfold TkV.val at PR PA
      simp only at PR PA
      obtain ⟨b, hb⟩ : ∃ b, b = rt (TkV.tk ⟨xA, xc, lit, d, ll⟩) N := ⟨_, rfl⟩
      rw [← hb] at PR
      have HBV := Lib.hid hb
      clear hb hx
      rcases b with _ | _
      · have HV := Lib.hid (exp_bad (r := (toks l).drop (k + 1)) ((HL.out HT.out).symm.trans HBV.out.symm))
        go_wp2_with (go_at_call 119; refine (PR.out _).mono ?_; rintro e w1 ⟨rfl, hb1⟩; have HB1 := Lib.hid hb1; clear hb1)
        go_ret2
        exact ans8_none _ _ _ _ (HQ.out.trans (HST.out.trans HV.out)) (HB.out.trans (((Below.refl _ _).alloc (by omega) _).trans (HB1.out.mono (by simp; omega))))
      · have hL : 0 ≤ ll ∧ ll ≤ 258 := by
          rcases rt_cases HBV.out.symm with h | h
          · have h2 : ll = 0 := h.2.2
            omega
          · have h2 : 5 ≤ ll := h.2.1
            exact ⟨by omega, h.2.2.1⟩
        have hrt : rt (TkV.tk ⟨xA, xc, lit, d, ll⟩) T.length = true := ((HL.out HT.out).symm.trans HBV.out.symm)
        by_cases hlong : (4096 : Int) < (N : Int) + (lit.length : Int) + ll
        · have HV := Lib.hid (exp_long (r := (toks l).drop (k + 1)) hrt (by have := HT.out; show 4096 < T.length + lit.length + ll.toNat; omega))
          clear hrt
          go_wp2_with (go_at_call 119; refine (PR.out _).mono ?_; rintro e w1 ⟨rfl, hb1⟩; have HB1 := Lib.hid hb1; obtain ⟨b0, b1, b2⟩ := (HB0.out.below hb1 (by simp)).facts; simp only at b0 b1 b2; clear hb1)
          go_ret2
          exact ans8_none _ _ _ _ (HQ.out.trans (HST.out.trans HV.out)) (HB.out.trans (((Below.refl _ _).alloc (by omega) _).trans (HB1.out.mono (by simp; omega))))
        · have HV := Lib.hid (exp_next (r := (toks l).drop (k + 1)) hrt (by have := HT.out; show ¬ 4096 < T.length + lit.length + ll.toNat; omega))
          have HRT := Lib.hid hrt
          have HLE : Hid (T.length + lit.length + ll.toNat ≤ 4096) := Lib.hid (by have := HT.out; omega)
          have HLN : Hid ((addTk T (TkV.tk ⟨xA, xc, lit, d, ll⟩)).length ≤ 4096) := Lib.hid (by rw [addTk_length]; exact HLE.out)
          have HOT : Hid (wr.ownsRow w.heap.size 5 1 (.slice A9 N c9) T.length (b8 T)) := Lib.hid (by rw [← HT.out]; exact HO.out)
          clear hrt
          go_wp2_with (first
            | (go_at_call 119; refine (PR.out _).mono ?_; rintro e w1 ⟨rfl, hb1⟩; have HB1 := Lib.hid hb1; obtain ⟨b0, b1, b2⟩ := (HB0.out.below hb1 (by simp)).facts; simp only at b0 b1 b2; clear hb1)
            | (go_at_call 120; go_loud (have hs1 := HB1.out.size; simp only [World.size_alloc] at hs1; refine (PA.out _ (HB.out.trans (((Below.refl _ _).alloc (by omega) _).trans (HB1.out.mono (by simp; omega)))) (by omega) (own_below (HOT.out.alloc _) HB1.out) HRT.out HLE.out).mono ?_; rintro e w2 ⟨v2, rfl, hown2, hb2⟩; have HO2 := Lib.hid hown2; have HB2 := Lib.hid hb2; clear hown2 hb2)))
          go_roundw
          case rel => exact ⟨k + 1, _, _, _, by omega, HLN.out, by go_num, rfl, Lib.hid rfl, HO2, Lib.hid (HQ.out.trans (HST.out.trans HV.out)), Lib.hid ((HB.out.trans (((Below.refl _ _).alloc (by omega) _).trans (HB1.out.mono (by simp; omega)))).trans HB2.out)⟩
          case measure => simp [intOf]; omega
    · have hkn : k = n := by omega
      have HF : Hid (q = (T, 0)) := Lib.hid (by rw [HQ.out, List.drop_of_length_le (by simp [toks, HN.out]; omega)]; rfl)
      clear hk hlt
      go_wp2_with fail
      go_ret2
      exact ans8_some _ _ _ T _ _ _ HF.out HT.out HO.out HB.out
end
end Go.Proofs.YtljfmcgeiceagaaGreat

/- Expand, the document's: the text of tokens. -/
namespace Go.Proofs.YtljfmcgeiceagaaGreat
open Go Go.RowKit
set_option linter.unusedVariables false
set_option linter.unusedSimpArgs false

theorem take_push {l : List Nat} {j z : Nat} (h : l[j]? = some z) (T : List Nat) : T ++ l.take (j + 1) = (T ++ l.take j) ++ [z] := by
  obtain ⟨hj, rfl⟩ := List.getElem?_eq_some_iff.1 h
  rw [List.take_succ_eq_append_getElem hj, List.append_assoc]

section
variable (A : Option Addr) (n c : Nat) (l : List TkV) (w : World) (hr : Rd w A (tkCells l)) (hn : l.length = n) (hok : ∀ x ∈ l, x.Ok w) (hl : n ≤ 4000000000000)
include hr hn hok hl

set_option maxHeartbeats 2000000 in
set_option maxRecDepth 100000 in
theorem rexpand_is : Calls Tryz.prog 114 #[.slice A n c] w (Ans8 w (exp [] (toks l))) := by
  have HN := Lib.hid hn
  have HR := Lib.hid hr
  have HOK := Lib.hid hok
  have HS0 : Hid (exp [] (toks l) = exp [] ((toks l).drop 0)) := Lib.hid (by rw [List.drop_zero])
  obtain ⟨q, hq⟩ : ∃ q, q = exp [] (toks l) := ⟨_, rfl⟩
  rw [← hq] at HS0 ⊢
  clear hq hr hn hok
  go_enter Tryz.func114, Tryz.ntmps114
  go_wp2
  go_loopw [4, 5] (fun v i wr => ∃ (k N : Nat) (T : List Nat) (vi : Value), k ≤ n ∧ N ≤ 4096 ∧ i = .int .i64 k ∧ v = vi ∧ Hid (N = T.length) ∧ Hid (wr.ownsRow w.heap.size 5 1 vi N (b8 T)) ∧ Hid (q = exp T ((toks l).drop k)) ∧ Hid (Below w.heap.size w wr)) (fun _ i _ => n - (intOf i).toNat)
  case atStart => exact ⟨0, 0, [], _, Nat.zero_le _, by omega, rfl, rfl, Lib.hid rfl, Lib.hid (World.ownsRow_nil _ _ _ _), HS0, Lib.hid (Below.refl _ _)⟩
  case round =>
    obtain ⟨k, N, T, vi, hk, hN4, rfl, rfl, HT, HO, HQ, HB⟩ := hrel
    have hsz := HB.out.size
    obtain ⟨A9, c9, rfl, _⟩ := own_shape HO.out
    by_cases hlt : k < n
    · obtain ⟨x, hx⟩ : ∃ x, l[k]? = some x := ⟨_, List.getElem?_eq_getElem (by rw [HN.out]; exact hlt)⟩
      have HXO := Lib.hid (HOK.out x (List.mem_of_getElem? hx))
      obtain ⟨g, off, rfl, hg, hc0, hc1, hc2⟩ := HR.out.tok hx
      have HST : Hid (exp T ((toks l).drop k) = exp T (x.tk :: (toks l).drop (k + 1))) := Lib.hid (exp_drop (toks_get hx) T)
      have HCC : Hid (∀ W, Below w.heap.size w W → W.cell? ⟨g, off + k * 3, none⟩ = some (.slice x.A x.lit.length x.c) ∧ W.cell? ⟨g, off + k * 3 + 1, none⟩ = some (.int .i64 x.d) ∧ W.cell? ⟨g, off + k * 3 + 2, none⟩ = some (.int .i64 x.l)) :=
        Lib.hid (fun W h => ⟨(h.cell (p := ⟨g, off + k * 3, none⟩) hg).trans hc0, (h.cell (p := ⟨g, off + k * 3 + 1, none⟩) hg).trans hc1, (h.cell (p := ⟨g, off + k * 3 + 2, none⟩) hg).trans hc2⟩)
      clear hc0 hc1 hc2
      have hd64 := HXO.out.d64
      have hl64 := HXO.out.l64
      have hsz8 := HXO.out.sz
      have hcap := HXO.out.cap
      have PR := Lib.hid (fun W => rright_is x N W (by omega) hd64 hl64 hsz8)
      have HL : Hid (N = T.length → rt x.tk N = rt x.tk T.length) := Lib.hid (fun h => by rw [h])
      obtain ⟨xA, xc, lit, d, ll⟩ := x
      simp only at HCC hd64 hl64 hsz8 hcap
      obtain ⟨hc0, hc1, hc2⟩ := HCC.out wr HB.out
      unfold TkV.val at PR
      simp only at PR
      obtain ⟨b, hb⟩ : ∃ b, b = rt (TkV.tk ⟨xA, xc, lit, d, ll⟩) N := ⟨_, rfl⟩
      rw [← hb] at PR
      have HBV := Lib.hid hb
      clear hb hx
      rcases b with _ | _
      · have HV := Lib.hid (exp_bad (r := (toks l).drop (k + 1)) ((HL.out HT.out).symm.trans HBV.out.symm))
        go_wp2_with (go_at_call 124; refine (PR.out _).mono ?_; rintro e w1 ⟨rfl, hb1⟩; have HB1 := Lib.hid hb1; clear hb1)
        go_ret2
        exact ans8_none _ _ _ _ (HQ.out.trans (HST.out.trans HV.out)) (HB.out.trans (HB1.out.mono (by omega)))
      · have hL : 0 ≤ ll ∧ ll ≤ 258 := by
          rcases rt_cases HBV.out.symm with h | h
          · have h2 : ll = 0 := h.2.2
            omega
          · have h2 : 5 ≤ ll := h.2.1
            exact ⟨by omega, h.2.2.1⟩
        have hrt : rt (TkV.tk ⟨xA, xc, lit, d, ll⟩) T.length = true := ((HL.out HT.out).symm.trans HBV.out.symm)
        have i0 : (0 : Int) ≤ (k : Int) := by omega
        have i1 : (k : Int) < (n : Int) := by omega
        by_cases hlong : (4096 : Int) < (N : Int) + (lit.length : Int) + ll
        · have HV := Lib.hid (exp_long (r := (toks l).drop (k + 1)) hrt (by have := HT.out; show 4096 < T.length + lit.length + ll.toNat; omega))
          clear hrt
          go_wp2_with (go_at_call 124; refine (PR.out _).mono ?_; rintro e w1 ⟨rfl, hb1⟩; have HB1 := Lib.hid hb1; obtain ⟨b0, b1, b2⟩ := HCC.out w1 (HB.out.trans (hb1.mono (by omega))); clear hb1)
          go_quiet (fail)
          go_wp2
          go_ret2
          exact ans8_none _ _ _ _ (HQ.out.trans (HST.out.trans HV.out)) (below_drewN (HB.out.trans (HB1.out.mono (by omega))) _)
        · have HV := Lib.hid (exp_next (r := (toks l).drop (k + 1)) hrt (by have := HT.out; show ¬ 4096 < T.length + lit.length + ll.toNat; omega))
          have HRT := Lib.hid (rt_cases hrt)
          have HLE : Hid (T.length + lit.length + ll.toNat ≤ 4096) := Lib.hid (by have := HT.out; omega)
          have HLN : Hid ((addTk T (TkV.tk ⟨xA, xc, lit, d, ll⟩)).length ≤ 4096) := Lib.hid (by rw [addTk_length]; exact HLE.out)
          have hNl : N + lit.length + ll.toNat ≤ 4096 := by omega
          clear hrt
          go_wp2_with (go_at_call 124; refine (PR.out _).mono ?_; rintro e w1 ⟨rfl, hb1⟩; have HB1 := Lib.hid (HB.out.trans (hb1.mono (by omega))); have HO1 := Lib.hid (own_below HO.out hb1); obtain ⟨b0, b1, b2⟩ := HCC.out w1 (HB.out.trans (hb1.mono (by omega))); clear hb1)
          go_quiet (fail)
          go_wp2
          clear b0 b1 b2 hc0 hc1 hc2 PR
          obtain ⟨wo, rfl⟩ : ∃ wo : World, wo = wr := ⟨_, rfl⟩
          go_loopw [4, 7] (fun v i wi => ∃ (j M : Nat) (vi : Value), j ≤ lit.length ∧ M = N + j ∧ i = .int .i64 j ∧ v = vi ∧ Hid (wi.ownsRow w.heap.size 5 1 vi M (b8 (T ++ lit.take j))) ∧ Hid (Below w.heap.size w wi)) (fun _ i _ => lit.length - (intOf i).toNat)
          case atStart => exact ⟨0, N, _, Nat.zero_le _, rfl, rfl, rfl, Lib.hid (by rw [List.take_zero, List.append_nil]; exact own_below HO1.out (below_drewN (Below.refl _ _) _)), Lib.hid (below_drewN HB1.out _)⟩
          case round =>
            clear HO1 HB1
            obtain ⟨j, M, vj, hj, hM, rfl, rfl, HOj, HBj⟩ := hrel
            have HM := Lib.hid hM
            obtain ⟨hc0, hc1, hc2⟩ := HCC.out _ HBj.out
            have hszj := HBj.out.size
            by_cases hjl : j < lit.length
            · obtain ⟨z, hz⟩ : ∃ z, lit[j]? = some z := ⟨_, List.getElem?_eq_getElem hjl⟩
              obtain ⟨gx, ox, rfl, hgx, hcx⟩ := HXO.out.rd.at_ hz
              replace hcx := (HBj.out.cell (p := ⟨gx, ox + j, none⟩) hgx).trans hcx
              have HTP := Lib.hid (take_push hz T)
              have j0 : (0 : Int) ≤ (j : Int) := by omega
              have j1 : (j : Int) < (lit.length : Int) := by omega
              clear hz hM
              go_wp2_with (at_builtin; go_loud ((refine push8 wr (by rfl) (.tmp 50) (.tmp 59) (by rfl) w.heap.size _ M (T ++ lit.take j) (by rfl) HOj.out _ z rfl (by rfl) (by have := HM.out; omega) (by omega) ?_); intro v2 w2 hown2 hg2 hn2; have HO2 := Lib.hid hown2; have HB2 := Lib.hid (HBj.out.trans (below_of_grown hg2 (by omega) (fun k hk => (HOj.out.lt k hk).1))); clear hown2 hg2 hn2))
              go_roundw
              case rel => exact ⟨j + 1, M + 1, _, by omega, by have := HM.out; omega, by go_num, rfl, Lib.hid (by rw [HTP.out]; exact HO2.out), HB2⟩
              case measure => simp [intOf]; omega
            · have hje : j = lit.length := by omega
              have HOE : Hid (wr.ownsRow w.heap.size 5 1 u4 M (b8 (T ++ lit))) := Lib.hid (by have h := HOj.out; rw [List.take_of_length_le (by omega)] at h; exact h)
              clear HOj
              have hML : M = N + lit.length := by have := HM.out; omega
              have HML := Lib.hid hML
              have HRC := Lib.hid (show ll = 0 ∨ (1 ≤ d ∧ d ≤ N) by
                rcases HRT.out with h | h
                · exact .inl h.2.2
                · exact .inr ⟨h.2.2.2.1, by have h2 : d ≤ (T.length : Int) := h.2.2.2.2.2; rw [HT.out]; exact h2⟩)
              clear hM hML
              subst hje
              go_wp2_with fail
              clear hc0 hc1 hc2
              obtain ⟨wo2, rfl⟩ : ∃ wo2 : World, wo2 = wr := ⟨_, rfl⟩
              go_loopw [4, 8] (fun v i wi => ∃ (p P : Nat) (vi : Value), (p : Int) ≤ ll ∧ P = M + p ∧ i = .int .i64 p ∧ v = vi ∧ Hid (wi.ownsRow w.heap.size 5 1 vi P (b8 (copyN (T ++ lit) d.toNat p))) ∧ Hid (Below w.heap.size w wi)) (fun _ i _ => (ll - intOf i).toNat)
              case atStart => exact ⟨0, M, _, by omega, rfl, rfl, rfl, HOE, HBj⟩
              case round =>
                clear HOE HBj hszj
                obtain ⟨p, P, vp, hp, hP, rfl, rfl, HOp, HBp⟩ := hrel
                have HP := Lib.hid hP
                obtain ⟨hc0, hc1, hc2⟩ := HCC.out _ HBp.out
                have hszp := HBp.out.size
                clear hP
                by_cases hpl : (p : Int) < ll
                · have hPN : P ≤ 4095 := by have := HP.out; have := HML.out; omega
                  have hNP : N ≤ P := by have := HP.out; have := HML.out; omega
                  have hd : 1 ≤ d ∧ d ≤ N := by
                    rcases HRC.out with h | h
                    · omega
                    · exact h
                  obtain ⟨A8, c8, rfl, hsh⟩ := own_shape HOp.out
                  obtain ⟨gp, rfl, hgp1, hgp2, _, _⟩ := own_pos HOp.out (by omega)
                  have hTl : (copyN (T ++ lit) d.toNat p).length = P := by rw [copyN_length, List.length_append, HP.out, HML.out, HT.out]
                  obtain ⟨S, hS⟩ : ∃ S, S = copyN (T ++ lit) d.toNat p := ⟨_, rfl⟩
                  have HNX : Hid (copyN (T ++ lit) d.toNat (p + 1) = S ++ [S.getD (P - d.toNat) 0]) := Lib.hid (by rw [hS]; simp only [copyN, addOne, hTl])
                  rw [← hS] at HOp hTl
                  obtain ⟨z, hz⟩ : ∃ z, z = S.getD (P - d.toNat) 0 := ⟨_, rfl⟩
                  rw [← hz] at HNX
                  have hcell : wr.cell? ⟨gp, ((P : Int) - d).toNat, none⟩ = some (.int .u8 (z : Int)) := by
                    have h := (HOp.out.cellAt (P - d.toNat) (by omega)).trans (b8_get1 (by omega))
                    rw [show ((P : Int) - d).toNat = P - d.toNat by omega, h, hz]
                  have p0 : (0 : Int) ≤ (P : Int) - d := by omega
                  have p1 : (P : Int) - d < (P : Int) := by omega
                  clear hS hz hTl hsh
                  go_wp2_with (at_builtin; go_loud ((refine push8 wr (by rfl) (.tmp 70) (.tmp 82) (by rfl) w.heap.size _ P S (by rfl) HOp.out _ z rfl (by rfl) (by omega) (by omega) ?_); intro v2 w2 hown2 hg2 hn2; have HO2 := Lib.hid hown2; have HB2 := Lib.hid (HBp.out.trans (below_of_grown hg2 (by omega) (fun k hk => (HOp.out.lt k hk).1))); clear hown2 hg2 hn2))
                  go_roundw
                  case rel => exact ⟨p + 1, P + 1, _, by omega, by have := HP.out; omega, by go_num, rfl, Lib.hid (by rw [HNX.out]; exact HO2.out), HB2⟩
                  case measure => simp [intOf]; omega
                · have hpe : p = ll.toNat := by omega
                  have HOF : Hid (wr.ownsRow w.heap.size 5 1 u4 P (b8 (copyN (T ++ lit) d.toNat ll.toNat))) := Lib.hid (by rw [← hpe]; exact HOp.out)
                  have HLF : Hid (P = (addTk T (TkV.tk ⟨xA, xc, lit, d, ll⟩)).length) := Lib.hid (by rw [addTk_length]; show P = T.length + lit.length + ll.toNat; have := HP.out; have := HML.out; have := HT.out; omega)
                  have hP4 : P ≤ 4096 := by have := HP.out; have := HML.out; omega
                  clear HOp hpe
                  go_wp2_with fail
                  go_roundw
                  case rel => exact ⟨k + 1, P, _, _, by omega, hP4, by go_num, rfl, HLF, HOF, Lib.hid (HQ.out.trans (HST.out.trans HV.out)), HBp⟩
                  case measure => simp [intOf]; omega
    · have hkn : k = n := by omega
      have HF : Hid (q = (T, 0)) := Lib.hid (by rw [HQ.out, List.drop_of_length_le (by simp [toks, HN.out]; omega)]; rfl)
      clear hk hlt
      go_wp2_with fail
      go_ret2
      exact ans8_some _ _ _ T _ _ _ HF.out HT.out HO.out HB.out
end
end Go.Proofs.YtljfmcgeiceagaaGreat

/- block and Write: the block of tokens. -/
namespace Go.Proofs.YtljfmcgeiceagaaGreat
open Go Go.RowKit
set_option linter.unusedVariables false
set_option linter.unusedSimpArgs false

/-- A token's bytes, a block. -/
def bt (t : Tk) : List Nat := if 0 < t.lit.length then Uv.uv (2 * t.lit.length) ++ t.lit else Uv.uv (2 * t.l.toNat + 1) ++ Uv.uv t.d.toNat
def blk (n : Nat) (ts : List Tk) : List Nat := Uv.uv n ++ ts.flatMap bt
def wr (ts : List Tk) : List Nat × Int := if (exp [] ts).2 = 0 then (blk (exp [] ts).1.length ts, 0) else ([], (exp [] ts).2)

/-- A token that may stand somewhere. -/
def Fine (t : Tk) : Prop := (∃ m, rt t m = true) ∧ t.lit.length ≤ 4096
theorem Fine.cases {t : Tk} (h : Fine t) : (0 < t.lit.length ∧ t.d = 0 ∧ t.l = 0) ∨ (t.lit = [] ∧ 5 ≤ t.l ∧ t.l ≤ 258 ∧ 1 ≤ t.d ∧ t.d ≤ 2048) := by
  obtain ⟨⟨m, h⟩, _⟩ := h
  rcases rt_cases h with h | h
  · exact .inl h
  · exact .inr ⟨h.1, h.2.1, h.2.2.1, h.2.2.2.1, h.2.2.2.2.1⟩
theorem bt_lit {t : Tk} (h : 0 < t.lit.length) : bt t = Uv.uv (2 * t.lit.length) ++ t.lit := by unfold bt; rw [if_pos h]
theorem bt_match {t : Tk} (h : ¬ 0 < t.lit.length) : bt t = Uv.uv (2 * t.l.toNat + 1) ++ Uv.uv t.d.toNat := by unfold bt; rw [if_neg h]
theorem bt_len {t : Tk} (h : Fine t) : (bt t).length ≤ 4116 := by
  have h2 := h.2
  by_cases h0 : 0 < t.lit.length
  · rw [bt_lit h0, List.length_append]
    have := Uv.uv_len_64 (2 * t.lit.length) (by omega)
    omega
  · rcases h.cases with h1 | h1
    · exact absurd h1.1 h0
    · rw [bt_match h0, List.length_append]
      have := Uv.uv_len_64 (2 * t.l.toNat + 1) (by omega)
      have := Uv.uv_len_64 t.d.toNat (by omega)
      omega
theorem fine_of_exp : ∀ {ts : List Tk} {text T : List Nat}, exp text ts = (T, 0) → (∀ t ∈ ts, Fine t) ∧ ts.length + text.length ≤ T.length
  | [], text, T, h => by
    simp only [exp, Prod.mk.injEq] at h
    exact ⟨fun t ht => by simp at ht, by rw [h.1]; simp⟩
  | t :: r, text, T, h => by
    unfold exp at h
    split at h
    · rename_i h1
      split at h
      · simp at h
      · rename_i h2
        have ih := fine_of_exp h
        refine ⟨fun t' ht' => ?_, ?_⟩
        · rcases List.mem_cons.1 ht' with rfl | h3
          · exact ⟨⟨_, h1⟩, by omega⟩
          · exact ih.1 t' h3
        · have h4 := ih.2
          rw [addTk_length] at h4
          rcases rt_cases h1 with h5 | h5
          · simp only [List.length_cons]; omega
          · simp only [List.length_cons]; omega
    · simp at h

theorem wrote_leaves {base g : Nat} {v : Value} {T : TypeId} {xs zs : List Nat} {W W' : World} {e : Ending} (hw : Wrote base W T g v zs e W') (h : Wr base W T g v xs) : ∃ v', e = .returned (.tuple #[]) ∧ Wr base W' T g v' zs ∧ Below base W W' := by
  obtain ⟨v', he, hw, hk, hn⟩ := hw
  refine ⟨v', he, hw, (KeptS.of2 (S := fun q => q = g ∨ v.ownBlock = some q) hk (.inl rfl) (fun q hq => .inr hq)).below ?_ (Nat.le_trans h.gb (Nat.le_of_lt h.lt))⟩
  rintro q (rfl | hq)
  · exact h.gb
  · exact (h.own.lt q hq).1

/-- A writer on the way, with what it has. -/
def WOn (w W : World) (Y : List Nat) : Prop := ∃ v, Wr w.heap.size W 106 w.heap.size v Y ∧ Below w.heap.size w W
theorem WOn.below {w W W' : World} {Y : List Nat} (h : WOn w W Y) (hb : Below W.heap.size W W') : WOn w W' Y := by
  obtain ⟨v, h1, h2⟩ := h
  exact ⟨v, h1.below hb, h2.trans (hb.mono h2.size)⟩
theorem WOn.lt {w W : World} {Y : List Nat} (h : WOn w W Y) : w.heap.size < W.heap.size := by
  obtain ⟨v, h1, h2⟩ := h
  exact h1.lt
theorem WOn.kept {w W : World} {Y : List Nat} (h : WOn w W Y) : Below w.heap.size w W := by
  obtain ⟨v, h1, h2⟩ := h
  exact h2
def WPost (w : World) (Y : List Nat) (e : Ending) (W' : World) : Prop := e = .returned (.tuple #[]) ∧ WOn w W' Y
theorem won_uv {w W : World} {Y : List Nat} (h : WOn w W Y) (x : Nat) (hx : x < 18446744073709551616) (hl : Y.length + 10 ≤ 140737488355328) :
    Calls Tryz.prog 50 #[.pointer (some ⟨w.heap.size, 0, none⟩), .int .u64 (x : Int)] W (WPost w (Y ++ Uv.uv x)) := by
  obtain ⟨v, h1, h2⟩ := h
  refine (uvarint_w w.heap.size w.heap.size v Y x W h1 hx hl h2.size).mono ?_
  intro e W' hw
  obtain ⟨v', he, h3, h4⟩ := wrote_leaves hw h1
  exact ⟨he, v', h3, h2.trans h4⟩
/-- Beside it a token in its block. -/
def WOnB (w W : World) (Y : List Nat) (g : Nat) (x : TkV) : Prop := ∃ v, Wr w.heap.size W 106 w.heap.size v Y ∧ Below w.heap.size w W ∧ Bt W g x ∧ v.ownBlock ≠ some g ∧ g ≠ w.heap.size
theorem WOnB.on {w W : World} {Y : List Nat} {g : Nat} {x : TkV} (h : WOnB w W Y g x) : WOn w W Y := by
  obtain ⟨v, h1, h2, _⟩ := h
  exact ⟨v, h1, h2⟩
theorem WOnB.bt {w W : World} {Y : List Nat} {g : Nat} {x : TkV} (h : WOnB w W Y g x) : Bt W g x := by
  obtain ⟨v, h1, h2, h3, _⟩ := h
  exact h3
theorem WOn.box {w W : World} {Y : List Nat} (h : WOn w W Y) (x : TkV) : WOnB w (W.alloc (.cells #[.slice x.A x.lit.length x.c, .int .i64 x.d, .int .i64 x.l] 125)) Y W.heap.size x := by
  have hlt := h.lt
  obtain ⟨v, h1, h2⟩ := h
  refine ⟨v, h1.below ((Below.refl _ _).alloc (Nat.le_refl _) _), h2.trans ((Below.refl _ _).alloc h2.size _), Bt.new W x, fun e => ?_, by omega⟩
  have := (h1.own.lt _ e).2
  omega
theorem wrote_box {w W W' : World} {Y Z : List Nat} {g : Nat} {x : TkV} {v : Value} {e : Ending} (h1 : Wr w.heap.size W 106 w.heap.size v Y) (h2 : Below w.heap.size w W) (h3 : Bt W g x) (h4 : v.ownBlock ≠ some g) (h5 : g ≠ w.heap.size)
    (hw : Wrote w.heap.size W 106 w.heap.size v Z e W') : e = .returned (.tuple #[]) ∧ WOnB w W' Z g x := by
  obtain ⟨v', he, h6, h7⟩ := wrote_leaves hw h1
  obtain ⟨v2, he2, hw2, hk, hn⟩ := hw
  refine ⟨he, v2, hw2, h2.trans h7, (hk.block g h3.lt h5 (fun e => h4 e.symm)).trans h3, ?_, h5⟩
  rcases hn with e | ⟨q, e, hq⟩
  · rw [e]; exact h4
  · rw [e]; intro e2; injection e2 with e2; have := h3.lt; omega
def WPostB (w : World) (Y : List Nat) (g : Nat) (x : TkV) (e : Ending) (W' : World) : Prop := e = .returned (.tuple #[]) ∧ WOnB w W' Y g x
theorem wonb_uv {w W : World} {Y : List Nat} {g : Nat} {x : TkV} (h : WOnB w W Y g x) (u : Nat) (hx : u < 18446744073709551616) (hl : Y.length + 10 ≤ 140737488355328) :
    Calls Tryz.prog 50 #[.pointer (some ⟨w.heap.size, 0, none⟩), .int .u64 (u : Int)] W (WPostB w (Y ++ Uv.uv u) g x) := by
  obtain ⟨v, h1, h2, h3, h4, h5⟩ := h
  refine (uvarint_w w.heap.size w.heap.size v Y u W h1 hx hl h2.size).mono ?_
  intro e W' hw
  exact wrote_box h1 h2 h3 h4 h5 hw
theorem wonb_raw {w W : World} {Y : List Nat} {g : Nat} {x : TkV} (h : WOnB w W Y g x) (A : Option Addr) (m c : Nat) (news : List Nat) (hr : Rd W A (b8 news)) (hm : news.length = m) (hl : Y.length + m ≤ 140737488355328) :
    Calls Tryz.prog 53 #[.pointer (some ⟨w.heap.size, 0, none⟩), .slice A m c] W (WPostB w (Y ++ news) g x) := by
  obtain ⟨v, h1, h2, h3, h4, h5⟩ := h
  refine (raw_is w.heap.size w.heap.size v Y A m c news W h1 hr hm hl h2.size).mono ?_
  intro e W' hw
  exact wrote_box h1 h2 h3 h4 h5 hw
theorem won_bytes {w W : World} {Y : List Nat} (h : WOn w W Y) (hl : Y.length ≤ 140737488351232) :
    Calls Tryz.prog 86 #[.pointer (some ⟨w.heap.size, 0, none⟩)] W fun e w' => Got8 w w' e Y := by
  obtain ⟨v, h1, h2⟩ := h
  refine (bytes_w w.heap.size w.heap.size v Y W h1 hl).mono ?_
  rintro e w' ⟨A, c, rfl, ho, hb⟩
  exact ⟨A, c, rfl, own_mono ho h2.size, h2.trans (hb.mono h2.size)⟩
theorem won_new (w : World) : WOn w (w.alloc (.cells #[.slice none 0 0] 106)) [] := ⟨_, new_wr w.heap.size w (Nat.le_refl _), (Below.refl _ _).alloc (Nat.le_refl _) _⟩

theorem blk_drop {l : List TkV} {k : Nat} {x : TkV} (h : l[k]? = some x) (Y : List Nat) : Y ++ ((toks l).drop k).flatMap bt = (Y ++ bt x.tk) ++ ((toks l).drop (k + 1)).flatMap bt := by
  obtain ⟨h1, h2⟩ := List.getElem?_eq_some_iff.1 (toks_get h)
  rw [List.drop_eq_getElem_cons h1, h2, List.flatMap_cons, List.append_assoc]

section
variable (m : Nat) (A : Option Addr) (n c : Nat) (l : List TkV) (w : World) (hm : m ≤ 4096) (hr : Rd w A (tkCells l)) (hn : l.length = n) (hok : ∀ x ∈ l, x.Ok w) (hf : ∀ x ∈ l, Fine x.tk) (hl : n ≤ 4096)
include hm hr hn hok hf hl

set_option maxHeartbeats 2000000 in
set_option maxRecDepth 100000 in
theorem block_is : Calls Tryz.prog 122 #[.int .i64 (m : Int), .slice A n c] w (fun e w' => Got8 w w' e (blk m (toks l))) := by
  have HN := Lib.hid hn
  have HR := Lib.hid hr
  have HOK := Lib.hid hok
  have HF := Lib.hid hf
  have HW0 := Lib.hid (won_new w)
  have HU : Hid ((Uv.uv m).length ≤ 10) := Lib.hid (Uv.uv_len_64 m (by omega))
  have HS0 : Hid (blk m (toks l) = ([] ++ Uv.uv m) ++ ((toks l).drop 0).flatMap bt) := Lib.hid (by rw [List.drop_zero]; rfl)
  obtain ⟨q, hq⟩ : ∃ q, q = blk m (toks l) := ⟨_, rfl⟩
  rw [← hq] at HS0 ⊢
  clear hq hr hn hok hf
  go_enter Tryz.func122, Tryz.ntmps122
  go_wp2_with (first
    | (go_at_call 84; refine (new_is w).mono ?_; rintro e w' ⟨rfl, rfl⟩)
    | (go_at_call 50; refine (won_uv HW0.out m (by omega) (by simp)).mono ?_; rintro e w1 ⟨rfl, h1⟩; have HW1 := Lib.hid h1; clear h1))
  go_loopw [15] (fun i wr => ∃ (k : Nat) (Y : List Nat), k ≤ n ∧ i = .int .i64 k ∧ Hid (Y.length ≤ 10 + k * 4116) ∧ Hid (WOn w wr Y) ∧ Hid (q = Y ++ ((toks l).drop k).flatMap bt)) (fun i _ => n - (intOf i).toNat)
  case atStart => exact ⟨0, _, Nat.zero_le _, rfl, Lib.hid (by simpa using HU.out), HW1, HS0⟩
  case round =>
    clear HW0 HW1
    obtain ⟨k, Y, hk, rfl, HY, HW, HQ⟩ := hrel
    have hszr := HW.out.lt
    by_cases hlt : k < n
    · obtain ⟨x, hx⟩ : ∃ x, l[k]? = some x := ⟨_, List.getElem?_eq_getElem (by rw [HN.out]; exact hlt)⟩
      have HXO := Lib.hid (HOK.out x (List.mem_of_getElem? hx))
      have HXF := Lib.hid (HF.out x (List.mem_of_getElem? hx))
      obtain ⟨g, off, rfl, hg, hc0, hc1, hc2⟩ := HR.out.tok hx
      have HST : Hid (Y ++ ((toks l).drop k).flatMap bt = (Y ++ bt x.tk) ++ ((toks l).drop (k + 1)).flatMap bt) := Lib.hid (blk_drop hx Y)
      replace hc0 := (HW.out.kept.cell (p := ⟨g, off + k * 3, none⟩) hg).trans hc0
      replace hc1 := (HW.out.kept.cell (p := ⟨g, off + k * 3 + 1, none⟩) hg).trans hc1
      replace hc2 := (HW.out.kept.cell (p := ⟨g, off + k * 3 + 2, none⟩) hg).trans hc2
      have hd64 := HXO.out.d64
      have hl64 := HXO.out.l64
      have HB0 := Lib.hid (Bt.new wr x)
      have HLB := Lib.hid (bt_len HXF.out)
      have HCS := Lib.hid HXF.out.cases
      have HL4 := Lib.hid HXF.out.2
      have HWA := Lib.hid (HW.out.box x)
      have hcap := HXO.out.cap
      obtain ⟨xA, xc, lit, d, ll⟩ := x
      simp only at hc0 hc1 hc2 hd64 hl64 HWA hcap
      by_cases h0 : 0 < lit.length
      · have hl4 : lit.length ≤ 4096 := HL4.out
        have HBT : Hid (bt (TkV.tk ⟨xA, xc, lit, d, ll⟩) = Uv.uv (2 * lit.length) ++ lit) := Lib.hid (bt_lit h0)
        have HLU : Hid ((Uv.uv (2 * lit.length)).length ≤ 10) := Lib.hid (Uv.uv_len_64 _ (by omega))
        have PU := Lib.hid (fun W (h : WOnB w W Y wr.heap.size ⟨xA, xc, lit, d, ll⟩) => wonb_uv h (2 * lit.length) (by omega) (by have := HY.out; omega))
        rw [show ((2 * lit.length : Nat) : Int) = 2 * (lit.length : Int) by omega] at PU
        go_wp2_with (first
          | (go_at_call 50; go_loud (refine (PU.out _ HWA.out).mono ?_; rintro e w1 ⟨rfl, h1⟩; have HW1 := Lib.hid h1; obtain ⟨b0, b1, b2⟩ := h1.bt.facts; simp only at b0 b1 b2; clear h1))
          | (go_at_call 53; go_loud (refine (wonb_raw HW1.out _ _ _ lit (HXO.out.rd.below HW1.out.on.kept) rfl (by rw [List.length_append]; have := HY.out; have := HLU.out; omega)).mono ?_; rintro e w2 ⟨rfl, h1⟩; have HW2 := Lib.hid h1; obtain ⟨b0, b1, b2⟩ := h1.bt.facts; simp only at b0 b1 b2; clear h1)))
        go_round
        case rel => exact ⟨k + 1, _, by omega, by go_num, Lib.hid (by have := HY.out; have := HLB.out; rw [List.append_assoc, ← HBT.out, List.length_append]; omega), HW2.out.on, Lib.hid (by rw [List.append_assoc Y, ← HBT.out]; exact HQ.out.trans HST.out)⟩
        case measure => simp [intOf]; omega
      · have hdl : 0 ≤ d ∧ d ≤ 2048 ∧ 0 ≤ ll ∧ ll ≤ 258 := by
          rcases HCS.out with h | h
          · exact absurd h.1 h0
          · have h1 : 5 ≤ ll ∧ ll ≤ 258 ∧ 1 ≤ d ∧ d ≤ 2048 := h.2
            omega
        have HBT : Hid (bt (TkV.tk ⟨xA, xc, lit, d, ll⟩) = Uv.uv (2 * ll.toNat + 1) ++ Uv.uv d.toNat) := Lib.hid (bt_match h0)
        have HLU : Hid ((Uv.uv (2 * ll.toNat + 1)).length ≤ 10) := Lib.hid (Uv.uv_len_64 _ (by omega))
        have PU := Lib.hid (fun W Z (h : WOnB w W Z wr.heap.size ⟨xA, xc, lit, d, ll⟩) (h2 : Z.length ≤ 100000000) => wonb_uv h (2 * ll.toNat + 1) (by omega) (by omega))
        rw [show ((2 * ll.toNat + 1 : Nat) : Int) = 2 * ll + 1 by omega] at PU
        have PD := Lib.hid (fun W Z (h : WOnB w W Z wr.heap.size ⟨xA, xc, lit, d, ll⟩) (h2 : Z.length ≤ 100000000) => wonb_uv h d.toNat (by omega) (by omega))
        rw [show ((d.toNat : Nat) : Int) = d by omega] at PD
        go_wp2_with (first
          | (go_at_call 50; refine (PU.out _ _ HWA.out (by have := HY.out; omega)).mono ?_; rintro e w1 ⟨rfl, h1⟩; have HW1 := Lib.hid h1; obtain ⟨b0, b1, b2⟩ := h1.bt.facts; simp only at b0 b1 b2; clear h1)
          | (go_at_call 50; refine (PD.out _ _ HW1.out (by rw [List.length_append]; have := HY.out; have := HLU.out; omega)).mono ?_; rintro e w2 ⟨rfl, h1⟩; have HW2 := Lib.hid h1; obtain ⟨b0, b1, b2⟩ := h1.bt.facts; simp only at b0 b1 b2; clear h1))
        go_round
        case rel => exact ⟨k + 1, _, by omega, by go_num, Lib.hid (by have := HY.out; have := HLB.out; rw [List.append_assoc, ← HBT.out, List.length_append]; omega), HW2.out.on, Lib.hid (by rw [List.append_assoc Y, ← HBT.out]; exact HQ.out.trans HST.out)⟩
        case measure => simp [intOf]; omega
    · have HQF : Hid (Y = q) := Lib.hid (by rw [HQ.out, List.drop_of_length_le (by simp [toks, HN.out]; omega)]; simp)
      have HLF : Hid (Y.length ≤ 140737488351232) := Lib.hid (by have := HY.out; omega)
      go_wp2_with (go_at_call 86; refine (won_bytes HW.out HLF.out).mono ?_; rintro e w3 ⟨A3, c3, rfl, ho, hb⟩; have HO3 := Lib.hid ho; have HB3 := Lib.hid hb; clear ho hb)
      go_ret
      rw [← HQF.out]
      exact ⟨A3, c3, rfl, HO3.out, HB3.out⟩
end
end Go.Proofs.YtljfmcgeiceagaaGreat

/- Write, both; the document's Number. -/
namespace Go.Proofs.YtljfmcgeiceagaaGreat
open Go Go.RowKit
set_option linter.unusedVariables false
set_option linter.unusedSimpArgs false

theorem wr_ok {ts : List Tk} {T : List Nat} (h : exp [] ts = (T, 0)) : wr ts = (blk T.length ts, 0) := by unfold wr; rw [h]; rfl
theorem wr_bad {ts : List Tk} {T : List Nat} {z : Int} (h : exp [] ts = (T, z)) (hz : z ≠ 0) : wr ts = ([], z) := by unfold wr; rw [h]; simp [hz]
theorem exp_code : ∀ (ts : List Tk) (text : List Nat), (exp text ts).2 = 0 ∨ (exp text ts).2 = 2 ∨ (exp text ts).2 = 21
  | [], text => .inl rfl
  | t :: r, text => by
    unfold exp
    split
    · split
      · exact .inr (.inl rfl)
      · exact exp_code r _
    · exact .inr (.inr rfl)


set_option maxHeartbeats 1000000 in
set_option maxRecDepth 100000 in
theorem number_any (v : Nat) (w : World) (hv : v < 1000000) :
    Calls Tryz.prog 126 #[.int .i64 (v : Int)] w fun e w' => Got8 w w' e (Uv.uv v) := by
  obtain ⟨i0, hi, hz0, hz1, hz2⟩ := info_parts info8
  go_enter Tryz.func126, Tryz.ntmps126
  go_wp2
  go_loopw [0, 3] (fun x b wr => ∃ (u : Nat) (bs : List Nat), u ≤ v ∧ x = .int .i64 (u : Int) ∧ wr.ownsRow w.heap.size 5 1 b bs.length (b8 bs) ∧ Below w.heap.size w wr ∧ Hid (bs ++ Uv.uv u = Uv.uv v))
    (fun x _ _ => (intOf x).toNat)
  case atStart => exact ⟨v, [], Nat.le_refl _, rfl, World.ownsRow_nil _ _ _ _, Below.refl _ _, by simp [Hid]⟩
  case round =>
    obtain ⟨u, bs, hu, rfl, hown, hbel, H⟩ := hrel
    have hlen : bs.length ≤ 10 := by
      have h1 := Uv.uv_len_64 v (by omega)
      rw [← H.out] at h1
      simp at h1
      omega
    have hsz := hbel.size
    by_cases hlt : u < 128
    · go_wp2_with (at_builtin; (refine wpList_push wr rfl _ _ 27 rfl w.heap.size 5 i0 (.int .u8 0) 1 Tryz.underlying27 hi hz0 hz1 hz2 rfl u3 bs.length (b8 bs) rfl hown (.int .u8 (u : Int)) rfl rfl (by omega) (by unfold maxLen; omega) hsz ?_); intro v' w1 hown' hgrow _)
      go_ret
      have e : bs ++ [u] = Uv.uv v := by rw [← H.out, Uv.uv_small hlt]
      exact got8_mk hown' (by rw [← e]; simp) (by rw [← e, b8_append]; rfl) (hbel.trans (below_of_grown hgrow hsz (fun k hk => (hown.lt k hk).1)))
    · go_wp2_with (at_builtin; (refine wpList_push wr rfl _ _ 27 rfl w.heap.size 5 i0 (.int .u8 0) 1 Tryz.underlying27 hi hz0 hz1 hz2 rfl u3 bs.length (b8 bs) rfl hown (.int .u8 ((u : Int) % 128 + 128)) rfl rfl (by omega) (by unfold maxLen; omega) hsz ?_); intro v' w1 hown' hgrow _)
      have hbel' := hbel.trans (below_of_grown hgrow hsz (fun k hk => (hown.lt k hk).1))
      clear hown hbel hgrow
      go_wp2
      go_roundw
      case rel => exact ⟨u / 128, bs ++ [u % 128 + 128], by omega, by go_num, by simpa [b8] using hown', hbel', by rw [← H.out, Uv.uv_big (v := u) (by omega)]; simp [Hid]⟩
      case measure => simp [intOf]; omega
end Go.Proofs.YtljfmcgeiceagaaGreat

/- Write, the document's. -/
namespace Go.Proofs.YtljfmcgeiceagaaGreat
open Go Go.RowKit
set_option linter.unusedVariables false
set_option linter.unusedSimpArgs false

/-- A row that is younger than another one's block. -/
theorem rd_young {w w1 w2 : World} {base : Nat} {A : Option Addr} {n c m : Nat} {xs : List Value} {v : Value} {e e2 : TypeId} {ys : List Value} (hv : w.ownsRow base e 1 v m ys) (h : w1.ownsRow w.heap.size e2 1 (.slice A n c) n xs) (hg : w1.grownBy w2 v.ownBlock) : Rd w2 A xs := by
  refine (rd_own h).grown hg (fun a ha e => ?_)
  obtain ⟨A', c', he, _, _, hb⟩ := own_shape h
  injection he with hA
  have h1 := (hb a (hA.symm.trans ha)).1
  have h2 := (hv.lt _ e.symm).2
  omega

section
variable (A : Option Addr) (n c : Nat) (l : List TkV) (w : World) (hr : Rd w A (tkCells l)) (hn : l.length = n) (hok : ∀ x ∈ l, x.Ok w) (hl : n ≤ 4000000000000)
include hr hn hok hl

set_option maxHeartbeats 2000000 in
set_option maxRecDepth 100000 in
theorem rwrite_is : Calls Tryz.prog 118 #[.slice A n c] w (Ans8 w (wr (toks l))) := by
  have PE := Lib.hid (rexpand_is A n c l w hr hn hok hl)
  have HC := Lib.hid (exp_code (toks l) [])
  have HL := Lib.hid (exp_len (toks l) [] (by simp))
  obtain ⟨q, hq⟩ : ∃ q, q = exp [] (toks l) := ⟨_, rfl⟩
  have HQ := Lib.hid hq.symm
  rw [← hq] at PE HC HL
  obtain ⟨T, z⟩ := q
  simp only at HC HL
  clear hq
  by_cases hz : z = 0
  · subst hz
    have HW := Lib.hid (wr_ok HQ.out)
    have hf := fine_of_exp HQ.out
    have hT : T.length ≤ 4096 := HL.out
    have hn4 : n ≤ 4096 := by have h := hf.2; simp only [toks, List.length_map, List.length_nil] at h; omega
    have HF : Hid (∀ x ∈ l, Fine x.tk) := Lib.hid (fun x hx => hf.1 _ (List.mem_map.2 ⟨x, hx, rfl⟩))
    have HN := Lib.hid hn
    have HR := Lib.hid hr
    have HOK := Lib.hid hok
    have HU : Hid ((Uv.uv T.length).length ≤ 10) := Lib.hid (Uv.uv_len_64 T.length (by omega))
    have HS0 : Hid (blk T.length (toks l) = Uv.uv T.length ++ ((toks l).drop 0).flatMap bt) := Lib.hid (by rw [List.drop_zero]; rfl)
    obtain ⟨q, hq⟩ : ∃ q, q = blk T.length (toks l) := ⟨_, rfl⟩
    rw [← hq] at HS0 HW
    clear hq hr hn hok hf
    go_enter Tryz.func118, Tryz.ntmps118
    go_wp2_with (first
      | (go_at_call 114; refine PE.out.mono ?_; rintro e w1 ⟨A1, c1, rfl, ho1, hb1⟩; have HB1 := Lib.hid hb1; clear ho1 hb1)
      | (go_at_call 126; refine (number_any T.length _ (by omega)).mono ?_; rintro e w2 ⟨A2, c2, rfl, ho2, hb2⟩; have HO2 := Lib.hid (own_mono ho2 HB1.out.size); have HB2 := Lib.hid (HB1.out.trans (hb2.mono HB1.out.size)); clear ho2 hb2))
    go_loopw [6, 7] (fun v i wr => ∃ (k N : Nat) (Y : List Nat), k ≤ n ∧ i = .int .i64 k ∧ Hid (N = Y.length) ∧ N ≤ 10 + k * 4116 ∧ Hid (wr.ownsRow w.heap.size 5 1 v N (b8 Y)) ∧ Hid (q = Y ++ ((toks l).drop k).flatMap bt) ∧ Hid (Below w.heap.size w wr)) (fun _ i _ => n - (intOf i).toNat)
    case atStart => exact ⟨0, _, Uv.uv T.length, Nat.zero_le _, rfl, Lib.hid rfl, by have := HU.out; omega, HO2, HS0, HB2⟩
    case round =>
      clear HO2 HB2 HB1
      obtain ⟨k, N, Y, hk, rfl, HY, hN, HO, HQ2, HB⟩ := hrel
      have hsz := HB.out.size
      by_cases hlt : k < n
      · obtain ⟨x, hx⟩ : ∃ x, l[k]? = some x := ⟨_, List.getElem?_eq_getElem (by rw [HN.out]; exact hlt)⟩
        have HXO := Lib.hid (HOK.out x (List.mem_of_getElem? hx))
        have HXF := Lib.hid (HF.out x (List.mem_of_getElem? hx))
        obtain ⟨g, off, rfl, hg, hc0, hc1, hc2⟩ := HR.out.tok hx
        have HST : Hid (Y ++ ((toks l).drop k).flatMap bt = (Y ++ bt x.tk) ++ ((toks l).drop (k + 1)).flatMap bt) := Lib.hid (blk_drop hx Y)
        have HCC : Hid (∀ W, Below w.heap.size w W → W.cell? ⟨g, off + k * 3, none⟩ = some (.slice x.A x.lit.length x.c) ∧ W.cell? ⟨g, off + k * 3 + 1, none⟩ = some (.int .i64 x.d) ∧ W.cell? ⟨g, off + k * 3 + 2, none⟩ = some (.int .i64 x.l)) :=
          Lib.hid (fun W h => ⟨(h.cell (p := ⟨g, off + k * 3, none⟩) hg).trans hc0, (h.cell (p := ⟨g, off + k * 3 + 1, none⟩) hg).trans hc1, (h.cell (p := ⟨g, off + k * 3 + 2, none⟩) hg).trans hc2⟩)
        clear hc0 hc1 hc2
        have hd64 := HXO.out.d64
        have hl64 := HXO.out.l64
        have HLB := Lib.hid (bt_len HXF.out)
        have HCS := Lib.hid HXF.out.cases
        have HL4 := Lib.hid HXF.out.2
        have hcap := HXO.out.cap
        obtain ⟨xA, xc, lit, d, ll⟩ := x
        simp only at HCC hd64 hl64 hcap
        obtain ⟨hc0, hc1, hc2⟩ := HCC.out _ HB.out
        clear hx
        by_cases h0 : 0 < lit.length
        · have hl4 : lit.length ≤ 4096 := HL4.out
          have HBT : Hid (bt (TkV.tk ⟨xA, xc, lit, d, ll⟩) = Uv.uv (2 * lit.length) ++ lit) := Lib.hid (bt_lit h0)
          obtain ⟨us, hus⟩ : ∃ us, us = Uv.uv (2 * lit.length) := ⟨_, rfl⟩
          have hul : us.length ≤ 10 := by rw [hus]; exact Uv.uv_len_64 _ (by omega)
          have PU := Lib.hid (fun W => number_any (2 * lit.length) W (by omega))
          rw [← hus] at PU HBT
          rw [show ((2 * lit.length : Nat) : Int) = 2 * (lit.length : Int) by omega] at PU
          have HLN : Hid (N + us.length + lit.length ≤ 10 + (k + 1) * 4116) := Lib.hid (by have h1 := HLB.out; rw [HBT.out, List.length_append] at h1; omega)
          clear hus
          go_wp2_with (first
            | (go_at_call 126; go_loud (refine (PU.out _).mono ?_; rintro e w3 ⟨A3, c3, rfl, ho3, hb3⟩; have HO3 := Lib.hid ho3; have HB3 := Lib.hid (HB.out.trans (hb3.mono hsz)); have HOY := Lib.hid (own_below HO.out hb3); have hs3 := hb3.size; obtain ⟨b0, b1, b2⟩ := HCC.out _ HB3.out; clear ho3 hb3))
            | (at_builtin; (refine app8 w3 rfl (.tmp 43) (.tmp 44) (by rfl) w.heap.size _ N Y (by rfl) HOY.out A3 us.length c3 us (by rfl) rfl (rd_own HO3.out) (by omega) (by omega) ?_); intro v4 w4 hown4 hg4 hn4; have HO4 := Lib.hid hown4; have hs4 := hg4.size; have HB4 := Lib.hid (HB3.out.trans (below_of_grown hg4 (by omega) (fun k hk => (HOY.out.lt k hk).1))); obtain ⟨d0, d1, d2⟩ := HCC.out _ HB4.out; clear hown4 hg4 hn4)
            | (at_builtin; (refine app8 w4 rfl (.tmp 46) (.tmp 51) (by rfl) w.heap.size _ (N + us.length) (Y ++ us) (by rfl) HO4.out xA lit.length xc lit (by rfl) rfl (HXO.out.rd.below HB4.out) (by omega) (by omega) ?_); intro v5 w5 hown5 hg5 hn5; have HO5 := Lib.hid hown5; have HB5 := Lib.hid (HB4.out.trans (below_of_grown hg5 (by omega) (fun k hk => (HO4.out.lt k hk).1))); clear hown5 hg5 hn5))
          go_roundw
          case rel => exact ⟨k + 1, _, (Y ++ us) ++ lit, by omega, by go_num, Lib.hid (by have := HY.out; simp; omega), HLN.out, HO5, Lib.hid (by rw [List.append_assoc Y, ← HBT.out]; exact HQ2.out.trans HST.out), HB5⟩
          case measure => simp [intOf]; omega
        · have hdl : 0 ≤ d ∧ d ≤ 2048 ∧ 0 ≤ ll ∧ ll ≤ 258 := by
            rcases HCS.out with h | h
            · exact absurd h.1 h0
            · have h1 : 5 ≤ ll ∧ ll ≤ 258 ∧ 1 ≤ d ∧ d ≤ 2048 := h.2
              omega
          have HBT : Hid (bt (TkV.tk ⟨xA, xc, lit, d, ll⟩) = Uv.uv (2 * ll.toNat + 1) ++ Uv.uv d.toNat) := Lib.hid (bt_match h0)
          obtain ⟨us, hus⟩ : ∃ us, us = Uv.uv (2 * ll.toNat + 1) := ⟨_, rfl⟩
          have hul : us.length ≤ 10 := by rw [hus]; exact Uv.uv_len_64 _ (by omega)
          have PU := Lib.hid (fun W => number_any (2 * ll.toNat + 1) W (by omega))
          rw [← hus] at PU HBT
          rw [show ((2 * ll.toNat + 1 : Nat) : Int) = 2 * ll + 1 by omega] at PU
          obtain ⟨ds, hds⟩ : ∃ ds, ds = Uv.uv d.toNat := ⟨_, rfl⟩
          have hdlen : ds.length ≤ 10 := by rw [hds]; exact Uv.uv_len_64 _ (by omega)
          have PD := Lib.hid (fun W => number_any d.toNat W (by omega))
          rw [← hds] at PD HBT
          rw [show ((d.toNat : Nat) : Int) = d by omega] at PD
          have HLN : Hid (N + us.length + ds.length ≤ 10 + (k + 1) * 4116) := Lib.hid (by have h1 := HLB.out; rw [HBT.out, List.length_append] at h1; omega)
          clear hus hds
          go_wp2_with fail
          with_reducible refine (PU.out _).mono ?_
          rintro e w3 ⟨A3, c3, rfl, ho3, hb3⟩
          have HO3 := Lib.hid ho3
          have HB3 := Lib.hid (HB.out.trans (hb3.mono hsz))
          have HOY := Lib.hid (own_below HO.out hb3)
          have hs3 := hb3.size
          clear hc0 hc1 hc2 ho3 hb3
          obtain ⟨hc0, hc1, hc2⟩ := HCC.out _ HB3.out
          go_wp2_with fail
          with_reducible refine (PD.out _).mono ?_
          rintro e w6 ⟨A6, c6, rfl, ho6, hb6⟩
          have HO6 := Lib.hid ho6
          have HB6 := Lib.hid (HB3.out.trans (hb6.mono (by omega)))
          have HOZ := Lib.hid (own_below HOY.out hb6)
          have HOU := Lib.hid (own_below HO3.out hb6)
          have hs6 := hb6.size
          clear hc0 hc1 hc2 ho6 hb6
          go_wp2_with (first
            | (at_builtin; (refine app8 w6 rfl (.tmp 67) (.tmp 68) (by rfl) w.heap.size _ N Y (by rfl) HOZ.out A3 us.length c3 us (by rfl) rfl (rd_own HOU.out) (by omega) (by omega) ?_); intro v4 w4 hown4 hg4 hn4; have HO4 := Lib.hid hown4; have HR4 := Lib.hid (rd_young HOY.out HO6.out hg4); have hs4 := hg4.size; have HB4 := Lib.hid (HB6.out.trans (below_of_grown hg4 (by omega) (fun k hk => (HOZ.out.lt k hk).1))); clear hown4 hg4 hn4)
            | (at_builtin; (refine app8 w4 rfl (.tmp 70) (.tmp 71) (by rfl) w.heap.size _ (N + us.length) (Y ++ us) (by rfl) HO4.out A6 ds.length c6 ds (by rfl) rfl HR4.out (by omega) (by omega) ?_); intro v5 w5 hown5 hg5 hn5; have HO5 := Lib.hid hown5; have HB5 := Lib.hid (HB4.out.trans (below_of_grown hg5 (by omega) (fun k hk => (HO4.out.lt k hk).1))); clear hown5 hg5 hn5))
          go_roundw
          case rel => exact ⟨k + 1, _, (Y ++ us) ++ ds, by omega, by go_num, Lib.hid (by have := HY.out; simp; omega), HLN.out, HO5, Lib.hid (by rw [List.append_assoc Y, ← HBT.out]; exact HQ2.out.trans HST.out), HB5⟩
          case measure => simp [intOf]; omega
      · have HQF : Hid (Y = q) := Lib.hid (by rw [HQ2.out, List.drop_of_length_le (by simp [toks, HN.out]; omega)]; simp)
        have HNQ : Hid (N = q.length) := Lib.hid (by rw [← HQF.out]; exact HY.out)
        have HOQ : Hid (wr.ownsRow w.heap.size 5 1 u6 N (b8 q)) := Lib.hid (by rw [← HQF.out]; exact HO.out)
        go_wp2_with fail
        go_ret2
        exact ans8_some _ _ _ q _ N _ HW.out HNQ.out HOQ.out HB.out
  · have HW := Lib.hid (wr_bad HQ.out hz)
    clear hr hn hok
    go_enter Tryz.func118, Tryz.ntmps118
    go_wp2_with (first
      | (go_at_call 114; refine PE.out.mono ?_; rintro e w1 ⟨A1, c1, rfl, ho1, hb1⟩; have HB1 := Lib.hid hb1; clear ho1 hb1))
    go_ret2
    exact ans8_none _ _ _ _ HW.out HB1.out
end
end Go.Proofs.YtljfmcgeiceagaaGreat
