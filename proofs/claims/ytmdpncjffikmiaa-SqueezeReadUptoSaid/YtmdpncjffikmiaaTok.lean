/- Tokens in memory; how lists of them are opened. -/
import Derived.Test.YtmdpncjffikmiaaOpenInts
import Derived.Test.YtmdpncjffikmiaaConv
namespace Go.Proofs.Ytmdpncjffikmiaa
open Go Go.RowKit Go.ChangeShapes Go.WideShapes Go.ChangeAt Go.Deep
set_option linter.unusedVariables false
set_option linter.unusedSimpArgs false

/-- A token: bytes as they are, or so many from so far back. -/
structure Tk where
  lit : List Nat
  d : Int
  l : Int

/-- A token as it lies: where its bytes are, how many have room. -/
structure TkV where
  A : Option Addr
  c : Nat
  lit : List Nat
  d : Int
  l : Int
def TkV.tk (x : TkV) : Tk := ⟨x.lit, x.d, x.l⟩
def TkV.cells (x : TkV) : List Value := [.slice x.A x.lit.length x.c, .int .i64 x.d, .int .i64 x.l]
def TkV.val (x : TkV) : Value := .agg #[.slice x.A x.lit.length x.c, .int .i64 x.d, .int .i64 x.l]
/-- In range, and readable. -/
structure TkV.Ok (w : World) (x : TkV) : Prop where
  cap : x.lit.length ≤ x.c
  cm : x.c ≤ maxLen
  rd : Rd w x.A (b8 x.lit)
  by_ : By x.lit
  sz : x.lit.length ≤ 140737488351232
  d64 : -9223372036854775808 ≤ x.d ∧ x.d ≤ 9223372036854775807
  l64 : -9223372036854775808 ≤ x.l ∧ x.l ≤ 9223372036854775807
theorem TkV.Ok.below {w w' : World} {x : TkV} (h : x.Ok w) (hb : Below w.heap.size w w') : x.Ok w' := ⟨h.cap, h.cm, h.rd.below hb, h.by_, h.sz, h.d64, h.l64⟩

def tkCells (l : List TkV) : List Value := l.flatMap TkV.cells
theorem tkCells_append (a b : List TkV) : tkCells (a ++ b) = tkCells a ++ tkCells b := by simp [tkCells]
theorem tkCells_length (l : List TkV) : (tkCells l).length = l.length * 3 := by
  induction l with
  | nil => rfl
  | cons x r ih =>
    have : tkCells (x :: r) = x.cells ++ tkCells r := by simp [tkCells]
    rw [this, List.length_append, ih]
    simp [TkV.cells]
    omega
theorem tkCells_one (l : List TkV) : ∀ u ∈ tkCells l, u.oneCell' = true := by
  intro u hu
  obtain ⟨x, _, hx⟩ := List.mem_flatMap.1 hu
  simp only [TkV.cells, List.mem_cons, List.not_mem_nil, or_false] at hx
  rcases hx with rfl | rfl | rfl <;> rfl
theorem tkCells_get : ∀ {l : List TkV} {k : Nat} {x : TkV}, l[k]? = some x → (tkCells l)[k * 3]? = some (.slice x.A x.lit.length x.c) ∧ (tkCells l)[k * 3 + 1]? = some (.int .i64 x.d) ∧ (tkCells l)[k * 3 + 2]? = some (.int .i64 x.l)
  | [], k, x, h => by simp at h
  | y :: r, 0, x, h => by
    simp only [List.getElem?_cons_zero, Option.some.injEq] at h
    subst h
    simp [tkCells, TkV.cells]
  | y :: r, k + 1, x, h => by
    have h' : r[k]? = some x := by simpa using h
    have ih := tkCells_get h'
    have e : tkCells (y :: r) = y.cells ++ tkCells r := by simp [tkCells]
    have hl : y.cells.length = 3 := rfl
    rw [e, List.getElem?_append_right (by omega), List.getElem?_append_right (by omega), List.getElem?_append_right (by omega), hl, show (k + 1) * 3 - 3 = k * 3 by omega, show (k + 1) * 3 + 1 - 3 = k * 3 + 1 by omega, show (k + 1) * 3 + 2 - 3 = k * 3 + 2 by omega]
    exact ih
theorem tkCells_set3 : ∀ {l : List TkV} {k : Nat} (x : TkV), k < l.length → (((tkCells l).set (k * 3) (.slice x.A x.lit.length x.c)).set (k * 3 + 1) (.int .i64 x.d)).set (k * 3 + 2) (.int .i64 x.l) = tkCells (l.set k x)
  | [], k, x, h => by simp at h
  | y :: r, 0, x, h => by simp [tkCells, TkV.cells]
  | y :: r, k + 1, x, h => by
    have h' : k < r.length := by simpa using h
    have ih := tkCells_set3 x h'
    have e : ∀ (y : TkV) r, tkCells (y :: r) = y.cells ++ tkCells r := fun y r => by simp [tkCells]
    have hl : y.cells.length = 3 := rfl
    rw [List.set_cons_succ, e, e, List.set_append_right _ _ (by omega), List.set_append_right _ _ (by omega), List.set_append_right _ _ (by omega), hl, show (k + 1) * 3 - 3 = k * 3 by omega, show (k + 1) * 3 + 1 - 3 = k * 3 + 1 by omega, show (k + 1) * 3 + 2 - 3 = k * 3 + 2 by omega, ih]
theorem tkCells_take (l : List TkV) (n : Nat) : tkCells (l.take n) = (tkCells l).take (n * 3) := by
  by_cases h : n ≤ l.length
  · have e : tkCells l = tkCells (l.take n) ++ tkCells (l.drop n) := by rw [← tkCells_append, List.take_append_drop]
    have hl : (tkCells (l.take n)).length = n * 3 := by rw [tkCells_length, List.length_take]; omega
    rw [e, List.take_left' hl]
  · rw [List.take_of_length_le (by omega), List.take_of_length_le (by rw [tkCells_length]; omega)]

/-- The cells of one of them. -/
theorem Rd.tok {w : World} {A : Option Addr} {l : List TkV} (h : Rd w A (tkCells l)) {k : Nat} {x : TkV} (hk : l[k]? = some x) :
    ∃ g off, A = some ⟨g, off, none⟩ ∧ g < w.heap.size ∧ w.cell? ⟨g, off + k * 3, none⟩ = some (.slice x.A x.lit.length x.c) ∧ w.cell? ⟨g, off + k * 3 + 1, none⟩ = some (.int .i64 x.d) ∧ w.cell? ⟨g, off + k * 3 + 2, none⟩ = some (.int .i64 x.l) := by
  have hne : tkCells l ≠ [] := by
    intro e
    have := congrArg List.length e
    rw [tkCells_length] at this
    have hk' := (List.getElem?_eq_some_iff.1 hk).1
    simp only [List.length_nil] at this
    omega
  obtain ⟨g, off, e, hg, hc⟩ := h hne
  have h1 := tkCells_get hk
  refine ⟨g, off, e, hg, hc _ _ h1.1, ?_, ?_⟩
  · rw [Nat.add_assoc]; exact hc _ _ h1.2.1
  · rw [Nat.add_assoc]; exact hc _ _ h1.2.2

theorem inWeightsT {H : Type} {P : Program} {e : TypeId} : ∀ {l : List (DataW H)} {d : DataW H}, d ∈ l → ∀ n ∈ d.weights P e, n ∈ DataW.weightsAll P e l
  | d' :: r, d, hd, n, hn => by
    simp only [DataW.weightsAll, List.mem_append]
    rcases List.mem_cons.1 hd with rfl | h
    · exact Or.inl hn
    · exact Or.inr (inWeightsT h n hn)

section
variable {H : Type} {enc : TypeId × Value → H} {w : World} {base : Nat} {spare : Nat → Bool} {held : Bool}

/-- Bytes within what came in. -/
theorem open_bytes {P : Program} {t e : TypeId} {fuel : Nat} {v : Value} {y : DataW H × List MemPlace}
    (ht : P.underlying t = some (.slice e)) (he : P.underlying e = some (.int .u8)) (hc : P.cellsOf e = 1) (hb : P.bytesOf e = 1)
    (h : DataW.trod enc P w base spare held fuel t [v] = some y) :
    ∃ (A : Option Addr) (c : Nat) (bs : List Nat), v = .slice A bs.length c ∧ bs.length ≤ c ∧ c ≤ maxLen ∧ Rd w A (b8 bs) ∧ By bs ∧ (bs = [] ∨ ∃ q ∈ y.1.weights P t, bs.length ≤ q) := by
  rcases open_ints ht he hc h with ⟨hcs, _⟩ | ⟨x, len, cap, zs, hcs, _, hl, hm, hz, hx, hcell, hwz⟩
  · simp only [List.cons.injEq, and_true] at hcs
    subst hcs
    exact ⟨none, 0, [], rfl, Nat.le_refl _, by simp, Rd.nil_ _ _, fun b hb => by simp at hb, .inl rfl⟩
  · simp only [List.cons.injEq, and_true] at hcs
    subst hcs hx
    have hlz : len ≤ zs.length := by rw [hz]; split <;> omega
    have hwf : ∀ n ∈ zs, 0 ≤ n ∧ n < 256 := by
      intro n hn
      have := hwz n hn
      have h1 : IntKind.u8.min = 0 := rfl
      have h2 : IntKind.u8.max = 255 := rfl
      simp only [Lit.wf, Bool.and_eq_true, decide_eq_true_eq] at this
      omega
    have hlen : ((zs.take len).map Int.toNat).length = len := by simp; omega
    refine ⟨some x, cap, (zs.take len).map Int.toNat, ?_, by omega, hm, ?_, ?_, .inr ?_⟩
    · rw [hlen]
    · intro hne
      have hpos : 0 < len := by
        rcases Nat.eq_zero_or_pos len with h0 | h0
        · subst h0; simp [b8] at hne
        · exact h0
      obtain ⟨g, off, spot⟩ := x
      have hc0 := hcell 0 (by omega)
      have hspot : spot = none := by simpa [Addr.add] using World.cell?_spot hc0
      subst hspot
      refine ⟨g, off, rfl, ?_, ?_⟩
      · have := World.block_lt_of_cell? w _ hc0
        simpa [Addr.add] using this
      · intro k u hu
        rw [b8_get, List.getElem?_map] at hu
        obtain ⟨b, hb1, rfl⟩ := Option.map_eq_some_iff.1 hu
        obtain ⟨z, hz1, rfl⟩ := Option.map_eq_some_iff.1 hb1
        rw [List.getElem?_take] at hz1
        split at hz1
        · have hk : k < zs.length := (List.getElem?_eq_some_iff.1 hz1).1
          have := hcell k hk
          rw [show (⟨g, off, none⟩ : Addr).add k = ⟨g, off + k, none⟩ from by unfold Addr.add; split <;> simp_all] at this
          rw [this]
          have hzz : zs.getD k 0 = z := by simp [List.getD, hz1]
          have := (hwf z (List.mem_of_getElem? hz1)).1
          rw [hzz]
          congr 2
          omega
        · cases hz1
    · intro b hb1
      obtain ⟨z, hz1, rfl⟩ := List.mem_map.1 hb1
      have := hwf z (List.mem_of_mem_take hz1)
      omega
    · rw [hlen]
      simp only [DataW.weights, ht, hb]
      exact ⟨_, List.mem_cons_self .., by simp [lits]; omega⟩

/-- A slice of tokens that came in. -/
theorem open_toks {P : Program} {t e t0 t1 eb : TypeId} {f0 f1 f2 : Field} {r : Reach} {b0 : Nat} {v : Value} {d : DataW H} {ps : List MemPlace} {ts : List TypeId} {ds : List (DataW H)} {j : Nat}
    (ht : P.underlying t = some (.slice e)) (he : P.underlying e = some (.struct #[f0, f1, f2])) (hf0 : f0.type = t0) (hf1 : f1.type = t1) (hf2 : f2.type = t1)
    (hk0 : P.underlying t0 = some (.slice eb)) (hkb : P.underlying eb = some (.int .u8)) (hk1 : P.underlying t1 = some (.int .i64))
    (hcb : P.cellsOf eb = 1) (hbb : P.bytesOf eb = 1)
    (hone : oneCellFields P #[f0, f1, f2] = true) (hC : P.cellsOf e = 3) (hb : P.bytesOf e = 40)
    (hval : Value.okWide P w r b0 t v) (hd : DataW.Trod enc P w base spare held t v d ps)
    (hsz : (DataW.weightsEach P ts ds).all (· ≤ reachBytes) = true) (htj : ts[j]? = some t) (hdj : ds[j]? = some d) :
    ∃ (A : Option Addr) (c : Nat) (l : List TkV), v = .slice A l.length c ∧ l.length ≤ c ∧ Rd w A (tkCells l) ∧ (∀ x ∈ l, x.Ok w) ∧ l.length * 40 ≤ 140737488351232 := by
  obtain ⟨a0, len, cap, rfl⟩ := okWide_slice ht hval
  obtain ⟨fuel, hf⟩ := hd
  rcases open_slice_fields ht he hone hC hf with ⟨hcs, _⟩ | ⟨a, len', cap', m, D, Pl, hcs, hba, hl, hm, hmm, hx, hi⟩
  · simp [Value.cells] at hcs
    obtain ⟨rfl, rfl, rfl⟩ := hcs
    exact ⟨none, 0, [], rfl, Nat.le_refl _, Rd.nil_ _ _, fun b hb => by simp at hb, by simp⟩
  · simp [Value.cells] at hcs
    obtain ⟨rfl, rfl, rfl⟩ := hcs
    simp only [Prod.mk.injEq] at hx
    obtain ⟨rfl, rfl⟩ := hx
    have hlz : len ≤ m := by rw [hmm]; split <;> omega
    have hs := sized_slice hsz htj hdj ht
    rw [hb] at hs
    simp only [List.length_map, List.length_range, reachBytes] at hs
    have hcell : ∀ i, i < m → ∃ x : TkV, w.cell? (a.add (i * 3)) = some (.slice x.A x.lit.length x.c) ∧ w.cell? (a.add (i * 3 + 1)) = some (.int .i64 x.d) ∧ w.cell? (a.add (i * 3 + 2)) = some (.int .i64 x.l) ∧ (i < len → x.Ok w) := by
      intro i hi'
      obtain ⟨ys, n, hD, _, _, hfl⟩ := hi i hi'
      obtain ⟨v0, y0, h1, hy0, h2⟩ := hfl 0 f0 rfl
      obtain ⟨v1, y1, h3, _, h4⟩ := hfl 1 f1 rfl
      obtain ⟨v2, y2, h5, _, h6⟩ := hfl 2 f2 rfl
      rw [hf0] at h2
      rw [hf1] at h4
      rw [hf2] at h6
      obtain ⟨A, c, bs, rfl, q1, q2, q3, q4, q5⟩ := open_bytes hk0 hkb hcb hbb h2
      obtain ⟨p1, q6, _, q7⟩ := DataW.trod_int hk1 h4
      obtain ⟨p2, q8, _, q9⟩ := DataW.trod_int hk1 h6
      simp only [List.cons.injEq, and_true] at q6 q8
      subst q6 q8
      refine ⟨⟨A, c, bs, p1, p2⟩, by simpa using h1, by simpa using h3, by simpa using h5, fun hil => ⟨q1, q2, q3, q4, ?_, int_of_wf_i64 q7, int_of_wf_i64 q9⟩⟩
      simp only
      rcases q5 with rfl | q5
      · simp
      · obtain ⟨q, q5, q10⟩ := q5
        have hmem : DataW.agg (ys.map (·.1)) ∈ (List.range len).map D := List.mem_map.2 ⟨i, by simpa using hil, hD⟩
        have hin : q ∈ DataW.weightsEach P ts ds := by
          refine DataW.weights_mem_each htj hdj _ ?_
          simp only [DataW.weights, ht, List.mem_cons, List.mem_append]
          refine Or.inr (Or.inl (inWeightsT hmem _ ?_))
          simp only [DataW.weights, he]
          refine DataW.weights_mem_each (j := 0) (t := f0.type) (d := y0.1) (by simp) ?_ _ (by rw [hf0]; exact q5)
          rw [List.getElem?_map, hy0]
          rfl
        have h9 := of_decide_eq_true (List.all_eq_true.1 hsz _ hin)
        have r9 : reachBytes = 140737488351232 := rfl
        omega
    have hch : ∀ i : Nat, ∃ x : TkV, i < m → w.cell? (a.add (i * 3)) = some (.slice x.A x.lit.length x.c) ∧ w.cell? (a.add (i * 3 + 1)) = some (.int .i64 x.d) ∧ w.cell? (a.add (i * 3 + 2)) = some (.int .i64 x.l) ∧ (i < len → x.Ok w) := by
      intro i
      by_cases h : i < m
      · obtain ⟨x, h1⟩ := hcell i h
        exact ⟨x, fun _ => h1⟩
      · exact ⟨⟨none, 0, [], 0, 0⟩, fun h' => absurd h' h⟩
    obtain ⟨F, hF⟩ := Classical.axiomOfChoice hch
    refine ⟨some a, cap, (List.range len).map F, ?_, ?_, ?_, ?_, ?_⟩
    · simp
    · simpa using hl
    · intro hne
      have hpos : 0 < len := by
        rcases Nat.eq_zero_or_pos len with h0 | h0
        · subst h0; simp [tkCells] at hne
        · exact h0
      obtain ⟨g, off, spot⟩ := a
      have hc0 := (hF 0 (by omega)).1
      have hspot : spot = none := by simpa [Addr.add] using World.cell?_spot hc0
      subst hspot
      have hadd : ∀ k, (⟨g, off, none⟩ : Addr).add k = ⟨g, off + k, none⟩ := fun k => by unfold Addr.add; split <;> simp_all
      refine ⟨g, off, rfl, ?_, ?_⟩
      · have := World.block_lt_of_cell? w _ hc0
        rw [hadd] at this
        exact this
      · intro q u hu
        have hq : q < len * 3 := by
          have := (List.getElem?_eq_some_iff.1 hu).1
          rw [tkCells_length] at this
          simpa using this
        obtain ⟨b1, b2, b3, _⟩ := hF (q / 3) (by omega)
        rw [hadd] at b1 b2 b3
        have hx : ((List.range len).map F)[q / 3]? = some (F (q / 3)) := by
          rw [List.getElem?_map, List.getElem?_range (by omega)]
          rfl
        have h1 := tkCells_get hx
        have hcases : q = q / 3 * 3 ∨ q = q / 3 * 3 + 1 ∨ q = q / 3 * 3 + 2 := by omega
        rcases hcases with e | e | e
        · rw [e] at hu ⊢
          rw [h1.1] at hu
          rw [b1]; exact hu
        · rw [e] at hu ⊢
          rw [h1.2.1] at hu
          rw [b2]; exact hu
        · rw [e] at hu ⊢
          rw [h1.2.2] at hu
          rw [b3]; exact hu
    · intro x hx
      obtain ⟨i, hi1, rfl⟩ := List.mem_map.1 hx
      have hi2 : i < len := by simpa using hi1
      exact (hF i (by omega)).2.2.2 hi2
    · simp; omega
end
end Go.Proofs.Ytmdpncjffikmiaa
