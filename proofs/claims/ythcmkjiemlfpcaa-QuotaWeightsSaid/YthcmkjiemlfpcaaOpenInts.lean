/- How arguments that are lists of whole numbers, and lists of pairs of them, are opened. (open_slice_fields is the guide's, from its page on structs.) -/
import Derived.Test.YthcmkjiemlfpcaaOpen
import Derived.Deep.Slices
import Derived.Deep.Fields
import Derived.ChangeSame
namespace Go.Proofs.Ythcmkjiemlfpcaa
open Go Go.RowKit Go.ChangeShapes Go.WideShapes Go.ChangeAt Go.Deep
set_option linter.unusedVariables false

def i64s (l : List Int) : List Value := l.map (Value.int .i64)
theorem i64s_length (l : List Int) : (i64s l).length = l.length := by simp [i64s]
theorem i64s_get (l : List Int) (k : Nat) : (i64s l)[k]? = (l[k]?).map (Value.int .i64) := by simp [i64s]
theorem i64s_append (l r : List Int) : i64s (l ++ r) = i64s l ++ i64s r := by simp [i64s]
theorem i64s_take (l : List Int) (n : Nat) : i64s (l.take n) = (i64s l).take n := by simp [i64s, List.map_take]
/-- In range. -/
def W64 (l : List Int) : Prop := ∀ x ∈ l, -9223372036854775808 ≤ x ∧ x ≤ 9223372036854775807

/-- The cell of a whole number. -/
theorem Rd.i64 {w : World} {A : Option Addr} {l : List Int} (h : Rd w A (i64s l)) {k : Nat} {x : Int} (hk : l[k]? = some x) :
    ∃ g off, A = some ⟨g, off, none⟩ ∧ g < w.heap.size ∧ w.cell? ⟨g, off + k, none⟩ = some (.int .i64 x) := by
  have hne : i64s l ≠ [] := by
    intro e
    have : l = [] := by simpa [i64s] using e
    rw [this] at hk
    simp at hk
  obtain ⟨g, off, e, hg, hc⟩ := h hne
  exact ⟨g, off, e, hg, hc k _ (by rw [i64s_get, hk]; rfl)⟩

section
variable {H : Type} {enc : TypeId × Value → H} {w : World} {base : Nat} {spare : Nat → Bool} {held : Bool}

/-- A slice of int64 that came in. -/
theorem open_i64s {P : Program} {t e : TypeId} {r : Reach} {b0 : Nat} {v : Value} {d : DataW H} {ps : List MemPlace} {ts : List TypeId} {ds : List (DataW H)} {j : Nat}
    (ht : P.underlying t = some (.slice e)) (he : P.underlying e = some (.int .i64)) (hc : P.cellsOf e = 1) (hb : P.bytesOf e = 8)
    (hval : Value.okWide P w r b0 t v) (hd : DataW.Trod enc P w base spare held t v d ps) (hlt : ∀ x ∈ ps, x.block < w.heap.size)
    (hsz : (DataW.weightsEach P ts ds).all (· ≤ reachBytes) = true) (htj : ts[j]? = some t) (hdj : ds[j]? = some d) :
    ∃ (A : Option Addr) (c : Nat) (l : List Int), v = .slice A l.length c ∧ l.length ≤ c ∧ Rd w A (i64s l) ∧ W64 l ∧ l.length * 8 ≤ 140737488351232 ∧ c ≤ maxLen ∧ l.length ≤ Rows.uptoBulk d := by
  obtain ⟨a0, len, cap, rfl⟩ := okWide_slice ht hval
  obtain ⟨fuel, hf⟩ := hd
  rcases open_ints ht he hc hf with ⟨hcs, _⟩ | ⟨x, l, c, zs, hcs, _, hl, hm, hz, hx, hcell, hwz⟩
  · simp [Value.cells] at hcs
    obtain ⟨rfl, rfl, rfl⟩ := hcs
    exact ⟨none, 0, [], rfl, Nat.le_refl _, Rd.nil_ _ _, fun b hb => by simp at hb, by simp, by simp, by simp⟩
  · simp [Value.cells] at hcs
    obtain ⟨rfl, rfl, rfl⟩ := hcs
    simp only [Prod.mk.injEq] at hx
    obtain ⟨rfl, rfl⟩ := hx
    have hlz : len ≤ zs.length := by rw [hz]; split <;> omega
    have hs := sized_slice hsz htj hdj ht
    rw [hb] at hs
    simp only [lits, List.length_map, List.length_take, List.length_drop, reachBytes] at hs
    refine ⟨some x, cap, zs.take len, ?_, ?_, ?_, ?_, ?_, hm, ?_⟩
    · congr 1; simp; omega
    · simp; omega
    · intro hne
      have hpos : 0 < len := by
        rcases Nat.eq_zero_or_pos len with h0 | h0
        · subst h0; simp [i64s] at hne
        · exact h0
      obtain ⟨g, off, spot⟩ := x
      have hc0 := hcell 0 (by omega)
      have hspot : spot = none := by simpa [Addr.add] using World.cell?_spot hc0
      subst hspot
      refine ⟨g, off, rfl, ?_, ?_⟩
      · have := World.block_lt_of_cell? w _ hc0
        simpa [Addr.add] using this
      · intro k u hu
        rw [i64s_get] at hu
        obtain ⟨z, hz1, rfl⟩ := Option.map_eq_some_iff.1 hu
        rw [List.getElem?_take] at hz1
        split at hz1
        · have hk : k < zs.length := (List.getElem?_eq_some_iff.1 hz1).1
          have := hcell k hk
          rw [show (⟨g, off, none⟩ : Addr).add k = ⟨g, off + k, none⟩ from by unfold Addr.add; split <;> simp_all] at this
          rw [this]
          have hzz : zs.getD k 0 = z := by simp [List.getD, hz1]
          rw [hzz]
        · cases hz1
    · intro b hb1
      exact int_of_wf_i64 (hwz b (List.mem_of_mem_take hb1))
    · simp; omega
    · have h1 := bulk_len (H := H) (lits .i64 (zs.take len))
      have h2 : (lits (H := H) .i64 (zs.take len)).length = len := by simp [lits]; omega
      have h3 : (zs.take len).length = len := by simp; omega
      simp only [Rows.uptoBulk]
      omega
end

section
variable {H : Type} {enc : TypeId × Value → H} {P : Program} {w : World} {base : Nat} {spare : Nat → Bool} {held : Bool}
theorem open_slice_fields {t e : TypeId} {fs : Array Field} {fuel : Nat} {cs : List Value} {x : DataW H × List MemPlace} (ht : P.underlying t = some (.slice e)) (he : P.underlying e = some (.struct fs))
    (hone : oneCellFields P fs = true) (hC : P.cellsOf e = fs.size) (h : DataW.trod enc P w base spare held fuel t cs = some x) :
    (cs = [.slice none 0 0] ∧ x = (.nil, [])) ∨
    ∃ (a : Addr) (len cap m : Nat) (D : Nat → DataW H) (Pl : Nat → List MemPlace), cs = [.slice (some a) len cap] ∧ base ≤ a.block ∧ len ≤ cap ∧ cap ≤ maxLen ∧ m = (if spare a.block then cap else len) ∧
      x = (.slice ((List.range len).map D) ((List.range (m - len)).map fun j => D (len + j)), MemPlace.row a (m * fs.size) ++ (List.range m).flatMap Pl) ∧
      ∀ i, i < m → ∃ (ys : List (DataW H × List MemPlace)) (n : Nat), D i = .agg (ys.map (·.1)) ∧ Pl i = ys.flatMap (·.2) ∧ ys.length = fs.size ∧
        ∀ (j : Nat) (f : Field), fs[j]? = some f → ∃ (v : Value) (y : DataW H × List MemPlace), w.cell? (a.add (i * fs.size + j)) = some v ∧ ys[j]? = some y ∧ DataW.trod enc P w base spare held n f.type [v] = some y := by
  rcases open_slice ht h with h0 | ⟨a, len, cap, m, n, D, Pl, hcs, hb, hl, hm, hmm, hx, hi⟩
  · exact .inl h0
  · refine .inr ⟨a, len, cap, m, D, Pl, hcs, hb, hl, hm, hmm, by rw [hC] at hx; exact hx, fun i him => ?_⟩
    obtain ⟨cs', hc, ht'⟩ := hi i him
    rw [hC] at hc
    obtain ⟨ys, n', hn', hy, hlen, hyl, hf⟩ := DataW.trod_struct he ht'
    obtain ⟨_, hcl, hat⟩ := World.cells?_some hc
    simp only [Prod.mk.injEq] at hy
    refine ⟨ys, n', hy.1, hy.2, hyl, fun j f hj => ?_⟩
    obtain ⟨ho, hk⟩ := hone_of hone j f hj
    have hjl : j < fs.size := (Array.getElem?_eq_some_iff.1 hj).1
    have hcell := hat j hjl
    have hv : cs'[j]? = some (cs'[j]'(by omega)) := List.getElem?_eq_getElem (by omega)
    have h1 := hf j f hj
    rw [ho, hk] at h1
    have hone' : (cs'.drop j).take 1 = [cs'[j]'(by omega)] := by
      rw [List.drop_eq_getElem_cons (by omega)]
      rfl
    rw [hone'] at h1
    have hys : ys[j]? = some (ys[j]'(by omega)) := List.getElem?_eq_getElem (by omega)
    refine ⟨_, _, ?_, hys, h1.trans hys⟩
    rw [← Go.Deep.add_add, hcell, hv]
end


section
variable {H : Type} {enc : TypeId × Value → H} {w : World} {base : Nat} {spare : Nat → Bool} {held : Bool}

/-- A list of pairs, cell by cell: number k's parts lie at 2 k and 2 k + 1. -/
def RdP (w : World) (A : Option Addr) (l : List (Int × Int)) : Prop :=
  l ≠ [] → ∃ g off, A = some ⟨g, off, none⟩ ∧ g < w.heap.size ∧ ∀ k x y, l[k]? = some (x, y) → w.cell? ⟨g, off + k * 2, none⟩ = some (.int .i64 x) ∧ w.cell? ⟨g, off + k * 2 + 1, none⟩ = some (.int .i64 y)
theorem RdP.below {w w' : World} {A : Option Addr} {l : List (Int × Int)} (h : RdP w A l) (hb : Below w.heap.size w w') : RdP w' A l := by
  intro hn
  obtain ⟨g, off, e, hg, hc⟩ := h hn
  exact ⟨g, off, e, Nat.lt_of_lt_of_le hg hb.size, fun k x y hu => ⟨(hb.cell (p := ⟨g, off + k * 2, none⟩) hg).trans (hc k x y hu).1, (hb.cell (p := ⟨g, off + k * 2 + 1, none⟩) hg).trans (hc k x y hu).2⟩⟩

/-- A slice of structs of two int64 that came in. -/
theorem open_pairs {P : Program} {t e k : TypeId} {f0 f1 : Field} {r : Reach} {b0 : Nat} {v : Value} {d : DataW H} {ps : List MemPlace} {ts : List TypeId} {ds : List (DataW H)} {j : Nat}
    (ht : P.underlying t = some (.slice e)) (he : P.underlying e = some (.struct #[f0, f1])) (hf0 : f0.type = k) (hf1 : f1.type = k) (hk : P.underlying k = some (.int .i64)) (hone : oneCellFields P #[f0, f1] = true) (hC : P.cellsOf e = 2) (hb : P.bytesOf e = 16)
    (hval : Value.okWide P w r b0 t v) (hd : DataW.Trod enc P w base spare held t v d ps)
    (hsz : (DataW.weightsEach P ts ds).all (· ≤ reachBytes) = true) (htj : ts[j]? = some t) (hdj : ds[j]? = some d) :
    ∃ (A : Option Addr) (c : Nat) (l : List (Int × Int)), v = .slice A l.length c ∧ l.length ≤ c ∧ RdP w A l ∧ (∀ x ∈ l, (-9223372036854775808 ≤ x.1 ∧ x.1 ≤ 9223372036854775807) ∧ -9223372036854775808 ≤ x.2 ∧ x.2 ≤ 9223372036854775807) ∧ l.length * 16 ≤ 140737488351232 := by
  obtain ⟨a0, len, cap, rfl⟩ := okWide_slice ht hval
  obtain ⟨fuel, hf⟩ := hd
  rcases open_slice_fields ht he hone hC hf with ⟨hcs, _⟩ | ⟨a, len', cap', m, D, Pl, hcs, hba, hl, hm, hmm, hx, hi⟩
  · simp [Value.cells] at hcs
    obtain ⟨rfl, rfl, rfl⟩ := hcs
    exact ⟨none, 0, [], rfl, Nat.le_refl _, fun h => absurd rfl h, fun b hb => by simp at hb, by simp⟩
  · simp [Value.cells] at hcs
    obtain ⟨rfl, rfl, rfl⟩ := hcs
    simp only [Prod.mk.injEq] at hx
    obtain ⟨rfl, rfl⟩ := hx
    have hlz : len ≤ m := by rw [hmm]; split <;> omega
    have hs := sized_slice hsz htj hdj ht
    rw [hb] at hs
    simp only [List.length_map, List.length_range, reachBytes] at hs
    have hcell : ∀ i, i < m → ∃ x y : Int, w.cell? (a.add (i * 2)) = some (.int .i64 x) ∧ w.cell? (a.add (i * 2 + 1)) = some (.int .i64 y) ∧ (Lit.int .i64 x).wf = true ∧ (Lit.int .i64 y).wf = true := by
      intro i hi'
      obtain ⟨ys, n, _, _, _, hfl⟩ := hi i hi'
      obtain ⟨v0, y0, h1, _, h2⟩ := hfl 0 f0 rfl
      obtain ⟨v1, y1, h3, _, h4⟩ := hfl 1 f1 rfl
      rw [hf0] at h2
      rw [hf1] at h4
      obtain ⟨p0, q1, _, q2⟩ := DataW.trod_int hk h2
      obtain ⟨p1, q3, _, q4⟩ := DataW.trod_int hk h4
      simp only [List.cons.injEq, and_true] at q1 q3
      subst q1 q3
      exact ⟨p0, p1, by simpa using h1, by simpa using h3, q2, q4⟩
    have hch : ∀ i : Nat, ∃ p : Int × Int, i < m → w.cell? (a.add (i * 2)) = some (.int .i64 p.1) ∧ w.cell? (a.add (i * 2 + 1)) = some (.int .i64 p.2) ∧ (Lit.int .i64 p.1).wf = true ∧ (Lit.int .i64 p.2).wf = true := by
      intro i
      by_cases h : i < m
      · obtain ⟨x, y, h1⟩ := hcell i h
        exact ⟨(x, y), fun _ => h1⟩
      · exact ⟨(0, 0), fun h' => absurd h' h⟩
    obtain ⟨F, hF⟩ := Classical.axiomOfChoice hch
    refine ⟨some a, cap, (List.range len).map F, ?_, ?_, ?_, ?_, ?_⟩
    · simp
    · simpa using hl
    · intro hne
      have hpos : 0 < len := by
        rcases Nat.eq_zero_or_pos len with h0 | h0
        · subst h0; simp at hne
        · exact h0
      obtain ⟨g, off, spot⟩ := a
      have hc0 := (hF 0 (by omega)).1
      have hspot : spot = none := by simpa [Addr.add] using World.cell?_spot hc0
      subst hspot
      have hadd : ∀ k, (⟨g, off, none⟩ : Addr).add k = ⟨g, off + k, none⟩ := fun k => by unfold Addr.add; split <;> simp_all
      refine ⟨g, off, rfl, ?_, ?_⟩
      · have := World.block_lt_of_cell? w _ hc0
        rw [hadd] at this
        exact this
      · intro q x y hu
        rw [List.getElem?_map] at hu
        obtain ⟨z, hz1, hz2⟩ := Option.map_eq_some_iff.1 hu
        obtain ⟨hq, hz3⟩ := List.getElem?_eq_some_iff.1 hz1
        simp only [List.getElem_range] at hz3
        subst hz3
        have hq' : q < m := by simp at hq; omega
        have := hF q hq'
        rw [hz2, hadd, hadd] at this
        exact ⟨this.1, by rw [Nat.add_assoc]; exact this.2.1⟩
    · intro x hx
      obtain ⟨i, hi1, rfl⟩ := List.mem_map.1 hx
      have hq' : i < m := by simp at hi1; omega
      have := hF i hq'
      exact ⟨int_of_wf_i64 this.2.2.1, int_of_wf_i64 this.2.2.2⟩
    · simp; omega
end
end Go.Proofs.Ythcmkjiemlfpcaa
