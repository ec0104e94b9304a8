/- How arguments that are lists of steps, or of items (a whole number, a number of 64 bits, a text), are opened. -/
import Derived.Test.YtfgjlplfpjfnoaaOpenInts
import Derived.Test.YtfgjlplfpjfnoaaStep
namespace Go.Proofs.Ytfgjlplfpjfnoaa
open Go Go.RowKit Go.ChangeShapes Go.WideShapes Go.ChangeAt Go.Deep
set_option linter.unusedVariables false

/-- The row reads as these steps. -/
def RdS (w : World) (A : Option Addr) (l : List Stp) : Prop :=
  l ≠ [] → ∃ g off, A = some ⟨g, off, none⟩ ∧ g < w.heap.size ∧ ∀ k x, l[k]? = some x → w.cell? ⟨g, off + k * 3, none⟩ = some (.int .i64 x.k) ∧ w.cell? ⟨g, off + k * 3 + 1, none⟩ = some (.int .u64 (x.n : Int)) ∧ w.cell? ⟨g, off + k * 3 + 2, none⟩ = some (.string x.s)
theorem RdS.below {w w' : World} {A : Option Addr} {l : List Stp} (h : RdS w A l) (hb : Below w.heap.size w w') : RdS w' A l := by
  intro hn
  obtain ⟨g, off, e, hg, hc⟩ := h hn
  exact ⟨g, off, e, Nat.lt_of_lt_of_le hg hb.size, fun k x hu => ⟨(hb.cell (p := ⟨g, off + k * 3, none⟩) hg).trans (hc k x hu).1, (hb.cell (p := ⟨g, off + k * 3 + 1, none⟩) hg).trans (hc k x hu).2.1, (hb.cell (p := ⟨g, off + k * 3 + 2, none⟩) hg).trans (hc k x hu).2.2⟩⟩
theorem RdS.nil (w : World) (A : Option Addr) : RdS w A [] := fun h => absurd rfl h

theorem inWeightsAll {H : Type} {P : Program} {e : TypeId} : ∀ {l : List (DataW H)} {d : DataW H}, d ∈ l → ∀ n ∈ d.weights P e, n ∈ DataW.weightsAll P e l
  | d' :: r, d, hd, n, hn => by
    simp only [DataW.weightsAll, List.mem_append]
    rcases List.mem_cons.1 hd with rfl | h
    · exact Or.inl hn
    · exact Or.inr (inWeightsAll h n hn)

section
variable {H : Type} {enc : TypeId × Value → H} {w : World} {base : Nat} {spare : Nat → Bool} {held : Bool}

/-- A slice of them that came in. -/
theorem open_stps {P : Program} {t e t0 t1 t2 : TypeId} {f0 f1 f2 : Field} {r : Reach} {b0 : Nat} {v : Value} {d : DataW H} {ps : List MemPlace} {ts : List TypeId} {ds : List (DataW H)} {j : Nat}
    (ht : P.underlying t = some (.slice e)) (he : P.underlying e = some (.struct #[f0, f1, f2])) (hf0 : f0.type = t0) (hf1 : f1.type = t1) (hf2 : f2.type = t2)
    (hk0 : P.underlying t0 = some (.int .i64)) (hk1 : P.underlying t1 = some (.int .u64)) (hk2 : P.underlying t2 = some .string)
    (hone : oneCellFields P #[f0, f1, f2] = true) (hC : P.cellsOf e = 3) (hb : P.bytesOf e = 32)
    (hval : Value.okWide P w r b0 t v) (hd : DataW.Trod enc P w base spare held t v d ps)
    (hsz : (DataW.weightsEach P ts ds).all (· ≤ reachBytes) = true) (htj : ts[j]? = some t) (hdj : ds[j]? = some d) :
    ∃ (A : Option Addr) (c : Nat) (l : List Stp), v = .slice A l.length c ∧ l.length ≤ c ∧ RdS w A l ∧ (∀ x ∈ l, x.Ok) ∧ l.length * 32 ≤ 140737488351232 := by
  obtain ⟨a0, len, cap, rfl⟩ := okWide_slice ht hval
  obtain ⟨fuel, hf⟩ := hd
  rcases open_slice_fields ht he hone hC hf with ⟨hcs, _⟩ | ⟨a, len', cap', m, D, Pl, hcs, hba, hl, hm, hmm, hx, hi⟩
  · simp [Value.cells] at hcs
    obtain ⟨rfl, rfl, rfl⟩ := hcs
    exact ⟨none, 0, [], rfl, Nat.le_refl _, RdS.nil _ _, fun b hb => by simp at hb, by simp⟩
  · simp [Value.cells] at hcs
    obtain ⟨rfl, rfl, rfl⟩ := hcs
    simp only [Prod.mk.injEq] at hx
    obtain ⟨rfl, rfl⟩ := hx
    have hlz : len ≤ m := by rw [hmm]; split <;> omega
    have hs := sized_slice hsz htj hdj ht
    rw [hb] at hs
    simp only [List.length_map, List.length_range, reachBytes] at hs
    have hcell : ∀ i, i < m → ∃ x : Stp, w.cell? (a.add (i * 3)) = some (.int .i64 x.k) ∧ w.cell? (a.add (i * 3 + 1)) = some (.int .u64 (x.n : Int)) ∧ w.cell? (a.add (i * 3 + 2)) = some (.string x.s) ∧ (i < len → x.Ok) := by
      intro i hi'
      obtain ⟨ys, n, hD, _, _, hfl⟩ := hi i hi'
      obtain ⟨v0, y0, h1, _, h2⟩ := hfl 0 f0 rfl
      obtain ⟨v1, y1, h3, _, h4⟩ := hfl 1 f1 rfl
      obtain ⟨v2, y2, h5, hy2, h6⟩ := hfl 2 f2 rfl
      rw [hf0] at h2
      rw [hf1] at h4
      rw [hf2] at h6
      obtain ⟨p0, q1, _, q2⟩ := DataW.trod_int hk0 h2
      obtain ⟨p1, q3, _, q4⟩ := DataW.trod_int hk1 h4
      obtain ⟨s, q5, q6, q7⟩ := DataW.trod_string hk2 h6
      simp only [List.cons.injEq, and_true] at q1 q3 q5
      subst q1 q3 q5
      have w1 : 0 ≤ p1 ∧ p1 < 18446744073709551616 := by
        simp only [Lit.wf, Bool.and_eq_true, decide_eq_true_eq] at q4
        have e1 : IntKind.u64.min = 0 := by decide
        have e2 : IntKind.u64.max = 18446744073709551615 := by decide
        omega
      refine ⟨⟨p0, p1.toNat, s⟩, by simpa using h1, ?_, by simpa using h5, fun hil => ⟨int_of_wf_i64 q2, ?_, ?_⟩⟩
      · simp only [List.size_toArray, List.length_cons, List.length_nil] at h3
        rw [show ((p1.toNat : Nat) : Int) = p1 by omega]
        exact h3
      · simp only; omega
      · simp only
        have hmem : DataW.agg (ys.map (·.1)) ∈ (List.range len).map D := List.mem_map.2 ⟨i, by simpa using hil, hD⟩
        have hin : s.data.toList.length ∈ DataW.weightsEach P ts ds := by
          refine DataW.weights_mem_each htj hdj _ ?_
          simp only [DataW.weights, ht, List.mem_cons, List.mem_append]
          refine Or.inr (Or.inl (inWeightsAll hmem _ ?_))
          simp only [DataW.weights, he]
          refine DataW.weights_mem_each (j := 2) (t := f2.type) (d := .lit (.string s.data.toList)) (by simp) ?_ _ (by simp [DataW.weights])
          rw [List.getElem?_map, hy2, q6]
          rfl
        have h9 := of_decide_eq_true (List.all_eq_true.1 hsz _ hin)
        have e9 : s.data.toList.length = s.size := Array.length_toList
        have r9 : reachBytes = 140737488351232 := rfl
        omega
    have hch : ∀ i : Nat, ∃ x : Stp, i < m → w.cell? (a.add (i * 3)) = some (.int .i64 x.k) ∧ w.cell? (a.add (i * 3 + 1)) = some (.int .u64 (x.n : Int)) ∧ w.cell? (a.add (i * 3 + 2)) = some (.string x.s) ∧ (i < len → x.Ok) := by
      intro i
      by_cases h : i < m
      · obtain ⟨x, h1⟩ := hcell i h
        exact ⟨x, fun _ => h1⟩
      · exact ⟨⟨0, 0, ⟨#[]⟩⟩, fun h' => absurd h' h⟩
    obtain ⟨F, hF⟩ := Classical.axiomOfChoice hch
    refine ⟨some a, cap, (List.range len).map F, ?_, ?_, ?_, ?_, ?_⟩
    · simp
    · simpa using hl
    · intro hne
      have hpos : 0 < len := by
        rcases Nat.eq_zero_or_pos len with h0 | h0
        · subst h0; simp at hne
        · exact h0
      obtain ⟨g, off, spot⟩ := a
      have hc0 := (hF 0 (by omega)).1
      have hspot : spot = none := by simpa [Addr.add] using World.cell?_spot hc0
      subst hspot
      have hadd : ∀ k, (⟨g, off, none⟩ : Addr).add k = ⟨g, off + k, none⟩ := fun k => by unfold Addr.add; split <;> simp_all
      refine ⟨g, off, rfl, ?_, ?_⟩
      · have := World.block_lt_of_cell? w _ hc0
        rw [hadd] at this
        exact this
      · intro q x hu
        rw [List.getElem?_map] at hu
        obtain ⟨z, hz1, hz2⟩ := Option.map_eq_some_iff.1 hu
        obtain ⟨hq, hz3⟩ := List.getElem?_eq_some_iff.1 hz1
        simp only [List.getElem_range] at hz3
        subst hz3
        have hq' : q < m := by simp at hq; omega
        have := hF q hq'
        rw [hz2, hadd, hadd, hadd] at this
        exact ⟨this.1, by rw [Nat.add_assoc]; exact this.2.1, by rw [Nat.add_assoc]; exact this.2.2.1⟩
    · intro x hx
      obtain ⟨i, hi1, rfl⟩ := List.mem_map.1 hx
      have hi2 : i < len := by simpa using hi1
      exact (hF i (by omega)).2.2.2 hi2
    · simp; omega
end
end Go.Proofs.Ytfgjlplfpjfnoaa
