/- A response handed in by value, opened: its texts' lengths too. -/
import Derived.Test.YtljfmcgeiceagaaGreatOpenRp
namespace Go.Proofs.YtljfmcgeiceagaaGreat
open Go Go.RowKit Go.ChangeShapes Go.WideShapes Go.ChangeAt Go.Deep
set_option linter.unusedVariables false
set_option linter.unusedSimpArgs false

theorem bulk_part {H : Type} {d : DataW H} {l : List (DataW H)} (h : d ∈ l) : Rows.uptoBulk d ≤ Rows.uptoBulkAll l := by
  induction l with
  | nil => cases h
  | cons x r ih =>
    simp only [Rows.uptoBulkAll]
    cases List.mem_cons.1 h with
    | inl e => subst e; omega
    | inr e => have := ih e; omega
section
variable {H : Type} {enc : TypeId × Value → H} {w : World} {base : Nat} {spare : Nat → Bool} {held : Bool}
set_option maxRecDepth 100000 in
theorem open_recsB {fuel : Nat} {c : Value} {x : DataW H × List MemPlace} (hf : DataW.trod enc Tryz.prog w base spare held fuel 23 [c] = some x) :
    ∃ (A : Option Addr) (cap : Nat) (l : List Rc), c = .slice A l.length cap ∧ l.length ≤ cap ∧ Rd w A (rcCells l) ∧ l.length ≤ Rows.uptoBulk x.1 ∧ (∀ y ∈ l, y.val.size ≤ Rows.uptoBulk x.1) := by
  have ht := Tryz.underlying23
  have he := Tryz.underlying43
  have hC : Tryz.prog.cellsOf 43 = 7 := by kernel_rfl
  rcases open_slice_fields ht he (by kernel_rfl) (by kernel_rfl) hf with ⟨hcs, _⟩ | ⟨a, len, cap, m, D, Pl, hcs, hba, hl, hm, hmm, hx, hi⟩
  · simp at hcs
    subst hcs
    exact ⟨none, 0, [], rfl, Nat.le_refl _, Rd.nil_ _ _, by simp, fun y hy => by cases hy⟩
  · simp at hcs
    subst hcs hx
    have hlz : len ≤ m := by rw [hmm]; split <;> omega
    have hcell : ∀ i, i < m → ∃ x : Rc, (∀ q v, x.cells[q]? = some v → w.cell? (a.add (i * 7 + q)) = some v) ∧ (i < len → x.val.size ≤ Rows.uptoBulkAll ((List.range len).map D)) := by
      intro i hi'
      obtain ⟨ys, n, hD, _, _, hfl⟩ := hi i hi'
      obtain ⟨v0, y0, g0, _, h0⟩ := hfl 0 _ rfl
      obtain ⟨v1, y1, g1, _, h1⟩ := hfl 1 _ rfl
      obtain ⟨v2, y2, g2, _, h2⟩ := hfl 2 _ rfl
      obtain ⟨v3, y3, g3, _, h3⟩ := hfl 3 _ rfl
      obtain ⟨v4, y4, g4, _, h4⟩ := hfl 4 _ rfl
      obtain ⟨v5, y5, g5, _, h5⟩ := hfl 5 _ rfl
      obtain ⟨v6, y6, g6, hy6, h6⟩ := hfl 6 _ rfl
      obtain ⟨k0, rfl, r0⟩ := field_int64 Tryz.underlying3 rfl h0
      obtain ⟨k1, rfl, r1⟩ := field_int64 Tryz.underlying2 rfl h1
      obtain ⟨k2, rfl, r2⟩ := field_int64 Tryz.underlying2 rfl h2
      obtain ⟨k3, rfl, r3⟩ := field_int64 Tryz.underlying2 rfl h3
      obtain ⟨k4, rfl, r4⟩ := field_int64 Tryz.underlying2 rfl h4
      obtain ⟨k5, q5, q55, _⟩ := DataW.trod_string Tryz.underlying9 h5
      obtain ⟨k6, q6, q66, _⟩ := DataW.trod_string Tryz.underlying9 h6
      simp only [List.cons.injEq, and_true] at q5 q6
      subst q5 q6
      refine ⟨⟨k0, k1, k2, k3, k4, k5, k6⟩, ?_, ?_⟩
      rotate_left
      · intro hil
        have hmem : DataW.agg (ys.map (·.1)) ∈ (List.range len).map D := List.mem_map.2 ⟨i, by simpa using hil, hD⟩
        have hq : (ys.map (·.1))[6]? = some (DataW.lit (.string k6.data.toList)) := by rw [List.getElem?_map, hy6, q66]; rfl
        have h1 := bulk_part hmem
        have h2 := bulk_part (List.mem_of_getElem? hq)
        have e9 : k6.data.toList.length = k6.size := Array.length_toList
        simp only [Rows.uptoBulk] at h1 h2
        simp only
        omega
      intro q v hq
      have hq7 : q < 7 := (List.getElem?_eq_some_iff.1 hq).1
      rcases q with _ | _ | _ | _ | _ | _ | _ | q
      · injection hq with hq; subst hq; exact g0
      · injection hq with hq; subst hq; exact g1
      · injection hq with hq; subst hq; exact g2
      · injection hq with hq; subst hq; exact g3
      · injection hq with hq; subst hq; exact g4
      · injection hq with hq; subst hq; exact g5
      · injection hq with hq; subst hq; exact g6
      · omega
    have hch : ∀ i : Nat, ∃ x : Rc, i < m → (∀ q v, x.cells[q]? = some v → w.cell? (a.add (i * 7 + q)) = some v) ∧ (i < len → x.val.size ≤ Rows.uptoBulkAll ((List.range len).map D)) := by
      intro i
      by_cases h : i < m
      · obtain ⟨x, h1⟩ := hcell i h
        exact ⟨x, fun _ => h1⟩
      · exact ⟨⟨0, 0, 0, 0, 0, ⟨#[]⟩, ⟨#[]⟩⟩, fun h' => absurd h' h⟩
    obtain ⟨F, hF⟩ := Classical.axiomOfChoice hch
    refine ⟨some a, cap, (List.range len).map F, by simp, by simpa using hl, ?_, ?_, ?_⟩
    · intro hne
      have hpos : 0 < len := by
        rcases Nat.eq_zero_or_pos len with h0 | h0
        · subst h0; simp [rcCells] at hne
        · exact h0
      obtain ⟨g, off, spot⟩ := a
      have hc0 := (hF 0 (by omega)).1 0 _ rfl
      have hspot : spot = none := by simpa [Addr.add] using World.cell?_spot hc0
      subst hspot
      have hadd : ∀ k, (⟨g, off, none⟩ : Addr).add k = ⟨g, off + k, none⟩ := fun k => by unfold Addr.add; split <;> simp_all
      refine rd_recs (l := (List.range len).map F) ?_ ?_ hne
      · have := World.block_lt_of_cell? w _ hc0
        rw [hadd] at this
        exact this
      · intro k x hx j v hv
        rw [List.getElem?_map] at hx
        obtain ⟨z, hz1, hz2⟩ := Option.map_eq_some_iff.1 hx
        obtain ⟨hq, hz3⟩ := List.getElem?_eq_some_iff.1 hz1
        simp only [List.getElem_range] at hz3
        subst hz3
        have hq' : k < m := by simp at hq; omega
        have := (hF k hq').1
        rw [hz2] at this
        rw [← hadd]
        exact this j v hv
    · have h1 := bulk_len (H := H) ((List.range len).map D)
      simp only [Rows.uptoBulk, List.length_map, List.length_range] at h1 ⊢
      omega
    · intro y hy
      obtain ⟨i, hi1, rfl⟩ := List.mem_map.1 hy
      have hil : i < len := by simpa using hi1
      have h1 := (hF i (by omega)).2 hil
      simp only [Rows.uptoBulk]
      omega
set_option maxRecDepth 100000 in
theorem open_strsB {fuel : Nat} {c : Value} {x : DataW H × List MemPlace} (hf : DataW.trod enc Tryz.prog w base spare held fuel 24 [c] = some x) :
    ∃ (A : Option Addr) (cap : Nat) (l : List ByteArray), c = .slice A l.length cap ∧ l.length ≤ cap ∧ Rd w A (strs l) ∧ l.length ≤ Rows.uptoBulk x.1 ∧ (∀ s ∈ l, s.size ≤ Rows.uptoBulk x.1) := by
  rcases open_strs Tryz.underlying24 Tryz.underlying9 (by kernel_rfl) hf with ⟨hcs, _⟩ | ⟨a, len, cap, m, Sx, hcs, hba, hl, hm, hmm, hx, hi⟩
  · simp at hcs
    subst hcs
    exact ⟨none, 0, [], rfl, Nat.le_refl _, Rd.nil_ _ _, by simp, fun y hy => by cases hy⟩
  · simp at hcs
    subst hcs hx
    have hlz : len ≤ m := by rw [hmm]; split <;> omega
    refine ⟨some a, cap, (List.range len).map Sx, by simp, by simpa using hl, ?_, ?_, ?_⟩
    · intro hne
      have hpos : 0 < len := by
        rcases Nat.eq_zero_or_pos len with h0 | h0
        · subst h0; simp [strs] at hne
        · exact h0
      obtain ⟨g, off, spot⟩ := a
      have hc0 := (hi 0 (by omega)).1
      have hspot : spot = none := by simpa [Addr.add] using World.cell?_spot hc0
      subst hspot
      have hadd : ∀ k, (⟨g, off, none⟩ : Addr).add k = ⟨g, off + k, none⟩ := fun k => by unfold Addr.add; split <;> simp_all
      refine ⟨g, off, rfl, ?_, ?_⟩
      · have := World.block_lt_of_cell? w _ hc0
        rw [hadd] at this
        exact this
      · intro k v hv
        unfold strs at hv
        rw [List.map_map, List.getElem?_map] at hv
        obtain ⟨z, hz1, hz2⟩ := Option.map_eq_some_iff.1 hv
        obtain ⟨hq, hz3⟩ := List.getElem?_eq_some_iff.1 hz1
        simp only [List.getElem_range] at hz3
        subst hz3
        have hq' : k < m := by simp at hq; omega
        have := (hi k hq').1
        rw [hadd] at this
        rw [this, ← hz2]
        rfl
    · have h1 := bulk_len (H := H) ((List.range len).map fun i => DataW.lit (.string (Sx i).data.toList))
      simp only [Rows.uptoBulk, List.length_map, List.length_range] at h1 ⊢
      omega
    · intro s hs
      obtain ⟨i, hi1, rfl⟩ := List.mem_map.1 hs
      have hmem : (DataW.lit (.string (Sx i).data.toList) : DataW H) ∈ (List.range len).map fun i => DataW.lit (.string (Sx i).data.toList) := List.mem_map.2 ⟨i, hi1, rfl⟩
      have h1 := bulk_part hmem
      have e9 : (Sx i).data.toList.length = (Sx i).size := Array.length_toList
      simp only [Rows.uptoBulk] at h1 ⊢
      omega
set_option maxRecDepth 100000 in
theorem open_rpB {r : Reach} {b0 : Nat} {v : Value} {d : DataW H} {p : List MemPlace}
    (hv : Value.okWide Tryz.prog w r b0 26 v) (h : DataW.Trod enc Tryz.prog w base spare held 26 v d p) :
    ∃ (x : Rp) (AR AN : Option Addr) (cr cn : Nat), v = x.V (.slice AR x.recs.length cr) (.slice AN x.names.length cn) ∧ Rd w AN (strs x.names) ∧ Rd w AR (rcCells x.recs) ∧ x.Nm ∧ x.names.length + x.recs.length ≤ Rows.uptoBulk d ∧ (∀ s ∈ x.names, s.size ≤ Rows.uptoBulk d) ∧ (∀ r ∈ x.recs, r.val.size ≤ Rows.uptoBulk d) := by
  obtain ⟨cs, rfl, hsz⟩ := okWide_struct Tryz.underlying26 hv
  obtain ⟨c0, c1, c2, c3, c4, c5, c6, c7, rfl⟩ := array8 (hsz.trans (by kernel_rfl))
  obtain ⟨fuel, hf⟩ := h
  obtain ⟨xs, n, _, hd, hl, hlen, hfs⟩ := DataW.trod_struct Tryz.underlying26 hf
  match xs, hlen with
  | [y0, y1, y2, y3, y4, y5, y6, y7], _ =>
    have h0 := hfs 0 _ rfl
    have h1 := hfs 1 _ rfl
    have h2 := hfs 2 _ rfl
    have h3 := hfs 3 _ rfl
    have h4 := hfs 4 _ rfl
    have h5 := hfs 5 _ rfl
    have h6 := hfs 6 _ rfl
    have h7 := hfs 7 _ rfl
    simp only [Value.cells] at h0 h1 h2 h3 h4 h5 h6 h7
    obtain ⟨k0, rfl, r0⟩ := field_uint32 Tryz.underlying22 rfl h0
    obtain ⟨k1, rfl, r1⟩ := field_int64 Tryz.underlying3 rfl h1
    obtain ⟨k2, rfl, r2⟩ := field_int64 Tryz.underlying3 rfl h2
    obtain ⟨k3, rfl, r3⟩ := field_int64 Tryz.underlying2 rfl h3
    obtain ⟨k4, rfl, r4⟩ := field_int64 Tryz.underlying2 rfl h4
    obtain ⟨k5, rfl⟩ := field_bool Tryz.underlying4 rfl h5
    obtain ⟨AR, cr, lr, e6, _, rr, b6, z6⟩ := open_recsB h6
    obtain ⟨AN, cn, ln, e7, _, rn, b7, z7⟩ := open_strsB h7
    simp only [Prod.mk.injEq] at hd
    obtain ⟨rfl, _⟩ := hd
    subst e6 e7
    refine ⟨⟨k0, k1, k2, k3, k4, k5, ln, lr⟩, AR, AN, cr, cn, rfl, rn, rr, ⟨r0, r1, r2, r3, r4⟩, ?_, fun s hs => ?_, fun r hr => ?_⟩
    · simp only [Rows.uptoBulk, Rows.uptoBulkAll, List.map_cons, List.map_nil] at b6 b7 ⊢
      omega
    · have := z7 s hs
      simp only [Rows.uptoBulk, Rows.uptoBulkAll, List.map_cons, List.map_nil] at this ⊢
      omega
    · have := z6 r hr
      simp only [Rows.uptoBulk, Rows.uptoBulkAll, List.map_cons, List.map_nil] at this ⊢
      omega
end
end Go.Proofs.YtljfmcgeiceagaaGreat
