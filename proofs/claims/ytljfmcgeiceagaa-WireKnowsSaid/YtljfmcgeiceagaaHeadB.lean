/- Parts of rows; readers that have gone on. -/
import Derived.Test.YtljfmcgeiceagaaWrap
import Derived.Test.YtljfmcgeiceagaaRsBack
namespace Go.Proofs.Ytljfmcgeiceagaa
open Go Go.RowKit
set_option linter.unusedVariables false
set_option linter.unusedSimpArgs false

theorem rd_seg {w : World} {g off p k : Nat} {bs : List Nat} (h : Rd w (some ⟨g, off, none⟩) (b8 bs)) : Rd w (some ⟨g, off + p, none⟩) (b8 ((bs.drop p).take k)) := by
  intro hne
  have hb : b8 bs ≠ [] := by
    rintro e
    have : bs = [] := by simpa [b8] using e
    subst this
    simp [b8] at hne
  obtain ⟨g', off', e, hg, hc⟩ := h hb
  injection e with e
  injection e with e1 e2 e3
  subst e1 e2
  refine ⟨g, off + p, rfl, hg, fun j u hu => ?_⟩
  have hj : j < k := by
    have := (List.getElem?_eq_some_iff.1 hu).1
    simp [b8] at this
    omega
  have hu2 : (b8 bs)[p + j]? = some u := by
    rw [b8_get] at hu ⊢
    rw [List.getElem?_take, if_pos hj, List.getElem?_drop] at hu
    exact hu
  have := hc _ _ hu2
  rw [Nat.add_assoc]
  exact this
theorem rd_rest {w : World} {g off p : Nat} {bs : List Nat} (h : Rd w (some ⟨g, off, none⟩) (b8 bs)) : Rd w (some ⟨g, off + p, none⟩) (b8 (bs.drop p)) := by
  have := rd_seg (p := p) (k := bs.length) h
  rw [List.take_of_length_le (by simp)] at this
  exact this
theorem Rd.some_ {w : World} {A : Option Addr} {bs : List Nat} (h : Rd w A (b8 bs)) (hn : 0 < bs.length) : ∃ g off, A = some ⟨g, off, none⟩ ∧ g < w.heap.size ∧ w.cell? ⟨g, off, none⟩ = some (.int .u8 (bs.headD 0 : Nat)) := by
  obtain ⟨g, off, e, hg, hc⟩ := h (by rintro e; have : bs = [] := (by simpa [b8] using e); subst this; simp at hn)
  refine ⟨g, off, e, hg, ?_⟩
  cases bs with
  | nil => simp at hn
  | cons x r =>
    have := hc 0 (.int .u8 (x : Int)) (by simp [b8])
    simpa using this
theorem Turned.low {base : Nat} {W W' : World} {T : TypeId} {cf : Rs → Value → Array Value} {g : Nat} {v : Value} {s : Rs} (h : Turned base W T cf g v s W') (hb : base ≤ W.heap.size) : Below base W W' :=
  h.kept.below (fun q hq => by subst hq; exact h.rd.gb) hb
theorem take_all {seg : List Nat} {k : Nat} (h : seg.length = k) : ((⟨seg, 0, 0, 0⟩ : Rs).take (k : Int)).1 = seg := by
  simp [Rs.take, Rs.rest, h]
  rw [← h]
  simp
  rw [if_neg (by omega)]
end Go.Proofs.Ytljfmcgeiceagaa
