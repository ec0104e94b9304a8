/- A bucket handed in by value, opened: six whole numbers. -/
import Derived.Test.YthcmkjiemlfpcaaOpen
namespace Go.Proofs.Ythcmkjiemlfpcaa
open Go Go.RowKit Go.ChangeShapes Go.WideShapes Go.ChangeAt
set_option linter.unusedVariables false

/-- A bucket's value. -/
def bkt (x0 x1 x2 x3 x4 x5 : Int) : Value := .agg #[.int .i64 x0, .int .i64 x1, .int .i64 x2, .int .i64 x3, .int .i64 x4, .int .i64 x5]
/-- In range. -/
def r64 (x : Int) : Prop := -9223372036854775808 ≤ x ∧ x ≤ 9223372036854775807

theorem array6 {α : Type} {cs : Array α} (h : cs.size = 6) : ∃ c0 c1 c2 c3 c4 c5, cs = #[c0, c1, c2, c3, c4, c5] := by
  obtain ⟨l⟩ := cs
  match l, h with
  | [c0, c1, c2, c3, c4, c5], _ => exact ⟨c0, c1, c2, c3, c4, c5, rfl⟩

theorem field_int {H : Type} {enc : TypeId × Value → H} {w : World} {base : Nat} {spare : Nat → Bool} {held : Bool} {n : Nat} {c : Value} {y : Option (DataW H × List MemPlace)} {x : DataW H × List MemPlace} (hy : y = some x)
    (h : DataW.trod enc Try.prog w base spare held n 2 [c] = y) : ∃ k, c = .int .i64 k ∧ r64 k := by
  rw [hy] at h
  obtain ⟨k, h1, _, h2⟩ := DataW.trod_int Try.underlying2 h
  simp only [List.cons.injEq, and_true] at h1
  exact ⟨k, h1, int_of_wf_i64 h2⟩

theorem open_bucket {H : Type} {enc : TypeId × Value → H} {w : World} {base : Nat} {spare : Nat → Bool} {held : Bool} {r : Reach} {b0 : Nat} {v : Value} {d : DataW H} {p : List MemPlace}
    (hv : Value.okWide Try.prog w r b0 23 v) (h : DataW.Trod enc Try.prog w base spare held 23 v d p) :
    ∃ x0 x1 x2 x3 x4 x5 : Int, v = bkt x0 x1 x2 x3 x4 x5 ∧ r64 x0 ∧ r64 x1 ∧ r64 x2 ∧ r64 x3 ∧ r64 x4 ∧ r64 x5 := by
  obtain ⟨cs, rfl, hsz⟩ := okWide_struct Try.underlying23 hv
  obtain ⟨c0, c1, c2, c3, c4, c5, rfl⟩ := array6 (hsz.trans (by kernel_rfl))
  obtain ⟨fuel, hf⟩ := h
  obtain ⟨xs, n, _, _, hl, hlen, hfs⟩ := DataW.trod_struct Try.underlying23 hf
  match xs, hlen with
  | [y0, y1, y2, y3, y4, y5], _ =>
    have h0 := hfs 0 _ rfl
    have h1 := hfs 1 _ rfl
    have h2 := hfs 2 _ rfl
    have h3 := hfs 3 _ rfl
    have h4 := hfs 4 _ rfl
    have h5 := hfs 5 _ rfl
    simp only [Value.cells] at h0 h1 h2 h3 h4 h5
    obtain ⟨k0, rfl, r0⟩ := field_int rfl h0
    obtain ⟨k1, rfl, r1⟩ := field_int rfl h1
    obtain ⟨k2, rfl, r2⟩ := field_int rfl h2
    obtain ⟨k3, rfl, r3⟩ := field_int rfl h3
    obtain ⟨k4, rfl, r4⟩ := field_int rfl h4
    obtain ⟨k5, rfl, r5⟩ := field_int rfl h5
    exact ⟨k0, k1, k2, k3, k4, k5, rfl, r0, r1, r2, r3, r4, r5⟩
end Go.Proofs.Ythcmkjiemlfpcaa
