/- A record handed in by value, opened. -/
import Derived.Test.YtjipebedibjoiaaF1
import Derived.Test.YtjipebedibjoiaaRecT
namespace Go.Proofs.Ytjipebedibjoiaa
open Go Go.RowKit Go.ChangeShapes Go.WideShapes Go.ChangeAt
set_option linter.unusedVariables false

theorem array7 {α : Type} {cs : Array α} (h : cs.size = 7) : ∃ c0 c1 c2 c3 c4 c5 c6, cs = #[c0, c1, c2, c3, c4, c5, c6] := by
  obtain ⟨l⟩ := cs
  match l, h with
  | [c0, c1, c2, c3, c4, c5, c6], _ => exact ⟨c0, c1, c2, c3, c4, c5, c6, rfl⟩
theorem field_int64 {H : Type} {enc : TypeId × Value → H} {w : World} {base : Nat} {spare : Nat → Bool} {held : Bool} {n : Nat} {t : TypeId} (ht : Try.prog.underlying t = some (.int .i64)) {c : Value} {y : Option (DataW H × List MemPlace)} {x : DataW H × List MemPlace} (hy : y = some x)
    (h : DataW.trod enc Try.prog w base spare held n t [c] = y) : ∃ k, c = .int .i64 k ∧ r64 k := by
  rw [hy] at h
  obtain ⟨k, h1, _, h2⟩ := DataW.trod_int ht h
  simp only [List.cons.injEq, and_true] at h1
  exact ⟨k, h1, int_of_wf_i64 h2⟩
theorem field_string {H : Type} {enc : TypeId × Value → H} {w : World} {base : Nat} {spare : Nat → Bool} {held : Bool} {n : Nat} {c : Value} {y : Option (DataW H × List MemPlace)} {x : DataW H × List MemPlace} (hy : y = some x)
    (h : DataW.trod enc Try.prog w base spare held n 9 [c] = y) : ∃ s, c = .string s := by
  rw [hy] at h
  obtain ⟨k, h1, _⟩ := DataW.trod_string Try.underlying9 h
  simp only [List.cons.injEq, and_true] at h1
  exact ⟨k, h1⟩
set_option maxRecDepth 100000 in
theorem open_rec {H : Type} {enc : TypeId × Value → H} {w : World} {base : Nat} {spare : Nat → Bool} {held : Bool} {r : Reach} {b0 : Nat} {v : Value} {d : DataW H} {p : List MemPlace}
    (hv : Value.okWide Try.prog w r b0 31 v) (h : DataW.Trod enc Try.prog w base spare held 31 v d p) :
    ∃ x : Rc, v = x.v ∧ r64 x.k ∧ r64 x.o ∧ r64 x.t ∧ r64 x.p ∧ r64 x.s := by
  obtain ⟨cs, rfl, hsz⟩ := okWide_struct Try.underlying31 hv
  obtain ⟨c0, c1, c2, c3, c4, c5, c6, rfl⟩ := array7 (hsz.trans (by kernel_rfl))
  obtain ⟨fuel, hf⟩ := h
  obtain ⟨xs, n, _, _, hl, hlen, hfs⟩ := DataW.trod_struct Try.underlying31 hf
  match xs, hlen with
  | [y0, y1, y2, y3, y4, y5, y6], _ =>
    have h0 := hfs 0 _ rfl
    have h1 := hfs 1 _ rfl
    have h2 := hfs 2 _ rfl
    have h3 := hfs 3 _ rfl
    have h4 := hfs 4 _ rfl
    have h5 := hfs 5 _ rfl
    have h6 := hfs 6 _ rfl
    simp only [Value.cells] at h0 h1 h2 h3 h4 h5 h6
    obtain ⟨k0, rfl, r0⟩ := field_int64 Try.underlying3 rfl h0
    obtain ⟨k1, rfl, r1⟩ := field_int64 Try.underlying2 rfl h1
    obtain ⟨k2, rfl, r2⟩ := field_int64 Try.underlying2 rfl h2
    obtain ⟨k3, rfl, r3⟩ := field_int64 Try.underlying2 rfl h3
    obtain ⟨k4, rfl, r4⟩ := field_int64 Try.underlying2 rfl h4
    obtain ⟨k5, rfl⟩ := field_string rfl h5
    obtain ⟨k6, rfl⟩ := field_string rfl h6
    exact ⟨⟨k0, k1, k2, k3, k4, k5, k6⟩, rfl, r0, r1, r2, r3, r4⟩
end Go.Proofs.Ytjipebedibjoiaa
