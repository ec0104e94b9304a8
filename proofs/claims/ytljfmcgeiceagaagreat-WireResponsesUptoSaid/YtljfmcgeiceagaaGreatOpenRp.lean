/- A response handed in by value, opened. -/
import Derived.Test.YtljfmcgeiceagaaGreatD3
import Derived.Test.YtljfmcgeiceagaaGreatOpenRq
import Derived.Test.YtljfmcgeiceagaaGreatRsP
import Derived.Deep.Strs
namespace Go.Proofs.YtljfmcgeiceagaaGreat
open Go Go.RowKit Go.ChangeShapes Go.WideShapes Go.ChangeAt Go.Deep
set_option linter.unusedVariables false
set_option linter.unusedSimpArgs false

section
variable {H : Type} {enc : TypeId × Value → H} {w : World} {base : Nat} {spare : Nat → Bool} {held : Bool}
theorem array8 {α : Type} {cs : Array α} (h : cs.size = 8) : ∃ c0 c1 c2 c3 c4 c5 c6 c7, cs = #[c0, c1, c2, c3, c4, c5, c6, c7] := by
  obtain ⟨l⟩ := cs
  match l, h with
  | [c0, c1, c2, c3, c4, c5, c6, c7], _ => exact ⟨c0, c1, c2, c3, c4, c5, c6, c7, rfl⟩
theorem field_bool {n : Nat} {t : TypeId} (ht : Tryz.prog.underlying t = some .bool) {c : Value} {y : Option (DataW H × List MemPlace)} {x : DataW H × List MemPlace} (hy : y = some x)
    (h : DataW.trod enc Tryz.prog w base spare held n t [c] = y) : ∃ b, c = .bool b := by
  rw [hy] at h
  obtain ⟨b, h1, _⟩ := DataW.trod_bool ht h
  simp only [List.cons.injEq, and_true] at h1
  exact ⟨b, h1⟩
end
end Go.Proofs.YtljfmcgeiceagaaGreat
