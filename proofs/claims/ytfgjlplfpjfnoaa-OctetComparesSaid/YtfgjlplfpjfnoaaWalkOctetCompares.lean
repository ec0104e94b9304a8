/- OctetCompares: its walk. -/
import Derived.Test.YtfgjlplfpjfnoaaOctAft2
namespace Go.Proofs.Ytfgjlplfpjfnoaa
open Go Go.RowKit
set_option linter.unusedVariables false

set_option maxHeartbeats 400000 in
set_option maxRecDepth 100000 in
theorem octetCompares_walk (a0 : ByteArray) (a1 : ByteArray) (w : World) (w0 : a0.size ≤ 140737488351232) (w1 : a1.size ≤ 140737488351232) :
    Calls Try.prog 6 #[.string a0, .string a1] w fun e w' => e = .returned (.bool true) ∧ Below w.heap.size w w' := by
  go_enter Try.func6, Try.ntmps6
  go_wp2_with fail
  refine (after_any a0 w w0).mono ?_
  rintro e w2 ⟨rfl, b2⟩
  go_wp2_with fail
  refine (rafter_any a0 w2 w0).mono ?_
  rintro e w3 ⟨rfl, b3⟩
  go_wp2_with fail
  refine (compare_any a0 a1 w3 (by omega) (by omega)).mono ?_
  rintro e w4 ⟨rfl, n4, rfl⟩
  go_wp2_with fail
  refine (rcompare_any a0 a1 _ (by omega) (by omega)).mono ?_
  rintro e w5 ⟨rfl, n5, rfl⟩
  go_wp2_with fail
  go_ret
  exact ⟨rfl, below_drewN (b2.trans (b3.mono b2.size)) _⟩
end Go.Proofs.Ytfgjlplfpjfnoaa
