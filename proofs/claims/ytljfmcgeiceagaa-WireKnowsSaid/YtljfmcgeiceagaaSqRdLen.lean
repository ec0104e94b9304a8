/- How many tokens Read tells at most. -/
import Derived.Test.YtljfmcgeiceagaaSqAns
import Derived.Test.YtljfmcgeiceagaaSqRdP
namespace Go.Proofs.Ytljfmcgeiceagaa
open Go Go.RowKit
theorem rd_len {b : List Nat} (hb : By b) (hl : b.length ≤ 140737488351232) : (rd b).1.length ≤ 100000000 := by
  rcases rd_code b with h | ⟨ts, h⟩
  · rw [h]; simp
  · obtain ⟨T, h1, _, _⟩ := wr_cases (wr_of_rd hb hl h)
    rw [h]
    have := fine_count h1
    simp only
    omega
end Go.Proofs.Ytljfmcgeiceagaa
