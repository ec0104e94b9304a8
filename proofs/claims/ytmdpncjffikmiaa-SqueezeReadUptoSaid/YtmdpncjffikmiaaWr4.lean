/- No writer: every call leaves all as it was. -/
import Derived.Test.YtmdpncjffikmiaaWr3
namespace Go.Proofs.Ytmdpncjffikmiaa
open Go Go.RowKit
set_option linter.unusedVariables false


set_option maxRecDepth 100000 in
theorem uvarintw_none (x : Nat) (w : World) (hx : x < 18446744073709551616) :
    Calls Try.prog 68 #[.pointer none, .int .u64 (x : Int)] w fun e w' => e = .returned (.tuple #[]) ∧ Below w.heap.size w w' := by
  go_enter Try.func68, Try.ntmps68
  go_wp2_with (first
    | (go_at_call 65; refine (uvarint_any x _ hx).mono ?_; rintro e w1 ⟨A, c, rfl, ho, hb1⟩; clear ho)
    | (go_at_call 69; refine (raw_none _ _ _ _).mono ?_; rintro e w9 ⟨rfl, rfl⟩))
  go_end0
  exact ⟨rfl, hb1⟩


theorem bytes_none (w : World) : Calls Try.prog 70 #[.pointer none] w fun e w' => e = .returned (.slice none 0 0) ∧ w = w' := by
  go_enter Try.func70, Try.ntmps70
  go_wp2
  go_ret
  exact ⟨rfl, rfl⟩


end Go.Proofs.Ytmdpncjffikmiaa
