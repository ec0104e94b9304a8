/- The walk of SqueezeGreedy: long texts, short ones. -/
import Derived.Test.YtmdpncjffikmiaaSqGreedyL
import Derived.Test.YtmdpncjffikmiaaSqGreedyS
namespace Go.Proofs.Ytmdpncjffikmiaa
open Go Go.RowKit
theorem squeezeGreedy_walk (A0 : Option Addr) (c0 : Nat) (b0 : List Nat) (w : World) (c0l : b0.length ≤ c0) (r0 : Rd w A0 (b8 b0)) (y0 : By b0) (l0 : b0.length ≤ 140737488351232) :
    Calls Try.prog 6 #[.slice A0 b0.length c0] w fun e w' => e = .returned (.bool true) ∧ Below w.heap.size w w' := by
  by_cases h : 4096 < b0.length
  · exact squeezeGreedy_long A0 c0 b0 w c0l r0 y0 l0 h
  · exact squeezeGreedy_short A0 c0 b0 w c0l r0 y0 l0 h
end Go.Proofs.Ytmdpncjffikmiaa
