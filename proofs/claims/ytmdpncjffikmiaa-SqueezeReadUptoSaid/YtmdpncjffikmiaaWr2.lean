/- Writers: the other calls. -/
import Derived.Test.YtmdpncjffikmiaaWr
import Derived.Test.YtmdpncjffikmiaaFixed
namespace Go.Proofs.Ytmdpncjffikmiaa
open Go Go.RowKit
set_option linter.unusedVariables false

theorem zig_nat (s : Int) (h : -9223372036854775808 ≤ s ∧ s ≤ 9223372036854775807) : Uv.zig s = (((Uv.zig s).toNat : Nat) : Int) ∧ (Uv.zig s).toNat < 18446744073709551616 := by
  have := zig_range s h
  omega


end Go.Proofs.Ytmdpncjffikmiaa
