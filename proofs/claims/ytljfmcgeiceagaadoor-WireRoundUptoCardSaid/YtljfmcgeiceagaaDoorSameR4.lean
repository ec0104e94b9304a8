/- chroniclelaw1.same: two slices of bytes, held against each other. -/
import Derived.Test.YtljfmcgeiceagaaDoorF1
namespace Go.Proofs.YtljfmcgeiceagaaDoor
open Go Go.RowKit

def r4sameB (xs ys : List Nat) : Bool := decide (xs = ys)

/-- The call reads alone. -/
def r4Looks (w w' : World) (e : Ending) (v : Value) : Prop := e = .returned v ∧ ∃ n, w' = w.drewN n

end Go.Proofs.YtljfmcgeiceagaaDoor
