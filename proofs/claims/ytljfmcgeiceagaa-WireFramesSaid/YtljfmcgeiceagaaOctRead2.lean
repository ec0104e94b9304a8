/- chronicleref1.ReadUvarint, the reference's reading of a short number; zigzag, four times. -/
import Derived.Test.YtljfmcgeiceagaaApp8
import Derived.Test.YtljfmcgeiceagaaUv
namespace Go.Proofs.Ytljfmcgeiceagaa
open Go Go.RowKit

end Go.Proofs.Ytljfmcgeiceagaa
