/- chronicleref1.ReadUvarint, the reference's reading of a short number; zigzag, four times. -/
import Derived.Test.YtmdpncjffikmiaaApp8
import Derived.Test.YtmdpncjffikmiaaUv
namespace Go.Proofs.Ytmdpncjffikmiaa
open Go Go.RowKit

end Go.Proofs.Ytmdpncjffikmiaa
