/- Contracts of slices.Reverse and of the two reversals of a list. Conditions: lengths below a bound. -/
import Derived.Test.YtapcnhbgoolcgaaBase2
namespace Go.Proofs.Ytapcnhbgoolcgaa
open Go.RowKit


end Go.Proofs.Ytapcnhbgoolcgaa
