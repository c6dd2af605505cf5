/- Contracts of slices.Reverse and of the two reversals of a list. Conditions: lengths below a bound. -/
import Derived.Test.YtoieaphacnaohaaBase2
namespace Go.Proofs.Ytoieaphacnaohaa
open Go.RowKit


end Go.Proofs.Ytoieaphacnaohaa
