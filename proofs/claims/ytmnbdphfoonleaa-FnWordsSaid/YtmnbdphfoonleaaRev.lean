/- Contracts of slices.Reverse and of the two reversals of a list. Conditions: lengths below a bound. -/
import Derived.Test.YtmnbdphfoonleaaBase2
namespace Go.Proofs.Ytmnbdphfoonleaa
open Go.RowKit


end Go.Proofs.Ytmnbdphfoonleaa
