/- Below a permutation of at most 5 numbers each other one has fewer inversions: found by going through them. Conditions: at most 5 numbers. -/
import Derived.Test.YtmnbdphfoonleaaStr
import Derived.Test.YtmnbdphfoonleaaInv
import Derived.Test.YtmnbdphfoonleaaPermP
namespace Go.Proofs.Ytmnbdphfoonleaa

def chkR (n : Nat) : Bool := (permsL n).all fun p => (permsL n).all fun q => !sbelB q p || (decide (inv q < inv p) || decide (q = p))
theorem chk_all : ∀ n, n ≤ 5 → chkR n = true := by decide +kernel
end Go.Proofs.Ytmnbdphfoonleaa
