/- Contracts of PopPass, PopTimes and IsPopSorted, the program's and the reference's. Conditions: a length below a bound. -/
import Derived.Test.YtcifngcmdiokpaaPop
namespace Go.Proofs.Ytcifngcmdiokpaa
open Go.RowKit

def popOfL (xs : List Int) : List Int := bif isP8 xs then popL xs else []
def popSortedB (xs : List Int) : Bool := isP8 xs && srtB (popL xs)
theorem bound_PopPass (xs : List Int) (_h : xs.length ≤ 1048576) : (popOfL xs).length ≤ 1048576 := by
  unfold popOfL
  cases isP8 xs
  · simp
  · simp [popL_len]; omega

end Go.Proofs.Ytcifngcmdiokpaa
