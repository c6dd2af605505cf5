/- Contracts of IsPalindromic, the program's and the reference's: a list equals its reverse. Conditions: a length below a bound. -/
import Derived.Test.YtcifngcmdiokpaaRev
namespace Go.Proofs.Ytcifngcmdiokpaa
open Go.RowKit
def palB (xs : List Int) : Bool := decide (xs = xs.reverse)
set_option maxHeartbeats 400000 in
theorem spec_IsPalindromic_ok (v : Value) (xs : List Int) (w : World) (h : SI w v xs) (hl : xs.length ≤ 1048576) (_hb : I64s xs) :
    Calls Try.prog 14 #[v] w fun e w' => e = .returned (.bool (palB xs)) ∧ Ext w w' := by
  go_enter Try.func14, Try.ntmps14
  go_wp2_with fail
  refine (l3Reverse_ok _ xs _ h (by omega)).mono ?_
  rintro e w1 ⟨v1, rfl, ho, he⟩
  go_wp2_with fail
  refine (l2Same_ok _ _ xs xs.reverse _ (h.ext he) ho.si (by omega)).mono ?_
  rintro e w2 ⟨rfl, hq⟩
  go_wp2_with fail
  go_ret
  exact ⟨rfl, he.trans hq.ext⟩
set_option maxHeartbeats 400000 in
theorem impl_IsPalindromic_ok (v : Value) (xs : List Int) (w : World) (h : SI w v xs) (hl : xs.length ≤ 1048576) (_hb : I64s xs) :
    Calls Try.prog 15 #[v] w fun e w' => e = .returned (.bool (palB xs)) ∧ Ext w w' := by
  go_enter Try.func15, Try.ntmps15
  go_wp2_with fail
  refine (impl_reverse_ok _ xs _ h (by omega)).mono ?_
  rintro e w1 ⟨v1, rfl, ho, he⟩
  go_wp2_with fail
  refine (slicesEqual_ok _ _ xs xs.reverse _ (h.ext he) ho.si (by omega)).mono ?_
  rintro e w2 ⟨rfl, hq⟩
  go_wp2_with fail
  go_ret
  exact ⟨rfl, he.trans hq.ext⟩
end Go.Proofs.Ytcifngcmdiokpaa
