/- Comparisons of equal lists, for the walks of the laws. Conditions: lengths below a bound. -/
import Derived.Test.YtcifngcmdiokpaaHarnSS
import Derived.Test.YtcifngcmdiokpaaOpen
namespace Go.Proofs.Ytcifngcmdiokpaa
open Go.RowKit
theorem eqIntS_same (v v2 : Value) (xs : List Int) (w : World) (h : SI w v xs) (h2 : SI w v2 xs) (hl : xs.length ≤ 1000000000) :
    Calls Try.prog 13 #[v, v2] w fun e w' => e = .returned (.bool true) ∧ Qt w w' :=
  (eqIntS_ok v v2 xs xs w h h2 hl).mono fun e w' ⟨h1, h2⟩ => ⟨by rw [h1]; simp, h2⟩
end Go.Proofs.Ytcifngcmdiokpaa
