/- Comparisons of equal lists, for the walks of the laws. Conditions: lengths below a bound. -/
import Derived.Test.YtognbiodplodhaaHarnSS
import Derived.Test.YtognbiodplodhaaOpen
namespace Go.Proofs.Ytognbiodplodhaa
open Go.RowKit
theorem eqIntS_same (v v2 : Value) (xs : List Int) (w : World) (h : SI w v xs) (h2 : SI w v2 xs) (hl : xs.length ≤ 1000000000) :
    Calls Try.prog 34 #[v, v2] w fun e w' => e = .returned (.bool true) ∧ Qt w w' :=
  (eqIntS_ok v v2 xs xs w h h2 hl).mono fun e w' ⟨h1, h2⟩ => ⟨by rw [h1]; simp, h2⟩
theorem eqIntSS_same (v v2 : Value) (xs : List (List Int)) (w : World) (h : SII w v xs) (h2 : SII w v2 xs) (hl : xs.length ≤ 1000000000) (hs : small xs) :
    Calls Try.prog 33 #[v, v2] w fun e w' => e = .returned (.bool true) ∧ Qt w w' :=
  (eqIntSS_ok v v2 xs xs w h h2 hl hs).mono fun e w' ⟨h1, h2⟩ => ⟨by rw [h1]; simp, h2⟩
end Go.Proofs.Ytognbiodplodhaa
