/- Permutations of 7 and of 8 numbers are sorted by 6 and by 7 passes: all of them are looked through. No program text. Conditions: none. -/
import Derived.Test.YtognbiodplodhaaUng
namespace Go.Proofs.Ytognbiodplodhaa
open Go.RowKit

theorem ung1 : allP (timesN 0) 1 1 [] = true := by decide +kernel
theorem ung2 : allP (timesN 1) 2 1 [] = true := by decide +kernel
theorem ung3 : allP (timesN 2) 3 1 [] = true := by decide +kernel
theorem ung4 : allP (timesN 3) 4 1 [] = true := by decide +kernel
theorem ung5 : allP (timesN 4) 5 1 [] = true := by decide +kernel
theorem ung6 : allP (timesN 5) 6 1 [] = true := by decide +kernel
theorem ung7 : allP (timesN 6) 7 1 [] = true := by decide +kernel
theorem u123 : allP (timesN 7) 5 4 [1, 2, 3] = true := by decide +kernel
theorem u132 : allP (timesN 7) 5 4 [1, 3, 2] = true := by decide +kernel
theorem u312 : allP (timesN 7) 5 4 [3, 1, 2] = true := by decide +kernel
theorem u213 : allP (timesN 7) 5 4 [2, 1, 3] = true := by decide +kernel
theorem u231 : allP (timesN 7) 5 4 [2, 3, 1] = true := by decide +kernel
theorem u321 : allP (timesN 7) 5 4 [3, 2, 1] = true := by decide +kernel
theorem ung8 : allP (timesN 7) 8 1 [] = true := allP_3 5 u123 u132 u312 u213 u231 u321
theorem pop_most {p : List Int} (hp : IsP p) (h8 : p.length ≤ 8) (h0 : 0 < p.length) : tms popL p ≤ p.length - 1 := by
  have e := zs_of (fun x hx => (hp.1 x hx).1)
  have key : ∀ k, allP (timesN k) (k + 1) 1 [] = true → p.length = k + 1 → tms popL p ≤ p.length - 1 := by
    intro k h hl
    have h1 := all_perms h hp hl
    have hp2 := hp
    rw [e] at hp2
    have := times_tms k _ hp2 h1
    rw [← e] at this
    omega
  rcases (show p.length = 1 ∨ p.length = 2 ∨ p.length = 3 ∨ p.length = 4 ∨ p.length = 5 ∨ p.length = 6 ∨ p.length = 7 ∨ p.length = 8 by omega) with h | h | h | h | h | h | h | h
  · exact key 0 ung1 h
  · exact key 1 ung2 h
  · exact key 2 ung3 h
  · exact key 3 ung4 h
  · exact key 4 ung5 h
  · exact key 5 ung6 h
  · exact key 6 ung7 h
  · exact key 7 ung8 h
end Go.Proofs.Ytognbiodplodhaa
