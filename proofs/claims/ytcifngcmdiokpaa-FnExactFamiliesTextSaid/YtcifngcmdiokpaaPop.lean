/- Contracts of the functions that find the longest descending parts and turn them round, the program's and the reference's. Conditions: a permutation of at most 1000 numbers. -/
import Derived.Test.YtcifngcmdiokpaaPopM
import Derived.Test.YtcifngcmdiokpaaHarnSS
import Derived.Deep.RegionWith
namespace Go.Proofs.Ytcifngcmdiokpaa
open Go.RowKit

theorem IsP.cut {xs : List Int} (h : IsP xs) {i : Nat} (hi : i + 1 < xs.length) : cutB xs i = decide (nth xs i < nth xs (i + 1)) := by
  have h2 : nth xs i ≠ nth xs (i + 1) := fun e => by have := h.inj (by omega) hi e; omega
  by_cases e : nth xs i < nth xs (i + 1)
  · rw [cutB_up (by omega), decide_eq_true e]
  · rw [cutB_down hi (by omega), decide_eq_false e]

theorem SI.seg {w : World} {b off cap : Nat} {xs : List Int} (hc : ∀ i, i < xs.length → w.cell? ⟨b, off + i, none⟩ = some (.int .i64 (nth xs i))) (k n : Nat) (hk : k + n ≤ xs.length) (h1 : xs.length ≤ cap) (h2 : cap ≤ maxLen) :
    SI w (.slice (some ⟨b, off + k, none⟩) n (cap - k)) ((xs.drop k).take n) := by
  have hl : ((xs.drop k).take n).length = n := by simp; omega
  refine ⟨_, cap - k, by rw [hl], by omega, by omega, by simp, .inr ⟨b, off + k, rfl, fun i hi => ?_⟩⟩
  rw [hl] at hi
  rw [nth_seg hi, Nat.add_assoc]
  exact hc (k + i) (by omega)
theorem scD (xs : List Int) (i : Nat) (h : cutB xs i = false) : scF xs (i + 1) = scF xs i ∧ scO xs (i + 1) = scO xs i := ⟨scF_f h, scO_f h⟩
end Go.Proofs.Ytcifngcmdiokpaa
