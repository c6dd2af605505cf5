/- Contracts of the laws' own helpers on slices of slices of ints: copy, compare, mark, hold, size. Conditions: lengths below a bound. -/
import Derived.Test.YtcifngcmdiokpaaHarn
namespace Go.Proofs.Ytcifngcmdiokpaa
open Go.RowKit

theorem SII.elim {w : World} {v : Value} {xss : List (List Int)} (h : SII w v xss) : ∃ a cap, v = .slice a xss.length cap ∧
    ∀ k, k < xss.length → ∃ b off, a = some ⟨b, off, none⟩ ∧ ∃ u, w.cell? ⟨b, off + k, none⟩ = some u ∧ SI w u (nthL xss k) := by
  obtain ⟨a, cap, h1, _, _, _, h5⟩ := h
  refine ⟨a, cap, h1, fun k hk => ?_⟩
  rcases h5 with rfl | ⟨b, off, h6, h7⟩
  · simp at hk
  · exact ⟨b, off, h6, h7 k hk⟩
def small (xss : List (List Int)) : Prop := ∀ xs ∈ xss, xs.length ≤ 10000000
theorem small.nth {xss : List (List Int)} (h : small xss) {k : Nat} (hk : k < xss.length) : (nthL xss k).length ≤ 10000000 := h _ (nthL_mem hk)

def eqToL (xs ys : List (List Int)) (k : Nat) : Prop := ∀ i, i < k → nthL xs i = nthL ys i
theorem eqToL_all {xs ys : List (List Int)} (h : eqToL xs ys xs.length) (hl : xs.length = ys.length) : xs = ys := by
  refine List.ext_getElem hl fun i h1 h2 => ?_
  have := h i h1
  rwa [nthL_get h1, nthL_get h2] at this
theorem eqToL_succ {xs ys : List (List Int)} {k : Nat} (h : eqToL xs ys k) (hk : nthL xs k = nthL ys k) : eqToL xs ys (k + 1) := fun i hi => by
  rcases Nat.lt_or_ge i k with h1 | h1
  · exact h i h1
  · obtain rfl : i = k := by omega
    exact hk
theorem ne_of_nthL {xs ys : List (List Int)} {k : Nat} (h : nthL xs k ≠ nthL ys k) : xs ≠ ys := fun e => h (by rw [e])


/-- how many numbers a list of lists holds, and its lists counted. -/
def sumTo (xss : List (List Int)) (j : Nat) : Nat := ((xss.take j).map List.length).sum
def sumLen (xss : List (List Int)) : Nat := (xss.map List.length).sum
theorem sumTo_succ {xss : List (List Int)} {j : Nat} (h : j < xss.length) : sumTo xss (j + 1) = sumTo xss j + (nthL xss j).length := by
  unfold sumTo; rw [take_nthL h]; simp
theorem sumTo_all (xss : List (List Int)) : sumTo xss xss.length = sumLen xss := by simp [sumTo, sumLen]
theorem sumTo_le (xss : List (List Int)) (j : Nat) : sumTo xss j ≤ sumLen xss := by
  unfold sumTo sumLen
  conv => rhs; rw [← List.take_append_drop j xss, List.map_append, List.sum_append]
  omega
theorem le_sumLen {xss : List (List Int)} {xs : List Int} (h : xs ∈ xss) : xs.length ≤ sumLen xss := by
  unfold sumLen
  induction xss with
  | nil => simp at h
  | cons y ys ih =>
    simp only [List.map_cons, List.sum_cons]
    rcases List.mem_cons.1 h with rfl | h
    · omega
    · have := ih h; omega


theorem Upd.own {v : Value} {B H : Nat} {w w' : World} (hu : Upd (fun b => v.ownBlock = some b) w w') (h : ∀ b, v.ownBlock = some b → B ≤ b ∧ b < H) : Upd (fun b => B ≤ b ∧ b < H) w w' := hu.mono (fun i _ hi => h i hi)


end Go.Proofs.Ytcifngcmdiokpaa
