/- A permutation has each of its numbers. No program text. Conditions: none. -/
import Derived.Test.YtcifngcmdiokpaaBase
namespace Go.Proofs.Ytcifngcmdiokpaa
open Go.RowKit

theorem nodup_len : ∀ (m : Nat) (xs : List Int), xs.Nodup → (∀ x ∈ xs, 1 ≤ x ∧ x ≤ m) → xs.length ≤ m := by
  intro m
  induction m with
  | zero =>
    intro xs _ h
    cases xs with
    | nil => simp
    | cons x xs => have := h x (List.mem_cons_self ..); omega
  | succ m ih =>
    intro xs hn h
    have h1 := ih (xs.erase ((m : Int) + 1)) (hn.erase _) (fun x hx => by
      rw [hn.mem_erase_iff] at hx
      have := h x hx.2; omega)
    have h2 : xs.length ≤ (xs.erase ((m : Int) + 1)).length + 1 := by
      rw [List.length_erase]; split <;> omega
    omega
/-- a permutation has each of its numbers. -/
theorem IsP.surj {xs : List Int} (h : IsP xs) {v : Int} (h1 : 1 ≤ v) (h2 : v ≤ xs.length) : ∃ j, j < xs.length ∧ nth xs j = v := by
  by_cases hm : v ∈ xs
  · obtain ⟨j, hj, e⟩ := List.getElem_of_mem hm
    exact ⟨j, hj, by rw [nth_get hj]; exact e⟩
  · have := nodup_len xs.length (v :: xs) (List.nodup_cons.2 ⟨hm, h.2⟩) (fun x hx => by
      rcases List.mem_cons.1 hx with rfl | hx
      · exact ⟨h1, h2⟩
      · exact h.1 x hx)
    simp at this
    omega
end Go.Proofs.Ytcifngcmdiokpaa
