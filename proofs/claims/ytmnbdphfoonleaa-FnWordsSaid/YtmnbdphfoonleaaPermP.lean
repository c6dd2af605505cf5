/- The lists of a length are permutations. Conditions: none. -/
import Derived.Test.YtmnbdphfoonleaaPerm
import Derived.Test.YtmnbdphfoonleaaBase
namespace Go.Proofs.Ytmnbdphfoonleaa
open Go.RowKit

theorem layer_permP (n : Nat) : ∀ k, ∀ p ∈ layer n k, (∀ x ∈ p, 1 ≤ x ∧ x ≤ n) ∧ p.Nodup := by
  intro k
  induction k with
  | zero => intro p h; simp [layer] at h; subst h; simp
  | succ k ih =>
    intro p h
    simp only [layer, List.mem_flatMap, extTo, one] at h
    obtain ⟨q, hq, v, hv, hp⟩ := h
    obtain ⟨h1, h2⟩ := ih q hq
    cases hb : hasB q v
    · rw [hb] at hp
      simp at hp
      subst hp
      have hnv : v ∉ q := fun hh => by rw [hasB_true hh] at hb; simp at hb
      have hvb : 1 ≤ v ∧ v ≤ n := by
        simp only [idL, List.mem_map, List.mem_range] at hv
        obtain ⟨i, hi, rfl⟩ := hv; omega
      refine ⟨fun x hx => ?_, ?_⟩
      · rcases List.mem_append.1 hx with hx | hx
        · exact h1 x hx
        · simp at hx; subst hx; exact hvb
      · rw [List.nodup_append]
        exact ⟨h2, by simp, fun a ha b hb' => by simp at hb'; subst hb'; exact fun e => hnv (e ▸ ha)⟩
    · rw [hb] at hp; simp at hp
theorem perms_isPP {n : Nat} {p : List Int} (h : p ∈ permsL n) : IsP p := by
  have hl := perms_each h
  rw [← layer_perms] at h
  have := layer_permP n n p h
  exact ⟨fun x hx => by rw [hl]; exact this.1 x hx, this.2⟩

end Go.Proofs.Ytmnbdphfoonleaa
