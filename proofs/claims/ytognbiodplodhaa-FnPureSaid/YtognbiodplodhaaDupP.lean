/- The places of the first of each run of equal rows. No program text. Conditions: none. -/
import Derived.Test.YtognbiodplodhaaPutP
namespace Go.Proofs.Ytognbiodplodhaa
open Go.RowKit

def newB (L : List (List Int)) (i : Nat) : Bool := decide (i = 0 ∨ nthL L i ≠ nthL L (i - 1))
def dsI (L : List (List Int)) (n : Nat) : List Nat := (List.range n).filter (newB L)
theorem dsI_t {L : List (List Int)} {n : Nat} (h : newB L n = true) : dsI L (n + 1) = dsI L n ++ [n] := by simp [dsI, List.range_succ, List.filter_append, h]
theorem dsI_f {L : List (List Int)} {n : Nat} (h : newB L n = false) : dsI L (n + 1) = dsI L n := by simp [dsI, List.range_succ, List.filter_append, h]
theorem dsI_lt {L : List (List Int)} {n i : Nat} (h : i ∈ dsI L n) : i < n ∧ newB L i = true := by
  simp only [dsI, List.mem_filter, List.mem_range] at h; exact h
theorem dsI_len (L : List (List Int)) (n : Nat) : (dsI L n).length ≤ n := by
  have := List.length_filter_le (newB L) (List.range n)
  simpa [dsI] using this
theorem dsI_pw (L : List (List Int)) (n : Nat) : (dsI L n).Pairwise (· < ·) := List.Pairwise.filter _ List.pairwise_lt_range
/-- each row is one of the first ones. -/
theorem dsI_all (L : List (List Int)) : ∀ n k, k < n → ∃ i ∈ dsI L n, nthL L i = nthL L k := by
  intro n
  induction n with
  | zero => intro k hk; omega
  | succ n ih =>
    intro k hk
    rcases Nat.lt_or_ge k n with h | h
    · obtain ⟨i, hi, e⟩ := ih k h
      cases hn : newB L n
      · rw [dsI_f hn]; exact ⟨i, hi, e⟩
      · rw [dsI_t hn]; exact ⟨i, List.mem_append_left _ hi, e⟩
    · obtain rfl : k = n := by omega
      cases hn : newB L k
      · rw [dsI_f hn]
        have h2 := of_decide_eq_false hn
        have hk0 : k ≠ 0 := fun e => h2 (.inl e)
        have he : nthL L k = nthL L (k - 1) := by
          by_cases e : nthL L k = nthL L (k - 1)
          · exact e
          · exact absurd (.inr e) h2
        obtain ⟨i, hi, e⟩ := ih (k - 1) (by omega)
        exact ⟨i, hi, by rw [e, he]⟩
      · rw [dsI_t hn]; exact ⟨k, List.mem_append_right _ (List.mem_singleton.2 rfl), rfl⟩
theorem srtW_le {L : List (List Int)} (h : SrtW L) {i j : Nat} (hij : i ≤ j) (hj : j < L.length) : befB (nthL L j) (nthL L i) = false := by
  rcases Nat.lt_or_ge i j with e | e
  · have := List.pairwise_iff_getElem.1 h i j (by omega) hj e
    rw [nthL_get hj, nthL_get (show i < L.length by omega)]; exact this
  · obtain rfl : i = j := by omega
    exact befB_irr _
theorem bef_eq {a b : List Int} (h1 : befB a b = false) (h2 : befB b a = false) : a = b := by
  rcases befB_tot a b with h | h | h
  · exact h
  · rw [h] at h1; exact absurd h1 (by simp)
  · rw [h] at h2; exact absurd h2 (by simp)
/-- the first ones, of rows in order, are the rows in order, each once. -/
theorem dsI_put {L M : List (List Int)} (h : SrtW M) (hm : ∀ x, x ∈ M ↔ x ∈ L) : (dsI M M.length).map (nthL M) = putAll L := by
  refine putAll_uniq ?_ (fun x => ?_)
  · unfold SrtL
    rw [List.pairwise_map]
    refine List.Pairwise.imp_of_mem ?_ (dsI_pw M M.length)
    intro i j hi hj hij
    have hj2 := dsI_lt hj
    have h1 := srtW_le h (i := i) (j := j) (by omega) hj2.1
    have h3 := srtW_le h (i := i) (j := j - 1) (by omega) (by omega)
    have h4 := srtW_le h (i := j - 1) (j := j) (by omega) hj2.1
    cases hb : befB (nthL M i) (nthL M j)
    · exfalso
      have e := bef_eq hb h1
      have hne : nthL M j ≠ nthL M (j - 1) := by
        rcases of_decide_eq_true hj2.2 with e2 | e2
        · omega
        · exact e2
      rw [e] at h3
      exact hne (bef_eq h4 h3)
    · rfl
  · rw [← hm, List.mem_map]
    constructor
    · rintro ⟨i, hi, rfl⟩
      exact nthL_mem (dsI_lt hi).1
    · intro hx
      obtain ⟨k, hk, rfl⟩ := mem_nthL hx
      obtain ⟨i, hi, e⟩ := dsI_all M M.length k hk
      exact ⟨i, hi, e⟩
end Go.Proofs.Ytognbiodplodhaa
