/- Pop stacks, without program text: falls and descents, trails and how often. Conditions: none. -/
import Derived.Test.YtognbiodplodhaaUng8
import Derived.Test.YtognbiodplodhaaLayP
import Derived.Test.YtognbiodplodhaaFalls
import Derived.Test.YtognbiodplodhaaPopT
namespace Go.Proofs.Ytognbiodplodhaa
open Go.RowKit

/-- the places of descents among the first k pairs. -/
def dsTo (xs : List Int) : Nat → List Int
  | 0 => []
  | k + 1 => bif decide (nth xs (k + 1) < nth xs k) then dsTo xs k ++ [(k : Int) + 1] else dsTo xs k
def dsL (xs : List Int) : List Int := bif isP8 xs then dsTo xs (xs.length - 1) else []
theorem dsTo_len (xs : List Int) (k : Nat) : (dsTo xs k).length ≤ k := by
  induction k with
  | zero => simp [dsTo]
  | succ k ih => unfold dsTo; cases decide (nth xs (k + 1) < nth xs k) <;> simp <;> omega
theorem ds_falls {xs : List Int} : ∀ i, i + 1 ≤ xs.length → (scL xs i).length + (dsTo xs i).length = i := by
  intro i
  induction i with
  | zero => intro _; rfl
  | succ i ih =>
    intro hi
    have h1 := ih (by omega)
    unfold dsTo
    by_cases e : nth xs (i + 1) < nth xs i
    · rw [scL_f (cutB_down (by omega) e), decide_eq_true e]
      simp only [cond_true, List.length_append, List.length_singleton]; omega
    · rw [scL_t (cutB_up e), decide_eq_false e]
      simp only [cond_false, List.length_append, List.length_singleton]; omega
theorem falls_len {f : List Int} (h : isP8 f = true) (h0 : 0 < f.length) : (fallsOfL f).length + (dsL f).length = f.length := by
  unfold fallsOfL dsL
  rw [h]
  simp only [cond_true]
  unfold fallsL
  obtain ⟨n, hn⟩ : ∃ n, f.length = n + 1 := ⟨f.length - 1, by omega⟩
  rw [hn, Nat.add_sub_cancel, scL_t (cutB_last (by omega)), List.length_append]
  have := ds_falls (xs := f) n (by omega)
  simp only [List.length_singleton]; omega
theorem nthL_cons (x : List Int) (L : List (List Int)) (k : Nat) : nthL (x :: L) (k + 1) = nthL L k := by simp [nthL]
theorem trF_all {g : List Int → List Int} (hg : PassOK g) : ∀ (f : Nat) (xs : List Int), IsP xs → inv xs ≤ f → (trF g f xs).length = tmF g f xs ∧
    (∀ k, k < (trF g f xs).length → nthL (xs :: trF g f xs) (k + 1) = g (nthL (xs :: trF g f xs) k)) ∧ IsP (nthL (xs :: trF g f xs) (trF g f xs).length) ∧ Srt (nthL (xs :: trF g f xs) (trF g f xs).length) ∧ (nthL (xs :: trF g f xs) (trF g f xs).length).length = xs.length := by
  intro f
  induction f with
  | zero =>
    intro xs hp h
    have hs := inv_zero_srt (show inv xs = 0 by omega)
    exact ⟨rfl, fun k hk => by simp [trF] at hk, hp, hs, rfl⟩
  | succ f ih =>
    intro xs hp h
    cases hs : srtB xs
    · have hns : ¬ Srt xs := fun hh => by rw [srtB_true hh] at hs; simp at hs
      have hd := hg.dec xs hp hns
      obtain ⟨h1, h2, h3, h4, h5⟩ := ih (g xs) (hg.perm xs hp) (by omega)
      have e1 : trF g (f + 1) xs = g xs :: trF g f (g xs) := by simp [trF, hs]
      have e2 : tmF g (f + 1) xs = 1 + tmF g f (g xs) := by simp [tmF, hs]
      rw [e1, e2, List.length_cons]
      refine ⟨by omega, fun k hk => ?_, ?_, ?_, ?_⟩
      · cases k with
        | zero => rfl
        | succ k => rw [nthL_cons, nthL_cons]; exact h2 k (by omega)
      · rw [nthL_cons]; exact h3
      · rw [nthL_cons]; exact h4
      · rw [nthL_cons, h5]; exact hg.len xs
    · have e1 : trF g (f + 1) xs = [] := by simp [trF, hs]
      have e2 : tmF g (f + 1) xs = 0 := by simp [tmF, hs]
      rw [e1, e2]
      exact ⟨rfl, fun k hk => by simp at hk, hp, srtB_iff.1 hs, rfl⟩
theorem trl_all {g : List Int → List Int} (hg : PassOK g) {xs : List Int} (h : isP8 xs = true) : ((trlL g xs).length : Int) = tmsI g xs + 1 ∧
    (∀ k, k + 1 < (trlL g xs).length → nthL (trlL g xs) (k + 1) = g (nthL (trlL g xs) k)) ∧ nthL (trlL g xs) ((trlL g xs).length - 1) = idL xs.length := by
  obtain ⟨h1, h2, h3, h4, h5⟩ := trF_all hg (inv xs) xs (isP8_iff.1 h).2 (Nat.le_refl _)
  have e : trlL g xs = xs :: trF g (inv xs) xs := by unfold trlL; rw [h]; rfl
  rw [e]
  refine ⟨?_, fun k hk => ?_, ?_⟩
  · unfold tmsI tms; rw [if_pos h, List.length_cons, h1]; push_cast; rfl
  · rw [List.length_cons] at hk; exact h2 k (by omega)
  · rw [List.length_cons, Nat.add_sub_cancel]
    have := h4.eq_id h3
    rw [h5] at this; exact this
theorem trF_isP {g : List Int → List Int} (hg : PassOK g) : ∀ (f : Nat) (xs : List Int), IsP xs → ∀ ys ∈ trF g f xs, IsP ys := by
  intro f
  induction f with
  | zero => intro xs _ ys h; simp [trF] at h
  | succ f ih =>
    intro xs hp ys h
    cases hs : srtB xs
    · have e1 : trF g (f + 1) xs = g xs :: trF g f (g xs) := by simp [trF, hs]
      rw [e1] at h
      rcases List.mem_cons.1 h with h | h
      · subst h; exact hg.perm xs hp
      · exact ih _ (hg.perm xs hp) ys h
    · have e1 : trF g (f + 1) xs = [] := by simp [trF, hs]
      rw [e1] at h; simp at h
theorem trl_isP {g : List Int → List Int} (hg : PassOK g) {xs ys : List Int} (h : ys ∈ trlL g xs) : isP8 ys = true := by
  unfold trlL at h
  cases h8 : isP8 xs
  · rw [h8] at h; simp at h
  · rw [h8] at h
    simp only [cond_true] at h
    obtain ⟨hl, hp⟩ := isP8_iff.1 h8
    rcases List.mem_cons.1 h with h | h
    · subst h; exact h8
    · exact isP8_true (by rw [trF_each hg.len _ _ ys h]; exact hl) (trF_isP hg _ _ hp ys h)
/-- of a permutation that is not empty: at most one pass less than it has numbers. -/
theorem times_most {t : List Int} (h : isP8 t = true) (h0 : 0 < t.length) : 0 ≤ tmsI popL t ∧ tmsI popL t ≤ (t.length : Int) - 1 := by
  obtain ⟨h8, hp⟩ := isP8_iff.1 h
  have := pop_most hp h8 h0
  unfold tmsI
  rw [if_pos h]; omega
end Go.Proofs.Ytognbiodplodhaa
