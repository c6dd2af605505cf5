/- The longest descending parts of a list, and the pass that turns each of them round: plain law. -/
import Derived.Test.YtcifngcmdiokpaaPass
import Derived.Test.YtcifngcmdiokpaaRow2
import Derived.Test.YtcifngcmdiokpaaRev
namespace Go.Proofs.Ytcifngcmdiokpaa
open Go.RowKit

def cutB (xs : List Int) (i : Nat) : Bool := decide (xs.length ≤ i + 1) || !decide (nth xs (i + 1) < nth xs i)
theorem cutB_last {xs : List Int} {i : Nat} (h : xs.length ≤ i + 1) : cutB xs i = true := by simp [cutB, h]
theorem cutB_up {xs : List Int} {i : Nat} (h : ¬ nth xs (i + 1) < nth xs i) : cutB xs i = true := by simp [cutB, h]
theorem cutB_down {xs : List Int} {i : Nat} (h : i + 1 < xs.length) (h2 : nth xs (i + 1) < nth xs i) : cutB xs i = false := by simp [cutB, h2]; omega
theorem cutB_false {xs : List Int} {i : Nat} (h : cutB xs i = false) : i + 1 < xs.length ∧ nth xs (i + 1) < nth xs i := by simpa [cutB] using h
def scF (xs : List Int) : Nat → Nat
  | 0 => 0
  | i + 1 => bif cutB xs i then i + 1 else scF xs i
def scL (xs : List Int) : Nat → List (List Int)
  | 0 => []
  | i + 1 => bif cutB xs i then scL xs i ++ [[(scF xs i : Int) + 1, (i : Int) + 1]] else scL xs i
def scO (xs : List Int) : Nat → List Int
  | 0 => []
  | i + 1 => bif cutB xs i then scO xs i ++ ((xs.drop (scF xs i)).take (i + 1 - scF xs i)).reverse else scO xs i
def fallsL (xs : List Int) : List (List Int) := scL xs xs.length
def popL (xs : List Int) : List Int := scO xs xs.length
def scA (xs : List Int) (i : Nat) : List Int := scO xs i ++ xs.drop (scF xs i)
theorem scF_t {xs : List Int} {i : Nat} (h : cutB xs i = true) : scF xs (i + 1) = i + 1 := by simp [scF, h]
theorem scF_f {xs : List Int} {i : Nat} (h : cutB xs i = false) : scF xs (i + 1) = scF xs i := by simp [scF, h]
theorem scL_t {xs : List Int} {i : Nat} (h : cutB xs i = true) : scL xs (i + 1) = scL xs i ++ [[(scF xs i : Int) + 1, (i : Int) + 1]] := by simp [scL, h]
theorem scL_f {xs : List Int} {i : Nat} (h : cutB xs i = false) : scL xs (i + 1) = scL xs i := by simp [scL, h]
theorem scO_t {xs : List Int} {i : Nat} (h : cutB xs i = true) : scO xs (i + 1) = scO xs i ++ ((xs.drop (scF xs i)).take (i + 1 - scF xs i)).reverse := by simp [scO, h]
theorem scO_f {xs : List Int} {i : Nat} (h : cutB xs i = false) : scO xs (i + 1) = scO xs i := by simp [scO, h]
theorem scF_le (xs : List Int) (i : Nat) : scF xs i ≤ i := by
  induction i with
  | zero => exact Nat.le_refl _
  | succ i ih => cases h : cutB xs i <;> simp [scF, h]; omega
theorem scF_len (xs : List Int) : scF xs xs.length = xs.length := by
  cases h : xs.length with
  | zero => rfl
  | succ n => exact scF_t (cutB_last (by omega))
theorem scL_len (xs : List Int) (i : Nat) : (scL xs i).length ≤ i := by
  induction i with
  | zero => simp [scL]
  | succ i ih => cases h : cutB xs i <;> simp [scL, h] <;> omega
theorem scO_len (xs : List Int) (i : Nat) (hi : i ≤ xs.length) : (scO xs i).length = scF xs i := by
  induction i with
  | zero => rfl
  | succ i ih =>
    have := scF_le xs i
    have ih := ih (by omega)
    cases h : cutB xs i
    · rw [scO_f h, scF_f h, ih]
    · rw [scO_t h, scF_t h]; simp [ih]; omega
theorem scF_desc (xs : List Int) (i j : Nat) (h1 : scF xs i ≤ j) (h2 : j < i) : cutB xs j = false := by
  induction i with
  | zero => omega
  | succ i ih =>
    cases h : cutB xs i
    · rw [scF_f h] at h1
      by_cases e : j = i
      · subst e; exact h
      · exact ih h1 (by omega)
    · rw [scF_t h] at h1; omega
theorem scL_mono (xs : List Int) (i d : Nat) : (scL xs i).length ≤ (scL xs (i + d)).length ∧ ((scL xs (i + d)).length = (scL xs i).length → scF xs (i + d) = scF xs i ∧ scO xs (i + d) = scO xs i) := by
  induction d with
  | zero => exact ⟨Nat.le_refl _, fun _ => ⟨rfl, rfl⟩⟩
  | succ d ih =>
    cases h : cutB xs (i + d)
    · rw [← Nat.add_assoc, scL_f h, scF_f h, scO_f h]; exact ih
    · rw [← Nat.add_assoc, scL_t h]; simp; omega
theorem sc_same {xs : List Int} {i j : Nat} (h : (scL xs i).length = (scL xs j).length) : scF xs i = scF xs j ∧ scO xs i = scO xs j := by
  rcases Nat.le_total i j with e | e
  · have := (scL_mono xs i (j - i)).2 (by rw [show i + (j - i) = j by omega]; exact h.symm)
    rw [show i + (j - i) = j by omega] at this
    exact ⟨this.1.symm, this.2.symm⟩
  · have := (scL_mono xs j (i - j)).2 (by rw [show j + (i - j) = i by omega]; exact h)
    rw [show j + (i - j) = i by omega] at this
    exact this
theorem scL_get (xs : List Int) (i t : Nat) (ht : t < (scL xs i).length) : ∃ j, j < i ∧ cutB xs j = true ∧ (scL xs j).length = t ∧ nthL (scL xs i) t = [(scF xs j : Int) + 1, (j : Int) + 1] := by
  induction i with
  | zero => simp [scL] at ht
  | succ i ih =>
    cases h : cutB xs i
    · rw [scL_f h] at ht ⊢
      obtain ⟨j, h1, h2⟩ := ih ht
      exact ⟨j, by omega, h2⟩
    · rw [scL_t h] at ht ⊢
      rcases Nat.lt_or_ge t (scL xs i).length with e | e
      · rw [nthL_append_lt e]
        obtain ⟨j, h1, h2⟩ := ih e
        exact ⟨j, by omega, h2⟩
      · have : t = (scL xs i).length := by simp at ht; omega
        subst this
        rw [nthL_append_last]
        exact ⟨i, by omega, h, rfl, rfl⟩
theorem scA_zero (xs : List Int) : scA xs 0 = xs := by simp [scA, scO, scF]
theorem scA_end (xs : List Int) : scA xs xs.length = popL xs := by simp [scA, scF_len, popL]
/-- one part turned round. -/
theorem scA_rev {xs : List Int} {i : Nat} (hi : i < xs.length) (h : cutB xs i = true) : revSeg (scA xs i) (scF xs i) (i + 1 - scF xs i) = scA xs (i + 1) := by
  have h1 := scO_len xs i (by omega)
  have h2 := scF_le xs i
  have e3 : (scO xs i ++ xs.drop (scF xs i)).drop (scF xs i + (i + 1 - scF xs i)) = xs.drop (i + 1) := by
    rw [← List.drop_drop, List.drop_left' h1, List.drop_drop]; congr 1; omega
  unfold revSeg scA
  rw [scO_t h, scF_t h, List.take_left' h1, List.drop_left' h1, e3]
theorem nth_seg {xs : List Int} {f n j : Nat} (hj : j < n) : nth ((xs.drop f).take n) j = nth xs (f + j) := by
  simp [nth, hj]
theorem scA_parts {xs : List Int} {i : Nat} (hi : i < xs.length) : scA xs i = scO xs i ++ (xs.drop (scF xs i)).take (i + 1 - scF xs i) ++ xs.drop (i + 1) := by
  have h2 := scF_le xs i
  unfold scA
  rw [List.append_assoc]
  congr 1
  conv => lhs; rw [← List.take_append_drop (i + 1 - scF xs i) (xs.drop (scF xs i)), List.drop_drop]
  congr 2; omega
theorem scA_parts' {xs : List Int} {i : Nat} (h : cutB xs i = true) : scA xs (i + 1) = scO xs i ++ ((xs.drop (scF xs i)).take (i + 1 - scF xs i)).reverse ++ xs.drop (i + 1) := by
  unfold scA; rw [scO_t h, scF_t h]
theorem inv_ctx_l (A D D' : List Int) (hp : D.Perm D') : inv (A ++ D) + inv D' = inv (A ++ D') + inv D := by
  induction A with
  | nil => simp; omega
  | cons a r ih =>
    simp only [List.cons_append, inv]
    have : (r ++ D).countP (fun y => decide (y < a)) = (r ++ D').countP (fun y => decide (y < a)) := (List.Perm.append_left r hp).countP_eq _
    omega
theorem inv_ctx_r (C D D' : List Int) (hp : D.Perm D') : inv (D ++ C.reverse) + inv D' = inv (D' ++ C.reverse) + inv D := by
  induction C with
  | nil => simp; omega
  | cons y r ih =>
    rw [List.reverse_cons, ← List.append_assoc, ← List.append_assoc, inv_snoc, inv_snoc]
    have : (D ++ r.reverse).countP (fun x => decide (y < x)) = (D' ++ r.reverse).countP (fun x => decide (y < x)) := (List.Perm.append_right _ hp).countP_eq _
    omega
theorem inv_ctx (A C D D' : List Int) (hp : D.Perm D') : inv (A ++ D ++ C) + inv D' = inv (A ++ D' ++ C) + inv D := by
  have h1 := inv_ctx_r C.reverse D D' hp
  rw [List.reverse_reverse] at h1
  have h2 := inv_ctx_l A (D ++ C) (D' ++ C) (List.Perm.append_right _ hp)
  rw [List.append_assoc, List.append_assoc]
  omega
theorem inv_desc_rev {D : List Int} (h : ∀ j, j + 1 < D.length → nth D (j + 1) < nth D j) : inv D.reverse = 0 := by
  refine inv_srt (srt_pairwise ?_)
  intro j hj
  rw [List.length_reverse] at hj
  have e1 : nth D.reverse j = nth D (D.length - 1 - j) := by simp [nth, List.getElem?_reverse (show j < D.length by omega)]
  have e2 : nth D.reverse (j + 1) = nth D (D.length - 1 - (j + 1)) := by simp [nth, List.getElem?_reverse (show j + 1 < D.length by omega)]
  rw [e1, e2]
  have := h (D.length - 1 - (j + 1)) (by omega)
  rw [show D.length - 1 - (j + 1) + 1 = D.length - 1 - j by omega] at this
  omega
theorem scA_perm (xs : List Int) (i : Nat) (hi : i ≤ xs.length) : (scA xs i).Perm xs := by
  induction i with
  | zero => rw [scA_zero]
  | succ i ih =>
    have ih := ih (by omega)
    cases h : cutB xs i
    · unfold scA; rw [scO_f h, scF_f h]; exact ih
    · rw [scA_parts' h]
      rw [scA_parts (by omega)] at ih
      exact (List.Perm.append_right _ (List.Perm.append_left _ (List.reverse_perm _))).trans ih
theorem scA_inv (xs : List Int) (i : Nat) (hi : i ≤ xs.length) : inv (scA xs i) ≤ inv xs ∧ ((∀ j, j < scF xs i → cutB xs j = true) ∨ inv (scA xs i) < inv xs) := by
  induction i with
  | zero => rw [scA_zero]; exact ⟨Nat.le_refl _, .inl (fun j hj => by simp [scF] at hj)⟩
  | succ i ih =>
    have ih := ih (by omega)
    have hf := scF_le xs i
    cases h : cutB xs i
    · unfold scA; rw [scO_f h, scF_f h]; exact ih
    · have hD : ((xs.drop (scF xs i)).take (i + 1 - scF xs i)).length = i + 1 - scF xs i := by simp; omega
      have hd : ∀ j, j + 1 < i + 1 - scF xs i → nth ((xs.drop (scF xs i)).take (i + 1 - scF xs i)) (j + 1) < nth ((xs.drop (scF xs i)).take (i + 1 - scF xs i)) j := fun j hj => by
        rw [nth_seg hj, nth_seg (by omega)]
        exact (cutB_false (scF_desc xs i (scF xs i + j) (by omega) (by omega))).2
      have h0 := inv_desc_rev (D := (xs.drop (scF xs i)).take (i + 1 - scF xs i)) (fun j hj => hd j (by omega))
      have hc := inv_ctx (scO xs i) (xs.drop (i + 1)) _ _ (List.reverse_perm ((xs.drop (scF xs i)).take (i + 1 - scF xs i)))
      rw [← scA_parts (by omega), ← scA_parts' h, h0] at hc
      refine ⟨by omega, ?_⟩
      by_cases e : scF xs i = i
      · rcases ih.2 with h2 | h2
        · left
          intro j hj
          rw [scF_t h] at hj
          by_cases e2 : j = i
          · subst e2; exact h
          · exact h2 j (by omega)
        · right; omega
      · right
        have : inv ((xs.drop (scF xs i)).take (i + 1 - scF xs i)) ≠ 0 := fun h9 => by
          have h3 := inv_zero_srt h9 0 (by omega)
          have h4 := hd 0 (by omega)
          omega
        omega
theorem popL_perm (xs : List Int) : (popL xs).Perm xs := by rw [← scA_end]; exact scA_perm xs _ (Nat.le_refl _)
theorem popL_len (xs : List Int) : (popL xs).length = xs.length := (popL_perm xs).length_eq
theorem pop_ok : PassOK popL where
  len := popL_len
  perm xs h := by
    have hp := popL_perm xs
    exact ⟨fun x hx => by rw [hp.length_eq]; exact h.1 x (hp.mem_iff.1 hx), hp.nodup_iff.2 h.2⟩
  dec xs hp hn := by
    rw [← scA_end]
    rcases (scA_inv xs xs.length (Nat.le_refl _)).2 with h | h
    · refine absurd (fun i hi => ?_) hn
      rcases Int.lt_or_le (nth xs (i + 1)) (nth xs i) with e | e
      · have := h i (by rw [scF_len]; omega); rw [cutB_down hi e] at this; simp at this
      · exact e
    · exact h
end Go.Proofs.Ytcifngcmdiokpaa
