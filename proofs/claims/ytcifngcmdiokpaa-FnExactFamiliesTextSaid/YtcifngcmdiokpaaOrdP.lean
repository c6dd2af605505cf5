/- Lists of numbers in order: by length, then by the first number that differs. No program text. Conditions: none. -/
import Derived.Test.YtcifngcmdiokpaaBase
namespace Go.Proofs.Ytcifngcmdiokpaa
open Go.RowKit

def lexB : List Int → List Int → Bool
  | [], [] => false
  | [], _ :: _ => true
  | _ :: _, [] => false
  | x :: xs, y :: ys => decide (x < y) || (decide (x = y) && lexB xs ys)
theorem lexB_irr (a : List Int) : lexB a a = false := by
  induction a with
  | nil => rfl
  | cons x a ih => simp [lexB, ih]
theorem lexB_trans : ∀ a b c : List Int, lexB a b = true → lexB b c = true → lexB a c = true := by
  intro a
  induction a with
  | nil =>
    intro b c h1 h2
    cases b with
    | nil => simp [lexB] at h1
    | cons y b => cases c with
      | nil => simp [lexB] at h2
      | cons z c => rfl
  | cons x a ih =>
    intro b c h1 h2
    cases b with
    | nil => simp [lexB] at h1
    | cons y b => cases c with
      | nil => simp [lexB] at h2
      | cons z c =>
        simp only [lexB, Bool.or_eq_true, Bool.and_eq_true, decide_eq_true_eq] at h1 h2 ⊢
        rcases h1 with h1 | ⟨h1, h3⟩ <;> rcases h2 with h2 | ⟨h2, h4⟩
        · left; omega
        · left; omega
        · left; omega
        · right; exact ⟨by omega, ih _ _ h3 h4⟩
theorem lexB_tot : ∀ a b : List Int, a = b ∨ lexB a b = true ∨ lexB b a = true := by
  intro a
  induction a with
  | nil => intro b; cases b with
    | nil => left; rfl
    | cons y b => right; left; rfl
  | cons x a ih => intro b; cases b with
    | nil => right; right; rfl
    | cons y b =>
      simp only [lexB, Bool.or_eq_true, Bool.and_eq_true, decide_eq_true_eq, List.cons.injEq]
      rcases Int.lt_trichotomy x y with h | h | h
      · right; left; left; exact h
      · rcases ih b with e | e | e
        · left; exact ⟨h, e⟩
        · right; left; right; exact ⟨h, e⟩
        · right; right; right; exact ⟨h.symm, e⟩
      · right; right; left; exact h
def befB (a b : List Int) : Bool := decide (a.length < b.length) || (decide (a.length = b.length) && lexB a b)
theorem befB_irr (a : List Int) : befB a a = false := by simp [befB, lexB_irr]
theorem befB_trans {a b c : List Int} (h1 : befB a b = true) (h2 : befB b c = true) : befB a c = true := by
  simp only [befB, Bool.or_eq_true, Bool.and_eq_true, decide_eq_true_eq] at h1 h2 ⊢
  rcases h1 with h1 | ⟨h1, h3⟩ <;> rcases h2 with h2 | ⟨h2, h4⟩
  · left; omega
  · left; omega
  · left; omega
  · right; exact ⟨by omega, lexB_trans _ _ _ h3 h4⟩
theorem befB_tot (a b : List Int) : a = b ∨ befB a b = true ∨ befB b a = true := by
  simp only [befB, Bool.or_eq_true, Bool.and_eq_true, decide_eq_true_eq]
  rcases Nat.lt_trichotomy a.length b.length with h | h | h
  · right; left; left; exact h
  · rcases lexB_tot a b with e | e | e
    · left; exact e
    · right; left; right; exact ⟨h, e⟩
    · right; right; right; exact ⟨h.symm, e⟩
  · right; right; left; exact h
theorem befB_asym {a b : List Int} (h : befB a b = true) : befB b a = false := by
  rw [Bool.eq_false_iff]; intro h2
  have := befB_trans h h2
  rw [befB_irr] at this; exact absurd this (by simp)
/-- in strict order. -/
def SrtL (L : List (List Int)) : Prop := L.Pairwise fun a b => befB a b = true
theorem SrtL.uniq : ∀ {L M : List (List Int)}, SrtL L → SrtL M → (∀ x, x ∈ L ↔ x ∈ M) → L = M := by
  intro L
  induction L with
  | nil => intro M _ _ h; cases M with
    | nil => rfl
    | cons y M => have := (h y).2 (by simp); simp at this
  | cons x L ih =>
    intro M h1 h2 h
    cases M with
    | nil => have := (h x).1 (by simp); simp at this
    | cons y M =>
      have h1' := List.pairwise_cons.1 h1
      have h2' := List.pairwise_cons.1 h2
      have e : x = y := by
        rcases List.mem_cons.1 ((h x).1 (by simp)) with e | e
        · exact e
        · rcases List.mem_cons.1 ((h y).2 (by simp)) with e2 | e2
          · exact e2.symm
          · have a1 := h2'.1 x e
            have a2 := h1'.1 y e2
            rw [befB_asym a1] at a2; exact absurd a2 (by simp)
      subst e
      congr 1
      refine ih h1'.2 h2'.2 (fun z => ⟨fun hz => ?_, fun hz => ?_⟩)
      · rcases List.mem_cons.1 ((h z).1 (List.mem_cons_of_mem _ hz)) with e | e
        · subst e; have := h1'.1 z hz; rw [befB_irr] at this; exact absurd this (by simp)
        · exact e
      · rcases List.mem_cons.1 ((h z).2 (List.mem_cons_of_mem _ hz)) with e | e
        · subst e; have := h2'.1 z hz; rw [befB_irr] at this; exact absurd this (by simp)
        · exact e
end Go.Proofs.Ytcifngcmdiokpaa
