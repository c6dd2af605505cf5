/- Lists of lists in order, each once: what putting one in makes of them. No program text. Conditions: none. -/
import Derived.Test.YtcifngcmdiokpaaOrdP
namespace Go.Proofs.Ytcifngcmdiokpaa
open Go.RowKit

/-- behind how many of the first k lists of L the list p belongs. -/
def atL (L : List (List Int)) (p : List Int) : Nat → Nat
  | 0 => 0
  | k + 1 => bif befB p (nthL L k) then atL L p k else k + 1
def putAt (L : List (List Int)) (p : List Int) : Nat := atL L p L.length
def hitB (L : List (List Int)) (p : List Int) : Bool := decide (0 < putAt L p ∧ nthL L (putAt L p - 1) = p)
def putL (L : List (List Int)) (p : List Int) : List (List Int) := bif hitB L p then L else L.take (putAt L p) ++ p :: L.drop (putAt L p)
def putAll (L : List (List Int)) : List (List Int) := L.foldl putL []
theorem atL_le (L : List (List Int)) (p : List Int) (k : Nat) : atL L p k ≤ k := by
  induction k with
  | zero => exact Nat.le_refl _
  | succ k ih => unfold atL; cases befB p (nthL L k) <;> simp; omega
theorem putAt_le (L : List (List Int)) (p : List Int) : putAt L p ≤ L.length := atL_le L p _
theorem atL_above (L : List (List Int)) (p : List Int) (k : Nat) : ∀ i, atL L p k ≤ i → i < k → befB p (nthL L i) = true := by
  induction k with
  | zero => intro i _ h; omega
  | succ k ih =>
    intro i h1 h2
    unfold atL at h1
    cases hb : befB p (nthL L k)
    · rw [hb] at h1; simp at h1; omega
    · rw [hb] at h1
      rcases Nat.lt_or_ge i k with e | e
      · exact ih i h1 e
      · obtain rfl : i = k := by omega
        exact hb
theorem atL_below (L : List (List Int)) (p : List Int) (k : Nat) (h : 0 < atL L p k) : befB p (nthL L (atL L p k - 1)) = false := by
  induction k with
  | zero => simp [atL] at h
  | succ k ih =>
    unfold atL at h ⊢
    cases hb : befB p (nthL L k)
    · simp only [hb, cond_false] at h ⊢; rw [Nat.add_sub_cancel]; exact hb
    · simp only [hb, cond_true] at h ⊢; exact ih h
theorem srtL_lt {L : List (List Int)} (h : SrtL L) {i j : Nat} (hij : i < j) (hj : j < L.length) : befB (nthL L i) (nthL L j) = true := by
  have := List.pairwise_iff_getElem.1 h i j (by omega) hj hij
  rwa [nthL_get (by omega), nthL_get hj]
theorem mem_nthL {L : List (List Int)} {x : List Int} (h : x ∈ L) : ∃ i, i < L.length ∧ nthL L i = x := by
  obtain ⟨i, hi, rfl⟩ := List.getElem_of_mem h
  exact ⟨i, hi, nthL_get hi⟩
theorem putL_mem (L : List (List Int)) (p : List Int) (x : List Int) : x ∈ putL L p ↔ x = p ∨ x ∈ L := by
  unfold putL
  cases hh : hitB L p
  · simp only [cond_false, List.mem_append, List.mem_cons]
    constructor
    · rintro (h | h | h)
      · exact .inr (List.mem_of_mem_take h)
      · exact .inl h
      · exact .inr (List.mem_of_mem_drop h)
    · rintro (h | h)
      · exact .inr (.inl h)
      · rw [← List.take_append_drop (putAt L p) L, List.mem_append] at h
        rcases h with h | h
        · exact .inl h
        · exact .inr (.inr h)
  · simp only [cond_true]
    constructor
    · exact .inr
    · rintro (h | h)
      · subst h
        unfold hitB at hh
        have h2 := of_decide_eq_true hh
        have := nthL_mem (xs := L) (k := putAt L x - 1) (by have := putAt_le L x; omega)
        rwa [h2.2] at this
      · exact h
theorem putL_srt {L : List (List Int)} (h : SrtL L) (p : List Int) : SrtL (putL L p) := by
  unfold putL
  cases hh : hitB L p
  · simp only [cond_false]
    have hle := putAt_le L p
    have hlow : ∀ x ∈ L.take (putAt L p), befB x p = true := by
      intro x hx
      obtain ⟨i, hi, rfl⟩ := List.getElem_of_mem hx
      have hi' : i < putAt L p := by simp at hi; omega
      rw [List.getElem_take, ← nthL_get (by omega)]
      have hb := atL_below L p L.length (by show 0 < putAt L p; omega)
      have hb' : befB p (nthL L (putAt L p - 1)) = false := hb
      have hne : nthL L (putAt L p - 1) ≠ p := fun e => by
        unfold hitB at hh
        exact of_decide_eq_false hh ⟨by omega, e⟩
      have hlast : befB (nthL L (putAt L p - 1)) p = true := by
        rcases befB_tot (nthL L (putAt L p - 1)) p with e | e | e
        · exact absurd e hne
        · exact e
        · rw [hb'] at e; simp at e
      rcases Nat.lt_or_ge i (putAt L p - 1) with e | e
      · exact befB_trans (srtL_lt h e (by omega)) hlast
      · obtain rfl : i = putAt L p - 1 := by omega
        exact hlast
    have hhigh : ∀ x ∈ L.drop (putAt L p), befB p x = true := by
      intro x hx
      obtain ⟨i, hi, rfl⟩ := List.getElem_of_mem hx
      have hi' : putAt L p + i < L.length := by simp at hi; omega
      rw [List.getElem_drop, ← nthL_get hi']
      exact atL_above L p L.length _ (by show putAt L p ≤ _; omega) hi'
    unfold SrtL
    rw [List.pairwise_append, List.pairwise_cons]
    refine ⟨List.Pairwise.sublist (List.take_sublist _ _) h, ⟨hhigh, List.Pairwise.sublist (List.drop_sublist _ _) h⟩, ?_⟩
    intro x hx y hy
    rcases List.mem_cons.1 hy with e | e
    · subst e; exact hlow x hx
    · exact befB_trans (hlow x hx) (hhigh y e)
  · exact h
theorem putL_len (L : List (List Int)) (p : List Int) : (putL L p).length ≤ L.length + 1 := by
  unfold putL
  cases hitB L p
  · simp; have := putAt_le L p; omega
  · simp
theorem putTo_ok (L : List (List Int)) : ∀ M : List (List Int), SrtL M → SrtL (L.foldl putL M) ∧ ∀ x, x ∈ L.foldl putL M ↔ x ∈ L ∨ x ∈ M := by
  induction L with
  | nil => intro M h; exact ⟨h, fun x => by simp⟩
  | cons p L ih =>
    intro M h
    obtain ⟨h1, h2⟩ := ih (putL M p) (putL_srt h p)
    refine ⟨h1, fun x => ?_⟩
    rw [List.foldl_cons, h2, putL_mem, List.mem_cons]
    constructor
    · rintro (a | a | a)
      · exact .inl (.inr a)
      · exact .inl (.inl a)
      · exact .inr a
    · rintro ((a | a) | a)
      · exact .inr (.inl a)
      · exact .inl a
      · exact .inr (.inr a)
theorem putAll_srt (L : List (List Int)) : SrtL (putAll L) := (putTo_ok L [] List.Pairwise.nil).1
theorem putAll_mem (L : List (List Int)) (x : List Int) : x ∈ putAll L ↔ x ∈ L := by
  have := (putTo_ok L [] List.Pairwise.nil).2 x
  simpa [putAll] using this
theorem putAll_snoc (L : List (List Int)) (p : List Int) : putAll (L ++ [p]) = putL (putAll L) p := by simp [putAll, List.foldl_append]
theorem putTo_len (L : List (List Int)) : ∀ M : List (List Int), (L.foldl putL M).length ≤ L.length + M.length := by
  induction L with
  | nil => intro M; simp
  | cons p L ih =>
    intro M
    have h1 := ih (putL M p)
    have h2 := putL_len M p
    simp only [List.foldl_cons, List.length_cons]
    omega
theorem putAll_len (L : List (List Int)) : (putAll L).length ≤ L.length := by
  have := putTo_len L []
  simpa [putAll] using this
/-- lists in order, each once, are what putting them in makes. -/
theorem putAll_uniq {L M : List (List Int)} (h : SrtL M) (hm : ∀ x, x ∈ M ↔ x ∈ L) : M = putAll L :=
  SrtL.uniq h (putAll_srt L) (fun x => by rw [hm, putAll_mem])
theorem SrtL.nodup {L : List (List Int)} (h : SrtL L) : L.Nodup := by
  refine List.Pairwise.imp ?_ h
  intro a b hab e
  subst e
  rw [befB_irr] at hab; simp at hab
theorem putAll_perm {L : List (List Int)} (h : L.Nodup) : (putAll L).Perm L :=
  (List.perm_ext_iff_of_nodup (putAll_srt L).nodup h).2 (fun x => putAll_mem L x)

/-! ### what sorting and striking equal neighbours make -/
/-- in order, equal ones may stand beside each other. -/
def SrtW (L : List (List Int)) : Prop := L.Pairwise fun a b => befB b a = false
/-- equal neighbours struck, but for one. -/
def compL : List (List Int) → List (List Int)
  | [] => []
  | x :: L => match compL L with
    | [] => [x]
    | y :: M => if x = y then y :: M else x :: y :: M
theorem compL_mem (L : List (List Int)) (x : List Int) : x ∈ compL L ↔ x ∈ L := by
  induction L with
  | nil => simp [compL]
  | cons z L ih =>
    unfold compL
    cases hc : compL L with
    | nil => rw [hc] at ih; simp only; rw [List.mem_cons, List.mem_cons, ← ih]
    | cons y M =>
      rw [hc] at ih
      simp only
      by_cases e : z = y
      · rw [if_pos e, List.mem_cons (a := x) (b := z), ← ih]
        constructor
        · exact .inr
        · rintro (h | h)
          · rw [h, e]; simp
          · exact h
      · rw [if_neg e, List.mem_cons, ih, List.mem_cons]
theorem compL_srt {L : List (List Int)} (h : SrtW L) : SrtL (compL L) := by
  induction L with
  | nil => exact List.Pairwise.nil
  | cons z L ih =>
    have h' := List.pairwise_cons.1 h
    have ih := ih h'.2
    have hm := compL_mem L
    unfold compL
    cases hc : compL L with
    | nil => exact List.pairwise_singleton _ _
    | cons y M =>
      rw [hc] at ih hm
      simp only
      by_cases e : z = y
      · rw [if_pos e]; exact ih
      · rw [if_neg e]
        have hy : befB z y = true := by
          have h2 := h'.1 y ((hm y).1 (by simp))
          rcases befB_tot z y with e2 | e2 | e2
          · exact absurd e2 e
          · exact e2
          · rw [h2] at e2; simp at e2
        unfold SrtL
        rw [List.pairwise_cons]
        refine ⟨fun x hx => ?_, ih⟩
        rcases List.mem_cons.1 hx with e2 | e2
        · rw [e2]; exact hy
        · exact befB_trans hy ((List.pairwise_cons.1 ih).1 x e2)
theorem comp_put {L M : List (List Int)} (h : SrtW M) (hm : ∀ x, x ∈ M ↔ x ∈ L) : compL M = putAll L :=
  putAll_uniq (compL_srt h) (fun x => by rw [compL_mem, hm])
theorem srtW_nodup {L : List (List Int)} (h : SrtW L) (hn : L.Nodup) : SrtL L := by
  unfold SrtL
  refine List.pairwise_iff_getElem.2 (fun i j hi hj hij => ?_)
  have h1 := List.pairwise_iff_getElem.1 h i j hi hj hij
  have h2 := List.pairwise_iff_getElem.1 hn i j hi hj hij
  rcases befB_tot L[i] L[j] with e | e | e
  · exact absurd e h2
  · exact e
  · rw [h1] at e; simp at e
end Go.Proofs.Ytcifngcmdiokpaa
