/- The insertion of a permutation into two tableaux, as a relation. No program text. Conditions: none. -/
import Derived.Test.YtognbiodplodhaaRow3
namespace Go.Proofs.Ytognbiodplodhaa
open Go.RowKit

/-- the place of the first number that is not below v. -/
def fi (v : Int) : List Int → Nat
  | [] => 0
  | x :: r => if x < v then fi v r + 1 else 0
theorem fi_le (v : Int) (r : List Int) : fi v r ≤ r.length := by
  induction r with
  | nil => simp [fi]
  | cons x r ih => unfold fi; split <;> simp; omega
theorem nth_cons0 (x : Int) (r : List Int) : nth (x :: r) 0 = x := by simp [nth]
theorem nth_consS (x : Int) (r : List Int) (k : Nat) : nth (x :: r) (k + 1) = nth r k := by simp [nth]
theorem fi_lt {v : Int} {r : List Int} {j : Nat} (h : j < fi v r) : nth r j < v := by
  induction r generalizing j with
  | nil => simp [fi] at h
  | cons x r ih =>
    unfold fi at h
    split at h
    · cases j with
      | zero => rw [nth_cons0]; assumption
      | succ j => rw [nth_consS]; exact ih (by omega)
    · omega
theorem fi_ge {v : Int} {r : List Int} (h : fi v r < r.length) : ¬ nth r (fi v r) < v := by
  induction r with
  | nil => simp [fi] at h
  | cons x r ih =>
    unfold fi at h ⊢
    split
    · next hx =>
      rw [if_pos hx] at h
      rw [nth_consS]; exact ih (by simpa using h)
    · next hx => rw [nth_cons0]; exact hx
/-- a place that all below it are below v, and that is not below v or the end, is that place. -/
theorem fi_uniq {v : Int} {r : List Int} {c : Nat} (h1 : ∀ j, j < c → nth r j < v) (hc : c ≤ r.length) (h2 : c < r.length → ¬ nth r c < v) : c = fi v r := by
  have hf := fi_le v r
  rcases Nat.lt_trichotomy c (fi v r) with h | h | h
  · exact absurd (fi_lt h) (h2 (by omega))
  · exact h
  · exact absurd (h1 _ h) (fi_ge (by omega))

def ist (L : List (List Int)) (v : Int) : Nat → List (List Int) × Int
  | 0 => (L, v)
  | r + 1 => ((ist L v r).1.set r ((nthL (ist L v r).1 r).set (fi (ist L v r).2 (nthL (ist L v r).1 r)) (ist L v r).2), nth (nthL (ist L v r).1 r) (fi (ist L v r).2 (nthL (ist L v r).1 r)))
def isL (L : List (List Int)) (v : Int) (r : Nat) : List (List Int) := (ist L v r).1
def isV (L : List (List Int)) (v : Int) (r : Nat) : Int := (ist L v r).2
theorem isL_zero (L : List (List Int)) (v : Int) : isL L v 0 = L := rfl
theorem isV_zero (L : List (List Int)) (v : Int) : isV L v 0 = v := rfl
theorem isL_succ (L : List (List Int)) (v : Int) (r : Nat) : isL L v (r + 1) = (isL L v r).set r ((nthL (isL L v r) r).set (fi (isV L v r) (nthL (isL L v r) r)) (isV L v r)) := rfl
theorem isV_succ (L : List (List Int)) (v : Int) (r : Nat) : isV L v (r + 1) = nth (nthL (isL L v r) r) (fi (isV L v r) (nthL (isL L v r) r)) := rfl
theorem isL_len (L : List (List Int)) (v : Int) (r : Nat) : (isL L v r).length = L.length := by
  induction r with
  | zero => rfl
  | succ r ih => rw [isL_succ, List.length_set, ih]
def Stop (L : List (List Int)) (v : Int) (r : Nat) : Prop := r = L.length ∨ fi (isV L v r) (nthL (isL L v r) r) = (nthL (isL L v r) r).length
def InsAt (L : List (List Int)) (v : Int) (r : Nat) : Prop := r ≤ L.length ∧ Stop L v r ∧ ∀ j, j < r → ¬ Stop L v j
theorem InsAt.uniq {L : List (List Int)} {v : Int} {r s : Nat} (h : InsAt L v r) (k : InsAt L v s) : r = s := by
  rcases Nat.lt_trichotomy r s with e | e | e
  · exact absurd h.2.1 (k.2.2 r e)
  · exact e
  · exact absurd k.2.1 (h.2.2 s e)
def grow (L : List (List Int)) (r : Nat) (x : Int) : List (List Int) := if r = L.length then L ++ [[x]] else L.set r (nthL L r ++ [x])
def insA (L : List (List Int)) (v : Int) (r : Nat) : List (List Int) := grow (isL L v r) r (isV L v r)
inductive Ins (p : List Int) : Nat → List (List Int) → List (List Int) → Prop
  | zero : Ins p 0 [] []
  | succ {k : Nat} {A B : List (List Int)} {r : Nat} : Ins p k A B → InsAt A (nth p k) r → Ins p (k + 1) (insA A (nth p k) r) (grow B r ((k : Int) + 1))
theorem Ins.det {p : List Int} {k : Nat} {A B : List (List Int)} (h : Ins p k A B) : ∀ {A' B' : List (List Int)}, Ins p k A' B' → A = A' ∧ B = B' := by
  induction h with
  | zero => intro A' B' h'; cases h'; exact ⟨rfl, rfl⟩
  | @succ k A B r h1 h2 ih =>
    intro A' B' h'
    cases h' with
    | @succ _ A2 B2 r2 k1 k2 =>
      obtain ⟨rfl, rfl⟩ := ih k1
      obtain rfl := h2.uniq k2
      exact ⟨rfl, rfl⟩
theorem grow_len (L : List (List Int)) (r : Nat) (x : Int) : (grow L r x).length = if r = L.length then L.length + 1 else L.length := by
  unfold grow; split <;> simp
theorem Ins.len {p : List Int} {k : Nat} {A B : List (List Int)} (h : Ins p k A B) : A.length = B.length ∧ A.length ≤ k := by
  induction h with
  | zero => simp
  | @succ k A B r h1 h2 ih =>
    unfold insA
    rw [grow_len, grow_len, isL_len, ih.1]
    have := ih.2; have := ih.1
    split <;> omega
/-! ### all numbers are p's -/
theorem flat_split {L : List (List Int)} {r : Nat} (h : r < L.length) : L = L.take r ++ nthL L r :: L.drop (r + 1) := by
  rw [nthL_get h, List.getElem_cons_drop, List.take_append_drop]
theorem flat_set {L : List (List Int)} {r : Nat} (h : r < L.length) (y : List Int) : ((L.set r y).flatten ++ nthL L r).Perm (L.flatten ++ y) := by
  have e1 : L.set r y = L.take r ++ y :: L.drop (r + 1) := by rw [List.set_eq_take_append_cons_drop, if_pos h]
  have e2 := congrArg List.flatten (flat_split h)
  rw [e1, e2]
  rw [List.perm_iff_count]
  intro a
  simp only [List.flatten_append, List.flatten_cons, List.count_append]
  omega
theorem row_set {r : List Int} {c : Nat} (h : c < r.length) (v : Int) : (r.set c v ++ [nth r c]).Perm (r ++ [v]) := by
  have e1 : r.set c v = r.take c ++ v :: r.drop (c + 1) := by rw [List.set_eq_take_append_cons_drop, if_pos h]
  have e2 : r = r.take c ++ nth r c :: r.drop (c + 1) := by rw [nth_get h, List.getElem_cons_drop, List.take_append_drop]
  rw [e1]
  conv => rhs; rw [e2]
  rw [List.perm_iff_count]
  intro a
  simp only [List.count_append, List.count_cons, List.count_nil]
  omega
/-- on the way down nothing is lost. -/
theorem is_perm {L : List (List Int)} {v : Int} : ∀ r, r ≤ L.length → (∀ j, j < r → ¬ Stop L v j) → ((isL L v r).flatten ++ [isV L v r]).Perm (L.flatten ++ [v]) := by
  intro r
  induction r with
  | zero => intro _ _; exact List.Perm.refl _
  | succ r ih =>
    intro hr hs
    have h1 := ih (by omega) (fun j hj => hs j (by omega))
    have hns := hs r (by omega)
    have hlen := isL_len L v r
    obtain ⟨M, hM⟩ : ∃ M, M = isL L v r := ⟨_, rfl⟩
    obtain ⟨x, hx⟩ : ∃ x, x = isV L v r := ⟨_, rfl⟩
    rw [isL_succ, isV_succ]
    rw [← hM, ← hx] at h1 ⊢
    rw [← hM] at hlen
    have hfi : fi x (nthL M r) < (nthL M r).length := by
      have := fi_le x (nthL M r)
      rcases Nat.lt_or_ge (fi x (nthL M r)) (nthL M r).length with e | e
      · exact e
      · exact absurd (.inr (by rw [← hM, ← hx]; omega)) hns
    refine List.Perm.trans ?_ h1
    have a := flat_set (L := M) (r := r) (by omega) ((nthL M r).set (fi x (nthL M r)) x)
    have b := row_set hfi x
    rw [List.perm_iff_count] at a b ⊢
    intro y
    have a' := a y
    have b' := b y
    simp only [List.count_append] at a' b' ⊢
    omega
theorem grow_perm {L : List (List Int)} {r : Nat} (h : r ≤ L.length) (x : Int) : (grow L r x).flatten.Perm (L.flatten ++ [x]) := by
  unfold grow
  split
  · simp
  · have hr : r < L.length := by omega
    have a := flat_set hr (nthL L r ++ [x])
    rw [List.perm_iff_count] at a ⊢
    intro y
    have a' := a y
    simp only [List.count_append] at a' ⊢
    omega
theorem Ins.flat {p : List Int} {k : Nat} {A B : List (List Int)} (h : Ins p k A B) (hk : k ≤ p.length) : A.flatten.Perm (p.take k) := by
  induction h with
  | zero => simp
  | @succ k A B r h1 h2 ih =>
    have h3 := ih (by omega)
    unfold insA
    refine (grow_perm (by rw [isL_len]; exact h2.1) _).trans ?_
    refine (is_perm r h2.1 h2.2.2).trans ?_
    rw [List.take_succ_eq_append_getElem (by omega)]
    have : p[k] = nth p k := by simp [nth, List.getD, show k < p.length by omega]
    rw [this]
    exact List.Perm.append_right _ h3
theorem row_le_flat {L : List (List Int)} {r : Nat} (h : r < L.length) : (nthL L r).length ≤ L.flatten.length := by
  have := congrArg List.length (congrArg List.flatten (flat_split h))
  simp at this
  rw [List.length_flatten]; omega
/-- the number that goes down is in no row. -/
theorem is_fresh {L : List (List Int)} {v : Int} (hn : (L.flatten ++ [v]).Nodup) {r : Nat} (hr : r < L.length) (hs : ∀ j, j < r → ¬ Stop L v j) : isV L v r ∉ nthL (isL L v r) r := by
  have h1 := (is_perm r (by omega) hs).nodup_iff.2 hn
  intro hm
  rw [List.nodup_append] at h1
  have h2 : isV L v r ∈ (isL L v r).flatten := List.mem_flatten.2 ⟨_, nthL_mem (by rw [isL_len]; exact hr), hm⟩
  exact h1.2.2 _ h2 _ (List.mem_singleton.2 rfl) rfl
end Go.Proofs.Ytognbiodplodhaa
