/- Two tables that lie apart. Conditions: none. -/
import Derived.Test.YtognbiodplodhaaInsW
namespace Go.Proofs.Ytognbiodplodhaa
open Go.RowKit

def own (vs : List Value) (k : Nat) : Prop := ∃ i, i < vs.length ∧ (nthV vs i).ownBlock = some k
structure TT (B : Nat) (w : World) (ba ca : Nat) (va : List Value) (A : List (List Int)) (bb cb : Nat) (vb : List Value) (T : List (List Int)) : Prop where
  ra : Row 24 w ba ca va
  rb : Row 24 w bb cb vb
  ea : Els B w.heap.size w va A
  eb : Els B w.heap.size w vb T
  dis : ∀ k, own va k → ¬ own vb k
  ne : ba ≠ bb
  la : B ≤ ba
  lb : B ≤ bb
theorem TT.swap {B : Nat} {w : World} {ba ca : Nat} {va : List Value} {A : List (List Int)} {bb cb : Nat} {vb : List Value} {T : List (List Int)} (h : TT B w ba ca va A bb cb vb T) : TT B w bb cb vb T ba ca va A :=
  ⟨h.rb, h.ra, h.eb, h.ea, fun k h1 h2 => h.dis k h2 h1, fun e => h.ne e.symm, h.lb, h.la⟩
theorem TT.ext {B : Nat} {w w' : World} {ba ca : Nat} {va : List Value} {A : List (List Int)} {bb cb : Nat} {vb : List Value} {T : List (List Int)} (h : TT B w ba ca va A bb cb vb T) (hu : Ext w w') : TT B w' ba ca va A bb cb vb T :=
  ⟨h.ra.ext hu, h.rb.ext hu, (h.ea.ext hu).mono (Nat.le_refl _) hu.size, (h.eb.ext hu).mono (Nat.le_refl _) hu.size, h.dis, h.ne, h.la, h.lb⟩
/-- the first table turned, in its own blocks or in new ones. -/
theorem TT.stepA {B : Nat} {w w' : World} {ba ca : Nat} {va : List Value} {A : List (List Int)} {bb cb : Nat} {vb : List Value} {T : List (List Int)} (h : TT B w ba ca va A bb cb vb T) {ba' ca' : Nat} {va' : List Value} {A' : List (List Int)}
    (h4 : Row 24 w' ba' ca' va') (h5 : Els B w'.heap.size w' va' A') (h6 : ∀ i k, i < va'.length → (nthV va' i).ownBlock = some k → (i < va.length ∧ (nthV va i).ownBlock = some k) ∨ w.heap.size ≤ k) (h7 : ba' = ba ∨ w.heap.size ≤ ba')
    (h8 : Upd (fun k => k = ba ∨ ∃ i, i < va.length ∧ (nthV va i).ownBlock = some k) w w') (hB : B ≤ w.heap.size) : TT B w' ba' ca' va' A' bb cb vb T := by
  have hbb := h.rb.lt
  have hlo : ∀ k, own vb k → k < w.heap.size := by
    rintro k ⟨i, hi, hk⟩
    have := h.eb.len
    exact ((h.eb.el i (by omega)).own hk).2
  refine ⟨h4, h.rb.upd h8 ?_, h5, (h.eb.upd h8 ?_).mono (Nat.le_refl _) h8.size, ?_, ?_, ?_, h.lb⟩
  · rintro (e | ⟨i, hi, hk⟩)
    · exact h.ne e.symm
    · have := h.ea.len
      exact (h.ea.el i (by omega)).offOuter h.rb hk
  · rintro i k hi hk (e | ⟨j, hj, hk2⟩)
    · exact (h.eb.el i hi).offOuter h.ra (by rw [hk, e])
    · exact h.dis k ⟨j, hj, hk2⟩ ⟨i, by rw [h.eb.len]; exact hi, hk⟩
  · rintro k ⟨i, hi, hk⟩ h2
    rcases h6 i k hi hk with ⟨e1, e2⟩ | e
    · exact h.dis k ⟨i, e1, e2⟩ h2
    · have := hlo k h2; omega
  · rcases h7 with e | e
    · rw [e]; exact h.ne
    · omega
  · rcases h7 with e | e
    · rw [e]; exact h.la
    · omega
/-- what a step turns lies from block B on. -/
theorem TT.lowA {B : Nat} {w : World} {ba ca : Nat} {va : List Value} {A : List (List Int)} {bb cb : Nat} {vb : List Value} {T : List (List Int)} (h : TT B w ba ca va A bb cb vb T) : ∀ k, (k = ba ∨ ∃ i, i < va.length ∧ (nthV va i).ownBlock = some k) → B ≤ k := by
  rintro k (e | ⟨i, hi, hk⟩)
  · rw [e]; exact h.la
  · have := h.ea.len
    exact ((h.ea.el i (by omega)).own hk).1
theorem grow_ne {L : List (List Int)} {r : Nat} {x : Int} (h : ∀ i, i < L.length → 0 < (nthL L i).length) (_hr : r ≤ L.length) : ∀ i, i < (grow L r x).length → 0 < (nthL (grow L r x) i).length := by
  intro i hi
  unfold grow at hi ⊢
  by_cases e : r = L.length
  · rw [if_pos e] at hi ⊢
    rcases Nat.lt_or_ge i L.length with e2 | e2
    · rw [nthL_append_lt e2]; exact h i e2
    · obtain rfl : i = L.length := by simp at hi; omega
      simp [nthL]
  · rw [if_neg e] at hi ⊢
    have hi' : i < L.length := by simpa using hi
    by_cases e2 : r = i
    · subst e2; rw [nthL_set_same _ hi']; simp
    · rw [nthL_set_other _ e2]; exact h i hi'
theorem isL_pos {L : List (List Int)} (h : ∀ i, i < L.length → 0 < (nthL L i).length) (v : Int) (r : Nat) : ∀ i, i < (isL L v r).length → 0 < (nthL (isL L v r) i).length := by
  induction r with
  | zero => exact h
  | succ r ih =>
    rw [isL_succ]
    intro i hi
    have hi' : i < (isL L v r).length := by simpa using hi
    by_cases e2 : r = i
    · subst e2; rw [nthL_set_same _ hi', List.length_set]; exact ih _ hi'
    · rw [nthL_set_other _ e2]; exact ih i hi'
theorem Ins.pos {p : List Int} {k : Nat} {A B : List (List Int)} (h : Ins p k A B) : (∀ i, i < A.length → 0 < (nthL A i).length) ∧ (∀ i, i < B.length → 0 < (nthL B i).length) := by
  induction h with
  | zero => exact ⟨fun i hi => by simp at hi, fun i hi => by simp at hi⟩
  | @succ k A B r h1 h2 ih =>
    refine ⟨?_, grow_ne ih.2 (by rw [← h1.len.1]; exact h2.1)⟩
    unfold insA
    exact grow_ne (isL_pos ih.1 _ _) (by rw [isL_len]; exact h2.1)
theorem Ins.ne {p : List Int} {k : Nat} {A B : List (List Int)} (h : Ins p k A B) (hk : k ≤ p.length) (h8 : p.length ≤ 8) : NE A := by
  intro i hi
  have h1 := row_le_flat hi
  have h2 := (h.flat hk).length_eq
  rw [List.length_take] at h2
  exact ⟨h.pos.1 i hi, by omega⟩
/-- the rows of the second table are no longer than 8. -/
theorem Ins.flatB {p : List Int} {k : Nat} {A B : List (List Int)} (h : Ins p k A B) : B.flatten.length = k := by
  induction h with
  | zero => rfl
  | @succ k A B r h1 h2 ih =>
    have := (grow_perm (L := B) (r := r) (by rw [← h1.len.1]; exact h2.1) ((k : Int) + 1)).length_eq
    rw [this, List.length_append, ih]; rfl
theorem Ins.bd {p : List Int} {k : Nat} {A B : List (List Int)} (h : Ins p k A B) (h8 : k ≤ 8) : ∀ i, i < B.length → (nthL B i).length ≤ 8 := fun i hi => by
  have h1 := row_le_flat hi
  rw [h.flatB] at h1; omega
end Go.Proofs.Ytognbiodplodhaa
