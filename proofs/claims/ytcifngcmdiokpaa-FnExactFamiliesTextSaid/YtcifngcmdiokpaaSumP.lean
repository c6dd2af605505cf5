/- The parts of a sum: the pattern of a part is the part lowered. No program text. Conditions: none. -/
import Derived.Test.YtcifngcmdiokpaaLayP
import Derived.Test.YtcifngcmdiokpaaSurj
namespace Go.Proofs.Ytcifngcmdiokpaa
open Go.RowKit

theorem idL_nodup (n : Nat) : (idL n).Nodup := by
  unfold idL List.Nodup
  rw [List.pairwise_map]
  exact List.nodup_range.imp (fun h e => h (by omega))
theorem idL_mem {n : Nat} {x : Int} : x ∈ idL n ↔ 1 ≤ x ∧ x ≤ n := by
  unfold idL
  rw [List.mem_map]
  constructor
  · rintro ⟨i, hi, rfl⟩
    have := List.mem_range.1 hi; omega
  · intro h
    exact ⟨(x - 1).toNat, List.mem_range.2 (by omega), by omega⟩
theorem isP_idL {q : List Int} (h : IsP q) : q.Perm (idL q.length) := by
  rw [List.perm_ext_iff_of_nodup h.2 (idL_nodup _)]
  intro x
  rw [idL_mem]
  constructor
  · exact h.1 x
  · intro hx
    obtain ⟨j, hj, e⟩ := h.surj hx.1 hx.2
    rw [← e]; exact nth_mem hj
theorem ltC_idL (n : Nat) (x : Int) (h1 : 1 ≤ x) (h2 : x ≤ (n : Int) + 1) : (ltC (idL n) x : Int) = x - 1 := by
  induction n generalizing x with
  | zero => have : x = 1 := by omega
            subst this; rfl
  | succ n ih =>
    have e : idL (n + 1) = idL n ++ [(n : Int) + 1] := by simp [idL, List.range_succ]
    have e2 : ltC (idL (n + 1)) x = ltC (idL n) x + ltC [(n : Int) + 1] x := by rw [e]; unfold ltC; rw [List.countP_append]
    rw [e2]
    by_cases hx : (n : Int) + 1 < x
    · have : ltC [(n : Int) + 1] x = 1 := by simp [ltC, hx]
      rw [this]
      have hc : ltC (idL n) x = n := by
        unfold ltC
        rw [List.countP_eq_length.2 (fun y hy => by have := idL_mem.1 hy; simp; omega), idL_len]
      rw [hc]; omega
    · have : ltC [(n : Int) + 1] x = 0 := by simp [ltC]; omega
      rw [this]
      have := ih x h1 (by omega)
      omega
theorem ltC_isP {q : List Int} (h : IsP q) {x : Int} (hx : x ∈ q) : (ltC q x : Int) = x - 1 := by
  have e : ltC q x = ltC (idL q.length) x := (isP_idL h).countP_eq _
  rw [e]
  have := h.1 x hx
  exact ltC_idL _ _ this.1 (by omega)
theorem isP_ne {p : List Int} (h : IsP p) {i j : Nat} (hi : i < p.length) (hj : j < p.length) (hij : i ≠ j) : nth p i ≠ nth p j := fun e => hij (h.inj hi hj e)
def Clo (p : List Int) (f : Nat) : Prop := ∀ t, t < f → nth p t ≤ f
theorem clo_of {p : List Int} {k : Nat} (hc : cloB p k = true) : Clo p (k + 1) := by
  intro t ht
  have h1 := spM_ge (p := p) (i := k + 1) (t := t) ht
  have h2 := of_decide_eq_true hc
  rw [h2] at h1; omega
theorem spF_clo (p : List Int) (k : Nat) : Clo p (spF p k) := by
  induction k with
  | zero => intro t ht; simp [spF] at ht
  | succ k ih =>
    cases hc : cloB p k
    · have e : spF p (k + 1) = spF p k := by simp [spF, hc]
      rw [e]; exact ih
    · have e : spF p (k + 1) = k + 1 := by simp [spF, hc]
      rw [e]; exact clo_of hc
theorem clo_rest {p : List Int} (hp : IsP p) {f t : Nat} (hc : Clo p f) (hf : f ≤ t) (ht : t < p.length) : (f : Int) < nth p t := by
  rcases Int.lt_or_le (f : Int) (nth p t) with h | h
  · exact h
  · exfalso
    have hl : (p.take f).length = f := by rw [List.length_take]; omega
    have htn : ∀ j, j < f → nth (p.take f) j = nth p j := fun j hj => by simp [nth, hj]
    have hP : IsP (p.take f) := ⟨fun x hx => by
      obtain ⟨j, hj, e⟩ := List.getElem_of_mem hx
      rw [← nth_get hj] at e
      rw [hl] at hj ⊢
      rw [htn j hj] at e
      have h1 := hc j hj
      have h2 := hp.1 _ (nth_mem (xs := p) (k := j) (by omega))
      rw [← e]; omega, hp.2.sublist (List.take_sublist _ _)⟩
    have h1 := hp.1 _ (nth_mem ht)
    obtain ⟨j, hj, e⟩ := hP.surj (v := nth p t) h1.1 (by rw [hl]; exact h)
    rw [hl] at hj
    rw [htn j hj] at e
    exact isP_ne hp (by omega) ht (by omega) e
/-- the pattern of a part. -/
theorem seg_pat {p : List Int} (hp : IsP p) {k : Nat} (hk : k < p.length) (hc : cloB p k = true) : patL (seg p (spF p k) (k + 1)) = (seg p (spF p k) (k + 1)).map (fun x => x - (spF p k : Int)) := by
  have hfl := spF_le p k
  obtain ⟨f, hf⟩ : ∃ f, f = spF p k := ⟨_, rfl⟩
  have hclf : Clo p f := by rw [hf]; exact spF_clo p k
  rw [← hf] at hfl ⊢
  have hlen : (seg p f (k + 1)).length = k + 1 - f := seg_len (by omega)
  have hval : ∀ x ∈ seg p f (k + 1), (f : Int) < x ∧ x ≤ (k : Int) + 1 := by
    intro x hx
    obtain ⟨t, ht, e⟩ := List.getElem_of_mem hx
    rw [← nth_get ht, seg_nth (by omega)] at e
    have h1 := clo_rest hp hclf (show f ≤ f + t by omega) (by omega)
    have h2 := clo_of hc (f + t) (by omega)
    rw [← e]; omega
  have hnd : (seg p f (k + 1)).Nodup := hp.2.sublist ((List.take_sublist _ _).trans (List.drop_sublist _ _))
  have hP : IsP ((seg p f (k + 1)).map (fun x => x - (f : Int))) := ⟨fun y hy => by
    simp only [List.mem_map] at hy
    obtain ⟨x, hx, rfl⟩ := hy
    have := hval x hx
    rw [List.length_map, hlen]; omega, by
    unfold List.Nodup
    rw [List.pairwise_map]
    exact List.Pairwise.imp (fun h e => h (by omega)) hnd⟩
  unfold patL
  refine List.map_congr_left fun x hx => ?_
  have h1 : ltC (seg p f (k + 1)) x = ltC ((seg p f (k + 1)).map (fun x => x - (f : Int))) (x - f) := by
    unfold ltC
    rw [List.countP_map]
    refine List.countP_congr fun y _ => ?_
    simp
  have h2 := ltC_isP hP (x := x - f) (List.mem_map.2 ⟨x, hx, rfl⟩)
  rw [h1]; omega
end Go.Proofs.Ytcifngcmdiokpaa
