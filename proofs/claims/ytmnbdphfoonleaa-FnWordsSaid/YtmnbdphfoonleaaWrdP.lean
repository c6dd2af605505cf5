/- Reduced words of a permutation, without program text. Conditions: none. -/
import Derived.Test.YtmnbdphfoonleaaStrP
import Derived.Test.YtmnbdphfoonleaaPutP
namespace Go.Proofs.Ytmnbdphfoonleaa
open Go.RowKit

/-- all reduced words, by the last exchange. -/
def rwF : Nat → List Int → List (List Int)
  | 0, _ => [[]]
  | f + 1, p => bif srtB p then [[]] else (List.range (p.length - 1)).flatMap fun i => bif decide (nth p (i + 1) < nth p i) then (rwF f (nsw p i)).map (· ++ [(i : Int) + 1]) else []
def rwL (p : List Int) : List (List Int) := rwF (inv p) p
def rwOne (p : List Int) (i : Nat) : List (List Int) := bif decide (nth p (i + 1) < nth p i) then (rwL (nsw p i)).map (· ++ [(i : Int) + 1]) else []
def rwTo (p : List Int) (k : Nat) : List (List Int) := (List.range k).flatMap (rwOne p)
theorem rwTo_succ (p : List Int) (k : Nat) : rwTo p (k + 1) = rwTo p k ++ rwOne p k := by simp [rwTo, List.range_succ]
theorem nsw_inv {p : List Int} {i : Nat} (hi : i + 1 < p.length) (h : nth p (i + 1) < nth p i) : inv p = inv (nsw p i) + 1 := by
  rw [nsw_wsw]
  exact inv_wsw (by omega) hi (by rw [Nat.add_sub_cancel]; exact h)
theorem nsw_isP {p : List Int} (hp : IsP p) {i : Nat} (hi : i + 1 < p.length) : IsP (nsw p i) := by
  rw [nsw_wsw]; exact isP_of_perm (wsw_perm p (i + 1) (by omega) hi).symm hp
theorem rwL_srt {p : List Int} (h : srtB p = true) : rwL p = [[]] := by
  unfold rwL; cases inv p <;> simp [rwF, h]
theorem rwL_step {p : List Int} (h : srtB p = false) : rwL p = rwTo p (p.length - 1) := by
  have hns : ¬ Srt p := fun hh => by rw [srtB_true hh] at h; simp at h
  obtain ⟨f, hf⟩ : ∃ f, inv p = f + 1 := ⟨inv p - 1, by
    have : inv p ≠ 0 := fun e => hns (inv_zero_srt e)
    omega⟩
  unfold rwL rwTo
  rw [hf]
  simp only [rwF, h, cond_false]
  rw [List.flatMap_def, List.flatMap_def]
  congr 1
  refine List.map_congr_left fun i hi => ?_
  have hi' : i + 1 < p.length := by have := List.mem_range.1 hi; omega
  unfold rwOne
  by_cases e : nth p (i + 1) < nth p i
  · rw [decide_eq_true e]
    simp only [cond_true]
    have := nsw_inv hi' e
    unfold rwL
    rw [show inv (nsw p i) = f by omega]
  · rw [decide_eq_false e]; rfl
theorem rw_all : ∀ (m : Nat) (p : List Int), IsP p → inv p = m → (∀ w ∈ rwL p, Rd p.length w ∧ wRun p.length w = p) ∧ (rwL p).Nodup ∧ (rwL p).length ≤ p.length ^ m := by
  intro m
  induction m with
  | zero =>
    intro p hp h
    have hs := inv_zero_srt h
    rw [rwL_srt (srtB_true hs)]
    have e := hs.eq_id hp
    refine ⟨fun w hw => ?_, by simp, by simp⟩
    simp at hw; subst hw
    have e2 : wRun p.length [] = p := e.symm
    exact ⟨⟨fun i hi => by simp at hi, by rw [e2, h]; rfl⟩, e2⟩
  | succ m ih =>
    intro p hp h
    have hs : srtB p = false := by
      rw [Bool.eq_false_iff]; intro hh
      have := inv_srt (srt_pairwise (srtB_iff.1 hh)); omega
    rw [rwL_step hs]
    have one : ∀ i, i + 1 < p.length → (∀ w ∈ rwOne p i, Rd p.length w ∧ wRun p.length w = p) ∧ (rwOne p i).Nodup ∧ (rwOne p i).length ≤ p.length ^ m ∧ ∀ w ∈ rwOne p i, ∃ u, w = u ++ [(i : Int) + 1] := by
      intro i hi
      unfold rwOne
      by_cases e : nth p (i + 1) < nth p i
      · rw [decide_eq_true e]
        simp only [cond_true]
        have hv := nsw_inv hi e
        obtain ⟨k1, k2, k3⟩ := ih (nsw p i) (nsw_isP hp hi) (by omega)
        rw [nsw_len] at k1 k3
        refine ⟨fun w hw => ?_, ?_, by rw [List.length_map]; exact k3, fun w hw => ?_⟩
        · simp only [List.mem_map] at hw
          obtain ⟨u, hu, rfl⟩ := hw
          obtain ⟨⟨r1, r2⟩, r3⟩ := k1 u hu
          have e1 : wRun p.length (u ++ [(i : Int) + 1]) = p := by
            rw [wRun_snoc, r3, nsw_wsw, show ((i : Int) + 1).toNat = i + 1 by omega]
            exact wsw_wsw (by omega) hi
          refine ⟨⟨fun x hx => ?_, ?_⟩, e1⟩
          · rcases List.mem_append.1 hx with hx | hx
            · exact r1 x hx
            · simp at hx; subst hx; omega
          · rw [e1, List.length_append, ← r2, r3]; simp; omega
        · rw [List.Nodup, List.pairwise_map]
          refine List.Pairwise.imp ?_ k2
          intro a b hab e2
          exact hab (List.append_cancel_right e2)
        · simp only [List.mem_map] at hw
          obtain ⟨u, _, rfl⟩ := hw
          exact ⟨u, rfl⟩
      · rw [decide_eq_false e]
        exact ⟨fun w hw => by simp at hw, by simp, by simp, fun w hw => by simp at hw⟩
    have key : ∀ k, k ≤ p.length - 1 → (∀ w ∈ rwTo p k, (Rd p.length w ∧ wRun p.length w = p) ∧ ∃ i u, i < k ∧ w = u ++ [(i : Int) + 1]) ∧ (rwTo p k).Nodup ∧ (rwTo p k).length ≤ k * p.length ^ m := by
      intro k
      induction k with
      | zero => intro _; exact ⟨fun w hw => by simp [rwTo] at hw, by simp [rwTo], by simp [rwTo]⟩
      | succ k ihk =>
        intro hk
        obtain ⟨a1, a2, a3⟩ := ihk (by omega)
        obtain ⟨b1, b2, b3, b4⟩ := one k (by omega)
        rw [rwTo_succ]
        refine ⟨fun w hw => ?_, ?_, ?_⟩
        · rcases List.mem_append.1 hw with hw | hw
          · obtain ⟨c1, i, u, c2, c3⟩ := a1 w hw
            exact ⟨c1, i, u, by omega, c3⟩
          · obtain ⟨u, c3⟩ := b4 w hw
            exact ⟨b1 w hw, k, u, by omega, c3⟩
        · rw [List.nodup_append]
          refine ⟨a2, b2, fun x hx y hy e => ?_⟩
          obtain ⟨_, i, u, c2, c3⟩ := a1 x hx
          obtain ⟨u2, c4⟩ := b4 y hy
          rw [e, c4] at c3
          have := List.append_inj_right' c3 rfl
          simp at this
          omega
        · rw [List.length_append, Nat.add_mul, Nat.one_mul]; omega
    obtain ⟨c1, c2, c3⟩ := key (p.length - 1) (Nat.le_refl _)
    refine ⟨fun w hw => (c1 w hw).1, c2, Nat.le_trans c3 ?_⟩
    rw [Nat.pow_succ, Nat.mul_comm]
    exact Nat.mul_le_mul_left _ (by omega)
theorem rwL_mem {p : List Int} (hp : IsP p) {w : List Int} (h : w ∈ rwL p) : Rd p.length w ∧ wRun p.length w = p := (rw_all _ p hp rfl).1 w h
theorem rwL_nodup {p : List Int} (hp : IsP p) : (rwL p).Nodup := (rw_all _ p hp rfl).2.1
theorem rwL_len {p : List Int} (hp : IsP p) : (rwL p).length ≤ p.length ^ inv p := (rw_all _ p hp rfl).2.2
theorem rwL_wlen {p : List Int} (hp : IsP p) {w : List Int} (h : w ∈ rwL p) : w.length = inv p := by
  obtain ⟨⟨_, h1⟩, h2⟩ := rwL_mem hp h
  rw [h2] at h1; exact h1.symm
theorem inv_tri (xs : List Int) : 2 * inv xs ≤ xs.length * (xs.length - 1) := by
  induction xs with
  | nil => simp [inv]
  | cons x r ih =>
    have h1 : r.countP (fun y => decide (y < x)) ≤ r.length := List.countP_le_length
    simp only [inv, List.length_cons, Nat.add_sub_cancel]
    have h2 : r.length * (r.length - 1) + 2 * r.length = (r.length + 1) * r.length := by
      cases hn : r.length with
      | zero => rfl
      | succ n => simp only [Nat.add_sub_cancel]; rw [Nat.mul_comm (n + 1) n, ← Nat.add_mul]
    omega

/-! ### the reduced words in order -/
def rdOK (p : List Int) : Bool := isP8 p && decide (1 ≤ p.length ∧ p.length ≤ 5 ∧ inv p ≤ 7)
def rdL (p : List Int) : List (List Int) := bif rdOK p then putAll (rwL p) else []
def crOK (p : List Int) : Bool := isP8 p && decide (1 ≤ p.length ∧ p.length ≤ 6)
def crI (p : List Int) : Int := bif crOK p then ((rwL p).length : Int) else -1
theorem rdOK_true {p : List Int} (h : rdOK p = true) : isP8 p = true ∧ 1 ≤ p.length ∧ p.length ≤ 5 ∧ inv p ≤ 7 := by simpa [rdOK] using h
theorem rd_small {p : List Int} (h : rdOK p = true) : (rwL p).length ≤ 78125 := by
  obtain ⟨h1, h2, h3, h4⟩ := rdOK_true h
  refine Nat.le_trans (rwL_len (isP8_iff.1 h1).2) ?_
  refine Nat.le_trans (Nat.pow_le_pow_left h3 _) ?_
  exact Nat.pow_le_pow_right (n := 5) (by omega) h4
theorem cr_small {p : List Int} (hp : IsP p) (h6 : p.length ≤ 6) : (rwL p).length ≤ 470184984576 := by
  refine Nat.le_trans (rwL_len hp) ?_
  refine Nat.le_trans (Nat.pow_le_pow_left h6 _) ?_
  have h1 := inv_tri p
  have h2 : p.length * (p.length - 1) ≤ 6 * 5 := Nat.mul_le_mul h6 (by omega)
  exact Nat.pow_le_pow_right (n := 6) (by omega) (show inv p ≤ 15 by omega)
/-- what FnWords says of each of the list's words. -/
theorem rd_each {p : List Int} {w : List Int} (h : w ∈ rdL p) : wpL p.length w = p ∧ wokB p.length w = true ∧ irB p.length w = true ∧ (w.length : Int) = invI p := by
  unfold rdL at h
  cases hr : rdOK p
  · rw [hr] at h; simp at h
  rw [hr] at h
  obtain ⟨h1, h2, h3, h4⟩ := rdOK_true hr
  have hp := (isP8_iff.1 h1).2
  have hm : w ∈ rwL p := (putAll_mem _ _).1 h
  obtain ⟨⟨k1, k2⟩, k3⟩ := rwL_mem hp hm
  have hl := rwL_wlen hp hm
  have hok : wokB (p.length : Int) w = true := by
    unfold wokB
    rw [decide_eq_true (by omega), Bool.true_and, List.all_eq_true]
    intro i hi
    exact decide_eq_true (k1 i hi)
  refine ⟨?_, hok, ?_, ?_⟩
  · unfold wpL; rw [hok]; simp only [cond_true, Int.toNat_natCast]; exact k3
  · unfold irB; rw [hok, Bool.true_and, Int.toNat_natCast]; exact decide_eq_true k2
  · unfold invI; rw [if_pos h1]; omega
theorem rd_count {p : List Int} (h : 0 < (rdL p).length) : ((rdL p).length : Int) = crI p := by
  unfold rdL at h ⊢
  cases hr : rdOK p
  · rw [hr] at h; simp at h
  obtain ⟨h1, h2, h3, h4⟩ := rdOK_true hr
  have hp := (isP8_iff.1 h1).2
  simp only [cond_true]
  unfold crI crOK
  rw [h1, decide_eq_true (by omega)]
  simp only [Bool.true_and, cond_true]
  rw [(putAll_perm (rwL_nodup hp)).length_eq]
/-- of a word: the inversions are at most its length, and as odd or even. -/
theorem word_par {n : Int} {w : List Int} (h : wokB n w = true) : invI (wpL n w) ≤ w.length ∧ ((w.length : Int) - invI (wpL n w)) % 2 = 0 := by
  have hn := wok_true h
  have hw : wIn n.toNat w := fun i hi => by have := hn.2.2.2 i hi; omega
  have e : wpL n w = wRun n.toNat w := by unfold wpL; rw [h]; rfl
  have hp : IsP (wRun n.toNat w) := wRun_perm hw
  have h8 : isP8 (wRun n.toNat w) = true := isP8_true (by rw [wRun_len]; omega) hp
  obtain ⟨h1, h2⟩ := inv_word w hw
  rw [e]
  unfold invI
  rw [if_pos h8]
  omega
end Go.Proofs.Ytmnbdphfoonleaa
