/- Patterns: does one occur, and how often; the program's search. Conditions: lengths of at most 8. -/
import Derived.Test.YtoieaphacnaohaaBase2
import Derived.Test.YtoieaphacnaohaaRow3
import Derived.Test.YtoieaphacnaohaaCopy
namespace Go.Proofs.Ytoieaphacnaohaa
open Go.RowKit

def nthN (d : List Nat) (k : Nat) : Nat := d.getD k 0
def ivals (d : List Nat) : List Int := d.map fun (x : Nat) => (x : Int)
def jvals (d : List Nat) : List Int := d.map fun (x : Nat) => (x : Int) + 1
theorem ivals_len (d : List Nat) : (ivals d).length = d.length := by simp [ivals]
theorem jvals_len (d : List Nat) : (jvals d).length = d.length := by simp [jvals]
theorem ivals_nth {d : List Nat} {k : Nat} (h : k < d.length) : nth (ivals d) k = (nthN d k : Int) := by simp [nth, nthN, ivals, h]
theorem jvals_nth {d : List Nat} {k : Nat} (h : k < d.length) : nth (jvals d) k = (nthN d k : Int) + 1 := by simp [nth, nthN, jvals, h]
theorem ivals_push (d : List Nat) (i : Nat) : ivals d ++ [(i : Int)] = ivals (d ++ [i]) := by simp [ivals]
theorem jvals_push (d : List Nat) (i : Nat) : jvals d ++ [(i : Int) + 1] = jvals (d ++ [i]) := by simp [jvals]
theorem nthN_mem {d : List Nat} {k : Nat} (h : k < d.length) : nthN d k ∈ d := by simp [nthN, h]
def fitTo (p q : List Int) (d : List Nat) (i k : Nat) : Bool := (List.range k).all fun l => decide (nth p (nthN d l) < nth p i) == decide (nth q l < nth q d.length)
def fitB (p q : List Int) (d : List Nat) (i : Nat) : Bool := fitTo p q d i d.length
theorem fitTo_zero (p q : List Int) (d : List Nat) (i : Nat) : fitTo p q d i 0 = true := rfl
theorem fitTo_succ (p q : List Int) (d : List Nat) (i k : Nat) : fitTo p q d i (k + 1) = (fitTo p q d i k && (decide (nth p (nthN d k) < nth p i) == decide (nth q k < nth q d.length))) := by simp [fitTo, List.range_succ]
theorem fitTo_false {p q : List Int} {d : List Nat} {i k m : Nat} (h : fitTo p q d i k = false) (hm : k ≤ m) : fitTo p q d i m = false := by
  induction m with
  | zero => obtain rfl : k = 0 := by omega
            exact h
  | succ m ih =>
    by_cases e : k = m + 1
    · subst e; exact h
    · rw [fitTo_succ, ih (by omega)]; rfl
def fromN (d : List Nat) : Nat := if d.length = 0 then 0 else nthN d (d.length - 1) + 1
theorem fromN_le {d : List Nat} {n : Nat} (h : ∀ x ∈ d, x < n) : fromN d ≤ n := by
  unfold fromN
  split
  · omega
  · have := h _ (nthN_mem (d := d) (k := d.length - 1) (by omega)); omega
theorem fromN_push (d : List Nat) (i : Nat) : fromN (d ++ [i]) = i + 1 := by simp [fromN, nthN]
def anyC (h : Nat → Bool) (t : Nat) : Bool := (List.range t).any h
theorem anyC_succ (h : Nat → Bool) (t : Nat) : anyC h (t + 1) = (anyC h t || h t) := by simp [anyC, List.range_succ]
theorem anyC_iff {h : Nat → Bool} {t : Nat} : anyC h t = true ↔ ∃ i, i < t ∧ h i = true := by simp [anyC]
theorem anyC_true {h : Nat → Bool} {t i : Nat} (hi : i < t) (hh : h i = true) : anyC h t = true := anyC_iff.2 ⟨i, hi, hh⟩
theorem anyC_down {h : Nat → Bool} {t m : Nat} (hm : m ≤ t) (hh : anyC h t = false) : anyC h m = false := by
  rw [Bool.eq_false_iff] at hh ⊢
  intro hx
  obtain ⟨i, h1, h2⟩ := anyC_iff.1 hx
  exact hh (anyC_true (show i < t by omega) h2)
def stepB (g : List Nat → Bool) (p q : List Int) (d : List Nat) (i : Nat) : Bool := decide (fromN d ≤ i) && (fitB p q d i && g (d ++ [i]))
theorem stepB_low (g : List Nat → Bool) (p q : List Int) (d : List Nat) : anyC (stepB g p q d) (fromN d) = false := by
  rw [Bool.eq_false_iff]; intro hx
  obtain ⟨i, h1, h2⟩ := anyC_iff.1 hx
  simp [stepB] at h2; omega
def haB (p q : List Int) : Nat → List Nat → Bool
  | 0, _ => true
  | f + 1, d => anyC (stepB (haB p q f) p q d) (p.length - f)
def sumC (h : Nat → Nat) : Nat → Nat
  | 0 => 0
  | t + 1 => sumC h t + h t
theorem sumC_pos {h : Nat → Nat} {t : Nat} : 0 < sumC h t ↔ ∃ i, i < t ∧ 0 < h i := by
  induction t with
  | zero => simp [sumC]
  | succ t ih =>
    simp only [sumC]
    constructor
    · intro hx
      by_cases e : 0 < h t
      · exact ⟨t, by omega, e⟩
      · obtain ⟨i, h1, h2⟩ := ih.1 (by omega)
        exact ⟨i, by omega, h2⟩
    · rintro ⟨i, h1, h2⟩
      by_cases e : i = t
      · subst e; omega
      · have := ih.2 ⟨i, by omega, h2⟩; omega
theorem sumC_le {h : Nat → Nat} {m : Nat} (hh : ∀ i, h i ≤ m) (t : Nat) : sumC h t ≤ t * m := by
  induction t with
  | zero => simp [sumC]
  | succ t ih => simp only [sumC]; have := hh t; rw [Nat.succ_mul]; omega
theorem sumC_mono {h : Nat → Nat} {s t : Nat} (hst : s ≤ t) : sumC h s ≤ sumC h t := by
  induction t with
  | zero => obtain rfl : s = 0 := by omega
            exact Nat.le_refl _
  | succ t ih =>
    by_cases e : s = t + 1
    · subst e; exact Nat.le_refl _
    · have := ih (by omega); simp only [sumC]; omega
def stepN (g : List Nat → Nat) (p q : List Int) (d : List Nat) (i : Nat) : Nat := bif decide (fromN d ≤ i) && fitB p q d i then g (d ++ [i]) else 0
theorem stepN_low (g : List Nat → Nat) (p q : List Int) (d : List Nat) : sumC (stepN g p q d) (fromN d) = 0 := by
  apply Nat.eq_zero_of_not_pos
  intro hx
  obtain ⟨i, h1, h2⟩ := sumC_pos.1 hx
  have : decide (fromN d ≤ i) = false := decide_eq_false (by omega)
  simp [stepN, this] at h2
theorem stepN_t {g : List Nat → Nat} {p q : List Int} {d : List Nat} {i : Nat} (h : fromN d ≤ i) (hf : fitB p q d i = true) : stepN g p q d i = g (d ++ [i]) := by simp [stepN, h, hf]
theorem stepN_f {g : List Nat → Nat} {p q : List Int} {d : List Nat} {i : Nat} (hf : fitB p q d i = false) : stepN g p q d i = 0 := by simp [stepN, hf]
def cntF (p q : List Int) : Nat → List Nat → Nat
  | 0, _ => 1
  | f + 1, d => sumC (stepN (cntF p q f) p q d) p.length
theorem cntF_le (p q : List Int) : ∀ f d, cntF p q f d ≤ p.length ^ f := by
  intro f
  induction f with
  | zero => intro d; simp [cntF]
  | succ f ih =>
    intro d
    simp only [cntF]
    refine Nat.le_trans (sumC_le (m := p.length ^ f) (fun i => ?_) _) (by rw [Nat.pow_succ, Nat.mul_comm]; exact Nat.le_refl _)
    unfold stepN
    cases decide (fromN d ≤ i) && fitB p q d i
    · exact Nat.zero_le _
    · exact ih _
theorem cntF_room (p q : List Int) : ∀ f d, fromN d ≤ p.length → 0 < cntF p q f d → fromN d + f ≤ p.length := by
  intro f
  induction f with
  | zero => intro d h _; omega
  | succ f ih =>
    intro d h hc
    simp only [cntF] at hc
    obtain ⟨i, h1, h2⟩ := sumC_pos.1 hc
    unfold stepN at h2
    cases hb : decide (fromN d ≤ i) && fitB p q d i
    · rw [hb] at h2; simp at h2
    · rw [hb] at h2
      simp at hb h2
      have := ih (d ++ [i]) (by rw [fromN_push]; omega) h2
      rw [fromN_push] at this; omega
theorem haB_cnt (p q : List Int) : ∀ f d, fromN d ≤ p.length → haB p q f d = decide (0 < cntF p q f d) := by
  intro f
  induction f with
  | zero => intro d _; simp [haB, cntF]
  | succ f ih =>
    intro d h
    rw [Bool.eq_iff_iff, decide_eq_true_iff]
    simp only [haB, cntF]
    rw [anyC_iff, sumC_pos]
    constructor
    · rintro ⟨i, h1, h2⟩
      simp only [stepB, Bool.and_eq_true, decide_eq_true_eq] at h2
      refine ⟨i, by omega, ?_⟩
      rw [stepN_t h2.1 h2.2.1]
      have := h2.2.2
      rw [ih _ (by rw [fromN_push]; omega)] at this
      simpa using this
    · rintro ⟨i, h1, h2⟩
      unfold stepN at h2
      cases hb : decide (fromN d ≤ i) && fitB p q d i
      · rw [hb] at h2; simp at h2
      · rw [hb] at h2
        simp at hb h2
        have hr := cntF_room p q f (d ++ [i]) (by rw [fromN_push]; omega) h2
        rw [fromN_push] at hr
        refine ⟨i, by omega, ?_⟩
        simp only [stepB, Bool.and_eq_true, decide_eq_true_eq]
        refine ⟨hb.1, hb.2, ?_⟩
        rw [ih _ (by rw [fromN_push]; omega)]
        simpa using h2

theorem wpl_unguard {P : Program} {ops : Array Oper} {Q : Exit → Act → World → Prop} {a : Act} {w : World} {rest : List Oper} {o : Oper} (hw : Region.wanted o (yielded ops a.tmps) = true)
    (h : wpList P ops Q ({ o with guard := none } :: rest) a w) : wpList P ops Q (o :: rest) a w := by
  unfold wpList at h ⊢
  rw [if_pos hw]
  rw [if_pos (by simp [Region.wanted])] at h
  exact h
end Go.Proofs.Ytoieaphacnaohaa
