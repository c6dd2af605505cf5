/- Parallel queues, without program text: what a plan puts out, when that is sorted, how many queues are needed. Conditions: none. -/
import Derived.Test.YtplcnehiaokdjaaCntQ
import Derived.Test.YtplcnehiaokdjaaSort
namespace Go.Proofs.Ytplcnehiaokdjaa
open Go.RowKit

def qPush (Q : List (List Int)) (k : Nat) (x : Int) : List (List Int) := Q.set k (nthL Q k ++ [x])
def qsTo (p plan : List Int) : Nat → List (List Int)
  | 0 => List.replicate 8 []
  | j + 1 => qPush (qsTo p plan j) (nth plan j).toNat (nth p j)
theorem qsTo_len (p plan : List Int) (j : Nat) : (qsTo p plan j).length = 8 := by
  induction j with
  | zero => simp [qsTo]
  | succ j ih => simp [qsTo, qPush, ih]
def headI (Q : List (List Int)) (k : Nat) : Int := nth (nthL Q k) 0
def bestTo (Q : List (List Int)) : Nat → Int
  | 0 => -1
  | k + 1 => if 0 < (nthL Q k).length ∧ (bestTo Q k < 0 ∨ headI Q k < headI Q (bestTo Q k).toNat) then (k : Int) else bestTo Q k
def bestN (Q : List (List Int)) : Nat := (bestTo Q 8).toNat
def popQ (Q : List (List Int)) : List (List Int) := Q.set (bestN Q) ((nthL Q (bestN Q)).drop 1)
def rpQ (Q : List (List Int)) : Nat → List (List Int)
  | 0 => Q
  | j + 1 => popQ (rpQ Q j)
def rpO (Q : List (List Int)) : Nat → List Int
  | 0 => []
  | j + 1 => rpO Q j ++ [headI (rpQ Q j) (bestN (rpQ Q j))]
theorem rpQ_len (Q : List (List Int)) (j : Nat) : (rpQ Q j).length = Q.length := by
  induction j with
  | zero => rfl
  | succ j ih => simp [rpQ, popQ, ih]
theorem rpO_len (Q : List (List Int)) (j : Nat) : (rpO Q j).length = j := by
  induction j with
  | zero => rfl
  | succ j ih => simp [rpO, ih]
def planOK (plan : List Int) : Bool := plan.all fun k => decide (0 ≤ k ∧ k < 8)
def rpB (p plan : List Int) : Bool := isP8 p && (decide (plan.length = p.length) && planOK plan)
def rpL (p plan : List Int) : List Int := bif rpB p plan then rpO (qsTo p plan p.length) p.length else []
def spB (p plan : List Int) : Bool := rpB p plan && srtB (rpL p plan)
theorem planOK_at {plan : List Int} (h : planOK plan = true) {k : Nat} (hk : k < plan.length) : 0 ≤ nth plan k ∧ nth plan k < 8 := by
  have := List.all_eq_true.1 h _ (nth_mem hk)
  simpa using this
theorem planOK_bad {plan : List Int} {k : Nat} (hk : k < plan.length) (h : ¬ (0 ≤ nth plan k ∧ nth plan k < 8)) : planOK plan = false := by
  rw [Bool.eq_false_iff]; intro hh; exact h (planOK_at hh hk)
theorem rpB_true {p plan : List Int} (h : rpB p plan = true) : isP8 p = true ∧ plan.length = p.length ∧ planOK plan = true := by simpa [rpB] using h
theorem rpL_len (p plan : List Int) : (rpL p plan).length ≤ p.length := by
  unfold rpL
  cases rpB p plan
  · simp
  · simp [rpO_len]
theorem bound_RunPlan (p plan : List Int) (h : p.length ≤ 1048576) (_h2 : plan.length ≤ 1048576) : (rpL p plan).length ≤ 1048576 := by
  have := rpL_len p plan; omega

/-! ### the best front -/
/-- what the first k queues' best front is. -/
def BestOK (Q : List (List Int)) (k : Nat) (b : Int) : Prop :=
  (b = -1 ∧ ∀ i, i < k → (nthL Q i).length = 0) ∨ (0 ≤ b ∧ b < k ∧ 0 < (nthL Q b.toNat).length ∧ ∀ i, i < k → 0 < (nthL Q i).length → headI Q b.toNat ≤ headI Q i)
theorem bestTo_ok (Q : List (List Int)) : ∀ k, BestOK Q k (bestTo Q k) := by
  intro k
  induction k with
  | zero => exact .inl ⟨rfl, fun i h => by omega⟩
  | succ k ih =>
    unfold bestTo
    split
    · next h =>
      obtain ⟨h1, h2⟩ := h
      refine .inr ⟨by omega, by push_cast; omega, by simpa using h1, fun i hi hl => ?_⟩
      rw [Int.toNat_natCast]
      rcases Nat.lt_or_ge i k with e | e
      · rcases ih with ⟨_, h4⟩ | ⟨h3, h4, h5, h6⟩
        · have := h4 i e; omega
        · have := h6 i e hl
          rcases h2 with h2 | h2 <;> omega
      · obtain rfl : i = k := by omega
        exact Int.le_refl _
    · next h =>
      rcases ih with ⟨h3, h4⟩ | ⟨h3, h4, h5, h6⟩
      · refine .inl ⟨h3, fun i hi => ?_⟩
        rcases Nat.lt_or_ge i k with e | e
        · exact h4 i e
        · obtain rfl : i = k := by omega
          rcases Nat.eq_zero_or_pos (nthL Q i).length with e2 | e2
          · exact e2
          · exact absurd ⟨e2, .inl (by omega)⟩ h
      · refine .inr ⟨h3, by push_cast; omega, h5, fun i hi hl => ?_⟩
        rcases Nat.lt_or_ge i k with e | e
        · exact h6 i e hl
        · obtain rfl : i = k := by omega
          rcases Int.lt_or_le (headI Q i) (headI Q (bestTo Q i).toNat) with e2 | e2
          · exact absurd ⟨hl, .inr e2⟩ h
          · exact e2
theorem bestTo_lt (Q : List (List Int)) (k : Nat) : -1 ≤ bestTo Q k ∧ bestTo Q k < k := by
  rcases bestTo_ok Q k with ⟨h, _⟩ | ⟨h1, h2, _⟩ <;> omega

/-! ### what lies in the queues -/
theorem flat_set {Q : List (List Int)} {k : Nat} (h : k < Q.length) (ys : List Int) : (Q.set k ys).flatten.Perm (ys ++ (Q.set k []).flatten) := by
  have e : ∀ zs : List Int, Q.set k zs = Q.take k ++ zs :: Q.drop (k + 1) := fun zs => by rw [List.set_eq_take_append_cons_drop, if_pos h]
  rw [e ys, e []]
  simp only [List.flatten_append, List.flatten_cons, List.nil_append]
  rw [← List.append_assoc, ← List.append_assoc]
  exact List.Perm.append_right _ List.perm_append_comm
theorem flat_self {Q : List (List Int)} {k : Nat} (h : k < Q.length) : Q.flatten.Perm (nthL Q k ++ (Q.set k []).flatten) := by
  have := flat_set h (nthL Q k)
  rw [nthL_get h] at this ⊢
  rw [List.set_getElem_self h] at this
  exact this
theorem push_perm {Q : List (List Int)} {k : Nat} (h : k < Q.length) (x : Int) : (qPush Q k x).flatten.Perm (Q.flatten ++ [x]) := by
  refine (flat_set h _).trans ?_
  refine List.Perm.trans ?_ ((flat_self h).symm.append_right [x])
  rw [List.append_assoc, List.append_assoc]
  exact List.Perm.append_left _ List.perm_append_comm
theorem qs_perm {p plan : List Int} (hl : plan.length = p.length) (hok : planOK plan = true) : ∀ j, j ≤ p.length → (qsTo p plan j).flatten.Perm (p.take j) := by
  intro j
  induction j with
  | zero => intro _; simp [qsTo]
  | succ j ih =>
    intro hj
    have hb := planOK_at hok (k := j) (by omega)
    rw [take_nth (by omega)]
    exact (push_perm (by rw [qsTo_len]; omega) _).trans ((ih (by omega)).append_right _)
/-- a front is there as long as something is. -/
theorem best_some {Q : List (List Int)} (h8 : Q.length = 8) (h : 0 < Q.flatten.length) : 0 ≤ bestTo Q 8 ∧ bestTo Q 8 < 8 ∧ bestN Q < 8 ∧ bestTo Q 8 = (bestN Q : Int) ∧ 0 < (nthL Q (bestN Q)).length ∧ ∀ i, i < 8 → 0 < (nthL Q i).length → headI Q (bestN Q) ≤ headI Q i := by
  rcases bestTo_ok Q 8 with ⟨_, h2⟩ | ⟨h1, h2, h3, h4⟩
  · exfalso
    have : Q.flatten = [] := by
      rw [List.flatten_eq_nil_iff]
      intro l hl
      obtain ⟨i, hi, rfl⟩ := List.getElem_of_mem hl
      have := h2 i (by omega)
      rw [nthL_get hi] at this
      exact List.eq_nil_of_length_eq_zero this
    rw [this] at h; simp at h
  · unfold bestN
    exact ⟨h1, h2, by omega, by omega, h3, h4⟩
theorem drop1 {l : List Int} (h : 0 < l.length) : l = nth l 0 :: l.drop 1 := by
  cases l with
  | nil => simp at h
  | cons x l => simp [nth]
theorem pop_perm {Q : List (List Int)} (h8 : Q.length = 8) (h : 0 < Q.flatten.length) : Q.flatten.Perm (headI Q (bestN Q) :: (popQ Q).flatten) := by
  obtain ⟨_, _, h1, _, h2, _⟩ := best_some h8 h
  have h3 := flat_self (Q := Q) (k := bestN Q) (by omega)
  have h4 := flat_set (Q := Q) (k := bestN Q) (by omega) ((nthL Q (bestN Q)).drop 1)
  refine h3.trans ?_
  conv => lhs; rw [drop1 h2]
  exact List.Perm.cons _ h4.symm
theorem pop_len {Q : List (List Int)} {n : Nat} (h8 : Q.length = 8) (h : Q.flatten.length = n + 1) : (popQ Q).flatten.length = n := by
  have := (pop_perm h8 (by omega)).length_eq
  simp only [List.length_cons] at this
  omega
theorem rp_len {Q : List (List Int)} (h8 : Q.length = 8) : ∀ j, j ≤ Q.flatten.length → (rpQ Q j).flatten.length = Q.flatten.length - j := by
  intro j
  induction j with
  | zero => intro _; simp [rpQ]
  | succ j ih =>
    intro hj
    have := ih (by omega)
    exact pop_len (by rw [rpQ_len]; exact h8) (by omega)
theorem rp_some {Q : List (List Int)} (h8 : Q.length = 8) {j : Nat} (hj : j < Q.flatten.length) : 0 < (rpQ Q j).flatten.length := by have := rp_len h8 j (by omega); omega
theorem rp_perm {Q : List (List Int)} (h8 : Q.length = 8) : ∀ j, j ≤ Q.flatten.length → (rpO Q j ++ (rpQ Q j).flatten).Perm Q.flatten := by
  intro j
  induction j with
  | zero => intro _; simp [rpQ, rpO]
  | succ j ih =>
    intro hj
    have h1 := pop_perm (Q := rpQ Q j) (by rw [rpQ_len]; exact h8) (rp_some h8 (by omega))
    refine List.Perm.trans ?_ (ih (by omega))
    show (rpO Q j ++ [headI (rpQ Q j) (bestN (rpQ Q j))] ++ (popQ (rpQ Q j)).flatten).Perm _
    rw [List.append_assoc]
    exact List.Perm.append_left _ h1.symm
theorem rp_all {Q : List (List Int)} (h8 : Q.length = 8) : (rpO Q Q.flatten.length).Perm Q.flatten ∧ (rpQ Q Q.flatten.length).flatten = [] := by
  have h1 := rp_len h8 Q.flatten.length (Nat.le_refl _)
  have h2 : (rpQ Q Q.flatten.length).flatten = [] := List.eq_nil_of_length_eq_zero (by omega)
  have h3 := rp_perm h8 Q.flatten.length (Nat.le_refl _)
  rw [h2, List.append_nil] at h3
  exact ⟨h3, h2⟩
theorem rpL_perm {p plan : List Int} (h : rpB p plan = true) : (rpL p plan).Perm p := by
  obtain ⟨h1, h2, h3⟩ := rpB_true h
  have hq := qs_perm h2 h3 p.length (Nat.le_refl _)
  rw [take_all (Nat.le_refl _)] at hq
  have := (rp_all (qsTo_len p plan p.length)).1
  rw [hq.length_eq] at this
  unfold rpL
  rw [h]
  exact this.trans hq
theorem IsP.perm' {xs ys : List Int} (h : IsP xs) (hp : ys.Perm xs) : IsP ys :=
  ⟨fun x hx => by rw [hp.length_eq]; exact h.1 x (hp.mem_iff.1 hx), hp.nodup_iff.2 h.2⟩
theorem rpL_isP {p plan : List Int} (h : rpB p plan = true) : IsP (rpL p plan) := (isP8_iff.1 (rpB_true h).1).2.perm' (rpL_perm h)

/-! ### when it is sorted -/
def Asc (l : List Int) : Prop := l.Pairwise (· ≤ ·)
theorem Asc.of_srt {xs : List Int} (h : Srt xs) : Asc xs := by
  have key : ∀ j i, i < j → j < xs.length → nth xs i ≤ nth xs j := by
    intro j
    induction j with
    | zero => intro i h; omega
    | succ j ih =>
      intro i hi hj
      have h1 := h j hj
      rcases Nat.lt_or_ge i j with e | e
      · have := ih i e (by omega); omega
      · obtain rfl : i = j := by omega
        exact h1
  unfold Asc
  rw [List.pairwise_iff_getElem]
  intro i j hi hj hij
  have := key j i hij hj
  rwa [nth_get hi, nth_get hj] at this
theorem Asc.srt {xs : List Int} (h : Asc xs) : Srt xs := by
  intro i hi
  have := List.pairwise_iff_getElem.1 h i (i + 1) (by omega) hi (by omega)
  rwa [nth_get (by omega), nth_get hi]
/-- of each queue what has gone out is a part of the output. -/
theorem rp_sub {Q : List (List Int)} (h8 : Q.length = 8) : ∀ j, j ≤ Q.flatten.length → ∀ k, k < 8 → ∃ l, nthL Q k = l ++ nthL (rpQ Q j) k ∧ l.Sublist (rpO Q j) := by
  intro j
  induction j with
  | zero => intro _ k _; exact ⟨[], rfl, List.nil_sublist _⟩
  | succ j ih =>
    intro hj k hk
    obtain ⟨l, h1, h2⟩ := ih (by omega) k hk
    obtain ⟨_, _, h3, _, h4, _⟩ := best_some (Q := rpQ Q j) (by rw [rpQ_len]; exact h8) (rp_some h8 (by omega))
    have hlen : (rpQ Q j).length = 8 := by rw [rpQ_len]; exact h8
    by_cases e : bestN (rpQ Q j) = k
    · refine ⟨l ++ [headI (rpQ Q j) k], ?_, ?_⟩
      · show _ = _ ++ nthL (popQ (rpQ Q j)) k
        unfold popQ
        rw [e, nthL_set_same _ (by omega), h1]
        rw [e] at h4
        conv => lhs; rw [drop1 h4]
        simp [headI]
      · show List.Sublist _ (rpO Q j ++ [headI (rpQ Q j) (bestN (rpQ Q j))])
        rw [e]
        exact h2.append (List.Sublist.refl _)
    · refine ⟨l, ?_, ?_⟩
      · show _ = _ ++ nthL (popQ (rpQ Q j)) k
        unfold popQ
        rw [nthL_set_other _ e]; exact h1
      · exact h2.trans (List.sublist_append_left _ _)
theorem nil_of_flat {Q : List (List Int)} (h : Q.flatten = []) {k : Nat} (hk : k < Q.length) : nthL Q k = [] := by
  rw [List.flatten_eq_nil_iff] at h
  exact h _ (nthL_mem hk)
theorem asc_out {Q : List (List Int)} (h8 : Q.length = 8) (h : Asc (rpO Q Q.flatten.length)) {k : Nat} (hk : k < 8) : Asc (nthL Q k) := by
  obtain ⟨l, h1, h2⟩ := rp_sub h8 Q.flatten.length (Nat.le_refl _) k hk
  rw [nil_of_flat (rp_all h8).2 (by rw [rpQ_len]; omega), List.append_nil] at h1
  rw [h1]
  exact List.Pairwise.sublist h2 h
theorem mem_flat {Q : List (List Int)} {x : Int} (h : x ∈ Q.flatten) : ∃ k, k < Q.length ∧ x ∈ nthL Q k := by
  rw [List.mem_flatten] at h
  obtain ⟨l, hl, hx⟩ := h
  obtain ⟨i, hi, rfl⟩ := List.getElem_of_mem hl
  exact ⟨i, hi, by rw [nthL_get hi]; exact hx⟩
theorem head_le {l : List Int} (h : Asc l) {x : Int} (hx : x ∈ l) : nth l 0 ≤ x := by
  cases l with
  | nil => simp at hx
  | cons y l =>
    have := List.pairwise_cons.1 h
    simp [nth]
    rcases List.mem_cons.1 hx with e | e
    · omega
    · exact this.1 x e
theorem out_asc {Q : List (List Int)} (h8 : Q.length = 8) (h : ∀ k, k < 8 → Asc (nthL Q k)) : ∀ j, j ≤ Q.flatten.length → Asc (rpO Q j) ∧ (∀ k, k < 8 → Asc (nthL (rpQ Q j) k)) ∧ ∀ x ∈ rpO Q j, ∀ y ∈ (rpQ Q j).flatten, x ≤ y := by
  intro j
  induction j with
  | zero => intro _; exact ⟨List.Pairwise.nil, h, fun x hx => by simp [rpO] at hx⟩
  | succ j ih =>
    intro hj
    obtain ⟨h1, h2, h3⟩ := ih (by omega)
    have hlen : (rpQ Q j).length = 8 := by rw [rpQ_len]; exact h8
    have hsome := rp_some h8 (show j < Q.flatten.length by omega)
    obtain ⟨_, _, h4, _, h5, h6⟩ := best_some hlen hsome
    have hp := pop_perm hlen hsome
    have hmin : ∀ y ∈ (rpQ Q j).flatten, headI (rpQ Q j) (bestN (rpQ Q j)) ≤ y := by
      intro y hy
      obtain ⟨k, hk, hyk⟩ := mem_flat hy
      have := h6 k (by omega) (List.length_pos_of_mem hyk)
      have := head_le (h2 k (by omega)) hyk
      unfold headI at *
      omega
    have hin : headI (rpQ Q j) (bestN (rpQ Q j)) ∈ (rpQ Q j).flatten := hp.mem_iff.2 (by simp)
    have hsub : ∀ y ∈ (popQ (rpQ Q j)).flatten, y ∈ (rpQ Q j).flatten := fun y hy => hp.mem_iff.2 (by simp [hy])
    refine ⟨?_, ?_, ?_⟩
    · show Asc (rpO Q j ++ [_])
      unfold Asc
      rw [List.pairwise_append]
      exact ⟨h1, List.pairwise_singleton _ _, fun x hx y hy => by simp at hy; subst hy; exact h3 x hx _ hin⟩
    · intro k hk
      show Asc (nthL (popQ (rpQ Q j)) k)
      unfold popQ
      by_cases e : bestN (rpQ Q j) = k
      · subst e
        rw [nthL_set_same _ (by omega)]
        exact List.Pairwise.sublist (List.drop_sublist _ _) (h2 _ h4)
      · rw [nthL_set_other _ e]; exact h2 k hk
    · intro x hx y hy
      have hx' : x ∈ rpO Q j ++ [headI (rpQ Q j) (bestN (rpQ Q j))] := hx
      rcases List.mem_append.1 hx' with e | e
      · exact h3 x e y (hsub y hy)
      · simp at e; subst e; exact hmin y (hsub y hy)
theorem srt_iff {Q : List (List Int)} (h8 : Q.length = 8) : srtB (rpO Q Q.flatten.length) = true ↔ ∀ k, k < 8 → Asc (nthL Q k) := by
  rw [srtB_iff]
  exact ⟨fun h k hk => asc_out h8 (Asc.of_srt h) hk, fun h => (out_asc h8 h _ (Nat.le_refl _)).1.srt⟩

/-! ### the queues' numbers by their places -/
theorem qs_nth {p plan : List Int} (hl : plan.length = p.length) (hok : planOK plan = true) : ∀ j, j ≤ p.length → ∀ k, k < 8 → nthL (qsTo p plan j) k = ((List.range j).filter fun i => decide (nth plan i = (k : Int))).map (nth p) := by
  intro j
  induction j with
  | zero =>
    intro _ k hk
    have : ∀ m, nthL (List.replicate m []) k = [] := fun m => by simp [nthL, List.getElem?_replicate]; split <;> rfl
    show nthL (List.replicate 8 []) k = _
    rw [this]; rfl
  | succ j ih =>
    intro hj k hk
    have h1 := ih (by omega) k hk
    have hb := planOK_at hok (k := j) (by omega)
    have hq := qsTo_len p plan j
    show nthL (qPush (qsTo p plan j) (nth plan j).toNat (nth p j)) k = _
    rw [List.range_succ, List.filter_append, List.map_append, ← h1]
    unfold qPush
    by_cases e : (nth plan j).toNat = k
    · subst e
      rw [nthL_set_same _ (by omega)]
      congr 1
      have : nth plan j = ((nth plan j).toNat : Int) := by omega
      simp [← this]
    · rw [nthL_set_other _ e]
      have : ¬ nth plan j = (k : Int) := by omega
      simp [this]
/-- each queue ascends. -/
def fineB (p plan : List Int) : Bool := (List.range p.length).all fun i => (List.range i).all fun j => decide (nth plan i ≠ nth plan j ∨ nth p j < nth p i)
theorem fine_iff {p plan : List Int} (hp : IsP p) (hl : plan.length = p.length) (hok : planOK plan = true) : (∀ k, k < 8 → Asc (nthL (qsTo p plan p.length) k)) ↔ fineB p plan = true := by
  have hn := fun k hk => qs_nth hl hok p.length (Nat.le_refl _) k hk
  unfold fineB
  simp only [List.all_eq_true, List.mem_range, decide_eq_true_eq]
  constructor
  · intro h i hi j hj
    have hb := planOK_at hok (k := i) (by omega)
    rcases Decidable.em (nth plan i = nth plan j) with e | e
    · right
      have h1 := h (nth plan i).toNat (by omega)
      rw [hn _ (by omega)] at h1
      unfold Asc at h1
      rw [List.pairwise_map, List.pairwise_filter] at h1
      have h2 := List.pairwise_iff_getElem.1 h1 j i (by simp; omega) (by simpa using hi) hj
      simp only [List.getElem_range, decide_eq_true_eq] at h2
      have h3 := h2 (by omega) (by omega)
      have h4 : nth p j ≠ nth p i := fun e2 => by have := hp.inj (by omega) hi e2; omega
      omega
    · exact .inl e
  · intro h k hk
    rw [hn k hk]
    unfold Asc
    rw [List.pairwise_map, List.pairwise_filter, List.pairwise_iff_getElem]
    intro i j hi hj hij
    simp only [List.getElem_range, decide_eq_true_eq]
    intro e1 e2
    have := h j (by simpa using hj) i hij
    omega
theorem sp_fine {p plan : List Int} (h : rpB p plan = true) : spB p plan = fineB p plan := by
  obtain ⟨h1, h2, h3⟩ := rpB_true h
  have hP := (isP8_iff.1 h1).2
  unfold spB rpL
  rw [h]
  simp only [Bool.true_and, cond_true]
  have hq := (qs_perm h2 h3 p.length (Nat.le_refl _)).length_eq
  rw [take_all (Nat.le_refl _)] at hq
  have := srt_iff (qsTo_len p plan p.length)
  rw [hq, fine_iff hP h2 h3] at this
  exact Bool.eq_iff_iff.2 this

/-! ### the greedy plan -/
/-- the greedy plan's state after k numbers: the ends fall; a number is at most its queue's end; a number above an earlier one has a number before in the queue before. -/
structure QInv (p : List Int) (k : Nat) (E O : List Int) : Prop where
  fall : ∀ a b, a < b → b < E.length → nth E b < nth E a
  ends : ∀ i, i < k → ∃ q : Nat, nth O i = (q : Int) ∧ q < E.length ∧ nth p i ≤ nth E q
  from_ : ∀ q, q < E.length → ∃ i, i < k ∧ nth p i = nth E q ∧ nth O i = (q : Int)
  prev : ∀ i, i < k → 0 < nth O i → ∃ j, j < i ∧ nth p i < nth p j ∧ nth O j + 1 = nth O i
  down : ∀ i j, j < i → i < k → nth p i < nth p j → nth O j < nth O i
  same : ∀ i j, j < i → i < k → nth O i = nth O j → nth p j < nth p i
theorem nth_snoc_lt {xs : List Int} {x : Int} {i : Nat} (h : i < xs.length) : nth (xs ++ [x]) i = nth xs i := by simp [nth, List.getElem?_append, h]
theorem nth_snoc_at {xs : List Int} {x : Int} {i : Nat} (h : i = xs.length) : nth (xs ++ [x]) i = x := by subst h; simp [nth]
theorem nth_setE {xs : List Int} {i j : Nat} {v : Int} (h : j < xs.length) : nth (xs.set i v) j = if i = j then v else nth xs j := by
  rw [nth_get (by simpa using h), nth_get h, List.getElem_set]
theorem qInv {p : List Int} (hp : IsP p) : ∀ k, k ≤ p.length → QInv p k (qSt p k).1 (qSt p k).2 := by
  intro k
  induction k with
  | zero => intro _; exact ⟨fun a b _ h => by simp [qSt] at h, fun i h => by omega, fun q h => by simp [qSt] at h, fun i h => by omega, fun i j _ h => by omega, fun i j _ h => by omega⟩
  | succ k ih =>
    intro hk
    have I := ih (by omega)
    have hO := (qSt_len p k).2
    obtain ⟨E, hE⟩ : ∃ E, E = (qSt p k).1 := ⟨_, rfl⟩
    obtain ⟨O, hOe⟩ : ∃ O, O = (qSt p k).2 := ⟨_, rfl⟩
    obtain ⟨v, hv⟩ : ∃ v, v = nth p k := ⟨_, rfl⟩
    have hst : qSt p (k + 1) = (qE E v, O ++ [(qp E v : Int)]) := by rw [hE, hOe, hv]; rfl
    rw [← hE, ← hOe] at I
    rw [← hOe] at hO
    rw [hst]
    have hql := qp_le E v
    have hlo : ∀ q, q < qp E v → v < nth E q := fun q h => (qp_lt h).2
    have hne : ∀ i, i < k → nth p i ≠ v := fun i hi e => by rw [hv] at e; have := hp.inj (by omega) (by omega) e; omega
    have hOlo : ∀ i, i < k → nth (O ++ [(qp E v : Int)]) i = nth O i := fun i hi => nth_snoc_lt (by omega)
    have hOk : nth (O ++ [(qp E v : Int)]) k = (qp E v : Int) := nth_snoc_at hO.symm
    -- the new ends
    have hElen : E.length ≤ (qE E v).length ∧ qp E v < (qE E v).length := by unfold qE; split <;> simp <;> omega
    have hEat : nth (qE E v) (qp E v) = v := by
      unfold qE; split
      · next e => rw [nth_snoc_at e]
      · next e => rw [nth_setE (by omega), if_pos rfl]
    have hEot : ∀ q, q < E.length → q ≠ qp E v → nth (qE E v) q = nth E q := by
      intro q hq hn
      unfold qE; split
      · rw [nth_snoc_lt hq]
      · rw [nth_setE hq, if_neg (fun e => hn e.symm)]
    have hEcase : ∀ q, q < (qE E v).length → q = qp E v ∨ (q < E.length ∧ q ≠ qp E v) := by
      intro q hq
      rcases Nat.lt_or_ge q E.length with h | h
      · rcases Decidable.em (q = qp E v) with e | e
        · exact .inl e
        · exact .inr ⟨h, e⟩
      · left
        have := qE_len E v
        unfold qE at hq
        split at hq
        · next e => simp at hq; omega
        · simp at hq; omega
    have hup : ∀ q, q < E.length → nth E q ≤ nth (qE E v) q := by
      intro q hq
      rcases Decidable.em (q = qp E v) with e | e
      · subst e; rw [hEat]; exact qp_at hq
      · rw [hEot q hq e]; exact Int.le_refl _
    refine ⟨?_, ?_, ?_, ?_, ?_, ?_⟩
    · intro a b hab hb
      rcases hEcase b hb with e | ⟨e1, e2⟩
      · subst e
        rw [hEat, hEot a (by omega) (by omega)]
        exact hlo a hab
      · rcases hEcase a (by omega) with e3 | ⟨e3, e4⟩
        · subst e3
          rw [hEat, hEot b e1 e2]
          have := I.fall _ b hab e1
          have := qp_at (E := E) (v := v) (by omega)
          omega
        · rw [hEot a e3 e4, hEot b e1 e2]; exact I.fall a b hab e1
    · intro i hi
      rcases Nat.lt_or_ge i k with h | h
      · obtain ⟨q, h1, h2, h3⟩ := I.ends i h
        exact ⟨q, by rw [hOlo i h]; exact h1, by show q < (qE E v).length; omega, Int.le_trans h3 (hup q h2)⟩
      · obtain rfl : i = k := by omega
        exact ⟨qp E v, hOk, hElen.2, by rw [hEat, hv]; exact Int.le_refl _⟩
    · intro q hq
      rcases hEcase q hq with e | ⟨e1, e2⟩
      · subst e; exact ⟨k, by omega, by rw [hEat, hv], hOk⟩
      · obtain ⟨i, h1, h2, h3⟩ := I.from_ q e1
        exact ⟨i, by omega, by rw [hEot q e1 e2]; exact h2, by rw [hOlo i h1]; exact h3⟩
    · intro i hi h0
      rcases Nat.lt_or_ge i k with h | h
      · rw [hOlo i h] at h0 ⊢
        obtain ⟨j, h1, h2, h3⟩ := I.prev i h h0
        exact ⟨j, h1, h2, by rw [hOlo j (by omega)]; exact h3⟩
      · obtain rfl : i = k := by omega
        rw [hOk] at h0 ⊢
        obtain ⟨j, h1, h2, h3⟩ := I.from_ (qp E v - 1) (by omega)
        exact ⟨j, h1, by rw [h2, ← hv]; exact hlo _ (by omega), by rw [hOlo j h1, h3]; omega⟩
    · intro i j hji hi hlt
      rcases Nat.lt_or_ge i k with h | h
      · rw [hOlo i h, hOlo j (by omega)]; exact I.down i j hji h hlt
      · obtain rfl : i = k := by omega
        rw [hOk, hOlo j hji]
        obtain ⟨q, h1, h2, h3⟩ := I.ends j hji
        rw [h1]
        rw [← hv] at hlt
        rcases Nat.lt_or_ge q (qp E v) with e | e
        · omega
        · have h4 := qp_at (E := E) (v := v) (by omega)
          rcases Nat.lt_or_ge (qp E v) q with e2 | e2
          · have := I.fall _ q e2 h2; omega
          · obtain rfl : q = qp E v := by omega
            omega
    · intro i j hji hi he
      rcases Nat.lt_or_ge i k with h | h
      · rw [hOlo i h, hOlo j (by omega)] at he; exact I.same i j hji h he
      · obtain rfl : i = k := by omega
        rw [hOk, hOlo j hji] at he
        obtain ⟨q, h1, h2, h3⟩ := I.ends j hji
        obtain rfl : q = qp E v := by omega
        have h4 := qp_at (E := E) (v := v) h2
        have h5 := hne j hji
        rw [← hv]; omega
theorem plan_inv {p : List Int} (hp : IsP p) : QInv p p.length (qSt p p.length).1 (planL p) := qInv hp _ (Nat.le_refl _)
theorem plan_ok8 {p : List Int} (h8 : p.length ≤ 8) : planOK (planL p) = true := by
  unfold planOK
  rw [List.all_eq_true]
  intro x hx
  have := planL_bd p x hx
  simp; omega
theorem plan_rp {p : List Int} (h : isP8 p = true) : rpB p (planL p) = true := by
  unfold rpB
  rw [h, plan_ok8 (isP8_iff.1 h).1, decide_eq_true (planL_len p)]; rfl
theorem plan_sorts {p : List Int} (h : isP8 p = true) : spB p (planL p) = true := by
  have hP := (isP8_iff.1 h).2
  rw [sp_fine (plan_rp h)]
  unfold fineB
  simp only [List.all_eq_true, List.mem_range, decide_eq_true_eq]
  intro i hi j hj
  have I := plan_inv hP
  rcases Decidable.em (nth (planL p) i = nth (planL p) j) with e | e
  · exact .inr (I.same i j hj hi e)
  · exact .inl e

/-! ### the longest descent -/
/-- of a list: the length of the longest ascent that ends at each place; their greatest. -/
def upAt (r : List Int) (E : List Int) (x : Int) : Nat → Int
  | 0 => 1
  | i + 1 => if nth r i < x then max (upAt r E x i) (nth E i + 1) else upAt r E x i
def upE (r : List Int) : Nat → List Int
  | 0 => []
  | k + 1 => upE r k ++ [upAt r (upE r k) (nth r k) k]
def upTo (r : List Int) : Nat → Int
  | 0 => 0
  | k + 1 => max (upTo r k) (upAt r (upE r k) (nth r k) k)
def ldI (p : List Int) : Int := bif isP8 p then upTo p.reverse p.length else -1
theorem upE_len (r : List Int) (k : Nat) : (upE r k).length = k := by
  induction k with
  | zero => rfl
  | succ k ih => simp [upE, ih]
theorem upE_nth (r : List Int) {i k : Nat} (h : i < k) : nth (upE r k) i = upAt r (upE r i) (nth r i) i := by
  induction k with
  | zero => omega
  | succ k ih =>
    show nth (upE r k ++ [_]) i = _
    rcases Nat.lt_or_ge i k with e | e
    · rw [nth_snoc_lt (by rw [upE_len]; exact e)]; exact ih e
    · obtain rfl : i = k := by omega
      rw [nth_snoc_at (upE_len _ _).symm]
theorem upAt_ge (r E : List Int) (x : Int) (n : Nat) : 1 ≤ upAt r E x n ∧ ∀ i, i < n → nth r i < x → nth E i + 1 ≤ upAt r E x n := by
  induction n with
  | zero => exact ⟨by simp [upAt], fun i h => by omega⟩
  | succ n ih =>
    unfold upAt
    obtain ⟨h1, h2⟩ := ih
    split
    · next e =>
      refine ⟨by omega, fun i hi hx => ?_⟩
      rcases Nat.lt_or_ge i n with h | h
      · have := h2 i h hx; omega
      · obtain rfl : i = n := by omega
        omega
    · next e =>
      refine ⟨h1, fun i hi hx => ?_⟩
      rcases Nat.lt_or_ge i n with h | h
      · exact h2 i h hx
      · obtain rfl : i = n := by omega
        exact absurd hx e
theorem upAt_ex (r E : List Int) (x : Int) (n : Nat) : upAt r E x n = 1 ∨ ∃ i, i < n ∧ nth r i < x ∧ upAt r E x n = nth E i + 1 := by
  induction n with
  | zero => exact .inl rfl
  | succ n ih =>
    unfold upAt
    split
    · next e =>
      rcases Int.le_total (upAt r E x n) (nth E n + 1) with h | h
      · right; exact ⟨n, by omega, e, by omega⟩
      · rw [Int.max_eq_left h]
        rcases ih with h1 | ⟨i, h1, h2, h3⟩
        · exact .inl h1
        · exact .inr ⟨i, by omega, h2, h3⟩
    · rcases ih with h1 | ⟨i, h1, h2, h3⟩
      · exact .inl h1
      · exact .inr ⟨i, by omega, h2, h3⟩
theorem upTo_ge (r : List Int) : ∀ k i, i < k → upAt r (upE r i) (nth r i) i ≤ upTo r k := by
  intro k
  induction k with
  | zero => intro i h; omega
  | succ k ih =>
    intro i hi
    unfold upTo
    rcases Nat.lt_or_ge i k with e | e
    · have := ih i e; omega
    · obtain rfl : i = k := by omega
      omega
theorem upTo_ex (r : List Int) : ∀ k, upTo r k = 0 ∧ k = 0 ∨ ∃ i, i < k ∧ upTo r k = upAt r (upE r i) (nth r i) i := by
  intro k
  induction k with
  | zero => exact .inl ⟨rfl, rfl⟩
  | succ k ih =>
    right
    unfold upTo
    rcases Int.le_total (upTo r k) (upAt r (upE r k) (nth r k) k) with h | h
    · exact ⟨k, by omega, by omega⟩
    · rw [Int.max_eq_left h]
      rcases ih with ⟨h1, h2⟩ | ⟨i, h1, h2⟩
      · have := (upAt_ge r (upE r k) (nth r k) k).1
        omega
      · exact ⟨i, by omega, h2⟩
theorem nth_rev {p : List Int} {i : Nat} (h : i < p.length) : nth p.reverse i = nth p (p.length - 1 - i) := by
  rw [nth_get (by simpa using h), nth_get (by omega), List.getElem_reverse]
/-- the greatest of a list whose numbers climb along falls is the longest descent. -/
theorem cq_ld {p : List Int} : cqI p = ldI p := by
  unfold cqI ldI
  cases hp8 : isP8 p
  · rfl
  obtain ⟨h8, hp⟩ := isP8_iff.1 hp8
  simp only [cond_true]
  have I := plan_inv hp
  obtain ⟨n, hn⟩ : ∃ n, n = p.length := ⟨_, rfl⟩
  -- f j: the longest descent from place j on
  obtain ⟨f, hf⟩ : ∃ f : Nat → Int, ∀ j, f j = upAt p.reverse (upE p.reverse (n - 1 - j)) (nth p.reverse (n - 1 - j)) (n - 1 - j) := ⟨_, fun _ => rfl⟩
  have hr : ∀ j, j < n → nth p.reverse (n - 1 - j) = nth p j := fun j hj => by
    rw [nth_rev (by omega)]; congr 1; omega
  have hF : ∀ j m, j < m → m ≤ n → nth (upE p.reverse (n - 1 - j + (m - m))) 0 = nth (upE p.reverse (n - 1 - j)) 0 := fun j m _ _ => by simp
  clear hF
  have f1 : ∀ j, 1 ≤ f j := fun j => by rw [hf]; exact (upAt_ge _ _ _ _).1
  have f2 : ∀ i j, i < j → j < n → nth p j < nth p i → f j + 1 ≤ f i := by
    intro i j hij hj hlt
    have := (upAt_ge p.reverse (upE p.reverse (n - 1 - i)) (nth p.reverse (n - 1 - i)) (n - 1 - i)).2 (n - 1 - j) (by omega) (by rw [hr i (by omega), hr j hj]; exact hlt)
    rw [upE_nth _ (by omega), ← hf, ← hf] at this
    exact this
  have f3 : ∀ j, j < n → f j = 1 ∨ ∃ i, j < i ∧ i < n ∧ nth p i < nth p j ∧ f j = f i + 1 := by
    intro j hj
    rcases upAt_ex p.reverse (upE p.reverse (n - 1 - j)) (nth p.reverse (n - 1 - j)) (n - 1 - j) with h | ⟨i, h1, h2, h3⟩
    · exact .inl (by rw [hf]; exact h)
    · right
      refine ⟨n - 1 - i, by omega, by omega, ?_, ?_⟩
      · have e1 := hr (n - 1 - i) (by omega)
        rw [show n - 1 - (n - 1 - i) = i by omega] at e1
        rw [← e1, ← hr j hj]; exact h2
      · have e2 : n - 1 - (n - 1 - i) = i := by omega
        rw [hf j, hf (n - 1 - i), e2, ← upE_nth p.reverse h1]; exact h3
  -- g j: the queue of place j
  have pl : ∀ j, j < n → 0 ≤ nth (planL p) j := fun j hj => (planL_bd p _ (nth_mem (by rw [planL_len]; omega))).1
  -- both maxima
  have F : ∀ j, j < n → f j ≤ upTo p.reverse n := by
    intro j hj
    have := upTo_ge p.reverse n (n - 1 - j) (by omega)
    rw [hf]; exact this
  have Fx : n = 0 ∧ upTo p.reverse n = 0 ∨ ∃ j, j < n ∧ upTo p.reverse n = f j := by
    rcases upTo_ex p.reverse n with ⟨h1, h2⟩ | ⟨i, h1, h2⟩
    · exact .inl ⟨h2, h1⟩
    · right; refine ⟨n - 1 - i, by omega, ?_⟩
      rw [hf, show n - 1 - (n - 1 - i) = i by omega]; exact h2
  have hpl := planL_len p
  have G : ∀ k, k ≤ n → (∀ j, j < k → nth (planL p) j + 1 ≤ mxP ((planL p).take k)) ∧ (k = 0 ∧ mxP ((planL p).take k) = 0 ∨ ∃ j, j < k ∧ mxP ((planL p).take k) = nth (planL p) j + 1) := by
    intro k
    induction k with
    | zero => intro _; exact ⟨fun j h => by omega, .inl ⟨rfl, rfl⟩⟩
    | succ k ih =>
      intro hk
      obtain ⟨g1, g2⟩ := ih (by omega)
      rw [mxP_succ (by omega)]
      refine ⟨fun j hj => ?_, ?_⟩
      · rcases Nat.lt_or_ge j k with e | e
        · have := g1 j e; omega
        · obtain rfl : j = k := by omega
          omega
      · right
        rcases Int.le_total (mxP ((planL p).take k)) (nth (planL p) k + 1) with h | h
        · exact ⟨k, by omega, by omega⟩
        · rw [Int.max_eq_left h]
          rcases g2 with ⟨h1, h2⟩ | ⟨j, h1, h2⟩
          · have := pl k (by omega); omega
          · exact ⟨j, by omega, h2⟩
  obtain ⟨G1, G2⟩ := G n (Nat.le_refl _)
  rw [take_all (by omega)] at G1 G2
  rw [← hn]
  -- g ≤ max f
  have A : ∀ m : Nat, ∀ j, j < n → nth (planL p) j = (m : Int) → f j + (m : Int) ≤ upTo p.reverse n := by
    intro m
    induction m with
    | zero => intro j hj e; have := F j hj; omega
    | succ m ih =>
      intro j hj e
      obtain ⟨i, h1, h2, h3⟩ := I.prev j (by omega) (by omega)
      have h4 := ih i (by omega) (by push_cast at e; omega)
      have h5 := f2 i j h1 hj h2
      push_cast; omega
  have B : ∀ m : Nat, ∀ j, j < n → f j = (m : Int) + 1 → nth (planL p) j + 1 + (m : Int) ≤ mxP (planL p) := by
    intro m
    induction m with
    | zero => intro j hj e; have := G1 j hj; omega
    | succ m ih =>
      intro j hj e
      rcases f3 j hj with h | ⟨i, h1, h2, h3, h4⟩
      · push_cast at e; omega
      · have h5 := ih i h2 (by push_cast at e; omega)
        have h6 := I.down i j h1 (by omega) h3
        push_cast; omega
  have up : mxP (planL p) ≤ upTo p.reverse n := by
    rcases G2 with ⟨h1, h2⟩ | ⟨j, h1, h2⟩
    · rcases Fx with ⟨_, h3⟩ | ⟨j, h3, _⟩
      · omega
      · omega
    · have h3 := pl j h1
      have := A (nth (planL p) j).toNat j h1 (by omega)
      have := f1 j
      omega
  have dn : upTo p.reverse n ≤ mxP (planL p) := by
    rcases Fx with ⟨h1, h2⟩ | ⟨j, h1, h2⟩
    · rcases G2 with ⟨_, h3⟩ | ⟨j, h3, _⟩
      · omega
      · omega
    · have h3 := f1 j
      have h4 := pl j h1
      have := B (f j - 1).toNat j h1 (by omega)
      omega
  omega
end Go.Proofs.Ytplcnehiaokdjaa
