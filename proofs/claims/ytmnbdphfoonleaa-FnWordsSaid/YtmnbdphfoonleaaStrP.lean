/- The strong and the weak order, without program text: parts of a reduced word, covers, chains. Conditions: none. -/
import Derived.Test.YtmnbdphfoonleaaStr
import Derived.Test.YtmnbdphfoonleaaWeak
import Derived.Test.YtmnbdphfoonleaaWcov
import Derived.Test.YtmnbdphfoonleaaSub
import Derived.Test.YtmnbdphfoonleaaSurj
import Derived.Test.YtmnbdphfoonleaaPerm
namespace Go.Proofs.Ytmnbdphfoonleaa
open Go.RowKit

/-! ### the strong order as a comparison of all counts -/
def leS (p q : List Int) : Prop := ∀ i v, cntG p i v ≤ cntG q i v
theorem leS.refl (p : List Int) : leS p p := fun _ _ => Nat.le_refl _
theorem leS.trans {p q r : List Int} (h : leS p q) (k : leS q r) : leS p r := fun i v => Nat.le_trans (h i v) (k i v)
theorem cntG_all {p : List Int} {i : Nat} (h : p.length ≤ i) (v : Int) : cntG p i v = cntG p p.length v := by
  unfold cntG; rw [take_all h, take_all (Nat.le_refl _)]
theorem cntG_low {p : List Int} (hp : IsP p) {i : Nat} (hi : i ≤ p.length) {v : Int} (hv : v ≤ 1) : cntG p i v = i := by
  unfold cntG
  rw [List.countP_eq_length.2 (fun x hx => by have := hp.1 x (List.mem_of_mem_take hx); simp; omega)]
  simp; omega
theorem cntG_high {p : List Int} (hp : IsP p) {i : Nat} {v : Int} (hv : (p.length : Int) < v) : cntG p i v = 0 := by
  unfold cntG
  rw [List.countP_eq_zero]
  intro x hx
  have := hp.1 x (List.mem_of_mem_take hx)
  simp; omega
theorem sbel_leS {p q : List Int} (hp : IsP p) (hq : IsP q) (hl : p.length = q.length) : sbelB p q = true ↔ leS p q := by
  constructor
  · intro h
    have h1 : ∀ i, i < p.length → ∀ v : Nat, v < p.length → cntG p (i + 1) ((v : Int) + 1) ≤ cntG q (i + 1) ((v : Int) + 1) := by
      intro i hi v hv
      have a := List.all_eq_true.1 h i (List.mem_range.2 hi)
      have b := List.all_eq_true.1 a v (List.mem_range.2 hv)
      exact of_decide_eq_true b
    have h2 : ∀ i v, i ≤ p.length → cntG p i v ≤ cntG q i v := by
      intro i v hi
      cases i with
      | zero => simp [cntG]
      | succ i =>
        rcases Int.lt_or_le 1 v with e | e
        · rcases Int.lt_or_le (p.length : Int) v with e2 | e2
          · rw [cntG_high hp e2]; exact Nat.zero_le _
          · have := h1 i (by omega) (v - 1).toNat (by omega)
            rwa [show (((v - 1).toNat : Nat) : Int) + 1 = v by omega] at this
        · rw [cntG_low hp hi e, cntG_low hq (by omega) e]; exact Nat.le_refl _
    intro i v
    rcases Nat.le_total i p.length with e | e
    · exact h2 i v e
    · rw [cntG_all e, cntG_all (show q.length ≤ i by omega), ← hl]
      exact h2 _ v (Nat.le_refl _)
  · intro h
    unfold sbelB sbelTo rowB
    simp only [List.all_eq_true, decide_eq_true_eq]
    intro i _ v _
    exact h _ _
theorem strB_iff {p q : List Int} : strB p q = true ↔ isP8 p = true ∧ isP8 q = true ∧ p.length = q.length ∧ leS p q := by
  unfold strB
  simp only [Bool.and_eq_true, decide_eq_true_eq]
  constructor
  · rintro ⟨h1, h2, h3, h4⟩
    exact ⟨h1, h2, h3, (sbel_leS (isP8_iff.1 h1).2 (isP8_iff.1 h2).2 h3).1 h4⟩
  · rintro ⟨h1, h2, h3, h4⟩
    exact ⟨h1, h2, h3, (sbel_leS (isP8_iff.1 h1).2 (isP8_iff.1 h2).2 h3).2 h4⟩
theorem cntG_nth {p : List Int} {k : Nat} (h : k < p.length) {v : Int} : v ≤ nth p k ↔ cntG p (k + 1) v = cntG p k v + 1 := by
  rw [cntG_succ h]
  by_cases e : v ≤ nth p k
  · simp [e]
  · simp [e]
theorem leS.anti {p q : List Int} (hl : p.length = q.length) (h : leS p q) (k : leS q p) : p = q := by
  have e : ∀ i v, cntG p i v = cntG q i v := fun i v => Nat.le_antisymm (h i v) (k i v)
  refine nth_ext' hl (fun i hi => ?_)
  have a : nth p i ≤ nth q i := by
    rw [cntG_nth (show i < q.length by omega), ← e, ← e, ← cntG_nth hi]; exact Int.le_refl _
  have b : nth q i ≤ nth p i := by
    rw [cntG_nth hi, e, e, ← cntG_nth (show i < q.length by omega)]; exact Int.le_refl _
  omega

/-! ### exchanges of neighbours -/
theorem wsw_nth {ys : List Int} {a j : Nat} (_h1 : 1 ≤ a) (_ha : a < ys.length) (hj : j < ys.length) : nth (wsw ys a) j = if j = a then nth ys (a - 1) else if j = a - 1 then nth ys a else nth ys j := by
  unfold wsw
  rw [nth_get (by simpa using hj), List.getElem_set]
  by_cases e : a = j
  · subst e; simp
  · rw [if_neg e, if_neg (fun h => e h.symm), List.getElem_set]
    by_cases e2 : a - 1 = j
    · rw [if_pos e2, if_pos e2.symm]
    · rw [if_neg e2, if_neg (fun h => e2 h.symm), nth_get hj]
theorem wsw_wsw {ys : List Int} {a : Nat} (h1 : 1 ≤ a) (ha : a < ys.length) : wsw (wsw ys a) a = ys := by
  refine nth_ext' (by simp [wsw_len]) (fun j hj => ?_)
  rw [wsw_len, wsw_len] at hj
  rw [wsw_nth h1 (by rw [wsw_len]; exact ha) (by rw [wsw_len]; exact hj), wsw_nth h1 ha (by omega), wsw_nth h1 ha ha, wsw_nth h1 ha hj]
  by_cases e : j = a
  · subst e; rw [if_pos rfl, if_neg (by omega), if_pos rfl]
  · rw [if_neg e]
    by_cases e2 : j = a - 1
    · subst e2; rw [if_pos rfl, if_pos rfl]
    · rw [if_neg e2, if_neg e, if_neg e2]
theorem wsw_cnt {ys : List Int} {a : Nat} (h1 : 1 ≤ a) (ha : a < ys.length) {i : Nat} (hi : i ≠ a) (v : Int) : cntG (wsw ys a) i v = cntG ys i v := by
  have key : ∀ i, i ≤ ys.length → (i ≠ a → cntG (wsw ys a) i v = cntG ys i v) ∧ (i = a → cntG (wsw ys a) a v + (if v ≤ nth ys (a - 1) then 1 else 0) = cntG ys a v + (if v ≤ nth ys a then 1 else 0)) := by
    intro i
    induction i with
    | zero => intro _; exact ⟨fun _ => by simp [cntG], fun e => by omega⟩
    | succ i ih =>
      intro hi
      obtain ⟨k1, k2⟩ := ih (by omega)
      have e1 := cntG_succ (xs := ys) (k := i) (by omega) v
      have e2 := cntG_succ (xs := wsw ys a) (k := i) (by rw [wsw_len]; omega) v
      rw [wsw_nth h1 ha (by omega)] at e2
      by_cases c : i = a
      · subst c
        rw [if_pos rfl] at e2
        have := k2 rfl
        exact ⟨fun _ => by omega, fun e => by omega⟩
      · have k1 := k1 c
        rw [if_neg c] at e2
        by_cases c2 : i = a - 1
        · rw [if_pos c2] at e2
          refine ⟨fun e => by omega, fun e => ?_⟩
          obtain rfl : a = i + 1 := e.symm
          rw [Nat.add_sub_cancel]
          omega
        · rw [if_neg c2] at e2
          exact ⟨fun _ => by omega, fun e => by omega⟩
  rcases Nat.le_total i ys.length with e | e
  · exact (key i e).1 hi
  · rw [cntG_all (show (wsw ys a).length ≤ i by rw [wsw_len]; exact e), cntG_all e, wsw_len]
    exact (key ys.length (Nat.le_refl _)).1 (by omega)
/-- the counts at a place follow from those beside it. -/
theorem cnt_asc {ys : List Int} {a : Nat} (h1 : 1 ≤ a) (ha : a < ys.length) (h : nth ys (a - 1) < nth ys a) (v : Int) : cntG ys a v = max (cntG ys (a - 1) v) (cntG ys (a + 1) v - 1) := by
  have e1 := cntG_succ (xs := ys) (k := a - 1) (by omega) v
  have e2 := cntG_succ (xs := ys) (k := a) ha v
  rw [Nat.sub_add_cancel h1] at e1
  by_cases c1 : v ≤ nth ys (a - 1)
  · rw [if_pos c1] at e1; rw [if_pos (by omega)] at e2; omega
  · rw [if_neg c1] at e1
    by_cases c2 : v ≤ nth ys a
    · rw [if_pos c2] at e2; omega
    · rw [if_neg c2] at e2; omega
theorem cnt_desc {ys : List Int} {a : Nat} (h1 : 1 ≤ a) (ha : a < ys.length) (h : nth ys a < nth ys (a - 1)) (v : Int) : cntG ys a v = min (cntG ys (a - 1) v + 1) (cntG ys (a + 1) v) := by
  have e1 := cntG_succ (xs := ys) (k := a - 1) (by omega) v
  have e2 := cntG_succ (xs := ys) (k := a) ha v
  rw [Nat.sub_add_cancel h1] at e1
  by_cases c1 : v ≤ nth ys a
  · rw [if_pos c1] at e2; rw [if_pos (by omega)] at e1; omega
  · rw [if_neg c1] at e2
    by_cases c2 : v ≤ nth ys (a - 1)
    · rw [if_pos c2] at e1; omega
    · rw [if_neg c2] at e1; omega
/-- all counts but those at place a. -/
def leX (a : Nat) (p q : List Int) : Prop := ∀ i v, i ≠ a → cntG p i v ≤ cntG q i v
theorem leS.x {p q : List Int} (h : leS p q) (a : Nat) : leX a p q := fun i v _ => h i v
theorem leX_of_asc {p q : List Int} {a : Nat} (hl : p.length = q.length) (h1 : 1 ≤ a) (ha : a < p.length) (hp : nth p (a - 1) < nth p a) (hx : leX a p q) : leS p q := by
  intro i v
  by_cases e : i = a
  · subst e
    rw [cnt_asc h1 ha hp v]
    have a1 := hx (i - 1) v (by omega)
    have a2 := hx (i + 1) v (by omega)
    have b1 := cntG_succ (xs := q) (k := i - 1) (by omega) v
    have b2 := cntG_succ (xs := q) (k := i) (by omega) v
    rw [Nat.sub_add_cancel h1] at b1
    split at b1 <;> split at b2 <;> omega
  · exact hx i v e
theorem leX_of_desc {p q : List Int} {a : Nat} (hl : p.length = q.length) (h1 : 1 ≤ a) (ha : a < p.length) (hq : nth q a < nth q (a - 1)) (hx : leX a p q) : leS p q := by
  intro i v
  by_cases e : i = a
  · subst e
    rw [cnt_desc h1 (by omega) hq v]
    have a1 := hx (i - 1) v (by omega)
    have a2 := hx (i + 1) v (by omega)
    have b1 := cntG_succ (xs := p) (k := i - 1) (by omega) v
    have b2 := cntG_succ (xs := p) (k := i) (by omega) v
    rw [Nat.sub_add_cancel h1] at b1
    split at b1 <;> split at b2 <;> omega
  · exact hx i v e
theorem leX_l {p q : List Int} {a : Nat} (h1 : 1 ≤ a) (ha : a < p.length) : leX a (wsw p a) q ↔ leX a p q :=
  ⟨fun h i v hi => by rw [← wsw_cnt h1 ha hi]; exact h i v hi, fun h i v hi => by rw [wsw_cnt h1 ha hi]; exact h i v hi⟩
theorem leX_r {p q : List Int} {a : Nat} (h1 : 1 ≤ a) (ha : a < q.length) : leX a p (wsw q a) ↔ leX a p q :=
  ⟨fun h i v hi => by rw [← wsw_cnt h1 ha hi]; exact h i v hi, fun h i v hi => by rw [wsw_cnt h1 ha hi]; exact h i v hi⟩

/-! ### inversions along a word -/
theorem inv_wsw {ys : List Int} {a : Nat} (h1 : 1 ≤ a) (ha : a < ys.length) (h : nth ys a < nth ys (a - 1)) : inv ys = inv (wsw ys a) + 1 := by
  rw [wsw_eq ys a h1]
  have := inv_set ys (a - 1) (by omega) (by rw [Nat.sub_add_cancel h1]; exact h)
  exact this
theorem inv_wsw_up {ys : List Int} {a : Nat} (h1 : 1 ≤ a) (ha : a < ys.length) (h : nth ys (a - 1) < nth ys a) : inv (wsw ys a) = inv ys + 1 := by
  have := inv_wsw (ys := wsw ys a) h1 (by rw [wsw_len]; exact ha) (by
    rw [wsw_nth h1 ha ha, wsw_nth h1 ha (by omega), if_pos rfl, if_neg (by omega), if_pos rfl]; exact h)
  rwa [wsw_wsw h1 ha] at this
theorem wRun_snoc (n : Nat) (word : List Int) (v : Int) : wRun n (word ++ [v]) = wsw (wRun n word) v.toNat := by simp [wRun, List.foldl_append, wStep]
def wIn (n : Nat) (word : List Int) : Prop := ∀ i ∈ word, 1 ≤ i ∧ i < (n : Int)
theorem adj_ne {ys : List Int} (hp : IsP ys) {a : Nat} (h1 : 1 ≤ a) (ha : a < ys.length) : nth ys (a - 1) < nth ys a ∨ nth ys a < nth ys (a - 1) := by
  have : nth ys (a - 1) ≠ nth ys a := fun e => by have := hp.inj (by omega) ha e; omega
  omega
theorem snoc_ind {P : List Int → Prop} (h0 : P []) (h1 : ∀ l v, P l → P (l ++ [v])) (l : List Int) : P l := by
  have key : ∀ m : List Int, P m.reverse := by
    intro m
    induction m with
    | nil => exact h0
    | cons v m ih => rw [List.reverse_cons]; exact h1 _ _ ih
  have := key l.reverse
  rwa [List.reverse_reverse] at this
theorem inv_word {n : Nat} : ∀ (word : List Int), wIn n word → inv (wRun n word) ≤ word.length ∧ (word.length - inv (wRun n word)) % 2 = 0 := by
  refine snoc_ind ?_ ?_
  · intro _; have : inv (wRun n []) = 0 := inv_srt (srt_pairwise (idL_srt n)); simp [this]
  · intro word v ih hw
    obtain ⟨h1, h2⟩ := ih (fun i hi => hw i (by simp [hi]))
    have hv := hw v (by simp)
    have hp : IsP (wRun n word) := wRun_perm (fun i hi => hw i (by simp [hi]))
    have hl := wRun_len n word
    rw [wRun_snoc, List.length_append]
    simp only [List.length_singleton]
    rcases adj_ne hp (a := v.toNat) (by omega) (by omega) with e | e
    · rw [inv_wsw_up (by omega) (by omega) e]; omega
    · have := inv_wsw (by omega) (by omega) e; omega
/-- a word with as many exchanges as inversions. -/
def Rd (n : Nat) (word : List Int) : Prop := wIn n word ∧ inv (wRun n word) = word.length
theorem Rd.pre {n : Nat} {word : List Int} {v : Int} (h : Rd n (word ++ [v])) : Rd n word ∧ nth (wRun n word) (v.toNat - 1) < nth (wRun n word) v.toNat := by
  obtain ⟨hw, hi⟩ := h
  have hw0 : wIn n word := fun i hi => hw i (by simp [hi])
  have hv := hw v (by simp)
  have hp : IsP (wRun n word) := wRun_perm hw0
  have hl := wRun_len n word
  have h1 := (inv_word word hw0).1
  rw [wRun_snoc, List.length_append] at hi
  simp only [List.length_singleton] at hi
  rcases adj_ne hp (a := v.toNat) (by omega) (by omega) with e | e
  · rw [inv_wsw_up (by omega) (by omega) e] at hi
    exact ⟨⟨hw0, by omega⟩, e⟩
  · have := inv_wsw (by omega) (by omega) e; omega
theorem le_id {n : Nat} {u : List Int} (hp : IsP u) (hl : u.length = n) (h : leS u (idL n)) : u = idL n := by
  have key : ∀ i, i ≤ n → ∀ j, j < i → nth u j = (j : Int) + 1 := by
    intro i
    induction i with
    | zero => intro _ j hj; omega
    | succ i ih =>
      intro hi j hj
      have ih := ih (by omega)
      rcases Nat.lt_or_ge j i with e | e
      · exact ih j e
      · obtain rfl : j = i := by omega
        have h1 := h (j + 1) ((j : Int) + 2)
        have h2 : cntG (idL n) (j + 1) ((j : Int) + 2) = 0 := by
          unfold cntG
          rw [List.countP_eq_zero]
          intro x hx
          rw [← idL_take (j + 1) n (by omega)] at hx
          simp only [idL, List.mem_map, List.mem_range] at hx
          obtain ⟨k, hk, rfl⟩ := hx
          simp; omega
        rw [h2, cntG_succ (by omega)] at h1
        have h3 : ¬ (j : Int) + 2 ≤ nth u j := fun e => by rw [if_pos e] at h1; omega
        have h4 := hp.bd (show j < u.length by omega)
        rcases Int.lt_or_le (nth u j) ((j : Int) + 1) with e2 | e2
        · have h5 := ih (nth u j - 1).toNat (by omega)
          have := hp.inj (i := (nth u j - 1).toNat) (j := j) (by omega) (by omega) (by rw [h5]; omega)
          omega
        · omega
  refine nth_ext' (by rw [idL_len]; exact hl) (fun i hi => ?_)
  rw [key n (Nat.le_refl _) i (by omega), idL_nth _ _ (by omega)]
/-- the permutations of the parts of a reduced word are those below its own. -/
theorem subword {n : Nat} : ∀ (word : List Int), Rd n word → ∀ u, IsP u → u.length = n → ((∃ s, s.Sublist word ∧ wRun n s = u) ↔ leS u (wRun n word)) := by
  refine snoc_ind ?_ ?_
  · intro _ u hp hl
    constructor
    · rintro ⟨s, h1, h2⟩
      have : s = [] := List.sublist_nil.1 h1
      subst this; subst h2; exact leS.refl _
    · intro h
      exact ⟨[], List.Sublist.refl _, (le_id hp hl h).symm⟩
  · intro word v ih hr u hp hl
    obtain ⟨hr0, hasc⟩ := hr.pre
    have ih := ih hr0
    have hv := hr.1 v (by simp)
    obtain ⟨a, ha⟩ : ∃ a, a = v.toNat := ⟨_, rfl⟩
    obtain ⟨y, hy⟩ : ∃ y, y = wRun n word := ⟨_, rfl⟩
    have hyl : y.length = n := by rw [hy]; exact wRun_len _ _
    have hyp : IsP y := by rw [hy]; exact wRun_perm hr0.1
    rw [wRun_snoc, ← ha, ← hy]
    rw [← ha, ← hy] at hasc
    rw [← hy] at ih
    have h1 : 1 ≤ a := by omega
    have hay : a < y.length := by omega
    have hxl : (wsw y a).length = n := by rw [wsw_len]; exact hyl
    have hxd : nth (wsw y a) a < nth (wsw y a) (a - 1) := by
      rw [wsw_nth h1 hay hay, wsw_nth h1 hay (by omega), if_pos rfl, if_neg (by omega), if_pos rfl]; exact hasc
    have hyx : leS y (wsw y a) := leX_of_asc (by rw [wsw_len]) h1 hay hasc ((leX_r h1 hay).2 ((leS.refl y).x a))
    constructor
    · rintro ⟨s, hs1, hs2⟩
      obtain ⟨s1, s2, rfl, hs3, hs4⟩ := List.sublist_append_iff.1 hs1
      have hs1in : wIn n s1 := fun i hi => hr0.1 i (hs3.subset hi)
      rcases (show s2 = [] ∨ s2 = [v] by
        cases s2 with
        | nil => exact .inl rfl
        | cons x t =>
          right
          have hlen := hs4.length_le
          simp at hlen
          subst hlen
          have := hs4.subset (show x ∈ [x] by simp)
          simp at this; rw [this]) with rfl | rfl
      · rw [List.append_nil] at hs2
        exact ((ih u hp hl).1 ⟨s1, hs3, hs2⟩).trans hyx
      · rw [wRun_snoc, ← ha] at hs2
        have hu0p : IsP (wRun n s1) := wRun_perm hs1in
        have hu0l : (wRun n s1).length = n := wRun_len _ _
        have h2 := (ih _ hu0p hu0l).1 ⟨s1, hs3, rfl⟩
        rw [← hs2]
        have hX : leX a (wsw (wRun n s1) a) (wsw y a) := (leX_r h1 hay).2 ((leX_l h1 (by omega)).2 (h2.x a))
        exact leX_of_desc (by rw [wsw_len, wsw_len]; omega) h1 (by rw [wsw_len]; omega) hxd hX
    · intro h
      have hX : leX a u y := (leX_r h1 hay).1 (h.x a)
      rcases adj_ne hp h1 (by omega) with e | e
      · obtain ⟨s, k1, k2⟩ := (ih u hp hl).2 (leX_of_asc (by omega) h1 (by omega) e hX)
        exact ⟨s, k1.trans (List.sublist_append_left _ _), k2⟩
      · have hup : IsP (wsw u a) := isP_of_perm (wsw_perm u a h1 (by omega)).symm hp
        have hul : (wsw u a).length = n := by rw [wsw_len]; exact hl
        have hua : nth (wsw u a) (a - 1) < nth (wsw u a) a := by
          rw [wsw_nth h1 (by omega) (by omega), wsw_nth h1 (by omega) (by omega), if_neg (by omega), if_pos rfl, if_pos rfl]; exact e
        obtain ⟨s, k1, k2⟩ := (ih _ hup hul).2 (leX_of_asc (by omega) h1 (by omega) hua ((leX_l h1 (by omega)).2 hX))
        refine ⟨s ++ [v], k1.append (List.Sublist.refl _), ?_⟩
        rw [wRun_snoc, k2, ← ha, wsw_wsw h1 (by omega)]
/-- each permutation has a reduced word. -/
theorem has_word {n : Nat} : ∀ (m : Nat) (u : List Int), IsP u → u.length = n → inv u = m → ∃ word, Rd n word ∧ wRun n word = u := by
  intro m
  induction m with
  | zero =>
    intro u hp hl h
    have := (inv_zero_srt h).eq_id hp
    rw [hl] at this
    exact ⟨[], ⟨fun i hi => by simp at hi, by
      show inv (idL n) = 0
      rw [← this]; exact h⟩, this.symm⟩
  | succ m ih =>
    intro u hp hl h
    have hns : ¬ Srt u := fun hs => by have := inv_srt (srt_pairwise hs); omega
    obtain ⟨i, hi, hd⟩ : ∃ i, i + 1 < u.length ∧ nth u (i + 1) < nth u i := by
      refine Classical.byContradiction fun hc => hns (fun i hi => ?_)
      rcases Int.lt_or_le (nth u (i + 1)) (nth u i) with e | e
      · exact absurd ⟨i, hi, e⟩ hc
      · exact e
    have h1 := inv_wsw (ys := u) (a := i + 1) (by omega) hi (by simpa using hd)
    obtain ⟨word, ⟨k1, k2⟩, k3⟩ := ih (wsw u (i + 1)) (isP_of_perm (wsw_perm u (i + 1) (by omega) hi).symm hp) (by rw [wsw_len]; exact hl) (by omega)
    have e : wRun n (word ++ [((i + 1 : Nat) : Int)]) = u := by
      rw [wRun_snoc, k3]; exact wsw_wsw (by omega) hi
    refine ⟨word ++ [((i + 1 : Nat) : Int)], ⟨fun x hx => ?_, ?_⟩, e⟩
    · rcases List.mem_append.1 hx with hx | hx
      · exact k1 x hx
      · simp at hx; subst hx; push_cast; omega
    · rw [e, List.length_append, ← k2, k3]; simp; omega
theorem leS_inv {n : Nat} {u x : List Int} (hu : IsP u) (hul : u.length = n) (hx : IsP x) (hxl : x.length = n) (h : leS u x) : inv u ≤ inv x ∧ (inv u = inv x → u = x) := by
  obtain ⟨word, hr, e⟩ := has_word (inv x) x hx hxl rfl
  subst e
  obtain ⟨s, h1, h2⟩ := (subword word hr u hu hul).2 h
  have hs : wIn n s := fun i hi => hr.1 i (h1.subset hi)
  have h3 := (inv_word s hs).1
  rw [h2] at h3
  have h4 := h1.length_le
  refine ⟨by rw [hr.2]; omega, fun he => ?_⟩
  have : s = word := h1.eq_of_length_le (by rw [hr.2] at he; omega)
  rw [← h2, this]
theorem id_le {n : Nat} {u : List Int} (hu : IsP u) (hul : u.length = n) : leS (idL n) u := by
  obtain ⟨word, hr, e⟩ := has_word (inv u) u hu hul rfl
  subst e
  exact (subword word hr _ (idL_isP n) (idL_len n)).1 ⟨[], List.nil_sublist _, rfl⟩

/-! ### the parts of a word by their numbers -/
theorem bitB_iff {s k : Nat} : bitB s k = true ↔ s / 2 ^ k % 2 = 1 := by
  unfold bitB
  rw [i64_and1, beq_iff_eq]
  have : ((s : Int) / 2 ^ k) = ((s / 2 ^ k : Nat) : Int) := by push_cast; rfl
  rw [this]; omega
theorem part_sub (word : List Int) (s : Nat) : (partTo word s word.length).Sublist word := by
  have h1 : ((List.range word.length).map (nth word)) = word := by
    refine List.ext_getElem (by simp) fun i h1 h2 => ?_
    simp only [List.getElem_map, List.getElem_range]
    exact nth_get h2
  have h2 := (List.filter_sublist (p := bitB s) (l := List.range word.length)).map (nth word)
  rw [h1] at h2
  exact h2
theorem bitB_low {s c k i : Nat} (h : i < k) : bitB (s + 2 ^ k * c) i = bitB s i := by
  rw [Bool.eq_iff_iff, bitB_iff, bitB_iff]
  obtain ⟨d, rfl⟩ : ∃ d, k = i + 1 + d := ⟨k - i - 1, by omega⟩
  have e : (2 : Nat) ^ (i + 1 + d) = 2 ^ i * (2 * 2 ^ d) := by rw [Nat.pow_add, Nat.pow_succ, Nat.mul_assoc]
  have hp : 0 < 2 ^ i := Nat.pow_pos (by omega)
  have e2 : (s + 2 ^ (i + 1 + d) * c) / 2 ^ i = s / 2 ^ i + 2 * (2 ^ d * c) := by
    rw [e, Nat.mul_assoc, Nat.add_mul_div_left _ _ hp, Nat.mul_assoc]
  rw [e2]; omega
theorem bitB_top {s c k : Nat} (h : s < 2 ^ k) (hc : c < 2) : bitB (s + 2 ^ k * c) k = decide (c = 1) := by
  rw [Bool.eq_iff_iff, bitB_iff, decide_eq_true_iff]
  have hp : 0 < 2 ^ k := Nat.pow_pos (by omega)
  rw [Nat.add_mul_div_left _ _ hp, Nat.div_eq_of_lt h]; omega
theorem part_congr {word : List Int} {s s' k : Nat} (h : ∀ i, i < k → bitB s i = bitB s' i) : partTo word s k = partTo word s' k := by
  unfold partTo
  congr 1
  exact List.filter_congr fun i hi => h i (List.mem_range.1 hi)
theorem sub_part (word : List Int) : ∀ k, k ≤ word.length → ∀ l : List Int, l.Sublist (word.take k) → ∃ s, s < 2 ^ k ∧ partTo word s k = l := by
  intro k
  induction k with
  | zero =>
    intro _ l h
    have : l = [] := by simpa using h
    exact ⟨0, by simp, by subst this; rfl⟩
  | succ k ih =>
    intro hk l h
    rw [take_nth (by omega)] at h
    obtain ⟨l1, l2, rfl, h1, h2⟩ := List.sublist_append_iff.1 h
    obtain ⟨s, hs, e⟩ := ih (by omega) l1 h1
    have hp : 2 ^ (k + 1) = 2 ^ k * 2 := Nat.pow_succ ..
    rcases (show l2 = [] ∨ l2 = [nth word k] by
      cases l2 with
      | nil => exact .inl rfl
      | cons x t =>
        right
        have hlen := h2.length_le
        simp at hlen
        subst hlen
        have := h2.subset (show x ∈ [x] by simp)
        simp at this; rw [this]) with rfl | rfl
    · refine ⟨s + 2 ^ k * 0, by omega, ?_⟩
      rw [partTo_f (by rw [bitB_top hs (by omega)]; rfl), part_congr (fun i hi => bitB_low hi), e, List.append_nil]
    · refine ⟨s + 2 ^ k * 1, by omega, ?_⟩
      rw [partTo_t (by rw [bitB_top hs (by omega)]; rfl), part_congr (fun i hi => bitB_low hi), e]
theorem sw_iff (n : Nat) (word u : List Int) : swTo n word u (2 ^ word.length) = true ↔ ∃ s, s.Sublist word ∧ wRun n s = u := by
  unfold swTo
  rw [List.any_eq_true]
  constructor
  · rintro ⟨s, _, h⟩
    exact ⟨_, part_sub word s, of_decide_eq_true h⟩
  · rintro ⟨l, h1, h2⟩
    obtain ⟨s, h3, h4⟩ := sub_part word word.length (Nat.le_refl _) l (by rw [take_all (Nat.le_refl _)]; exact h1)
    exact ⟨s, List.mem_range.2 h3, decide_eq_true (by rw [h4]; exact h2)⟩
theorem ir_rd {n : Int} {word : List Int} (h : irB n word = true) : wokB n word = true ∧ Rd n.toNat word := by
  simp only [irB, Bool.and_eq_true, decide_eq_true_eq] at h
  obtain ⟨h1, h2⟩ := h
  have := wok_true h1
  exact ⟨h1, fun i hi => by have := this.2.2.2 i hi; omega, h2⟩
/-- a part of a reduced word stands for r exactly if r is below the word's permutation. -/
theorem sub_str {n : Int} {word r : List Int} (h : irB n word = true) (h12 : word.length ≤ 12) : subB n word r = strB r (wpL n word) := by
  obtain ⟨hw, hr⟩ := ir_rd h
  have hn := wok_true hw
  have e : wpL n word = wRun n.toNat word := by unfold wpL; rw [hw]; rfl
  have hxl := wRun_len n.toNat word
  have hxp : IsP (wRun n.toNat word) := wRun_perm hr.1
  have hx8 : isP8 (wRun n.toNat word) = true := isP8_true (by omega) hxp
  unfold subB strB
  rw [decide_eq_true h12, h, e, hx8]
  simp only [Bool.true_and]
  cases hp8 : isP8 r
  · rfl
  have hp := (isP8_iff.1 hp8).2
  simp only [Bool.true_and]
  by_cases hl : r.length = (wRun n.toNat word).length
  · rw [decide_eq_true hl, decide_eq_true (show (r.length : Int) = n by omega)]
    simp only [Bool.true_and]
    rw [Bool.eq_iff_iff, sw_iff, sbel_leS hp hxp hl]
    exact subword word hr r hp (by omega)
  · rw [decide_eq_false hl, decide_eq_false (show ¬ (r.length : Int) = n by omega)]
    rfl

/-! ### the weak order -/
theorem nth_setA {xs : List Int} {i j : Nat} {v : Int} (h : j < xs.length) : nth (xs.set i v) j = if i = j then v else nth xs j := by
  rw [nth_get (by simpa using h), nth_get h, List.getElem_set]
theorem invTo_at {q : List Int} (hq : IsP q) : ∀ k, k ≤ q.length → ∀ t, t < k → nth (invTo q k) (nth q t - 1).toNat = (t : Int) + 1 := by
  intro k
  induction k with
  | zero => intro _ t ht; omega
  | succ k ih =>
    intro hk t ht
    have hb := hq.bd (show t < q.length by omega)
    have hbk := hq.bd (show k < q.length by omega)
    show nth ((invTo q k).set (nth q k - 1).toNat ((k : Int) + 1)) _ = _
    rw [nth_setA (by rw [invTo_len]; omega)]
    by_cases e : t = k
    · subst e; rw [if_pos rfl]
    · rw [if_neg (fun h => e (hq.inj (by omega) (by omega) (by omega))), ih (by omega) t (by omega)]
theorem invLs_at {q : List Int} (hq : IsP q) {t : Nat} (h : t < q.length) : nth (invLs q) (nth q t - 1).toNat = (t : Int) + 1 := invTo_at hq q.length (Nat.le_refl _) t h
/-- two numbers that descend in p do so in q. -/
def Wk (p q : List Int) : Prop := ∀ i j a b, i < j → j < p.length → nth p j < nth p i → a < q.length → b < q.length → nth q a = nth p i → nth q b = nth p j → a < b
theorem wbel_iff {p q : List Int} (hp : IsP p) (hq : IsP q) (hl : p.length = q.length) : wbelB p (invLs q) = true ↔ Wk p q := by
  unfold wbelB badB
  simp only [List.all_eq_true, List.mem_range, Bool.not_eq_true', decide_eq_false_iff_not, not_and]
  constructor
  · intro h i j a b hij hj hlt ha hb ea eb
    have h1 := h j hj i hij hlt
    have e1 := invLs_at hq ha
    have e2 := invLs_at hq hb
    rw [ea] at e1
    rw [eb] at e2
    rw [e1, e2] at h1
    have : a ≠ b := fun e => by subst e; omega
    omega
  · intro h j hj i hij hlt
    obtain ⟨a, ha, ea⟩ := hq.surj (v := nth p i) (by have := hp.bd (show i < p.length by omega); omega) (by have := hp.bd (show i < p.length by omega); omega)
    obtain ⟨b, hb, eb⟩ := hq.surj (v := nth p j) (by have := hp.bd hj; omega) (by have := hp.bd hj; omega)
    have h1 := h i j a b hij hj hlt ha hb ea eb
    have e1 := invLs_at hq ha
    have e2 := invLs_at hq hb
    rw [ea] at e1
    rw [eb] at e2
    rw [e1, e2]; omega
theorem weakB_iff {p q : List Int} : weakB p q = true ↔ isP8 p = true ∧ isP8 q = true ∧ p.length = q.length ∧ Wk p q := by
  unfold weakB
  simp only [Bool.and_eq_true, decide_eq_true_eq]
  constructor
  · rintro ⟨h1, h2, h3, h4⟩
    exact ⟨h1, h2, h3, (wbel_iff (isP8_iff.1 h1).2 (isP8_iff.1 h2).2 h3).1 h4⟩
  · rintro ⟨h1, h2, h3, h4⟩
    exact ⟨h1, h2, h3, (wbel_iff (isP8_iff.1 h1).2 (isP8_iff.1 h2).2 h3).2 h4⟩
theorem extra {P Q : List Int} {g : Int → Bool} (hP : P.Nodup) (h : Q.countP g < P.countP g) : ∃ x, x ∈ P ∧ g x = true ∧ x ∉ Q := by
  refine Classical.byContradiction fun hc => ?_
  have hsub : P.filter g ⊆ Q.filter g := by
    intro x hx
    rw [List.mem_filter] at hx ⊢
    refine ⟨?_, hx.2⟩
    exact Classical.byContradiction fun h2 => hc ⟨x, hx.1, hx.2, h2⟩
  have := List.Nodup.length_le_of_subset (hP.filter g) hsub
  rw [← List.countP_eq_length_filter, ← List.countP_eq_length_filter] at this
  omega
theorem countP_not (l : List Int) (g : Int → Bool) : l.countP g + l.countP (fun x => !g x) = l.length := by
  induction l with
  | nil => rfl
  | cons x l ih => simp only [List.countP_cons, List.length_cons]; cases g x <;> simp <;> omega
theorem mem_take_at {p : List Int} {i : Nat} {x : Int} (h : x ∈ p.take i) : ∃ t, t < i ∧ t < p.length ∧ nth p t = x := by
  obtain ⟨t, ht, rfl⟩ := List.getElem_of_mem h
  have : t < i ∧ t < p.length := by simp at ht; omega
  exact ⟨t, this.1, this.2, by rw [List.getElem_take, nth_get this.2]⟩
theorem at_mem_take {p : List Int} {i t : Nat} (h : t < i) (h2 : t < p.length) : nth p t ∈ p.take i := by
  have := List.getElem_mem (l := p.take i) (n := t) (by simp; omega)
  rwa [List.getElem_take, ← nth_get h2] at this
theorem Wk.leS {p q : List Int} (hp : IsP p) (hq : IsP q) (hl : p.length = q.length) (h : Wk p q) : leS p q := by
  intro i v
  refine Classical.byContradiction fun hc => ?_
  have h1 : (q.take i).countP (fun x => decide (v ≤ x)) < (p.take i).countP (fun x => decide (v ≤ x)) := by unfold cntG at hc; omega
  obtain ⟨x, hx1, hx2, hx3⟩ := extra (hp.2.sublist (List.take_sublist _ _)) h1
  have c1 := countP_not (q.take i) (fun x => decide (v ≤ x))
  have c2 := countP_not (p.take i) (fun x => decide (v ≤ x))
  have c3 : (q.take i).length = (p.take i).length := by simp; omega
  obtain ⟨y, hy1, hy2, hy3⟩ := extra (P := q.take i) (Q := p.take i) (g := fun x => !decide (v ≤ x)) (hq.2.sublist (List.take_sublist _ _)) (by omega)
  simp at hx2 hy2
  obtain ⟨s, hs1, hs2, hs3⟩ := mem_take_at hx1
  obtain ⟨b, hb1, hb2, hb3⟩ := mem_take_at hy1
  have by_ := hq.bd hb2
  have bx := hp.bd hs2
  obtain ⟨t, ht1, ht2⟩ := hp.surj (v := y) (by omega) (by omega)
  obtain ⟨a, ha1, ha2⟩ := hq.surj (v := x) (by omega) (by omega)
  have hts : i ≤ t := by
    rcases Nat.lt_or_ge t i with e | e
    · exact absurd (ht2 ▸ at_mem_take e ht1) hy3
    · exact e
  have has : i ≤ a := by
    rcases Nat.lt_or_ge a i with e | e
    · exact absurd (ha2 ▸ at_mem_take e ha1) hx3
    · exact e
  have := h s t a b (by omega) ht1 (by omega) ha1 hb2 (by omega) (by omega)
  omega
theorem weak_str {p q : List Int} (h : weakB p q = true) : strB p q = true := by
  obtain ⟨h1, h2, h3, h4⟩ := weakB_iff.1 h
  exact strB_iff.2 ⟨h1, h2, h3, h4.leS (isP8_iff.1 h1).2 (isP8_iff.1 h2).2 h3⟩
theorem str_anti {p q : List Int} (h : strB p q = true) (k : strB q p = true) : p = q := by
  obtain ⟨_, _, h3, h4⟩ := strB_iff.1 h
  obtain ⟨_, _, _, k4⟩ := strB_iff.1 k
  exact h4.anti h3 k4
theorem str_trans {p q r : List Int} (h : strB p q = true) (k : strB q r = true) : strB p r = true := by
  obtain ⟨h1, h2, h3, h4⟩ := strB_iff.1 h
  obtain ⟨_, k2, k3, k4⟩ := strB_iff.1 k
  exact strB_iff.2 ⟨h1, k2, by omega, h4.trans k4⟩
theorem str_refl {p : List Int} (h : isP8 p = true) : strB p p = true := strB_iff.2 ⟨h, h, rfl, leS.refl p⟩
theorem str_inv {p q : List Int} (h : strB p q = true) : inv p ≤ inv q ∧ (inv p = inv q → p = q) := by
  obtain ⟨h1, h2, h3, h4⟩ := strB_iff.1 h
  exact leS_inv (isP8_iff.1 h1).2 rfl (isP8_iff.1 h2).2 h3.symm h4
theorem weak_refl {p : List Int} (h : isP8 p = true) : weakB p p = true := by
  refine weakB_iff.2 ⟨h, h, rfl, ?_⟩
  have hp := (isP8_iff.1 h).2
  intro i j a b hij hj _ ha hb ea eb
  have := hp.inj ha (by omega) ea
  have := hp.inj hb hj eb
  omega
theorem weak_anti {p q : List Int} (h : weakB p q = true) : weakB q p = decide (p = q) := by
  rw [Bool.eq_iff_iff, decide_eq_true_iff]
  constructor
  · intro k; exact str_anti (weak_str h) (weak_str k)
  · intro e; subst e; exact h
theorem weak_inv {p q : List Int} (h : weakB p q = true) : invI p ≤ invI q := by
  have := (str_inv (weak_str h)).1
  obtain ⟨h1, h2, _⟩ := weakB_iff.1 h
  unfold invI
  rw [if_pos h1, if_pos h2]; omega
/-- a cover of the weak order. -/
theorem nsw_wsw (xs : List Int) (i : Nat) : nsw xs i = wsw xs (i + 1) := by unfold nsw wsw; rw [Nat.add_sub_cancel]
theorem weak_cover {r q : List Int} (h : q ∈ wcL r) : weakB r q = true ∧ invI q = invI r + 1 ∧ weakB q r = false := by
  unfold wcL at h
  cases hr : isP8 r
  · rw [hr] at h; simp at h
  rw [hr] at h
  simp only [cond_true, wcTo, List.mem_flatMap, List.mem_range] at h
  obtain ⟨i, hi, hq⟩ := h
  obtain ⟨h8, hp⟩ := isP8_iff.1 hr
  by_cases hlt : nth r i < nth r (i + 1)
  · rw [wcOne_t hlt, List.mem_singleton, nsw_wsw] at hq
    have hil : i + 1 < r.length := by omega
    have hql : q.length = r.length := by rw [hq, wsw_len]
    have hqp : IsP q := by rw [hq]; exact isP_of_perm (wsw_perm r (i + 1) (by omega) hil).symm hp
    have hq8 : isP8 q = true := isP8_true (by omega) hqp
    have hn : ∀ j, j < r.length → nth q j = if j = i + 1 then nth r i else if j = i then nth r (i + 1) else nth r j := fun j hj => by
      rw [hq, wsw_nth (by omega) hil hj, Nat.add_sub_cancel]
    have hinv : inv q = inv r + 1 := by rw [hq]; exact inv_wsw_up (by omega) hil (by simpa using hlt)
    have hw : weakB r q = true := by
      refine weakB_iff.2 ⟨hr, hq8, hql.symm, ?_⟩
      intro a b s t hab hb hd hs ht es et
      rw [hql] at hs ht
      rw [hn s hs] at es
      rw [hn t ht] at et
      -- the places of the two numbers in q
      have ps : (s = i + 1 ∧ a = i) ∨ (s = i ∧ a = i + 1) ∨ (s = a ∧ s ≠ i ∧ s ≠ i + 1) := by
        by_cases c1 : s = i + 1
        · rw [if_pos c1] at es; have := hp.inj (by omega) (by omega) es; omega
        · rw [if_neg c1] at es
          by_cases c2 : s = i
          · rw [if_pos c2] at es; have := hp.inj (by omega) (by omega) es; omega
          · rw [if_neg c2] at es; have := hp.inj (by omega) (by omega) es; omega
      have pt : (t = i + 1 ∧ b = i) ∨ (t = i ∧ b = i + 1) ∨ (t = b ∧ t ≠ i ∧ t ≠ i + 1) := by
        by_cases c1 : t = i + 1
        · rw [if_pos c1] at et; have := hp.inj (by omega) (by omega) et; omega
        · rw [if_neg c1] at et
          by_cases c2 : t = i
          · rw [if_pos c2] at et; have := hp.inj (by omega) (by omega) et; omega
          · rw [if_neg c2] at et; have := hp.inj (by omega) (by omega) et; omega
      have hno : ¬ (a = i ∧ b = i + 1) := fun ⟨e1, e2⟩ => by subst e1; subst e2; omega
      omega
    refine ⟨hw, ?_, ?_⟩
    · unfold invI; rw [if_pos hr, if_pos hq8, hinv]; push_cast; rfl
    · rw [weak_anti hw]
      refine decide_eq_false (fun e => ?_)
      rw [← e] at hinv; omega
  · rw [wcOne_f hlt] at hq; simp at hq
end Go.Proofs.Ytmnbdphfoonleaa
