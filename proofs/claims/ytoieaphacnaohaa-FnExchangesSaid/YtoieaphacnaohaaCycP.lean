/- Cycles, without program text: each exchange of a selection closes one cycle more. Conditions: none. -/
import Derived.Test.YtoieaphacnaohaaSel
namespace Go.Proofs.Ytoieaphacnaohaa
open Go.RowKit

/-- the place that the number at place x names. -/
def nx (y : List Int) (x : Nat) : Nat := (nth y x - 1).toNat
/-- M is one number on each cycle. -/
def Con (y : List Int) (M : Nat → Nat) : Prop := ∀ x, x < y.length → M (nx y x) = M x
/-- a and b lie on one cycle. -/
def Rel (y : List Int) (a b : Nat) : Prop := ∀ M, Con y M → M a = M b
def Fst (y : List Int) (i : Nat) : Prop := ∀ i', i' < i → ¬ Rel y i' i
noncomputable def fstB (y : List Int) (i : Nat) : Bool := @decide (Fst y i) (Classical.propDecidable _)
noncomputable def cyc (y : List Int) : Nat := (List.range y.length).countP (fstB y)
theorem fstB_iff {y : List Int} {i : Nat} : fstB y i = true ↔ Fst y i := by simp [fstB]
theorem Rel.refl (y : List Int) (a : Nat) : Rel y a a := fun _M _h => rfl
theorem Rel.symm {y : List Int} {a b : Nat} (h : Rel y a b) : Rel y b a := fun M hM => (h M hM).symm
theorem Rel.trans {y : List Int} {a b c : Nat} (h : Rel y a b) (k : Rel y b c) : Rel y a c := fun M hM => (h M hM).trans (k M hM)
theorem Rel.next {y : List Int} {x : Nat} (h : x < y.length) : Rel y x (nx y x) := fun M hM => (hM x h).symm
theorem nx_lt {y : List Int} (hp : IsP y) {x : Nat} (h : x < y.length) : nx y x < y.length := by have := hp.bd h; unfold nx; omega
theorem nx_inj {y : List Int} (hp : IsP y) {a b : Nat} (ha : a < y.length) (hb : b < y.length) (h : nx y a = nx y b) : a = b := by
  have h1 := hp.bd ha
  have h2 := hp.bd hb
  unfold nx at h
  exact hp.inj ha hb (by omega)
/-- two counts that differ at one place. -/
theorem count_one (n : Nat) (p q : Nat → Bool) (x : Nat) (hx : x < n) (h1 : p x = false) (h2 : q x = true) (h : ∀ i, i < n → i ≠ x → p i = q i) : (List.range n).countP q = (List.range n).countP p + 1 := by
  induction n with
  | zero => omega
  | succ n ih =>
    rw [List.range_succ, List.countP_append, List.countP_append]
    rcases Nat.lt_or_ge x n with e | e
    · rw [ih e (fun i hi hne => h i (by omega) hne)]
      have := h n (by omega) (by omega)
      simp only [List.countP_cons, List.countP_nil, this]
      omega
    · obtain rfl : x = n := by omega
      have h3 : (List.range x).countP q = (List.range x).countP p := by
        refine List.countP_congr fun i hi => ?_
        have := List.mem_range.1 hi
        rw [h i (by omega) (by omega)]
      rw [h3]; simp [h1, h2]
theorem cyc_id (n : Nat) : cyc (idL n) = n := by
  unfold cyc
  rw [idL_len]
  have : ∀ i ∈ List.range n, fstB (idL n) i = true := by
    intro i hi
    rw [fstB_iff]
    intro i' hi' hr
    have h := hr (fun x => x) (fun x hx => by
      rw [idL_len] at hx
      show nx (idL n) x = x
      unfold nx; rw [idL_nth n x hx]; omega)
    have h' : i' = i := h
    omega
  rw [List.countP_eq_length.2 this, List.length_range]
/-- one exchange of a selection. -/
theorem cyc_swap {y : List Int} (hp : IsP y) {k j : Nat} (hk : k < j) (hj : j < y.length) (hlow : ∀ i, i < k → nth y i = (i : Int) + 1) (hjk : nth y j = (k : Int) + 1) (hne : nth y k ≠ (k : Int) + 1) :
    cyc (swk y k j) = cyc y + 1 := by
  obtain ⟨y', hy'⟩ : ∃ y', y' = swk y k j := ⟨_, rfl⟩
  have hl : y'.length = y.length := by rw [hy', swk_len]
  have hs : ∀ x, x < y.length → nx y' x = if j = x then nx y k else if k = x then k else nx y x := by
    intro x hx
    unfold nx
    rw [hy', swk_nth hx]
    split
    · rfl
    · split
      · rw [hjk]; omega
      · rfl
  have nk := hp.bd (show k < y.length by omega)
  have hnk : nx y k ≠ k := fun e => hne (by unfold nx at e; omega)
  have hnj : nx y j = k := by unfold nx; rw [hjk]; omega
  have hni : ∀ i, i < k → nx y i = i := fun i hi => by unfold nx; rw [hlow i hi]; omega
  have honly : ∀ x, x < y.length → x ≠ j → nx y x ≠ k := fun x hx hxj e => hxj (nx_inj hp hx hj (by rw [e, hnj]))
  -- one cycle in the new one is one in the old one
  have A : ∀ a b, Rel y' a b → Rel y a b := by
    intro a b h M hM
    refine h M (fun x hx => ?_)
    rw [hl] at hx
    rw [hs x hx]
    split
    · next e => subst e; rw [hM k (by omega)]; have := hM j hj; rw [hnj] at this; exact this
    · split
      · next e => rw [e]
      · exact hM x hx
  have B : ∀ a b, a ≠ k → b ≠ k → Rel y a b → Rel y' a b := by
    intro a b ha hb h M hM
    have h1 := h (fun x => if x = k then M (nx y k) else M x) (fun x hx => by
      show (if nx y x = k then M (nx y k) else M (nx y x)) = if x = k then M (nx y k) else M x
      by_cases e : x = k
      · subst e; rw [if_neg hnk, if_pos rfl]
      · rw [if_neg e]
        by_cases e2 : x = j
        · subst e2
          rw [if_pos hnj]
          have := hM x (by rw [hl]; exact hx)
          rw [hs x hx, if_pos rfl] at this
          exact this
        · rw [if_neg (honly x hx e2)]
          have := hM x (by rw [hl]; exact hx)
          rw [hs x hx, if_neg (fun h => e2 h.symm), if_neg (fun h => e h.symm)] at this
          exact this)
    have h1' : (if a = k then M (nx y k) else M a) = if b = k then M (nx y k) else M b := h1
    rw [if_neg ha, if_neg hb] at h1'
    exact h1'
  have C : ∀ b, b ≠ k → ¬ Rel y' k b := by
    intro b hb h
    have h1 := h (fun x => if x = k then 1 else 0) (fun x hx => by
      rw [hl] at hx
      show (if nx y' x = k then 1 else 0) = if x = k then 1 else 0
      rw [hs x hx]
      by_cases e : j = x
      · subst e; rw [if_pos rfl, if_neg hnk, if_neg (by omega)]
      · rw [if_neg e]
        by_cases e2 : k = x
        · subst e2; rw [if_pos rfl]
        · rw [if_neg e2, if_neg (honly x hx (fun h => e h.symm)), if_neg (fun h => e2 h.symm)])
    have h1' : (if k = k then 1 else 0) = if b = k then 1 else 0 := h1
    rw [if_pos rfl, if_neg hb] at h1'
    exact absurd h1' (by decide)
  -- the places below k are alone
  have D : ∀ i b, i < k → b ≠ i → ¬ Rel y i b := by
    intro i b hi hb h
    have h1 := h (fun x => if x = i then 1 else 0) (fun x hx => by
      show (if nx y x = i then 1 else 0) = if x = i then 1 else 0
      by_cases e : x = i
      · subst e; rw [hni x hi]
      · rw [if_neg e, if_neg (fun h => e (nx_inj hp hx (by omega) (by rw [h, hni i hi])))])
    have h1' : (if i = i then 1 else 0) = if b = i then 1 else 0 := h1
    rw [if_pos rfl, if_neg hb] at h1'
    exact absurd h1' (by decide)
  -- the least place above k on k's cycle
  have E : ∃ m, k < m ∧ m < y.length ∧ Rel y k m ∧ ∀ i, k < i → i < m → ¬ Rel y k i := by
    have h0 : k < nx y k := by
      rcases Nat.lt_or_ge k (nx y k) with e | e
      · exact e
      · exfalso
        have : nx y k < k := by omega
        exact hnk (nx_inj hp (by omega) (by omega) (by rw [hni _ this]))
    have key : ∀ d m, m = k + 1 + d → m < y.length → (∃ i, k < i ∧ i ≤ m ∧ Rel y k i) → ∃ m', k < m' ∧ m' ≤ m ∧ Rel y k m' ∧ ∀ i, k < i → i < m' → ¬ Rel y k i := by
      intro d
      induction d with
      | zero =>
        intro m hm _ ⟨i, h1, h2, h3⟩
        obtain rfl : i = m := by omega
        exact ⟨i, h1, Nat.le_refl _, h3, fun i' h4 h5 => by omega⟩
      | succ d ih =>
        intro m hm hml ⟨i, h1, h2, h3⟩
        rcases Classical.em (∃ i, k < i ∧ i ≤ m - 1 ∧ Rel y k i) with e | e
        · obtain ⟨m', g1, g2, g3⟩ := ih (m - 1) (by omega) (by omega) e
          exact ⟨m', g1, by omega, g3⟩
        · refine ⟨i, h1, h2, h3, fun i' h4 h5 h6 => e ⟨i', h4, by omega, h6⟩⟩
    have hlt := nx_lt hp (show k < y.length by omega)
    obtain ⟨m', g1, g2, g3, g4⟩ := key (nx y k - (k + 1)) (nx y k) (by omega) hlt ⟨nx y k, h0, Nat.le_refl _, Rel.next (by omega)⟩
    exact ⟨m', g1, by omega, g3, g4⟩
  obtain ⟨m, hm1, hm2, hm3, hm4⟩ := E
  unfold cyc
  rw [← hy', hl]
  refine count_one y.length _ _ m hm2 ?_ ?_ ?_
  · rw [Bool.eq_false_iff]; intro h
    exact fstB_iff.1 h k hm1 hm3
  · rw [fstB_iff]
    intro i' hi' hr
    rcases Nat.lt_or_ge i' k with e | e
    · exact D i' k e (by omega) ((A _ _ hr).trans hm3.symm)
    · rcases Decidable.em (i' = k) with e2 | e2
      · subst e2; exact C m (by omega) hr
      · exact hm4 i' (by omega) hi' (hm3.trans (A _ _ hr).symm)
  · intro i hi hne
    rw [Bool.eq_iff_iff, fstB_iff, fstB_iff]
    constructor
    · intro h i' hi' hr
      exact h i' hi' (A _ _ hr)
    · intro h i' hi' hr
      rcases Decidable.em (i = k) with e | e
      · subst e; exact D i' i hi' (by omega) hr
      · rcases Decidable.em (i' = k) with e2 | e2
        · subst e2
          -- i is on k's cycle: it lies above the least, which is before it
          rcases Nat.lt_or_ge i m with e3 | e3
          · exact hm4 i (by omega) e3 hr
          · exact h m (by omega) (B _ _ (by omega) e (hm3.symm.trans hr))
        · exact h i' hi' (B _ _ e2 e hr)
theorem cyc_trail {xs : List Int} (hp : IsP xs) : ∀ k, k ≤ xs.length → cyc (slY xs k) + 1 = cyc xs + (slD xs k).length := by
  intro k
  induction k with
  | zero => intro _; rfl
  | succ k ih =>
    intro hk
    have h1 := ih (by omega)
    have hok := slY_ok hp k (by omega)
    have hl := hok.len
    have eY : slY xs (k + 1) = if nth (slY xs k) k = (k : Int) + 1 then slY xs k else swk (slY xs k) k (pos (slY xs k) ((k : Int) + 1)) := rfl
    have eD : slD xs (k + 1) = if nth (slY xs k) k = (k : Int) + 1 then slD xs k else slD xs k ++ [slY xs (k + 1)] := rfl
    by_cases e : nth (slY xs k) k = (k : Int) + 1
    · rw [eD, eY, if_pos e, if_pos e]; exact h1
    · obtain ⟨j, h2, h3, h4, h5⟩ := hok.find (by omega) e
      have := cyc_swap hok.isP h2 (by omega) hok.low h4 e
      rw [eD, if_neg e, List.length_append, eY, if_neg e, h5, this]
      simp only [List.length_singleton]
      omega
theorem trail_end {xs : List Int} (hp : IsP xs) : slY xs xs.length = idL xs.length := by
  have hok := slY_ok hp xs.length (Nat.le_refl _)
  have hl := hok.len
  exact nth_ext' (by rw [hl, idL_len]) (fun i hi => by rw [hok.low i (by omega), idL_nth _ _ (by omega)])
theorem trail_cyc {xs : List Int} (hp : IsP xs) : (slD xs xs.length).length + cyc xs = xs.length + 1 := by
  have := cyc_trail hp xs.length (Nat.le_refl _)
  rw [trail_end hp, cyc_id] at this
  omega
theorem slD_last (xs : List Int) : ∀ k, ∃ A, slD xs k = A ++ [slY xs k] := by
  intro k
  induction k with
  | zero => exact ⟨[], rfl⟩
  | succ k ih =>
    obtain ⟨A, h⟩ := ih
    have eY : slY xs (k + 1) = if nth (slY xs k) k = (k : Int) + 1 then slY xs k else swk (slY xs k) k (pos (slY xs k) ((k : Int) + 1)) := rfl
    have eD : slD xs (k + 1) = if nth (slY xs k) k = (k : Int) + 1 then slD xs k else slD xs k ++ [slY xs (k + 1)] := rfl
    by_cases e : nth (slY xs k) k = (k : Int) + 1
    · exact ⟨A, by rw [eD, if_pos e, h, eY, if_pos e]⟩
    · exact ⟨slD xs k, by rw [eD, if_neg e]⟩

/-! ### the count by marks -/
/-- the marks after a walk from place i. -/
def cwF (y : List Int) : Nat → Nat → List Bool → List Bool
  | 0, _, D => D
  | f + 1, i, D => bif nthB D i then D else cwF y f (nx y i) (D.set i true)
def cyO (y : List Int) : Nat → List Bool × Nat
  | 0 => (List.replicate y.length false, 0)
  | k + 1 => bif nthB (cyO y k).1 k then cyO y k else (cwF y (y.length + 1) k (cyO y k).1, (cyO y k).2 + 1)
def cycN (y : List Int) : Nat := (cyO y y.length).2
def cycI (y : List Int) : Int := bif isP8 y then (cycN y : Int) else -1
theorem nthB_set {D : List Bool} {i j : Nat} {b : Bool} (h : j < D.length) : nthB (D.set i b) j = if i = j then b else nthB D j := by
  unfold nthB
  rw [List.getD_eq_getElem?_getD, List.getElem?_set, List.getD_eq_getElem?_getD]
  by_cases e : i = j
  · subst e; rw [if_pos rfl, if_pos h, if_pos rfl]; rfl
  · rw [if_neg e, if_neg e]
theorem cwF_len (y : List Int) : ∀ f i D, (cwF y f i D).length = D.length := by
  intro f
  induction f with
  | zero => intro i D; rfl
  | succ f ih =>
    intro i D
    unfold cwF
    cases nthB D i
    · simp [ih]
    · rfl
theorem cyO_len (y : List Int) (k : Nat) : (cyO y k).1.length = y.length := by
  induction k with
  | zero => simp [cyO]
  | succ k ih =>
    unfold cyO
    cases nthB (cyO y k).1 k
    · simp [cwF_len, ih]
    · exact ih
def unm (D : List Bool) : Nat := D.countP fun b => !b
theorem unm_set {D : List Bool} {i : Nat} (h : i < D.length) (hi : nthB D i = false) : unm (D.set i true) + 1 = unm D := by
  unfold unm
  have e : ∀ b, D.set i b = D.take i ++ b :: D.drop (i + 1) := fun b => by rw [List.set_eq_take_append_cons_drop, if_pos h]
  have e2 : D = D.take i ++ false :: D.drop (i + 1) := by
    have h3 : nthB D i = D[i] := by simp [nthB, h]
    rw [h3] at hi
    conv => lhs; rw [← List.take_append_drop i D, List.drop_eq_getElem_cons h, hi]
  rw [e true]
  conv => rhs; rw [e2]
  simp [List.countP_append]
  omega
theorem unm_le (D : List Bool) : unm D ≤ D.length := List.countP_le_length
/-- what a walk from k keeps: D0 are the marks before it, l the last mark. -/
structure WInv (y : List Int) (k : Nat) (D0 D : List Bool) (i : Nat) : Prop where
  len : D.length = y.length
  i_lt : i < y.length
  keep : ∀ x, nthB D0 x = true → nthB D x = true
  rel : ∀ x, x < y.length → nthB D x = true → nthB D0 x = true ∨ Rel y k x
  reli : Rel y k i
  start : (i = k ∧ D = D0) ∨ ∃ l, l < y.length ∧ nthB D l = true ∧ nthB D0 l = false ∧ nx y l = i ∧ nthB D k = true ∧ (∀ x, x < y.length → nthB D x = true → x ≠ l → nthB D (nx y x) = true) ∧
    (∀ x, x < y.length → nthB D x = true → nthB D0 x = false → x ≠ k → ∃ x', x' < y.length ∧ nthB D x' = true ∧ x' ≠ l ∧ nx y x' = x)
/-- marks that are whole cycles. -/
structure OInv (y : List Int) (k : Nat) (D : List Bool) : Prop where
  len : D.length = y.length
  low : ∀ x, x < k → nthB D x = true
  rel : ∀ x, x < y.length → nthB D x = true → ∃ i, i < k ∧ Rel y i x
  clo : ∀ x, x < y.length → (nthB D x = true ↔ nthB D (nx y x) = true)
theorem WInv.step {y : List Int} (hp : IsP y) {k : Nat} {D0 D : List Bool} {i : Nat} (h : WInv y k D0 D i) (hD0 : D0.length = y.length) (hclo : ∀ x, x < y.length → (nthB D0 x = true ↔ nthB D0 (nx y x) = true)) (hi : nthB D i = false) : WInv y k D0 (D.set i true) (nx y i) := by
  have hl := h.len
  have g : ∀ x, x < y.length → nthB (D.set i true) x = if i = x then true else nthB D x := fun x hx => nthB_set (by omega)
  have up : ∀ x, x < y.length → nthB D x = true → nthB (D.set i true) x = true := fun x hx e => by rw [g x hx]; (split <;> first | rfl | exact e)
  have at_ : nthB (D.set i true) i = true := by rw [g i h.i_lt, if_pos rfl]
  have dn : ∀ x, x < y.length → nthB (D.set i true) x = true → x = i ∨ nthB D x = true := by
    intro x hx e
    rw [g x hx] at e
    by_cases e2 : i = x
    · exact .inl e2.symm
    · rw [if_neg e2] at e; exact .inr e
  have hi0 : nthB D0 i = false := by
    rw [Bool.eq_false_iff]; intro e; rw [h.keep i e] at hi; simp at hi
  refine ⟨by simpa using hl, nx_lt hp h.i_lt, ?_, ?_, h.reli.trans (Rel.next h.i_lt), ?_⟩
  · intro x e
    rcases Nat.lt_or_ge x y.length with hx | hx
    · exact up x hx (h.keep x e)
    · simp [nthB, hD0, hx] at e
  · intro x hx e
    rcases dn x hx e with e2 | e2
    · subst e2; exact .inr h.reli
    · exact h.rel x hx e2
  · right
    refine ⟨i, h.i_lt, at_, hi0, rfl, ?_, ?_, ?_⟩
    · rcases h.start with ⟨e, _⟩ | ⟨l, _, _, _, _, e, _⟩
      · rw [← e]; exact at_
      · rcases Nat.lt_or_ge k y.length with hk | hk
        · exact up k hk e
        · simp [nthB, hl, hk] at e
    · intro x hx e hxi
      rcases dn x hx e with e2 | e2
      · exact absurd e2 hxi
      · rcases h.start with ⟨e3, e4⟩ | ⟨l, l1, l2, l3, l4, l5, l6, l7⟩
        · -- no mark of the walk yet: x was marked before; whole cycles are kept by what the caller knows
          subst e4
          exact up _ (nx_lt hp hx) ((hclo x hx).1 e2)
        · rcases Decidable.em (x = l) with e3 | e3
          · subst e3; rw [l4]; exact at_
          · exact up _ (nx_lt hp hx) (l6 x hx e2 e3)
    · intro x hx e ex0 exk
      rcases dn x hx e with e2 | e2
      · subst e2
        rcases h.start with ⟨e3, _⟩ | ⟨l, l1, l2, l3, l4, l5, l6, l7⟩
        · exact absurd e3 exk
        · exact ⟨l, l1, up l l1 l2, fun e4 => by subst e4; rw [hi] at l2; simp at l2, l4⟩
      · rcases h.start with ⟨e3, e4⟩ | ⟨l, l1, l2, l3, l4, l5, l6, l7⟩
        · subst e4; rw [ex0] at e2; simp at e2
        · obtain ⟨x', k1, k2, k3, k4⟩ := l7 x hx e2 ex0 exk
          exact ⟨x', k1, up x' k1 k2, fun e4 => by subst e4; rw [hi] at k2; simp at k2, k4⟩
/-- a walk that meets a mark has closed its cycle. -/
theorem WInv.close {y : List Int} (hp : IsP y) {k : Nat} (hk : k < y.length) {D0 D : List Bool} {i : Nat} (h : WInv y k D0 D i) (h0 : OInv y k D0) (hk0 : nthB D0 k = false) (hi : nthB D i = true) : OInv y (k + 1) D := by
  rcases h.start with ⟨e1, e2⟩ | ⟨l, l1, l2, l3, l4, l5, l6, l7⟩
  · subst e1; subst e2; rw [hk0] at hi; simp at hi
  have hik : i = k := by
    refine Classical.byContradiction fun hne => ?_
    cases h2 : nthB D0 i
    · obtain ⟨x', k1, k2, k3, k4⟩ := l7 i h.i_lt hi h2 hne
      exact k3 (nx_inj hp k1 l1 (by rw [k4, l4]))
    · rw [← l4] at h2
      have := (h0.clo l l1).2 h2
      rw [l3] at this; simp at this
  refine ⟨h.len, ?_, ?_, ?_⟩
  · intro x hx
    rcases Nat.lt_or_ge x k with e | e
    · exact h.keep x (h0.low x e)
    · obtain rfl : x = k := by omega
      exact l5
  · intro x hx e
    rcases h.rel x hx e with e2 | e2
    · obtain ⟨i', h3, h4⟩ := h0.rel x hx e2; exact ⟨i', by omega, h4⟩
    · exact ⟨k, by omega, e2⟩
  · intro x hx
    constructor
    · intro e
      rcases Decidable.em (x = l) with e2 | e2
      · subst e2; rw [l4]; exact hi
      · exact l6 x hx e e2
    · intro e
      cases h2 : nthB D0 (nx y x)
      · rcases Decidable.em (nx y x = k) with e3 | e3
        · have : x = l := nx_inj hp hx l1 (by rw [e3, l4, hik])
          rw [this]; exact l2
        · obtain ⟨x', k1, k2, k3, k4⟩ := l7 _ (nx_lt hp hx) e h2 e3
          have : x' = x := nx_inj hp k1 hx k4
          rw [← this]; exact k2
      · exact h.keep x ((h0.clo x hx).2 h2)
theorem cwF_inv {y : List Int} (hp : IsP y) {k : Nat} (hk : k < y.length) {D0 : List Bool} (h0 : OInv y k D0) (hk0 : nthB D0 k = false) : ∀ f D i, WInv y k D0 D i → unm D < f → OInv y (k + 1) (cwF y f i D) := by
  intro f
  induction f with
  | zero => intro D i _ h; omega
  | succ f ih =>
    intro D i h hf
    unfold cwF
    cases hi : nthB D i
    · have hu := unm_set (D := D) (i := i) (by rw [h.len]; exact h.i_lt) hi
      exact ih _ _ (h.step hp h0.len h0.clo hi) (by omega)
    · exact h.close hp hk h0 hk0 hi
theorem WInv.begin {y : List Int} {k : Nat} (hk : k < y.length) {D0 : List Bool} (h0 : OInv y k D0) : WInv y k D0 D0 k :=
  ⟨h0.len, hk, fun _ h => h, fun _ _ h => .inl h, Rel.refl y k, .inl ⟨rfl, rfl⟩⟩
theorem OInv.same {y : List Int} {k : Nat} {D : List Bool} (h : OInv y k D) (hk : nthB D k = true) : OInv y (k + 1) D :=
  ⟨h.len, fun x hx => by
    rcases Nat.lt_or_ge x k with e | e
    · exact h.low x e
    · obtain rfl : x = k := by omega
      exact hk, fun x hx e => by obtain ⟨i, h1, h2⟩ := h.rel x hx e; exact ⟨i, by omega, h2⟩, h.clo⟩
theorem cyO_inv {y : List Int} (hp : IsP y) : ∀ k, k ≤ y.length → OInv y k (cyO y k).1 ∧ (cyO y k).2 = (List.range k).countP (fstB y) := by
  intro k
  induction k with
  | zero =>
    intro _
    have hf : ∀ x, nthB (List.replicate y.length false) x = false := fun x => by simp [nthB, List.getElem?_replicate]; split <;> rfl
    refine ⟨⟨by simp [cyO], fun x h => by omega, fun x hx h => ?_, fun x hx => ?_⟩, rfl⟩
    · have h' : nthB (List.replicate y.length false) x = true := h
      rw [hf] at h'; simp at h'
    · show nthB (List.replicate y.length false) x = true ↔ nthB (List.replicate y.length false) _ = true
      rw [hf, hf]
  | succ k ih =>
    intro hk
    obtain ⟨I, hn⟩ := ih (by omega)
    rw [List.range_succ, List.countP_append, ← hn]
    cases hd : nthB (cyO y k).1 k
    · have e : cyO y (k + 1) = (cwF y (y.length + 1) k (cyO y k).1, (cyO y k).2 + 1) := by
        conv => lhs; unfold cyO
        rw [hd]; rfl
      rw [e]
      refine ⟨cwF_inv hp (by omega) I hd _ _ _ (WInv.begin (by omega) I) (by have := unm_le (cyO y k).1; rw [I.len] at this; omega), ?_⟩
      have : fstB y k = true := by
        rw [fstB_iff]
        intro i' hi' hr
        have h1 := hr (fun x => if nthB (cyO y k).1 x = true then 1 else 0) (fun x hx => by
          show (if nthB (cyO y k).1 (nx y x) = true then 1 else 0) = if nthB (cyO y k).1 x = true then 1 else 0
          have := I.clo x hx
          by_cases e : nthB (cyO y k).1 x = true
          · rw [if_pos e, if_pos (this.1 e)]
          · rw [if_neg e, if_neg (fun h => e (this.2 h))])
        have h1' : (if nthB (cyO y k).1 i' = true then 1 else 0) = if nthB (cyO y k).1 k = true then 1 else 0 := h1
        rw [if_pos (I.low i' hi'), hd] at h1'
        simp at h1'
      simp [this]
    · have e : cyO y (k + 1) = cyO y k := by
        conv => lhs; unfold cyO
        rw [hd]; rfl
      rw [e]
      refine ⟨I.same hd, ?_⟩
      have : fstB y k = false := by
        rw [Bool.eq_false_iff]; intro h
        obtain ⟨i, h1, h2⟩ := I.rel k (by omega) hd
        exact fstB_iff.1 h i h1 h2
      simp [this]
theorem cycN_eq {y : List Int} (hp : IsP y) : cycN y = cyc y := (cyO_inv hp y.length (Nat.le_refl _)).2
theorem cycN_trail {xs : List Int} (hp : IsP xs) : (slD xs xs.length).length + cycN xs = xs.length + 1 := by rw [cycN_eq hp]; exact trail_cyc hp
theorem cycN_le {xs : List Int} (hp : IsP xs) : cycN xs ≤ xs.length := by
  rw [cycN_eq hp]
  unfold cyc
  have := List.countP_le_length (p := fstB xs) (l := List.range xs.length)
  rwa [List.length_range] at this
end Go.Proofs.Ytoieaphacnaohaa
