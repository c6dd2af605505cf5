/- Bubble passes, without program text: how often a permutation must be passed; which are sorted by one pass. Conditions: none. -/
import Derived.Test.YtoieaphacnaohaaBub
import Derived.Test.YtoieaphacnaohaaText
namespace Go.Proofs.Ytoieaphacnaohaa
open Go.RowKit

/-- of the list l behind the numbers P: the most greater numbers that stand before one. -/
def gtC (P : List Int) (x : Int) : Nat := P.countP fun y => decide (x < y)
def mxG : List Int → List Int → Nat
  | _, [] => 0
  | P, x :: l => max (gtC P x) (mxG (x :: P) l)
/-- a pass that carries M along l. -/
def bubR : Int → List Int → List Int
  | M, [] => [M]
  | M, y :: l => if y < M then y :: bubR M l else M :: bubR y l
theorem gtC_perm {P P' : List Int} (h : P.Perm P') (x : Int) : gtC P x = gtC P' x := h.countP_eq _
theorem mxG_perm (l : List Int) : ∀ {P P' : List Int}, P.Perm P' → mxG P l = mxG P' l := by
  induction l with
  | nil => intro P P' _; rfl
  | cons x l ih => intro P P' h; unfold mxG; rw [gtC_perm h, ih (h.cons x)]
theorem gtC_zero {P : List Int} {x : Int} (h : ∀ y ∈ P, y ≤ x) : gtC P x = 0 := by
  unfold gtC; rw [List.countP_eq_zero]; intro y hy; have := h y hy; simp; omega
theorem bubR_mx (l : List Int) : ∀ (M : Int) (P P' : List Int), P.Perm (M :: P') → (∀ y ∈ P, y ≤ M) → mxG P' (bubR M l) = mxG P l - 1 := by
  induction l with
  | nil =>
    intro M P P' hp hM
    show max (gtC P' M) 0 = 0 - 1
    rw [gtC_zero (fun y hy => hM y (hp.mem_iff.2 (by simp [hy])))]; rfl
  | cons y l ih =>
    intro M P P' hp hM
    unfold bubR
    split
    · next h =>
      show max (gtC P' y) (mxG (y :: P') (bubR M l)) = max (gtC P y) (mxG (y :: P) l) - 1
      rw [ih M (y :: P) (y :: P') ((hp.cons y).trans (List.Perm.swap _ _ _)) (fun z hz => by
        rcases List.mem_cons.1 hz with e | e
        · omega
        · exact hM z e)]
      have : gtC P y = gtC P' y + 1 := by
        rw [gtC_perm hp]; unfold gtC; rw [List.countP_cons, if_pos (by simpa using h)]
      omega
    · next h =>
      show max (gtC P' M) (mxG (M :: P') (bubR y l)) = max (gtC P y) (mxG (y :: P) l) - 1
      have h1 : gtC P' M = 0 := gtC_zero (fun z hz => hM z (hp.mem_iff.2 (by simp [hz])))
      have h2 : gtC P y = 0 := gtC_zero (fun z hz => by have := hM z hz; omega)
      rw [ih y (y :: P) (M :: P') (hp.cons y) (fun z hz => by
        rcases List.mem_cons.1 hz with e | e
        · omega
        · have := hM z e; omega), h1, h2]
      omega
theorem bubR_snoc (l : List Int) : ∀ M : Int, ∃ A K, A.length = l.length ∧ bubR M l = A ++ [K] ∧ ∀ y r, bubR M (l ++ y :: r) = A ++ bubR K (y :: r) := by
  induction l with
  | nil => intro M; exact ⟨[], M, rfl, rfl, fun y r => rfl⟩
  | cons x l ih =>
    intro M
    by_cases h : x < M
    · obtain ⟨A, K, h0, h1, h2⟩ := ih M
      refine ⟨x :: A, K, by simp [h0], ?_, fun y r => ?_⟩
      · show (if x < M then _ else _) = _; rw [if_pos h, h1]; rfl
      · show (if x < M then x :: bubR M (l ++ y :: r) else _) = _; rw [if_pos h, h2]; rfl
    · obtain ⟨A, K, h0, h1, h2⟩ := ih x
      refine ⟨M :: A, K, by simp [h0], ?_, fun y r => ?_⟩
      · show (if x < M then _ else _) = _; rw [if_neg h, h1]; rfl
      · show (if x < M then _ else M :: bubR x (l ++ y :: r)) = _; rw [if_neg h, h2]; rfl
theorem nth_app_ge {A B : List Int} {i : Nat} (h : A.length ≤ i) : nth (A ++ B) i = nth B (i - A.length) := by simp [nth, List.getElem?_append, show ¬ i < A.length by omega]
theorem bubTo_R (x : Int) (l : List Int) : ∀ k, k ≤ l.length → bubTo (x :: l) k = bubR x (l.take k) ++ l.drop k := by
  intro k
  induction k with
  | zero => intro _; simp [bubTo, bubR]
  | succ k ih =>
    intro hk
    have h1 := ih (by omega)
    obtain ⟨A, K, h2, h3, h4⟩ := bubR_snoc (l.take k) x
    rw [drop_nth (by omega), h3] at h1
    have hA : A.length = k := by rw [h2]; simp; omega
    obtain ⟨y, hy⟩ : ∃ y, y = nth l k := ⟨_, rfl⟩
    rw [← hy] at h1
    have e1 : nth (bubTo (x :: l) k) k = K := by
      rw [h1, List.append_assoc, nth_app_ge (by omega), hA, Nat.sub_self]; simp [nth]
    have e2 : nth (bubTo (x :: l) k) (k + 1) = y := by
      rw [h1, List.append_assoc, nth_app_ge (by omega), hA, show k + 1 - k = 1 by omega]; simp [nth]
    have h5 := h4 y []
    have h6 : bubR x (l.take (k + 1)) = A ++ (if y < K then [y, K] else [K, y]) := by
      rw [take_nth (by omega), ← hy, h5]; congr 1
    unfold bubTo
    rw [e1, e2, h6]
    by_cases h : y < K
    · rw [if_pos h, if_pos h]
      unfold swp
      rw [Nat.add_sub_cancel, e1, e2, h1]
      rw [List.append_assoc, List.set_append, if_neg (by omega), List.set_append, if_neg (by omega), hA, show k + 1 - k = 1 by omega, Nat.sub_self]
      simp [List.set]
    · rw [if_neg h, if_neg h, h1]; simp
theorem bubL_mx (xs : List Int) : mxG [] (bubL xs) = mxG [] xs - 1 := by
  cases xs with
  | nil => rfl
  | cons x l =>
    have h1 := bubTo_R x l l.length (Nat.le_refl _)
    have h2 : bubL (x :: l) = bubR x l := by
      show bubTo (x :: l) (l.length + 1 - 1) = _
      rw [Nat.add_sub_cancel, h1]; simp
    rw [h2, bubR_mx l x [x] [] (List.Perm.refl _) (by simp)]
    show mxG [x] l - 1 = max (gtC [] x) (mxG [x] l) - 1
    have : gtC [] x = 0 := rfl
    rw [this]; omega
theorem mxG_zero {l : List Int} : ∀ {P : List Int}, mxG P l = 0 ↔ (∀ x ∈ l, ∀ y ∈ P, y ≤ x) ∧ l.Pairwise (· ≤ ·) := by
  induction l with
  | nil => intro P; simp [mxG]
  | cons x l ih =>
    intro P
    have e : mxG P (x :: l) = 0 ↔ gtC P x = 0 ∧ mxG (x :: P) l = 0 := by
      show max (gtC P x) (mxG (x :: P) l) = 0 ↔ _
      omega
    rw [e, ih, List.pairwise_cons]
    unfold gtC
    rw [List.countP_eq_zero]
    constructor
    · rintro ⟨h1, h2, h3⟩
      refine ⟨fun z hz y hy => ?_, fun z hz => h2 z hz x (by simp), h3⟩
      rcases List.mem_cons.1 hz with e | e
      · subst e; have := h1 y hy; simp at this; omega
      · exact h2 z e y (by simp [hy])
    · rintro ⟨h1, h2, h3⟩
      refine ⟨fun y hy => by have := h1 x (by simp) y hy; simp; omega, fun z hz y hy => ?_, h3⟩
      rcases List.mem_cons.1 hy with e | e
      · subst e; exact h2 z hz
      · exact h1 z (by simp [hz]) y e
theorem mxG_srt {xs : List Int} : mxG [] xs = 0 ↔ srtB xs = true := by
  rw [mxG_zero, srtB_iff]
  constructor
  · rintro ⟨_, h⟩ i hi
    have := List.pairwise_iff_getElem.1 h i (i + 1) (by omega) hi (by omega)
    rwa [nth_get (by omega), nth_get hi]
  · intro h; exact ⟨fun x _ y hy => by simp at hy, srt_pairwise h⟩
theorem tms_mx : ∀ (m : Nat) (xs : List Int), IsP xs → mxG [] xs = m → tms bubL xs = m := by
  intro m
  induction m with
  | zero => intro xs _ h; exact tms_sorted (mxG_srt.1 h)
  | succ m ih =>
    intro xs hp h
    have hs : srtB xs = false := by
      rw [Bool.eq_false_iff]; intro hh; have := mxG_srt.2 hh; omega
    rw [tms_step bub_ok hp hs, ih (bubL xs) (bub_ok.perm xs hp) (by rw [bubL_mx]; omega)]; omega
/-- the most greater numbers that stand before one of the first k. -/
def mostTo (xs : List Int) : Nat → Nat
  | 0 => 0
  | k + 1 => max (mostTo xs k) (gtTo xs k k)
theorem mostTo_mx (l : List Int) : ∀ A : List Int, mostTo (A ++ l) (A ++ l).length = max (mostTo (A ++ l) A.length) (mxG A.reverse l) := by
  induction l with
  | nil => intro A; simp [mxG]
  | cons x l ih =>
    intro A
    have h := ih (A ++ [x])
    rw [List.append_assoc, List.singleton_append, List.reverse_append, List.reverse_singleton, List.singleton_append] at h
    rw [h]
    have e : mostTo (A ++ x :: l) (A ++ [x]).length = max (mostTo (A ++ x :: l) A.length) (gtC A.reverse x) := by
      rw [List.length_append]
      show max _ (gtTo (A ++ x :: l) A.length A.length) = _
      congr 1
      unfold gtTo gtC
      have : nth (A ++ x :: l) A.length = x := by rw [nth_app_ge (Nat.le_refl _), Nat.sub_self]; simp [nth]
      rw [this, List.take_left' rfl, List.countP_reverse]
    rw [e]
    show _ = max _ (max _ _)
    omega
theorem most_mx (xs : List Int) : mostTo xs xs.length = mxG [] xs := by
  have := mostTo_mx xs []
  simpa [mostTo] using this
theorem times_most {xs : List Int} (h : isP8 xs = true) : tmsI bubL xs = (mostTo xs xs.length : Int) := by
  unfold tmsI
  rw [if_pos h, most_mx, tms_mx _ xs (isP8_iff.1 h).2 rfl]

/-! ### which are sorted by one pass -/
theorem mostTo_two {xs : List Int} : ∀ {k : Nat}, 2 ≤ mostTo xs k ↔ ∃ i, i < k ∧ 2 ≤ gtTo xs i i := by
  intro k
  induction k with
  | zero => simp [mostTo]
  | succ k ih =>
    show 2 ≤ max _ _ ↔ _
    constructor
    · intro h
      rcases Nat.lt_or_ge (mostTo xs k) 2 with e | e
      · exact ⟨k, by omega, by omega⟩
      · obtain ⟨i, h1, h2⟩ := ih.1 e; exact ⟨i, by omega, h2⟩
    · rintro ⟨i, h1, h2⟩
      rcases Nat.lt_or_ge i k with e | e
      · have := ih.2 ⟨i, e, h2⟩; omega
      · obtain rfl : i = k := by omega
        omega
theorem gtTo_two {xs : List Int} {k : Nat} : ∀ {j : Nat}, j ≤ xs.length → (2 ≤ gtTo xs k j ↔ ∃ a b, a < b ∧ b < j ∧ nth xs k < nth xs a ∧ nth xs k < nth xs b) := by
  have one : ∀ {j : Nat}, j ≤ xs.length → (1 ≤ gtTo xs k j ↔ ∃ a, a < j ∧ nth xs k < nth xs a) := by
    intro j
    induction j with
    | zero => intro _; simp [gtTo]
    | succ j ih =>
      intro hj
      rw [gtTo_succ xs k j (by omega)]
      constructor
      · intro h
        by_cases e : nth xs k < nth xs j
        · exact ⟨j, by omega, e⟩
        · rw [if_neg e] at h
          obtain ⟨a, h1, h2⟩ := (ih (by omega)).1 (by omega)
          exact ⟨a, by omega, h2⟩
      · rintro ⟨a, h1, h2⟩
        rcases Nat.lt_or_ge a j with e | e
        · have := (ih (by omega)).2 ⟨a, e, h2⟩; omega
        · obtain rfl : a = j := by omega
          rw [if_pos h2]; omega
  intro j
  induction j with
  | zero => intro _; simp [gtTo]
  | succ j ih =>
    intro hj
    rw [gtTo_succ xs k j (by omega)]
    constructor
    · intro h
      by_cases e : nth xs k < nth xs j
      · rw [if_pos e] at h
        obtain ⟨a, h1, h2⟩ := (one (by omega)).1 (show 1 ≤ gtTo xs k j by omega)
        exact ⟨a, j, h1, by omega, h2, e⟩
      · rw [if_neg e] at h
        obtain ⟨a, b, h1, h2, h3⟩ := (ih (by omega)).1 (by omega)
        exact ⟨a, b, h1, by omega, h3⟩
    · rintro ⟨a, b, h1, h2, h3, h4⟩
      rcases Nat.lt_or_ge b j with e | e
      · have := (ih (by omega)).2 ⟨a, b, h1, e, h3, h4⟩; omega
      · obtain rfl : b = j := by omega
        have := (one (by omega)).2 ⟨a, h1, h3⟩
        rw [if_pos h4]; omega
theorem most_two {xs : List Int} : 2 ≤ mxG [] xs ↔ ∃ a b c, a < b ∧ b < c ∧ c < xs.length ∧ nth xs c < nth xs a ∧ nth xs c < nth xs b := by
  rw [← most_mx, mostTo_two]
  constructor
  · rintro ⟨c, h1, h2⟩
    obtain ⟨a, b, h3, h4, h5, h6⟩ := (gtTo_two (by omega)).1 h2
    exact ⟨a, b, c, h3, h4, h1, h5, h6⟩
  · rintro ⟨a, b, c, h3, h4, h1, h5, h6⟩
    exact ⟨c, h1, (gtTo_two (by omega)).2 ⟨a, b, h3, h4, h5, h6⟩⟩
/-- three numbers of p that stand as those of q do. -/
theorem occ3 {p : List Int} {x y z : Int} : occB p [x, y, z] = true ↔ ∃ a b c, a < b ∧ b < c ∧ c < p.length ∧ (decide (nth p a < nth p b) = decide (x < y)) ∧ (decide (nth p a < nth p c) = decide (x < z)) ∧ (decide (nth p b < nth p c) = decide (y < z)) := by
  have f0 : ∀ i, fitB p [x, y, z] [] i = true := fun i => rfl
  have f1 : ∀ a i, fitB p [x, y, z] [a] i = (decide (nth p a < nth p i) == decide (x < y)) := fun a i => by
    simp [fitB, fitTo, List.range_succ, nthN, nth]
  have f2 : ∀ a b i, fitB p [x, y, z] [a, b] i = ((decide (nth p a < nth p i) == decide (x < z)) && (decide (nth p b < nth p i) == decide (y < z))) := fun a b i => by
    simp [fitB, fitTo, List.range_succ, nthN, nth]
  unfold occB
  show haB p [x, y, z] 3 [] = true ↔ _
  simp only [haB, anyC_iff, stepB, List.nil_append, f0, f1, f2, Bool.and_eq_true, decide_eq_true_eq, beq_iff_eq, List.cons_append, and_true, true_and]
  have n0 : fromN [] = 0 := rfl
  have n1 : ∀ a, fromN [a] = a + 1 := fun a => rfl
  have n2 : ∀ a b, fromN [a, b] = b + 1 := fun a b => rfl
  simp only [n0, n1, n2]
  constructor
  · rintro ⟨a, h1, _, b, h2, h3, h4, c, h5, h6, h7, h8⟩
    exact ⟨a, b, c, by omega, by omega, h5, h4, h7, h8⟩
  · rintro ⟨a, b, c, h1, h2, h3, h4, h5, h6⟩
    exact ⟨a, by omega, Nat.zero_le _, b, by omega, by omega, h4, c, h3, by omega, h5, h6⟩
theorem bub_avoid {t : List Int} (h : isP8 t = true) : bubSortedB t = !(occB t [2, 3, 1] || occB t [3, 2, 1]) := by
  obtain ⟨h8, hp⟩ := isP8_iff.1 h
  unfold bubSortedB
  rw [h, Bool.true_and]
  have h1 : srtB (bubL t) = true ↔ ¬ 2 ≤ mxG [] t := by rw [← mxG_srt, bubL_mx]; omega
  have h2 : (occB t [2, 3, 1] || occB t [3, 2, 1]) = true ↔ 2 ≤ mxG [] t := by
    rw [Bool.or_eq_true, occ3, occ3, most_two]
    constructor
    · rintro (⟨a, b, c, k1, k2, k3, _, k5, k6⟩ | ⟨a, b, c, k1, k2, k3, _, k5, k6⟩)
      · have e1 : nth t a ≠ nth t c := fun e => by have := hp.inj (by omega) k3 e; omega
        have e2 : nth t b ≠ nth t c := fun e => by have := hp.inj (by omega) k3 e; omega
        simp at k5 k6
        exact ⟨a, b, c, k1, k2, k3, by omega, by omega⟩
      · have e1 : nth t a ≠ nth t c := fun e => by have := hp.inj (by omega) k3 e; omega
        have e2 : nth t b ≠ nth t c := fun e => by have := hp.inj (by omega) k3 e; omega
        simp at k5 k6
        exact ⟨a, b, c, k1, k2, k3, by omega, by omega⟩
    · rintro ⟨a, b, c, k1, k2, k3, k4, k5⟩
      rcases Int.lt_or_le (nth t a) (nth t b) with e | e
      · left; refine ⟨a, b, c, k1, k2, k3, ?_, ?_, ?_⟩ <;> simp <;> omega
      · right; refine ⟨a, b, c, k1, k2, k3, ?_, ?_, ?_⟩ <;> simp <;> omega
  rw [Bool.eq_iff_iff, h1, ← h2]
  cases (occB t [2, 3, 1] || occB t [3, 2, 1]) <;> simp
end Go.Proofs.Ytoieaphacnaohaa
