/- Covers and chains of the strong order, and its ranks, without program text. Conditions: none. -/
import Derived.Test.YtmnbdphfoonleaaStrP
import Derived.Test.YtmnbdphfoonleaaPutP
import Derived.Test.YtmnbdphfoonleaaRank
namespace Go.Proofs.Ytmnbdphfoonleaa
open Go.RowKit

/-- the numbers at places i and k exchanged. -/
def xsw (p : List Int) (i k : Nat) : List Int := (p.set i (nth p k)).set k (nth p i)
theorem xsw_len (p : List Int) (i k : Nat) : (xsw p i k).length = p.length := by simp [xsw]
theorem xsw_nth {p : List Int} {i k j : Nat} (hj : j < p.length) : nth (xsw p i k) j = if k = j then nth p i else if i = j then nth p k else nth p j := by
  unfold xsw
  rw [nth_setA (by simpa using hj), nth_setA hj]
def cvHit (p : List Int) (i k : Nat) : Bool := decide (inv (xsw p i k) = inv p + 1)
def cvOne (p : List Int) (k i : Nat) : List (List Int) := bif cvHit p i k then [xsw p i k] else []
def cvRow (p : List Int) (k m : Nat) : List (List Int) := (List.range m).flatMap (cvOne p k)
def cvTo (p : List Int) (k : Nat) : List (List Int) := (List.range k).flatMap fun k => cvRow p k k
def cvAll (p : List Int) : List (List Int) := cvTo p p.length
def cvL (p : List Int) : List (List Int) := bif isP8 p then putAll (cvAll p) else []
theorem cvRow_succ (p : List Int) (k m : Nat) : cvRow p k (m + 1) = cvRow p k m ++ cvOne p k m := by simp [cvRow, List.range_succ]
theorem cvTo_succ (p : List Int) (k : Nat) : cvTo p (k + 1) = cvTo p k ++ cvRow p k k := by simp [cvTo, List.range_succ]
theorem cvOne_t {p : List Int} {k i : Nat} (h : cvHit p i k = true) : cvOne p k i = [xsw p i k] := by unfold cvOne; rw [h]; rfl
theorem cvOne_f {p : List Int} {k i : Nat} (h : cvHit p i k = false) : cvOne p k i = [] := by unfold cvOne; rw [h]; rfl
theorem cvRow_len (p : List Int) (k m : Nat) : (cvRow p k m).length ≤ m := by
  induction m with
  | zero => simp [cvRow]
  | succ m ih =>
    rw [cvRow_succ, List.length_append]
    cases h : cvHit p m k
    · rw [cvOne_f h]; simp; omega
    · rw [cvOne_t h]; simp; omega
theorem cvTo_len (p : List Int) (k : Nat) : (cvTo p k).length ≤ k * k := by
  induction k with
  | zero => simp [cvTo]
  | succ k ih =>
    rw [cvTo_succ, List.length_append]
    have := cvRow_len p k k
    have : (k + 1) * (k + 1) = k * k + k + k + 1 := by rw [Nat.add_mul, Nat.mul_add]; omega
    omega
theorem cvAll_mem {p q : List Int} : q ∈ cvAll p ↔ ∃ i k, i < k ∧ k < p.length ∧ cvHit p i k = true ∧ q = xsw p i k := by
  unfold cvAll cvTo cvRow
  simp only [List.mem_flatMap, List.mem_range]
  constructor
  · rintro ⟨k, hk, i, hi, hq⟩
    cases h : cvHit p i k
    · rw [cvOne_f h] at hq; simp at hq
    · rw [cvOne_t h] at hq; exact ⟨i, k, hi, hk, h, by simpa using hq⟩
  · rintro ⟨i, k, hi, hk, h, rfl⟩
    exact ⟨k, hk, i, hi, by rw [cvOne_t h]; simp⟩
theorem cvAll_each {p q : List Int} (h : q ∈ cvAll p) : q.length = p.length := by
  obtain ⟨i, k, _, _, _, rfl⟩ := cvAll_mem.1 h
  exact xsw_len _ _ _
theorem bound_StrongCovers (p : List Int) (_h : p.length ≤ 1048576) : Bd (cvL p) := by
  unfold cvL
  cases h : isP8 p
  · exact Bd.nil
  · have h8 := (isP8_iff.1 h).1
    simp only [cond_true]
    refine Bd.of 64 8 ?_ (fun q hq => ?_) (by omega) (by omega)
    · have := putAll_len (cvAll p)
      have := cvTo_len p p.length
      have : p.length * p.length ≤ 8 * 8 := Nat.mul_le_mul h8 h8
      unfold cvAll at *
      omega
    · rw [cvAll_each ((putAll_mem _ _).1 hq)]; exact h8
theorem xsw_perm {p : List Int} {i k : Nat} (hik : i < k) (hk : k < p.length) : ∃ A B C, p = A ++ nth p i :: B ++ nth p k :: C ∧ xsw p i k = A ++ nth p k :: B ++ nth p i :: C := by
  have e1 : p = p.take i ++ nth p i :: p.drop (i + 1) := by
    rw [← drop_nth (by omega), List.take_append_drop]
  have e2 : p.drop (i + 1) = (p.drop (i + 1)).take (k - (i + 1)) ++ nth p k :: p.drop (k + 1) := by
    have h1 : (p.drop (i + 1)).drop (k - (i + 1)) = nth p k :: p.drop (k + 1) := by
      rw [List.drop_drop, show i + 1 + (k - (i + 1)) = k by omega, drop_nth hk]
    conv => lhs; rw [← List.take_append_drop (k - (i + 1)) (p.drop (i + 1)), h1]
  have hl1 : (p.take i).length = i := by simp; omega
  have hl2 : ((p.drop (i + 1)).take (k - (i + 1))).length = k - (i + 1) := by simp; omega
  rw [e2] at e1
  unfold xsw
  obtain ⟨x, hx⟩ : ∃ x, x = nth p i := ⟨_, rfl⟩
  obtain ⟨y, hy⟩ : ∃ y, y = nth p k := ⟨_, rfl⟩
  obtain ⟨A, hA⟩ : ∃ A, A = p.take i := ⟨_, rfl⟩
  obtain ⟨B, hB⟩ : ∃ B, B = (p.drop (i + 1)).take (k - (i + 1)) := ⟨_, rfl⟩
  obtain ⟨C, hC⟩ : ∃ C, C = p.drop (k + 1) := ⟨_, rfl⟩
  rw [← hx, ← hy, ← hA, ← hB, ← hC] at e1
  rw [← hA] at hl1
  rw [← hB] at hl2
  rw [← hx, ← hy]
  have e3 : p = (A ++ x :: B) ++ y :: C := by rw [e1]; simp
  have hlen : ∀ z : Int, (A ++ z :: B).length = k := fun z => by rw [List.length_append, List.length_cons, hl1, hl2]; omega
  refine ⟨A, B, C, e3, ?_⟩
  have e4 : (A ++ x :: B).set i y = A ++ y :: B := by rw [List.set_append, if_neg (by omega), hl1, Nat.sub_self, List.set_cons_zero]
  rw [e3, List.set_append, if_pos (by rw [hlen]; exact hik), e4, List.set_append, if_neg (by rw [hlen]; omega), hlen, Nat.sub_self, List.set_cons_zero]
theorem xsw_isP {p : List Int} (hp : IsP p) {i k : Nat} (hik : i < k) (hk : k < p.length) : IsP (xsw p i k) := by
  obtain ⟨A, B, C, e1, e2⟩ := xsw_perm hik hk
  refine isP_of_perm ?_ hp
  rw [e2]
  conv => lhs; rw [e1]
  generalize nth p i = x
  generalize nth p k = y
  simp only [List.append_assoc, List.cons_append]
  refine List.Perm.append_left _ ?_
  have h1 : (x :: (B ++ y :: C)).Perm (x :: y :: (B ++ C)) := List.Perm.cons _ List.perm_middle
  have h2 : (y :: (B ++ x :: C)).Perm (y :: x :: (B ++ C)) := List.Perm.cons _ List.perm_middle
  exact h1.trans ((List.Perm.swap _ _ _).trans h2.symm)
theorem invc_l (A D D' : List Int) (hp : D.Perm D') : inv (A ++ D) + inv D' = inv (A ++ D') + inv D := by
  induction A with
  | nil => simp; omega
  | cons a r ih =>
    simp only [List.cons_append, inv]
    have : (r ++ D).countP (fun y => decide (y < a)) = (r ++ D').countP (fun y => decide (y < a)) := (List.Perm.append_left r hp).countP_eq _
    omega
theorem invc_r (C D D' : List Int) (hp : D.Perm D') : inv (D ++ C.reverse) + inv D' = inv (D' ++ C.reverse) + inv D := by
  induction C with
  | nil => simp; omega
  | cons y r ih =>
    rw [List.reverse_cons, ← List.append_assoc, ← List.append_assoc, inv_snoc, inv_snoc]
    have : (D ++ r.reverse).countP (fun x => decide (y < x)) = (D' ++ r.reverse).countP (fun x => decide (y < x)) := (List.Perm.append_right _ hp).countP_eq _
    omega
/-- a great number exchanged with a lesser one behind it: there are fewer inversions. -/
theorem inv_far (A B C : List Int) (x y : Int) (h : x < y) : inv (A ++ x :: B ++ y :: C) < inv (A ++ y :: B ++ x :: C) := by
  have key : inv (x :: (B ++ [y])) < inv (y :: (B ++ [x])) := by
    simp only [inv, inv_snoc, List.countP_append, List.countP_cons, List.countP_nil]
    have a1 : B.countP (fun z => decide (z < x)) ≤ B.countP (fun z => decide (z < y)) := List.countP_mono_left (fun z _ hz => by simp at hz ⊢; omega)
    have a2 : B.countP (fun z => decide (y < z)) ≤ B.countP (fun z => decide (x < z)) := List.countP_mono_left (fun z _ hz => by simp at hz ⊢; omega)
    rw [if_neg (by simp; omega), if_pos (by simpa using h)]
    omega
  have hp : (x :: (B ++ [y])).Perm (y :: (B ++ [x])) := by
    have h1 : (x :: (B ++ [y])).Perm (x :: y :: B) := List.Perm.cons _ (List.perm_append_singleton _ _)
    have h2 : (y :: (B ++ [x])).Perm (y :: x :: B) := List.Perm.cons _ (List.perm_append_singleton _ _)
    exact h1.trans ((List.Perm.swap _ _ _).trans h2.symm)
  have e1 : A ++ x :: B ++ y :: C = A ++ (x :: (B ++ [y]) ++ C) := by simp
  have e2 : A ++ y :: B ++ x :: C = A ++ (y :: (B ++ [x]) ++ C) := by simp
  rw [e1, e2]
  have h3 := invc_r C.reverse _ _ hp
  rw [List.reverse_reverse] at h3
  have h4 := invc_l A _ _ (List.Perm.append_right C hp)
  omega
theorem xsw_le {p : List Int} {i k : Nat} (hik : i < k) (hk : k < p.length) (h : nth p i < nth p k) : leS p (xsw p i k) := by
  intro j v
  obtain ⟨cx, hcx⟩ : ∃ c : Nat, c = if v ≤ nth p i then 1 else 0 := ⟨_, rfl⟩
  obtain ⟨cy, hcy⟩ : ∃ c : Nat, c = if v ≤ nth p k then 1 else 0 := ⟨_, rfl⟩
  have hxy : cx ≤ cy := by rw [hcx, hcy]; split <;> split <;> omega
  have key : ∀ j, j ≤ p.length → (j ≤ i → cntG p j v = cntG (xsw p i k) j v) ∧ (i < j → j ≤ k → cntG p j v + cy = cntG (xsw p i k) j v + cx) ∧ (k < j → cntG p j v = cntG (xsw p i k) j v) := by
    intro j
    induction j with
    | zero => intro _; exact ⟨fun _ => by simp [cntG], fun h => by omega, fun h => by omega⟩
    | succ j ih =>
      intro hj
      obtain ⟨h1, h2, h3⟩ := ih (by omega)
      have s1 := cntG_succ (xs := p) (k := j) (by omega) v
      have s2 := cntG_succ (xs := xsw p i k) (k := j) (by rw [xsw_len]; omega) v
      rw [xsw_nth (by omega)] at s2
      by_cases c1 : j = i
      · subst c1
        rw [if_neg (by omega : ¬ k = j), if_pos rfl] at s2
        rw [← hcx] at s1
        rw [← hcy] at s2
        have := h1 (Nat.le_refl _)
        exact ⟨fun h => by omega, fun _ _ => by omega, fun h => by omega⟩
      · by_cases c2 : j = k
        · subst c2
          rw [if_pos rfl, ← hcx] at s2
          rw [← hcy] at s1
          have := h2 hik (Nat.le_refl _)
          exact ⟨fun h => by omega, fun _ h => by omega, fun _ => by omega⟩
        · rw [if_neg (fun e => c2 e.symm : ¬ k = j), if_neg (fun e => c1 e.symm : ¬ i = j)] at s2
          refine ⟨fun h => ?_, fun h h' => ?_, fun h => ?_⟩
          · have := h1 (by omega); omega
          · have := h2 (by omega) (by omega); omega
          · have := h3 (by omega); omega
  have all : ∀ j, j ≤ p.length → cntG p j v ≤ cntG (xsw p i k) j v := by
    intro j hj
    obtain ⟨h1, h2, h3⟩ := key j hj
    rcases Nat.lt_or_ge i j with e | e
    · rcases Nat.lt_or_ge k j with e2 | e2
      · have := h3 e2; omega
      · have := h2 e e2; omega
    · have := h1 e; omega
  rcases Nat.le_total j p.length with e | e
  · exact all j e
  · rw [cntG_all e, cntG_all (show (xsw p i k).length ≤ j by rw [xsw_len]; exact e), xsw_len]
    exact all _ (Nat.le_refl _)
theorem cover_str {p q : List Int} (h : q ∈ cvL p) : strB p q = true ∧ invI q = invI p + 1 := by
  unfold cvL at h
  cases hr : isP8 p
  · rw [hr] at h; simp at h
  rw [hr] at h
  obtain ⟨i, k, hik, hk, hh, rfl⟩ := cvAll_mem.1 ((putAll_mem _ _).1 h)
  obtain ⟨h8, hp⟩ := isP8_iff.1 hr
  unfold cvHit at hh
  have hinv := of_decide_eq_true hh
  have hq8 : isP8 (xsw p i k) = true := isP8_true (by rw [xsw_len]; exact h8) (xsw_isP hp hik hk)
  have hlt : nth p i < nth p k := by
    have hne : nth p i ≠ nth p k := fun e => by have := hp.inj (by omega) hk e; omega
    rcases Int.lt_or_le (nth p i) (nth p k) with e | e
    · exact e
    · exfalso
      obtain ⟨A, B, C, e1, e2⟩ := xsw_perm hik hk
      have := inv_far A B C (nth p k) (nth p i) (by omega)
      rw [← e1, ← e2] at this
      omega
  refine ⟨strB_iff.2 ⟨hr, hq8, (xsw_len _ _ _).symm, xsw_le hik hk hlt⟩, ?_⟩
  unfold invI; rw [if_pos hr, if_pos hq8, hinv]; push_cast; rfl

/-! ### chains -/
def chOne (L : List (List Int)) (k : Nat) : Bool := isP8 (nthL L k) && (decide (k = 0) || anyL (fun q => decide (nthL L k = q)) (cvL (nthL L (k - 1))))
def chB (L : List (List Int)) : Bool := (List.range L.length).all (chOne L)
theorem ch_str {L : List (List Int)} (h : chB L = true) : ∀ k, k < L.length → strB (nthL L 0) (nthL L k) = true := by
  unfold chB at h
  rw [List.all_eq_true] at h
  intro k
  induction k with
  | zero =>
    intro hk
    have := h 0 (List.mem_range.2 hk)
    unfold chOne at this
    rw [Bool.and_eq_true] at this
    exact str_refl this.1
  | succ k ih =>
    intro hk
    have h1 := ih (by omega)
    have h2 := h (k + 1) (List.mem_range.2 hk)
    unfold chOne at h2
    rw [Bool.and_eq_true, Bool.or_eq_true, Nat.add_sub_cancel] at h2
    rcases h2.2 with h3 | h3
    · simp at h3
    · unfold anyL at h3
      rw [List.any_eq_true] at h3
      obtain ⟨q, hq, e⟩ := h3
      have e' := of_decide_eq_true e
      rw [e']
      exact str_trans h1 (cover_str hq).1

/-! ### ranks -/
theorem rcTo_at (L : List (List Int)) (m : Nat) : ∀ k, k ≤ L.length → (∀ i, i < k → inv (nthL L i) ≤ m) → ∀ j, j ≤ m → nth (rcTo L m k) j = (((List.range k).countP fun i => decide (inv (nthL L i) = j) : Nat) : Int) := by
  intro k
  induction k with
  | zero =>
    intro _ _ j hj
    show nth (List.replicate (m + 1) 0) j = _
    simp [nth, List.getElem?_replicate]
    split <;> rfl
  | succ k ih =>
    intro hk hb j hj
    have h1 := ih (by omega) (fun i hi => hb i (by omega)) j hj
    have hl := rcTo_len L m k
    show nth ((rcTo L m k).set (inv (nthL L k)) (nth (rcTo L m k) (inv (nthL L k)) + 1)) j = _
    rw [nth_setA (by omega), List.range_succ, List.countP_append]
    simp only [List.countP_cons, List.countP_nil]
    by_cases e : inv (nthL L k) = j
    · rw [if_pos e, e, h1, if_pos (by simp)]; push_cast; omega
    · rw [if_neg e, h1, if_neg (by simpa using e)]; push_cast; omega
def totI (xs : List Int) : Int := xs.foldl (· + ·) 0
theorem foldl_addI (xs : List Int) : ∀ c : Int, xs.foldl (· + ·) c = c + totI xs := by
  induction xs with
  | nil => intro c; simp [totI]
  | cons x xs ih => intro c; unfold totI; simp only [List.foldl_cons]; rw [ih, ih (0 + x)]; omega
theorem totI_cons (x : Int) (xs : List Int) : totI (x :: xs) = x + totI xs := by
  show xs.foldl (· + ·) (0 + x) = _; rw [foldl_addI]; omega
theorem totI_set : ∀ (xs : List Int) (i : Nat) (v : Int), i < xs.length → totI (xs.set i v) = totI xs - nth xs i + v := by
  intro xs
  induction xs with
  | nil => intro i v h; simp at h
  | cons x xs ih =>
    intro i v h
    cases i with
    | zero => simp [totI_cons, nth]; omega
    | succ i =>
      rw [List.set_cons_succ, totI_cons, totI_cons, ih i v (by simpa using h)]
      have : nth (x :: xs) (i + 1) = nth xs i := by simp [nth]
      rw [this]; omega
theorem totI_rep (n : Nat) : totI (List.replicate n 0) = 0 := by
  induction n with
  | zero => rfl
  | succ n ih => rw [List.replicate_succ, totI_cons, ih]; rfl
theorem rcTo_tot (L : List (List Int)) (m : Nat) : ∀ k, k ≤ L.length → (∀ i, i < k → inv (nthL L i) ≤ m) → totI (rcTo L m k) = (k : Int) := by
  intro k
  induction k with
  | zero => intro _ _; exact totI_rep _
  | succ k ih =>
    intro hk hb
    have h1 := ih (by omega) (fun i hi => hb i (by omega))
    have hl := rcTo_len L m k
    have := hb k (by omega)
    show totI ((rcTo L m k).set (inv (nthL L k)) (nth (rcTo L m k) (inv (nthL L k)) + 1)) = _
    rw [totI_set _ _ _ (by omega), h1]; push_cast; omega
theorem perms_nodup : ∀ n, n ≤ 5 → (permsL n).Nodup := by decide +kernel
theorem bel_nodup (p : List Int) : (belL p).Nodup := by
  unfold belL
  cases h : belOK p
  · simp
  · have h5 := (belOK_true h).2
    have hn : (permsL p.length).Nodup := perms_nodup p.length h5
    simp only [cond_true]
    unfold belTo
    rw [List.Nodup, List.pairwise_map]
    refine List.Pairwise.imp_of_mem ?_ (belI_pw _ _ _)
    intro a b ha hb hab e
    have h1 := belI_lt ha
    have h2 := belI_lt hb
    have := List.pairwise_iff_getElem.1 hn a b h1 h2 hab
    rw [← nthL_get h1, ← nthL_get h2] at this
    exact this e
theorem count_uniq {L : List (List Int)} (hn : L.Nodup) {g : List Int → Bool} {x : List Int} (hx : x ∈ L) (h : ∀ y ∈ L, g y = true ↔ y = x) : (List.range L.length).countP (fun i => g (nthL L i)) = 1 := by
  have e : (List.range L.length).countP (fun i => g (nthL L i)) = L.countP g := by
    have h1 : L = (List.range L.length).map (nthL L) := by
      refine List.ext_getElem (by simp) fun i h1 h2 => ?_
      simp only [List.getElem_map, List.getElem_range]
      exact (nthL_get h1).symm
    conv => rhs; rw [h1]
    rw [List.countP_map]; rfl
  rw [e, List.countP_congr (q := fun y => y == x) (fun y hy => by rw [h y hy]; simp)]
  have h2 : List.count x L = 1 := by rw [hn.count, if_pos hx]
  exact h2
theorem rank_all {p : List Int} (h : 0 < (belL p).length) : (rcL p).length = inv p + 1 ∧ totI (rcL p) = ((belL p).length : Int) ∧ nth (rcL p) 0 = 1 ∧ nth (rcL p) (inv p) = 1 := by
  have hok : belOK p = true := by
    cases hb : belOK p
    · unfold belL at h; rw [hb] at h; simp at h
    · rfl
  obtain ⟨h8, h5⟩ := belOK_true hok
  have hp := (isP8_iff.1 h8).2
  have e : rcL p = rcTo (belL p) (inv p) (belL p).length := by unfold rcL; rw [hok]; rfl
  have hb : ∀ i, i < (belL p).length → inv (nthL (belL p) i) ≤ inv p := fun i hi => by
    rcases bel_inv (nthL_mem hi) with k | k
    · omega
    · rw [k]; exact Nat.le_refl _
  rw [e]
  refine ⟨rcTo_len _ _ _, rcTo_tot _ _ _ (Nat.le_refl _) hb, ?_, ?_⟩
  · rw [rcTo_at _ _ _ (Nat.le_refl _) hb 0 (Nat.zero_le _)]
    have hid : idL p.length ∈ belL p := by
      have h1 : sbelB (idL p.length) p = true := (sbel_leS (idL_isP _) hp (idL_len _)).2 (id_le hp rfl)
      have h2 := perms_complete (idL_isP p.length)
      rw [idL_len] at h2
      obtain ⟨i, hi, e2⟩ := mem_nthL h2
      unfold belL
      rw [hok]
      simp only [cond_true, belTo, List.mem_map, belI, List.mem_filter, List.mem_range]
      exact ⟨i, ⟨hi, by rw [e2]; exact h1⟩, e2⟩
    have := count_uniq (bel_nodup p) (g := fun y => decide (inv y = 0)) hid (fun y hy => by
      rw [decide_eq_true_iff]
      have hyl := perms_each (bel_mem hy).2.1
      have hyp := perms_isPP (bel_mem hy).2.1
      constructor
      · intro h0
        have := (inv_zero_srt h0).eq_id hyp
        rw [this, hyl]
      · intro h0; rw [h0]; exact inv_srt (srt_pairwise (idL_srt _)))
    rw [this]; rfl
  · rw [rcTo_at _ _ _ (Nat.le_refl _) hb (inv p) (Nat.le_refl _)]
    have := count_uniq (bel_nodup p) (g := fun y => decide (inv y = inv p)) (bel_self hok) (fun y hy => by
      rw [decide_eq_true_iff]
      constructor
      · intro h0
        rcases bel_inv hy with k | k
        · omega
        · exact k
      · intro h0; rw [h0])
    rw [this]; rfl
end Go.Proofs.Ytmnbdphfoonleaa
