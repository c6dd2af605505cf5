/- Permutations of at most 8 numbers are sorted by one pass less than they have numbers: all of them are looked through. No program text. Conditions: none. -/
import Derived.Test.YtognbiodplodhaaPopM
import Derived.Test.YtognbiodplodhaaPop2
import Derived.Test.YtognbiodplodhaaSurj
namespace Go.Proofs.Ytognbiodplodhaa
open Go.RowKit

/-! ### all permutations -/
def insAll (f : List Nat → Bool) (x : Nat) (pre : List Nat) : List Nat → Bool
  | [] => f (pre.reverse ++ [x])
  | y :: ys => f (pre.reverse ++ x :: y :: ys) && insAll f x (y :: pre) ys
/-- f holds of all lists got by putting x, x + 1, .. (d of them) into l, one after the other. -/
def allP (f : List Nat → Bool) : Nat → Nat → List Nat → Bool
  | 0, _, l => f l
  | d + 1, x, l => insAll (allP f d (x + 1)) x [] l
theorem insAll_at {f : List Nat → Bool} {x : Nat} : ∀ {suf pre : List Nat}, insAll f x pre suf = true → ∀ A B, suf = A ++ B → f (pre.reverse ++ A ++ x :: B) = true := by
  intro suf
  induction suf with
  | nil =>
    intro pre h A B e
    obtain ⟨rfl, rfl⟩ := List.append_eq_nil_iff.1 e.symm
    simpa [insAll] using h
  | cons y ys ih =>
    intro pre h A B e
    simp only [insAll, Bool.and_eq_true] at h
    cases A with
    | nil => simp at e; subst e; simpa using h.1
    | cons a A =>
      simp only [List.cons_append, List.cons.injEq] at e
      obtain ⟨rfl, rfl⟩ := e
      have := ih h.2 A B rfl
      simpa using this
theorem allP_at {f : List Nat → Bool} : ∀ (d m : Nat) (ys : List Nat), ys.Nodup → (∀ y ∈ ys, y ≤ m + d) → (∀ v, m < v → v ≤ m + d → v ∈ ys) → allP f d (m + 1) (ys.filter fun y => decide (y ≤ m)) = true → f ys = true := by
  intro d
  induction d with
  | zero =>
    intro m ys _ h2 _ h
    have : ys.filter (fun y => decide (y ≤ m)) = ys := List.filter_eq_self.2 (fun y hy => by simpa using h2 y hy)
    rw [this] at h; exact h
  | succ d ih =>
    intro m ys h1 h2 h3 h
    refine ih (m + 1) ys h1 (fun y hy => by have := h2 y hy; omega) (fun v a b => h3 v (by omega) (by omega)) ?_
    have hmem : m + 1 ∈ ys.filter (fun y => decide (y ≤ m + 1)) := by
      rw [List.mem_filter]; exact ⟨h3 _ (by omega) (by omega), by simp⟩
    obtain ⟨A, B, e⟩ := List.append_of_mem hmem
    have hn : (ys.filter fun y => decide (y ≤ m + 1)).Nodup := h1.filter _
    rw [e] at hn ⊢
    have e2 : ys.filter (fun y => decide (y ≤ m)) = A ++ B := by
      have e3 : ys.filter (fun y => decide (y ≤ m)) = (ys.filter fun y => decide (y ≤ m + 1)).filter fun y => decide (y ≤ m) := by
        rw [List.filter_filter]
        refine List.filter_congr fun y _ => ?_
        by_cases e4 : y ≤ m
        · simp [e4]; omega
        · simp [e4]
      rw [e3, e, List.filter_append, List.filter_cons, if_neg (by simp)]
      have le : ∀ z ∈ A ++ (m + 1) :: B, z ≤ m + 1 := fun z hz => by rw [← e, List.mem_filter] at hz; simpa using hz.2
      rw [List.nodup_append, List.nodup_cons] at hn
      congr 1
      · refine List.filter_eq_self.2 (fun z hz => ?_)
        have h5 := le z (by simp [hz])
        have h6 := hn.2.2 z hz (m + 1) (by simp)
        simp; omega
      · refine List.filter_eq_self.2 (fun z hz => ?_)
        have h5 := le z (by simp [hz])
        have h6 : z ≠ m + 1 := fun e => hn.2.1.1 (e ▸ hz)
        simp; omega
    rw [e2] at h
    have := insAll_at h A B rfl
    simpa using this

/-! ### one pass, on numbers of a kind that is counted with -/
def ppN : List Nat → List Nat → List Nat
  | st, [] => st
  | [], y :: ys => ppN [y] ys
  | s :: st, y :: ys => bif Nat.blt y s then ppN (y :: s :: st) ys else (s :: st) ++ ppN [y] ys
def ppI : List Int → List Int → List Int
  | st, [] => st
  | [], y :: ys => ppI [y] ys
  | s :: st, y :: ys => if y < s then ppI (y :: s :: st) ys else (s :: st) ++ ppI [y] ys
def zs (l : List Nat) : List Int := l.map fun (n : Nat) => (n : Int)
theorem pp_cast (l : List Nat) : ∀ st : List Nat, ppI (zs st) (zs l) = zs (ppN st l) := by
  induction l with
  | nil => intro st; cases st <;> rfl
  | cons y ys ih =>
    intro st
    cases st with
    | nil => exact ih [y]
    | cons s st =>
      show (if (y : Int) < (s : Int) then ppI (zs (y :: s :: st)) (zs ys) else zs (s :: st) ++ ppI (zs [y]) (zs ys)) = zs (bif Nat.blt y s then _ else _)
      by_cases e : y < s
      · rw [if_pos (by omega), ih]
        have : Nat.blt y s = true := by simpa [Nat.blt_eq] using e
        rw [this]; rfl
      · rw [if_neg (by omega), ih]
        have : Nat.blt y s = false := by rw [Bool.eq_false_iff]; intro h; exact e (by simpa [Nat.blt_eq] using h)
        rw [this]; simp [zs]
theorem pp_flush {s : Int} {st r : List Int} (h : ∀ z r', r = z :: r' → ¬ z < s) : ppI (s :: st) r = (s :: st) ++ ppI [] r := by
  cases r with
  | nil => simp [ppI]
  | cons z r' =>
    show (if z < s then _ else _) = _
    rw [if_neg (h z r' rfl)]; rfl
theorem popL_pp (xs : List Int) : popL xs = ppI [] xs := by
  have key : ∀ d i, i + d = xs.length → popL xs = scO xs i ++ ppI ((xs.drop (scF xs i)).take (i - scF xs i)).reverse (xs.drop i) := by
    intro d
    induction d with
    | zero =>
      intro i hi
      obtain rfl : i = xs.length := by omega
      rw [scF_len]; simp [popL, ppI]
    | succ d ih =>
      intro i hi
      have h1 := ih (i + 1) (by omega)
      have hle := scF_le xs i
      rw [h1, drop_nth (show i < xs.length by omega)]
      -- the stack grows by the number at place i
      have hst : ppI ((xs.drop (scF xs i)).take (i - scF xs i)).reverse (nth xs i :: xs.drop (i + 1)) = ppI ((xs.drop (scF xs i)).take (i + 1 - scF xs i)).reverse (xs.drop (i + 1)) := by
        have hgrow : (xs.drop (scF xs i)).take (i + 1 - scF xs i) = (xs.drop (scF xs i)).take (i - scF xs i) ++ [nth xs i] := by
          rw [show i + 1 - scF xs i = (i - scF xs i) + 1 by omega, take_nth (by simp; omega)]
          congr 2
          unfold nth
          rw [List.getD_eq_getElem?_getD, List.getElem?_drop, List.getD_eq_getElem?_getD]
          congr 2; omega
        rw [hgrow, List.reverse_append, List.reverse_singleton, List.singleton_append]
        by_cases e : scF xs i = i
        · rw [e, Nat.sub_self]; rfl
        · have hlt : scF xs i < i := by omega
          have hnc := cutB_false (scF_desc xs i (i - 1) (by omega) (by omega))
          rw [show i - 1 + 1 = i by omega] at hnc
          have hg2 : (xs.drop (scF xs i)).take (i - scF xs i) = (xs.drop (scF xs i)).take (i - 1 - scF xs i) ++ [nth xs (i - 1)] := by
            rw [show i - scF xs i = (i - 1 - scF xs i) + 1 by omega, take_nth (by simp; omega)]
            congr 2
            unfold nth
            rw [List.getD_eq_getElem?_getD, List.getElem?_drop, List.getD_eq_getElem?_getD]
            congr 2; omega
          rw [hg2, List.reverse_append, List.reverse_singleton, List.singleton_append]
          show (if nth xs i < nth xs (i - 1) then _ else _) = _
          rw [if_pos hnc.2]
      rw [hst]
      cases hc : cutB xs i
      · rw [scO_f hc, scF_f hc]
      · rw [scO_t hc, scF_t hc, Nat.sub_self, List.take_zero, List.reverse_nil, List.append_assoc]
        congr 1
        have hne : ((xs.drop (scF xs i)).take (i + 1 - scF xs i)).reverse ≠ [] := by
          intro e
          have := congrArg List.length e
          simp at this; omega
        obtain ⟨s, st, hs⟩ : ∃ s st, ((xs.drop (scF xs i)).take (i + 1 - scF xs i)).reverse = s :: st := by
          cases h : ((xs.drop (scF xs i)).take (i + 1 - scF xs i)).reverse with
          | nil => exact absurd h hne
          | cons s st => exact ⟨s, st, rfl⟩
        have hsv : s = nth xs i := by
          have h2 : nth ((xs.drop (scF xs i)).take (i + 1 - scF xs i)).reverse 0 = s := by rw [hs]; rfl
          rw [← h2]
          unfold nth
          rw [List.getD_eq_getElem?_getD, List.getElem?_reverse (by simp; omega), List.length_take, List.length_drop, List.getElem?_take_of_lt (by omega), List.getElem?_drop, List.getD_eq_getElem?_getD]
          congr 2; omega
        rw [hs]
        exact (pp_flush (fun z r' e => by
          have hl := congrArg List.length e
          simp at hl
          have hz : nth xs (i + 1) = z := by
            rw [drop_nth (by omega)] at e
            injection e
          intro hlt
          rw [← hz, hsv] at hlt
          rw [cutB_down (by omega) hlt] at hc
          simp at hc)).symm
  have := key xs.length 0 (by omega)
  simpa [scO, scF] using this

/-! ### how often -/
def upN : List Nat → Bool
  | [] => true
  | [_] => true
  | x :: y :: l => Nat.blt x y && upN (y :: l)
def timesN : Nat → List Nat → Bool
  | 0, l => upN l
  | k + 1, l => upN l || timesN k (ppN [] l)
theorem upN_srt : ∀ l : List Nat, upN l = true → Srt (zs l) := by
  intro l
  induction l with
  | nil => intro _ i hi; simp [zs] at hi
  | cons x l ih =>
    cases l with
    | nil => intro _ i hi; simp [zs] at hi
    | cons y l =>
      intro h i hi
      simp only [upN, Bool.and_eq_true, Nat.blt_eq] at h
      cases i with
      | zero => simp [nth, zs]; omega
      | succ i =>
        have := ih h.2 i (by simpa [zs] using hi)
        simpa [nth, zs] using this
theorem times_tms : ∀ (k : Nat) (l : List Nat), IsP (zs l) → timesN k l = true → tms popL (zs l) ≤ k := by
  intro k
  induction k with
  | zero => intro l _ h; rw [tms_sorted (srtB_true (upN_srt l h))]; exact Nat.le_refl _
  | succ k ih =>
    intro l hp h
    cases hs : srtB (zs l)
    · rw [tms_step pop_ok hp hs]
      simp only [timesN, Bool.or_eq_true] at h
      rcases h with h | h
      · rw [srtB_true (upN_srt l h)] at hs; simp at hs
      · have e : popL (zs l) = zs (ppN [] l) := by rw [popL_pp]; exact pp_cast l []
        have hp2 := pop_ok.perm _ hp
        rw [e] at hp2 ⊢
        have := ih _ hp2 h
        omega
    · rw [tms_sorted hs]; omega
theorem zs_of {p : List Int} (hp : ∀ x ∈ p, 1 ≤ x) : p = zs (p.map Int.toNat) := by
  unfold zs
  rw [List.map_map]
  conv => lhs; rw [← List.map_id p]
  refine List.map_congr_left fun x hx => ?_
  have := hp x hx
  simp; omega
/-- what holds of all lists that the search goes through holds of all permutations of n numbers. -/
theorem all_perms {f : List Nat → Bool} {n : Nat} (h : allP f n 1 [] = true) {p : List Int} (hp : IsP p) (hl : p.length = n) : f (p.map Int.toNat) = true := by
  have hnd : (p.map Int.toNat).Nodup := by
    rw [List.Nodup, List.pairwise_map]
    refine List.Pairwise.imp_of_mem ?_ hp.2
    intro a b ha hb hab
    have h1 := hp.1 a ha
    have h2 := hp.1 b hb
    omega
  refine allP_at n 0 _ hnd (fun y hy => ?_) (fun v h1 h2 => ?_) ?_
  · simp only [List.mem_map] at hy
    obtain ⟨x, hx, rfl⟩ := hy
    have := hp.1 x hx; omega
  · obtain ⟨t, ht, e⟩ := hp.surj (v := (v : Int)) (by omega) (by omega)
    simp only [List.mem_map]
    exact ⟨(v : Int), e ▸ nth_mem ht, by omega⟩
  · have : (p.map Int.toNat).filter (fun y => decide (y ≤ 0)) = [] := by
      rw [List.filter_eq_nil_iff]
      intro y hy
      simp only [List.mem_map] at hy
      obtain ⟨x, hx, rfl⟩ := hy
      have := hp.1 x hx
      simp; omega
    rw [this]; exact h
theorem allP_up {f : List Nat → Bool} (d : Nat) (h : allP f d 2 [1] = true) : allP f (d + 1) 1 [] = true := h
theorem allP_3 {f : List Nat → Bool} (d : Nat) (h1 : allP f d 4 [1, 2, 3] = true) (h2 : allP f d 4 [1, 3, 2] = true) (h3 : allP f d 4 [3, 1, 2] = true) (h4 : allP f d 4 [2, 1, 3] = true) (h5 : allP f d 4 [2, 3, 1] = true) (h6 : allP f d 4 [3, 2, 1] = true) : allP f (d + 3) 1 [] = true := by
  simp [allP, insAll, h1, h2, h3, h4, h5, h6]
end Go.Proofs.Ytognbiodplodhaa
