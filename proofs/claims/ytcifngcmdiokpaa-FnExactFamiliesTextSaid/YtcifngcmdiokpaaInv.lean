/- The number of inversions: contracts of the program's and the reference's counts and of the reference's insertion steps. Conditions: a length below a bound. -/
import Derived.Test.YtcifngcmdiokpaaSort
namespace Go.Proofs.Ytcifngcmdiokpaa
open Go.RowKit

/-- the number of pairs with the greater number first. -/
def inv : List Int → Nat
  | [] => 0
  | x :: r => r.countP (fun y => decide (y < x)) + inv r
theorem inv_snoc (xs : List Int) (y : Int) : inv (xs ++ [y]) = inv xs + xs.countP (fun x => decide (y < x)) := by
  induction xs with
  | nil => simp [inv]
  | cons x r ih =>
    simp only [List.cons_append, inv, ih, List.countP_append, List.countP_cons, List.countP_nil]
    omega
theorem inv_le (xs : List Int) : inv xs ≤ xs.length * xs.length := by
  induction xs with
  | nil => simp [inv]
  | cons x r ih =>
    have := List.countP_le_length (p := fun y => decide (y < x)) (l := r)
    simp only [inv, List.length_cons]
    have h2 : (r.length + 1) * (r.length + 1) = r.length * r.length + 2 * r.length + 1 := by
      rw [Nat.add_mul, Nat.mul_add]; omega
    omega
/-- one exchange of neighbors of which the first is greater takes one inversion away. -/
theorem inv_swap (xs ys : List Int) (a b : Int) (h : b < a) : inv (xs ++ a :: b :: ys) = inv (xs ++ b :: a :: ys) + 1 := by
  induction xs with
  | nil =>
    simp only [List.nil_append, inv, List.countP_cons]
    have h1 : decide (b < a) = true := decide_eq_true h
    have h2 : decide (a < b) = false := decide_eq_false (by omega)
    simp only [h1, h2]
    simp
    omega
  | cons x r ih =>
    simp only [List.cons_append, inv, ih, List.countP_append, List.countP_cons]
    omega
theorem swap_split (xs : List Int) (i : Nat) (h : i + 1 < xs.length) : xs = xs.take i ++ nth xs i :: nth xs (i + 1) :: xs.drop (i + 2) := by
  conv => lhs; rw [← List.take_append_drop i xs, drop_nth (by omega), drop_nth h]
theorem swap_set (xs : List Int) (i : Nat) (h : i + 1 < xs.length) (a b : Int) : (xs.set i a).set (i + 1) b = xs.take i ++ a :: b :: xs.drop (i + 2) := by
  have h1 : (xs.take i).length = i := by simp; omega
  conv => lhs; rw [swap_split xs i h]
  rw [List.set_append_right _ _ (by omega), h1, Nat.sub_self, List.set_cons_zero, List.set_append_right _ _ (by omega), h1]
  rw [show i + 1 - i = 0 + 1 by omega, List.set_cons_succ, List.set_cons_zero]
theorem inv_set (xs : List Int) (i : Nat) (h : i + 1 < xs.length) (hlt : nth xs (i + 1) < nth xs i) : inv xs = inv ((xs.set i (nth xs (i + 1))).set (i + 1) (nth xs i)) + 1 := by
  rw [swap_set xs i h]
  conv => lhs; rw [swap_split xs i h]
  exact inv_swap _ _ _ _ hlt
theorem inv_srt {xs : List Int} (h : xs.Pairwise (· ≤ ·)) : inv xs = 0 := by
  induction xs with
  | nil => rfl
  | cons x r ih =>
    rw [List.pairwise_cons] at h
    simp only [inv, ih h.2, Nat.add_zero]
    rw [List.countP_eq_zero]
    intro y hy; have := h.1 y hy; simp; omega
theorem srt_pairwise {xs : List Int} (h : Srt xs) : xs.Pairwise (· ≤ ·) := by
  have key : ∀ (d i : Nat), i + d < xs.length → nth xs i ≤ nth xs (i + d) := by
    intro d
    induction d with
    | zero => intro i _; exact Int.le_refl _
    | succ d ih => intro i hi; have h1 := ih i (by omega); have h2 := h (i + d) (by omega); rw [← Nat.add_assoc]; omega
  rw [List.pairwise_iff_getElem]
  intro i j hi hj hij
  have := key (j - i) i (by omega)
  rw [show i + (j - i) = j by omega, nth_get hi, nth_get hj] at this
  exact this
theorem inv_zero_srt {xs : List Int} (h : inv xs = 0) : Srt xs := by
  intro i hi
  rcases Int.lt_or_le (nth xs (i + 1)) (nth xs i) with h1 | h1
  · have := inv_set xs i hi h1; omega
  · exact h1

/-! ### counts -/
def gtTo (xs : List Int) (k j : Nat) : Nat := (xs.take j).countP (fun x => decide (nth xs k < x))
theorem gtTo_succ (xs : List Int) (k j : Nat) (h : j < xs.length) : gtTo xs k (j + 1) = gtTo xs k j + (if nth xs k < nth xs j then 1 else 0) := by
  unfold gtTo; rw [take_nth h, List.countP_append]; simp
theorem inv_take_succ (xs : List Int) (k : Nat) (h : k < xs.length) : inv (xs.take (k + 1)) = inv (xs.take k) + gtTo xs k k := by
  rw [take_nth h, inv_snoc]; rfl
theorem gtTo_le (xs : List Int) (k j : Nat) : gtTo xs k j ≤ xs.length := by
  unfold gtTo; refine Nat.le_trans List.countP_le_length ?_; simp; omega
theorem inv_take_le (xs : List Int) (k : Nat) (h : xs.length ≤ 1000) : inv (xs.take k) ≤ 1000000 := by
  have h1 := inv_le (xs.take k)
  have h2 : (xs.take k).length ≤ 1000 := by simp; omega
  have h3 := Nat.mul_le_mul h2 h2
  omega
theorem inv_bound (xs : List Int) (h : xs.length ≤ 1000) : inv xs ≤ 1000000 := by have := inv_take_le xs xs.length h; simpa using this
def invI (xs : List Int) : Int := if isP8 xs then (inv xs : Int) else -1


def ltTo (xs : List Int) (i j : Nat) : Nat := ((xs.drop (i + 1)).take j).countP (fun y => decide (y < nth xs i))
theorem ltTo_zero (xs : List Int) (i : Nat) : ltTo xs i 0 = 0 := by simp [ltTo]
theorem ltTo_succ (xs : List Int) (i j : Nat) (h : i + 1 + j < xs.length) : ltTo xs i (j + 1) = ltTo xs i j + (if nth xs (i + 1 + j) < nth xs i then 1 else 0) := by
  unfold ltTo
  rw [take_nth (by simp; omega), List.countP_append]
  have : nth (xs.drop (i + 1)) j = nth xs (i + 1 + j) := by simp [nth]
  rw [this]; simp
theorem ltTo_le (xs : List Int) (i j : Nat) : ltTo xs i j ≤ xs.length := by
  unfold ltTo; refine Nat.le_trans List.countP_le_length ?_; simp; omega
theorem inv_drop (xs : List Int) (i : Nat) (h : i < xs.length) : inv (xs.drop i) = ltTo xs i (xs.length - (i + 1)) + inv (xs.drop (i + 1)) := by
  rw [drop_nth h, inv]
  unfold ltTo
  rw [take_all (by simp)]
theorem RI.suf2 {w : World} {b off : Nat} {xs : List Int} (k : Nat) (hc : ∀ i, i < xs.length → w.cell? ⟨b, off + i, none⟩ = some (.int .i64 (nth xs i))) : ∀ i, i < xs.length - k → w.cell? ⟨b, off + k + i, none⟩ = some (.int .i64 (nth xs (k + i))) := fun i hi => by
  have := hc (k + i) (by omega)
  rwa [← Nat.add_assoc] at this

end Go.Proofs.Ytcifngcmdiokpaa
