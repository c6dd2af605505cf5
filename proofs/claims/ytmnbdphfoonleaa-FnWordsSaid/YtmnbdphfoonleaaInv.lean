/- The number of inversions: contracts of the program's and the reference's counts and of the reference's insertion steps. Conditions: a length below a bound. -/
import Derived.Test.YtmnbdphfoonleaaSort
namespace Go.Proofs.Ytmnbdphfoonleaa
open Go.RowKit

/-- the number of pairs with the greater number first. -/
def inv : List Int → Nat
  | [] => 0
  | x :: r => r.countP (fun y => decide (y < x)) + inv r
theorem inv_snoc (xs : List Int) (y : Int) : inv (xs ++ [y]) = inv xs + xs.countP (fun x => decide (y < x)) := by
  induction xs with
  | nil => simp [inv]
  | cons x r ih =>
    simp only [List.cons_append, inv, ih, List.countP_append, List.countP_cons, List.countP_nil]
    omega
theorem inv_le (xs : List Int) : inv xs ≤ xs.length * xs.length := by
  induction xs with
  | nil => simp [inv]
  | cons x r ih =>
    have := List.countP_le_length (p := fun y => decide (y < x)) (l := r)
    simp only [inv, List.length_cons]
    have h2 : (r.length + 1) * (r.length + 1) = r.length * r.length + 2 * r.length + 1 := by
      rw [Nat.add_mul, Nat.mul_add]; omega
    omega
/-- one exchange of neighbors of which the first is greater takes one inversion away. -/
theorem inv_swap (xs ys : List Int) (a b : Int) (h : b < a) : inv (xs ++ a :: b :: ys) = inv (xs ++ b :: a :: ys) + 1 := by
  induction xs with
  | nil =>
    simp only [List.nil_append, inv, List.countP_cons]
    have h1 : decide (b < a) = true := decide_eq_true h
    have h2 : decide (a < b) = false := decide_eq_false (by omega)
    simp only [h1, h2]
    simp
    omega
  | cons x r ih =>
    simp only [List.cons_append, inv, ih, List.countP_append, List.countP_cons]
    omega
theorem swap_split (xs : List Int) (i : Nat) (h : i + 1 < xs.length) : xs = xs.take i ++ nth xs i :: nth xs (i + 1) :: xs.drop (i + 2) := by
  conv => lhs; rw [← List.take_append_drop i xs, drop_nth (by omega), drop_nth h]
theorem swap_set (xs : List Int) (i : Nat) (h : i + 1 < xs.length) (a b : Int) : (xs.set i a).set (i + 1) b = xs.take i ++ a :: b :: xs.drop (i + 2) := by
  have h1 : (xs.take i).length = i := by simp; omega
  conv => lhs; rw [swap_split xs i h]
  rw [List.set_append_right _ _ (by omega), h1, Nat.sub_self, List.set_cons_zero, List.set_append_right _ _ (by omega), h1]
  rw [show i + 1 - i = 0 + 1 by omega, List.set_cons_succ, List.set_cons_zero]
theorem inv_set (xs : List Int) (i : Nat) (h : i + 1 < xs.length) (hlt : nth xs (i + 1) < nth xs i) : inv xs = inv ((xs.set i (nth xs (i + 1))).set (i + 1) (nth xs i)) + 1 := by
  rw [swap_set xs i h]
  conv => lhs; rw [swap_split xs i h]
  exact inv_swap _ _ _ _ hlt
theorem inv_srt {xs : List Int} (h : xs.Pairwise (· ≤ ·)) : inv xs = 0 := by
  induction xs with
  | nil => rfl
  | cons x r ih =>
    rw [List.pairwise_cons] at h
    simp only [inv, ih h.2, Nat.add_zero]
    rw [List.countP_eq_zero]
    intro y hy; have := h.1 y hy; simp; omega
theorem srt_pairwise {xs : List Int} (h : Srt xs) : xs.Pairwise (· ≤ ·) := by
  have key : ∀ (d i : Nat), i + d < xs.length → nth xs i ≤ nth xs (i + d) := by
    intro d
    induction d with
    | zero => intro i _; exact Int.le_refl _
    | succ d ih => intro i hi; have h1 := ih i (by omega); have h2 := h (i + d) (by omega); rw [← Nat.add_assoc]; omega
  rw [List.pairwise_iff_getElem]
  intro i j hi hj hij
  have := key (j - i) i (by omega)
  rw [show i + (j - i) = j by omega, nth_get hi, nth_get hj] at this
  exact this
theorem inv_zero_srt {xs : List Int} (h : inv xs = 0) : Srt xs := by
  intro i hi
  rcases Int.lt_or_le (nth xs (i + 1)) (nth xs i) with h1 | h1
  · have := inv_set xs i hi h1; omega
  · exact h1

/-! ### counts -/
def gtTo (xs : List Int) (k j : Nat) : Nat := (xs.take j).countP (fun x => decide (nth xs k < x))
theorem gtTo_succ (xs : List Int) (k j : Nat) (h : j < xs.length) : gtTo xs k (j + 1) = gtTo xs k j + (if nth xs k < nth xs j then 1 else 0) := by
  unfold gtTo; rw [take_nth h, List.countP_append]; simp
theorem inv_take_succ (xs : List Int) (k : Nat) (h : k < xs.length) : inv (xs.take (k + 1)) = inv (xs.take k) + gtTo xs k k := by
  rw [take_nth h, inv_snoc]; rfl
theorem gtTo_le (xs : List Int) (k j : Nat) : gtTo xs k j ≤ xs.length := by
  unfold gtTo; refine Nat.le_trans List.countP_le_length ?_; simp; omega
theorem inv_take_le (xs : List Int) (k : Nat) (h : xs.length ≤ 1000) : inv (xs.take k) ≤ 1000000 := by
  have h1 := inv_le (xs.take k)
  have h2 : (xs.take k).length ≤ 1000 := by simp; omega
  have h3 := Nat.mul_le_mul h2 h2
  omega
theorem inv_bound (xs : List Int) (h : xs.length ≤ 1000) : inv xs ≤ 1000000 := by have := inv_take_le xs xs.length h; simpa using this
def invI (xs : List Int) : Int := if isP8 xs then (inv xs : Int) else -1

set_option maxHeartbeats 1000000 in
theorem spec_CountInversions_ok (v : Value) (xs : List Int) (w : World) (h : SI w v xs) (hl : xs.length ≤ 1000000000) :
    Calls Try.prog 36 #[v] w fun e w' => e = .returned (.int .i64 (invI xs)) ∧ Qt w w' := by
  have h0 := h
  obtain ⟨a, cap, rfl, hri⟩ := h0.elim
  cases hp : isP8 xs
  · have hP := Lib.hid hp
    have e0 : Hid (invI xs = -1) := by show _ = _; simp [invI, hp]
    clear hp
    go_enter Try.func36, Try.ntmps36
    go_wp2_with (go_at_call 82; refine (spec_IsPerm_qt _ xs _ h hl).mono ?_; rintro e w1 ⟨rfl, hq⟩; rw [hP.out])
    go_ret
    exact ⟨by rw [e0.out]; rfl, hq⟩
  · have hP := Lib.hid hp
    have h8 : xs.length ≤ 8 := (isP8_iff.1 hp).1
    have e0 : Hid (invI xs = (inv xs : Int)) := by show _ = _; simp [invI, hp]
    clear hp
    go_enter Try.func36, Try.ntmps36
    go_wp2_with (go_at_call 82; refine (spec_IsPerm_qt _ xs _ h hl).mono ?_; rintro e w1 ⟨rfl, hq1⟩; rw [hP.out])
    replace hri := hri.ext hq1.ext
    go_loopw [3, 4] (fun c i wr => ∃ k : Nat, k ≤ xs.length ∧ i = .int .i64 k ∧ c = .int .i64 (inv (xs.take k) : Nat) ∧ Qt w1 wr) (fun _ i _ => xs.length - (intOf i).toNat)
    case atStart => exact ⟨0, by omega, rfl, by simp [inv], Qt.refl _⟩
    case round =>
      obtain ⟨k, hk, rfl, rfl, hq⟩ := hrel
      have hib := inv_take_le xs k (by omega)
      by_cases hlt : k < xs.length
      · have hri1 := hri.ext hq.ext
        have HI := Lib.hid (inv_take_succ xs k hlt)
        go_wp2_with fail
        obtain ⟨wp, hwp⟩ : ∃ wp : World, wp = wr := ⟨_, rfl⟩
        subst hwp
        go_loopw [3, 5] (fun c i wz => ∃ j : Nat, j ≤ k ∧ i = .int .i64 j ∧ (∃ n : Nat, n = inv (xs.take k) + gtTo xs k j ∧ c = .int .i64 n) ∧ Qt wp wz) (fun _ i _ => k - (intOf i).toNat)
        case atStart => exact ⟨0, by omega, rfl, ⟨_, rfl, by simp [gtTo]⟩, Qt.refl _⟩
        case round =>
          obtain ⟨j, hj, rfl, ⟨n, hn, rfl⟩, hq2⟩ := hrel
          have hgb := gtTo_le xs k j
          have HN := Lib.hid hn
          have hnb : n ≤ 2000000 := by omega
          clear hn
          by_cases hjk : j < k
          · obtain ⟨b, off, rfl, hc⟩ := (hri1.ext hq2.ext).get hlt
            have hck := hc k hlt
            have hcj := hc j (by omega)
            have HS := Lib.hid (gtTo_succ xs k j (by omega))
            have w1 : IntKind.i64.wrap ((n : Int) + 1) = (n : Int) + 1 := IntWalk.i64_in _ (by omega)
            have w2 : IntKind.i64.wrap (n : Int) = (n : Int) := IntWalk.i64_in _ (by omega)
            have b1 : (j : Int) < (xs.length : Int) := by omega
            have b2 : (k : Int) < (xs.length : Int) := by omega
            clear hc hri hri1
            by_cases hgt : nth xs k < nth xs j
            · have hd : decide (nth xs k < nth xs j) = true := decide_eq_true hgt
              go_wp2
              go_quiet ((go_at_call 89; exact Calls.quiet_of (l1Bit_t _)))
              clear w1 w2
              go_wp2
              go_roundw
              case rel => exact ⟨j + 1, by omega, by go_num, ⟨n + 1, by rw [HS.out, if_pos hgt, HN.out]; omega, by go_num⟩, hq2.drewN _⟩
              case measure => simp [intOf]; omega
            · have hd : decide (nth xs k < nth xs j) = false := decide_eq_false hgt
              go_wp2
              go_quiet ((go_at_call 89; exact Calls.quiet_of (l1Bit_f _)))
              clear w1 w2
              go_wp2
              go_roundw
              case rel => exact ⟨j + 1, by omega, by go_num, ⟨n, by rw [HS.out, if_neg (by omega), HN.out]; omega, rfl⟩, hq2.drewN _⟩
              case measure => simp [intOf]; omega
          · obtain rfl : j = k := by omega
            go_wp2
            go_roundw
            case rel => exact ⟨j + 1, by omega, by go_num, by rw [HI.out, HN.out], hq.trans hq2⟩
            case measure => simp [intOf]; omega
      · obtain rfl : k = xs.length := by omega
        go_wp2
        go_ret
        exact ⟨by rw [e0.out, List.take_length]; rfl, hq1.trans hq⟩

def ltTo (xs : List Int) (i j : Nat) : Nat := ((xs.drop (i + 1)).take j).countP (fun y => decide (y < nth xs i))
theorem ltTo_zero (xs : List Int) (i : Nat) : ltTo xs i 0 = 0 := by simp [ltTo]
theorem ltTo_succ (xs : List Int) (i j : Nat) (h : i + 1 + j < xs.length) : ltTo xs i (j + 1) = ltTo xs i j + (if nth xs (i + 1 + j) < nth xs i then 1 else 0) := by
  unfold ltTo
  rw [take_nth (by simp; omega), List.countP_append]
  have : nth (xs.drop (i + 1)) j = nth xs (i + 1 + j) := by simp [nth]
  rw [this]; simp
theorem ltTo_le (xs : List Int) (i j : Nat) : ltTo xs i j ≤ xs.length := by
  unfold ltTo; refine Nat.le_trans List.countP_le_length ?_; simp; omega
theorem inv_drop (xs : List Int) (i : Nat) (h : i < xs.length) : inv (xs.drop i) = ltTo xs i (xs.length - (i + 1)) + inv (xs.drop (i + 1)) := by
  rw [drop_nth h, inv]
  unfold ltTo
  rw [take_all (by simp)]
theorem RI.suf2 {w : World} {b off : Nat} {xs : List Int} (k : Nat) (hc : ∀ i, i < xs.length → w.cell? ⟨b, off + i, none⟩ = some (.int .i64 (nth xs i))) : ∀ i, i < xs.length - k → w.cell? ⟨b, off + k + i, none⟩ = some (.int .i64 (nth xs (k + i))) := fun i hi => by
  have := hc (k + i) (by omega)
  rwa [← Nat.add_assoc] at this

set_option maxHeartbeats 1000000 in
theorem impl_inversions_ok (v : Value) (xs : List Int) (w : World) (h : SI w v xs) (hl : xs.length ≤ 1000) :
    Calls Try.prog 73 #[v] w fun e w' => e = .returned (.int .i64 (inv xs : Nat)) ∧ Qt w w' := by
  obtain ⟨a, cap, rfl, hc1, hc2, hc3, hri⟩ := h
  have hmx := hc2
  unfold maxLen at hmx
  have hib := inv_bound xs hl
  go_enter Try.func73, Try.ntmps73
  go_wp2
  go_loopw [3, 10] (fun c i wr => ∃ k : Nat, k ≤ xs.length ∧ i = .int .i64 k ∧ (∃ n : Nat, n + inv (xs.drop k) = inv xs ∧ c = .int .i64 n) ∧ Qt w wr) (fun _ i _ => xs.length - (intOf i).toNat)
  case atStart => exact ⟨0, by omega, rfl, ⟨0, by simp, rfl⟩, Qt.refl _⟩
  case round =>
    obtain ⟨k, hk, rfl, ⟨n, hn, rfl⟩, hq⟩ := hrel
    have HN := Lib.hid hn
    have hnb : n ≤ 1000000 := by omega
    clear hn
    by_cases hlt : k < xs.length
    · obtain ⟨b1, off, rfl, hc⟩ := (hri.ext hq.ext).get hlt
      have hck := hc k hlt
      have HF := Lib.hid (RI.suf2 (k + 1) hc)
      have HD := Lib.hid (inv_drop xs k hlt)
      clear hc hri
      by_cases hcap : cap = k + 1
      all_goals (try subst hcap)
      all_goals
        go_wp2
        go_loop [3, 20] (fun c i => ∃ j : Nat, j ≤ xs.length - (k + 1) ∧ i = .int .i64 j ∧ ∃ m : Nat, m = n + ltTo xs k j ∧ c = .int .i64 m) (fun _ i => xs.length - (intOf i).toNat)
        case atStart => exact ⟨0, by omega, rfl, n, by rw [ltTo_zero]; rfl, rfl⟩
        case round =>
          obtain ⟨j, hj, rfl, m, hm, rfl⟩ := hrel
          have hcl := ltTo_le xs k j
          have HM := Lib.hid hm
          have hmb : m ≤ 1001000 := by omega
          clear hm
          by_cases hjl : j < xs.length - (k + 1)
          · first
              | (exfalso; omega)
              | (have hcj := HF.out j hjl
                 have HS := Lib.hid (ltTo_succ xs k j (by omega))
                 by_cases hless : nth xs (k + 1 + j) < nth xs k
                 · go_wp2
                   go_round
                   case rel => exact ⟨j + 1, by omega, by go_num, m + 1, by rw [HS.out, if_pos hless, HM.out]; omega, by go_num⟩
                   case measure => simp [intOf]; omega
                 · go_wp2
                   go_round
                   case rel => exact ⟨j + 1, by omega, by go_num, m, by rw [HS.out, if_neg hless, HM.out]; omega, rfl⟩
                   case measure => simp [intOf]; omega)
          · obtain rfl : j = xs.length - (k + 1) := by omega
            go_wp2_with fail
            go_roundw
            case rel => exact ⟨k + 1, by omega, by go_num, ⟨m, by have h1 := HN.out; have h2 := HD.out; have h3 := HM.out; omega, rfl⟩, hq⟩
            case measure => simp [intOf]; omega
    · obtain rfl : k = xs.length := by omega
      have hfin : n = inv xs := by have := HN.out; simp [inv] at this; exact this
      subst hfin
      go_wp2
      go_ret
      exact ⟨rfl, hq⟩
end Go.Proofs.Ytmnbdphfoonleaa
