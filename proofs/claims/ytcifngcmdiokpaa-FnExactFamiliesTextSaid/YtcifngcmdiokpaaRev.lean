/- Contracts of slices.Reverse and of the two reversals of a list. Conditions: lengths below a bound. -/
import Derived.Test.YtcifngcmdiokpaaBase2
namespace Go.Proofs.Ytcifngcmdiokpaa
open Go.RowKit

/-- the place that the number at j comes from when i exchanges of a reversal of n places from off on are made. -/
def mir (off n i j : Nat) : Nat := if off ≤ j ∧ j < off + n ∧ (j < off + i ∨ off + n ≤ j + i) then off + (off + (n - 1) - j) else j
def mirL (xs : List Int) (off n i : Nat) : List Int := (List.range xs.length).map fun j => nth xs (mir off n i j)
theorem mirL_len (xs : List Int) (off n i : Nat) : (mirL xs off n i).length = xs.length := by simp [mirL]
theorem mirL_nth (xs : List Int) (off n i j : Nat) (h : j < xs.length) : nth (mirL xs off n i) j = nth xs (mir off n i j) := by simp [nth, mirL, h]
theorem nth_ext {xs ys : List Int} (hl : xs.length = ys.length) (h : ∀ i, i < xs.length → nth xs i = nth ys i) : xs = ys :=
  List.ext_getElem hl fun i h1 h2 => by have := h i h1; rwa [nth_get h1, nth_get h2] at this
theorem nth_set (xs : List Int) (i j : Nat) (x : Int) (h : j < xs.length) : nth (xs.set i x) j = if i = j then x else nth xs j := by
  rw [nth_get (by simpa using h), nth_get h, List.getElem_set]
theorem mirL_zero (xs : List Int) (off n : Nat) : mirL xs off n 0 = xs := by
  refine nth_ext (mirL_len _ _ _ _) fun j hj => ?_
  rw [mirL_len] at hj
  rw [mirL_nth xs off n 0 j hj]
  congr 1
  unfold mir
  split <;> omega
theorem mirL_swap (xs : List Int) (off n i : Nat) (hi : 2 * i + 1 < n) :
    ((mirL xs off n i).set (off + i) (nth xs (off + (n - 1 - i)))).set (off + (n - 1 - i)) (nth xs (off + i)) = mirL xs off n (i + 1) := by
  refine nth_ext (by simp [mirL_len]) fun j hj => ?_
  have hj' : j < xs.length := by simpa [mirL_len] using hj
  rw [nth_set _ _ _ _ (by simpa [mirL_len] using hj'), nth_set _ _ _ _ (by simpa [mirL_len] using hj'), mirL_nth xs off n i j hj', mirL_nth xs off n (i + 1) j hj']
  unfold mir
  split
  · rw [if_pos (by omega)]; congr 1; omega
  · split
    · rw [if_pos (by omega)]; congr 1; omega
    · congr 1
      split
      · rw [if_pos (by omega)]
      · rw [if_neg (by omega)]
/-- the numbers of n places from off on in reverse order. -/
def revSeg (xs : List Int) (off n : Nat) : List Int := xs.take off ++ ((xs.drop off).take n).reverse ++ xs.drop (off + n)
theorem mirL_end (xs : List Int) (off n i : Nat) (h : off + n ≤ xs.length) (hi : n ≤ 2 * i + 1) (hi2 : i ≤ n): mirL xs off n i = revSeg xs off n := by
  refine nth_ext (by simp [mirL_len, revSeg]; omega) fun j hj => ?_
  have hj' : j < xs.length := by simpa [mirL_len] using hj
  rw [mirL_nth xs off n i j hj']
  unfold mir revSeg nth
  simp only [List.getD_eq_getElem?_getD]
  rcases Nat.lt_or_ge j off with h1 | h1
  · rw [if_neg (by omega), List.append_assoc, List.getElem?_append_left (by simp; omega), List.getElem?_take_of_lt h1]
  · rcases Nat.lt_or_ge j (off + n) with h2 | h2
    · rw [List.append_assoc, List.getElem?_append_right (by simp; omega), List.getElem?_append_left (by simp; omega), List.getElem?_reverse (by simp; omega)]
      simp only [List.length_take, List.length_drop, List.getElem?_take, List.getElem?_drop]
      split
      · rw [if_pos (by omega)]
        congr 2; omega
      · rw [if_pos (by omega)]
        congr 2; omega
    · rw [if_neg (by omega), List.getElem?_append_right (by simp; omega), List.getElem?_drop]
      congr 2
      simp; omega

set_option maxHeartbeats 1000000 in
theorem slicesReverse_ok (b off n c cap : Nat) (xs : List Int) (w : World) (h : Row 3 w b cap (vals xs)) (hn : off + n ≤ xs.length) (hl : xs.length ≤ 1000000000) :
    Calls Try.prog 48 #[.slice (some ⟨b, off, none⟩) n c] w fun e w' => e = .returned (.tuple #[]) ∧ Row 3 w' b cap (vals (revSeg xs off n)) ∧ Upd (· = b) w w' := by
  go_enter Try.func48, Try.ntmps48
  go_wp2
  go_loopw [2, 3] (fun i j wr => ∃ k : Nat, k ≤ n ∧ (2 * k ≤ n + 1) ∧ i = .int .i64 k ∧ (∃ q : Int, q = (n : Int) - 1 - (k : Int) ∧ j = .int .i64 q) ∧ Row 3 wr b cap (vals (mirL xs off n k)) ∧ Upd (· = b) w wr) (fun i _ _ => n - (intOf i).toNat)
  case atStart => exact ⟨0, by omega, by omega, rfl, ⟨_, by simp, rfl⟩, by rw [mirL_zero]; exact h, Upd.refl _ _⟩
  case round =>
    obtain ⟨k, hk, hk2, rfl, ⟨q, hq, rfl⟩, hr, hu⟩ := hrel
    by_cases hlt : 2 * k + 1 < n
    · obtain ⟨m, hm⟩ : ∃ m : Nat, m = n - 1 - k := ⟨_, rfl⟩
      obtain rfl : q = (m : Int) := by omega
      have hmk : k < m := by omega
      have HM := Lib.hid hm
      have hmn : m < n := by omega
      clear hq hm
      have c1 := hr.icell (j := off + k) (by rw [mirL_len]; omega)
      have c2 := hr.icell (j := off + m) (by rw [mirL_len]; omega)
      have f1 := hr.free (off + k) none
      have f2 := hr.free (off + m) none
      rw [mirL_nth xs off n k _ (by omega)] at c1
      rw [mirL_nth xs off n k _ (by omega)] at c2
      have e1 : mir off n k (off + k) = off + k := by unfold mir; rw [if_neg (by have := HM.out; omega)]
      have e2 : mir off n k (off + m) = off + m := by unfold mir; rw [if_neg (by have := HM.out; omega)]
      rw [e1] at c1
      rw [e2] at c2
      clear e1 e2
      have hset := (hr.set (off + k) (.int .i64 (nth xs (off + m)))).set (off + m) (.int .i64 (nth xs (off + k)))
      have hsw := mirL_swap xs off n k hlt
      rw [← HM.out] at hsw
      rw [vals_set, vals_set, hsw] at hset
      have HS := Lib.hid hset
      have HU := (hu.trans (Upd.setCell wr ⟨b, off + k, none⟩ (.int .i64 (nth xs (off + m))))).trans (Upd.setCell _ ⟨b, off + m, none⟩ (.int .i64 (nth xs (off + k))))
      clear hr hset hsw h
      go_wp2
      go_region
      go_wp2
      go_roundw
      case rel => exact ⟨k + 1, by omega, by omega, by go_num, ⟨_, by have := HM.out; omega, rfl⟩, HS.out.ext (Upd.drew _ _), HU.trans (Upd.drew _ _)⟩
      case measure => simp [intOf]; omega
    · go_wp2
      go_end0
      refine ⟨rfl, ?_, hu⟩
      rw [← mirL_end xs off n k hn (by omega) hk]; exact hr
set_option maxHeartbeats 400000 in
theorem slicesReverseNil_ok (w : World) :
    Calls Try.prog 48 #[.slice none 0 0] w fun e w' => e = .returned (.tuple #[]) ∧ Qt w w' := by
  go_enter Try.func48, Try.ntmps48
  go_wp2
  go_loopw [2, 3] (fun i j wr => i = .int .i64 0 ∧ j = .int .i64 (-1) ∧ Qt w wr) (fun _ _ _ => 0)
  case atStart => exact ⟨rfl, rfl, Qt.refl _⟩
  case round =>
    obtain ⟨rfl, rfl, hq⟩ := hrel
    go_wp2
    go_end0
    exact ⟨rfl, hq⟩
theorem revSeg_all (xs : List Int) : revSeg xs 0 xs.length = xs.reverse := by simp [revSeg]

set_option maxHeartbeats 400000 in
theorem impl_reverse_ok (v : Value) (xs : List Int) (w : World) (h : SI w v xs) (hl : xs.length ≤ 10000000) :
    Calls Try.prog 29 #[v] w fun e w' => ∃ v', e = .returned v' ∧ OI w.heap.size w'.heap.size w' v' xs.reverse ∧ Ext w w' := by
  go_enter Try.func29, Try.ntmps29
  go_wp2_with fail
  refine (slicesClone_ok _ xs _ h hl).mono ?_
  rintro e w1 ⟨v1, rfl, ho, he⟩
  rcases ho with ⟨rfl, rfl⟩ | ⟨b, cap, rfl, h1, h2, h3⟩
  · have hmx := Lib.hid he
    go_wp2_with fail
    refine (slicesReverseNil_ok _).mono ?_
    rintro e w2 ⟨rfl, hq⟩
    go_wp2_with fail
    go_ret
    exact ⟨_, rfl, OI.nil _ _ _, he.trans hq.ext⟩
  · go_wp2_with fail
    refine (slicesReverse_ok b 0 xs.length cap cap xs _ h3 (by omega) (by omega)).mono ?_
    rintro e w2 ⟨rfl, h4, h5⟩
    go_wp2_with fail
    go_ret
    rw [revSeg_all] at h4
    exact ⟨_, rfl, OI.row h4 h1 (by simp), he.upd1 h5 h1⟩
theorem drop_rev (xs : List Int) (k : Nat) (h : k < xs.length) : (xs.drop (k + 1)).reverse ++ [nth xs k] = (xs.drop k).reverse := by
  rw [drop_nth h]; simp
set_option maxHeartbeats 400000 in
theorem l3Reverse_ok (v : Value) (xs : List Int) (w : World) (h : SI w v xs) (hl : xs.length ≤ 10000000) :
    Calls Try.prog 27 #[v] w fun e w' => ∃ v', e = .returned v' ∧ OI w.heap.size w'.heap.size w' v' xs.reverse ∧ Ext w w' := by
  obtain ⟨a, cap, rfl, hri⟩ := h.elim
  clear h
  have hr0 := Row.new 3 w [] (by simp)
  go_enter Try.func27, Try.ntmps27
  go_wp2
  go_loopw [3, 4] (fun o i wr => ∃ k : Nat, k ≤ xs.length ∧ (∃ q : Int, q = (k : Int) - 1 ∧ i = .int .i64 q) ∧ (∃ b cap, o = .slice (some ⟨b, 0, none⟩) (xs.length - k) cap ∧ w.heap.size ≤ b ∧ Row 3 wr b cap (vals (xs.drop k).reverse)) ∧ Ext w wr) (fun _ i _ => (intOf i + 1).toNat)
  case atStart => exact ⟨xs.length, by omega, ⟨_, rfl, rfl⟩, ⟨_, 0, by simp, Nat.le_refl _, by simpa using hr0⟩, (Ext.refl w).alloc _⟩
  case round =>
    obtain ⟨k, hk, ⟨q, hqe, rfl⟩, ⟨b, c, rfl, hb, hr⟩, he⟩ := hrel
    clear hr0
    cases k with
    | zero =>
      obtain rfl : q = -1 := by omega
      clear hqe
      go_wp2
      go_ret
      exact ⟨_, rfl, OI.row hr hb (by simp), he⟩
    | succ k =>
      obtain rfl : q = (k : Int) := by omega
      have hlt : k < xs.length := by omega
      obtain ⟨b1, off, rfl, hc⟩ := (hri.ext he).get hlt
      have hck := hc k hlt
      have hd := drop_rev xs k hlt
      have HD := Lib.hid hd
      clear hc hri hqe hd
      have hn1 : xs.length - (k + 1) = ((xs.drop (k + 1)).reverse).length := by simp
      have hn2 : ((xs.drop (k + 1)).reverse).length ≤ 1000000000 := by simp; omega
      have HN := Lib.hid hn1
      have HN2 := Lib.hid hn2
      clear hn1 hn2
      go_wp2_with (at_builtin; refine wpl_app1 rfl _ _ rfl b c (xs.length - (k + 1)) ((xs.drop (k + 1)).reverse) (nth xs k) rfl hr HN.out rfl HN2.out ?_; intro b' c' w' h1 h2 h3)
      rw [HD.out] at h1
      go_roundw
      case rel => exact ⟨k, by omega, ⟨_, by omega, rfl⟩, ⟨b', c', by rw [Value.slice.injEq]; exact ⟨rfl, by omega, rfl⟩, by have := he.size; omega, h1⟩, he.upd1 h3 hb⟩
      case measure => simp [intOf]
end Go.Proofs.Ytcifngcmdiokpaa
