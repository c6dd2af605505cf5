/- Contracts of WeakBelow, the program's and the reference's, and of the inverse of a permutation. Conditions: lengths below a bound. -/
import Derived.Test.YtcifngcmdiokpaaBd
import Derived.Test.YtcifngcmdiokpaaBase2
import Derived.Test.YtcifngcmdiokpaaSort
namespace Go.Proofs.Ytcifngcmdiokpaa
open Go.RowKit

def invTo (xs : List Int) : Nat → List Int
  | 0 => List.replicate xs.length 0
  | k + 1 => (invTo xs k).set (nth xs k - 1).toNat ((k : Int) + 1)
def invLs (xs : List Int) : List Int := invTo xs xs.length
theorem invTo_len (xs : List Int) (k : Nat) : (invTo xs k).length = xs.length := by
  induction k with
  | zero => simp [invTo]
  | succ k ih => simp [invTo, ih]
theorem invLs_len (xs : List Int) : (invLs xs).length = xs.length := invTo_len _ _

def badB (p A : List Int) (i j : Nat) : Bool := decide (nth p j < nth p i ∧ nth A (nth p j - 1).toNat < nth A (nth p i - 1).toNat)
def wbelB (p A : List Int) : Bool := (List.range p.length).all fun j => (List.range j).all fun i => !badB p A i j
def weakB (p q : List Int) : Bool := isP8 p && (isP8 q && (decide (p.length = q.length) && wbelB p (invLs q)))
theorem wbel_true {p A : List Int} (h : ∀ i j, i < j → j < p.length → badB p A i j = false) : wbelB p A = true := by
  simp only [wbelB, List.all_eq_true, List.mem_range]
  intro j hj i hi
  rw [h i j hi hj]; rfl
theorem wbel_false {p A : List Int} {i j : Nat} (hi : i < j) (hj : j < p.length) (h : badB p A i j = true) : wbelB p A = false := by
  rw [Bool.eq_false_iff]; intro hh
  simp only [wbelB, List.all_eq_true, List.mem_range] at hh
  have := hh j hj i hi
  rw [h] at this; simp at this

set_option maxHeartbeats 1000000 in
theorem impl_inverse_ok (v : Value) (xs : List Int) (w : World) (h : SI w v xs) (hl : xs.length ≤ 1000) (hp : IsP xs) :
    Calls Try.prog 68 #[v] w fun e w' => ∃ b c, e = .returned (.slice (some ⟨b, 0, none⟩) xs.length c) ∧ w.heap.size ≤ b ∧ Row 3 w' b c (vals (invLs xs)) ∧ Ext w w' := by
  obtain ⟨a, cap, rfl, hri⟩ := h.elim
  have HP := Lib.hid hp
  clear h hp
  go_enter Try.func68, Try.ntmps68
  go_wp2_with (at_make; refine wpl_make_int rfl _ _ rfl xs.length _ _ _ _ rfl rfl rfl rfl (by omega) ?_; intro w1 hr0 he1 hs1)
  go_loopw [11] (fun i wr => ∃ k : Nat, k ≤ xs.length ∧ i = .int .i64 k ∧ Row 3 wr w.heap.size xs.length (vals (invTo xs k)) ∧ Ext w wr) (fun i _ => xs.length - (intOf i).toNat)
  case atStart => exact ⟨0, by omega, rfl, hr0, he1⟩
  case round =>
    obtain ⟨k, hk, rfl, hr, he⟩ := hrel
    clear hr0 he1 hs1
    by_cases hlt : k < xs.length
    · obtain ⟨b, off, rfl, hc⟩ := (hri.ext he).get hlt
      have hck := hc k hlt
      have hb := HP.out.1 _ (nth_mem hlt)
      obtain ⟨q, hq⟩ : ∃ q : Nat, nth xs k = (q : Int) + 1 := ⟨(nth xs k - 1).toNat, by omega⟩
      have hst : invTo xs (k + 1) = (invTo xs k).set q ((k : Int) + 1) := by simp only [invTo]; rw [hq]; congr 1; omega
      rw [hq] at hck hb
      have hold := hr.icell (j := q) (by rw [invTo_len]; omega)
      have hf := hr.free q none
      have hset := hr.set q (.int .i64 ((k : Int) + 1))
      rw [vals_set, ← hst] at hset
      have he2 := he.setCell (p := ⟨w.heap.size, q, none⟩) (Nat.le_refl _) (.int .i64 ((k : Int) + 1))
      have HS := Lib.hid hset
      have hql : (q : Int) < (xs.length : Int) := by omega
      clear hr hset hst hq hc hri
      go_wp2_with fail
      go_roundw
      case rel => exact ⟨k + 1, by omega, by go_num, HS.out, he2⟩
      case measure => simp [intOf]; omega
    · obtain rfl : k = xs.length := by omega
      go_wp2_with fail
      go_ret
      exact ⟨_, _, rfl, Nat.le_refl _, hr, he⟩
set_option maxHeartbeats 1000000 in
theorem l2Inverse_ok (v : Value) (xs : List Int) (w : World) (h : SI w v xs) (hl : xs.length ≤ 1000) (hp : IsP xs) :
    Calls Try.prog 59 #[v] w fun e w' => ∃ b c, e = .returned (.slice (some ⟨b, 0, none⟩) xs.length c) ∧ w.heap.size ≤ b ∧ Row 3 w' b c (vals (invLs xs)) ∧ Ext w w' := by
  obtain ⟨a, cap, rfl, hri⟩ := h.elim
  have HP := Lib.hid hp
  clear h hp
  go_enter Try.func59, Try.ntmps59
  go_wp2_with (at_make; refine wpl_make_int rfl _ _ rfl xs.length _ _ _ _ rfl rfl rfl rfl (by omega) ?_; intro w1 hr0 he1 hs1)
  go_loopw [4] (fun i wr => ∃ k : Nat, k ≤ xs.length ∧ i = .int .i64 k ∧ Row 3 wr w.heap.size xs.length (vals (invTo xs k)) ∧ Ext w wr) (fun i _ => xs.length - (intOf i).toNat)
  case atStart => exact ⟨0, by omega, rfl, hr0, he1⟩
  case round =>
    obtain ⟨k, hk, rfl, hr, he⟩ := hrel
    clear hr0 he1 hs1
    by_cases hlt : k < xs.length
    · obtain ⟨b, off, rfl, hc⟩ := (hri.ext he).get hlt
      have hck := hc k hlt
      have hb := HP.out.1 _ (nth_mem hlt)
      obtain ⟨q, hq⟩ : ∃ q : Nat, nth xs k = (q : Int) + 1 := ⟨(nth xs k - 1).toNat, by omega⟩
      have hst : invTo xs (k + 1) = (invTo xs k).set q ((k : Int) + 1) := by simp only [invTo]; rw [hq]; congr 1; omega
      rw [hq] at hck hb
      have hold := hr.icell (j := q) (by rw [invTo_len]; omega)
      have hf := hr.free q none
      have hset := hr.set q (.int .i64 ((k : Int) + 1))
      rw [vals_set, ← hst] at hset
      have he2 := he.setCell (p := ⟨w.heap.size, q, none⟩) (Nat.le_refl _) (.int .i64 ((k : Int) + 1))
      have HS := Lib.hid hset
      have hql : (q : Int) < (xs.length : Int) := by omega
      clear hr hset hst hq hc hri
      go_wp2_with fail
      go_roundw
      case rel => exact ⟨k + 1, by omega, by go_num, HS.out, he2⟩
      case measure => simp [intOf]; omega
    · obtain rfl : k = xs.length := by omega
      go_wp2_with fail
      go_ret
      exact ⟨_, _, rfl, Nat.le_refl _, hr, he⟩
theorem RI.suf {w : World} {b off : Nat} {xs : List Int} (k : Nat) (hc : ∀ i, i < xs.length → w.cell? ⟨b, off + i, none⟩ = some (.int .i64 (nth xs i))) : ∀ i, i < xs.length - k → w.cell? ⟨b, off + k + i, none⟩ = some (.int .i64 (nth xs (k + i))) := fun i hi => by
  have := hc (k + i) (by omega)
  rwa [← Nat.add_assoc] at this
theorem bad_of {p A : List Int} {i j : Nat} {y z : Nat} {s t : Int} (hi : nth p i = (y : Int) + 1) (hj : nth p j = (z : Int) + 1) (hs : s = nth A y) (ht : t = nth A z) : badB p A i j = decide ((z : Int) < y ∧ t < s) := by
  unfold badB
  rw [hi, hj, hs, ht, show ((y : Int) + 1 - 1).toNat = y by omega, show ((z : Int) + 1 - 1).toNat = z by omega]
  congr 1
  rw [eq_iff_iff]; omega
end Go.Proofs.Ytcifngcmdiokpaa
