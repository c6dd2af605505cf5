/- Contracts of HasBraid, the program's and the reference's: both tell whether three numbers that follow one another are a, b, a with b next to a. Conditions: numbers of 64 bits, a length below a bound. -/
import Derived.Test.YtcifngcmdiokpaaHarn
import Derived.Test.YtcifngcmdiokpaaOpen
namespace Go.Proofs.Ytcifngcmdiokpaa
open Go.RowKit

def hitB (a b c : Int) : Bool := decide (a = c ∧ (b = a + 1 ∨ a = b + 1))
theorem hitB_true {a b c : Int} (h : a = c ∧ (b = a + 1 ∨ a = b + 1)) : hitB a b c = true := by unfold hitB; simpa using h
theorem hitB_false {a b c : Int} (h : ¬ (a = c ∧ (b = a + 1 ∨ a = b + 1))) : hitB a b c = false := by unfold hitB; simpa using h
def hit (xs : List Int) (j : Nat) : Bool := hitB (nth xs (j - 2)) (nth xs (j - 1)) (nth xs j)
def braid (xs : List Int) : Bool := (List.range xs.length).any fun j => decide (2 ≤ j) && hit xs j
theorem braid_yes {xs : List Int} {j : Nat} (h2 : 2 ≤ j) (h : j < xs.length) (hh : hit xs j = true) : braid xs = true := by
  unfold braid; rw [List.any_eq_true]; exact ⟨j, by simpa using h, by simp [h2, hh]⟩
theorem braid_no {xs : List Int} (h : ∀ j, 2 ≤ j → j < xs.length → hit xs j = false) : braid xs = false := by
  unfold braid; rw [List.any_eq_false]
  intro j hj
  by_cases h2 : 2 ≤ j
  · simp [h j h2 (by simpa using hj)]
  · simp [h2]
def noHit (xs : List Int) (k : Nat) : Prop := ∀ j, 2 ≤ j → j < k → hit xs j = false
theorem noHit_succ {xs : List Int} {k : Nat} (h : noHit xs k) (hk : hit xs k = false) : noHit xs (k + 1) := fun j h2 hj => by
  rcases Nat.lt_or_ge j k with h1 | h1
  · exact h j h2 h1
  · obtain rfl : j = k := by omega
    exact hk

set_option maxHeartbeats 1000000 in
theorem specHasBraid_ok (v : Value) (xs : List Int) (w : World) (h : SI w v xs) (hl : xs.length ≤ 1000000000) (hx : ∀ i, i < xs.length → I64 (nth xs i)) :
    Calls Try.prog 10 #[v] w fun e w' => e = .returned (.bool (braid xs)) ∧ ∃ m, w' = w.drewN m := by
  obtain ⟨a, cap, rfl, hri⟩ := h.elim
  clear h
  go_enter Try.func10, Try.ntmps10
  go_wp2
  go_loopw [3] (fun i wr => ∃ k : Nat, 2 ≤ k ∧ (k ≤ xs.length ∨ k = 2) ∧ i = .int .i64 k ∧ noHit xs k ∧ ∃ m, wr = w.drewN m) (fun i _ => xs.length - (intOf i).toNat)
  case atStart => exact ⟨2, by omega, .inr rfl, rfl, fun j h2 hj => by omega, 0, rfl⟩
  case round =>
    obtain ⟨k, h2, hk, rfl, he, m, rfl⟩ := hrel
    have He := Lib.hid he
    clear he
    by_cases hlt : k < xs.length
    · obtain ⟨b, off, rfl, hc⟩ := hri.get hlt
      have hc0 := hc k hlt
      have hc1 := hc (k - 1) (by omega)
      have hc2 := hc (k - 2) (by omega)
      have b0 := hx k hlt
      have b1 := hx (k - 1) (by omega)
      have b2 := hx (k - 2) (by omega)
      have Hh : Hid (hit xs k = hitB (nth xs (k - 2)) (nth xs (k - 1)) (nth xs k)) := rfl
      unfold I64 at b0 b1 b2
      clear hc hri hx
      go_wp2
      all_goals (try simp only [beq_iff_eq, beq_eq_false_iff_ne, ne_eq] at *)
      all_goals first
        | (have hh : hit xs k = true := by rw [Hh.out]; exact hitB_true (by omega)
           go_ret
           exact ⟨by rw [braid_yes h2 hlt hh]; rfl, by first | exact ⟨_, rfl⟩ | exact dr2 _ _ _⟩)
        | (have hh : hit xs k = false := by rw [Hh.out]; exact hitB_false (by omega)
           have He2 := Lib.hid (noHit_succ He.out hh)
           clear hh
           go_roundw
           case rel => exact ⟨k + 1, by omega, .inl (by omega), by go_num, He2.out, by first | exact ⟨_, rfl⟩ | exact dr2 _ _ _⟩
           case measure => simp [intOf]; omega)
    · go_wp2
      go_ret
      exact ⟨by rw [braid_no (fun j h1 h3 => He.out j h1 (by omega))]; rfl, by first | exact ⟨_, rfl⟩ | exact dr2 _ _ _⟩

set_option maxHeartbeats 1000000 in
theorem implHasBraid_ok (v : Value) (xs : List Int) (w : World) (h : SI w v xs) (hl : xs.length ≤ 1000000000) (hx : ∀ i, i < xs.length → I64 (nth xs i)) :
    Calls Try.prog 12 #[v] w fun e w' => e = .returned (.bool (braid xs)) ∧ ∃ m, w' = w.drewN m := by
  obtain ⟨a, cap, rfl, hri⟩ := h.elim
  clear h
  go_enter Try.func12, Try.ntmps12
  go_wp2
  go_loopw [3] (fun i wr => ∃ k : Nat, 2 ≤ k ∧ (k ≤ xs.length ∨ k = 2) ∧ i = .int .i64 k ∧ noHit xs k ∧ ∃ m, wr = w.drewN m) (fun i _ => xs.length - (intOf i).toNat)
  case atStart => exact ⟨2, by omega, .inr rfl, rfl, fun j h2 hj => by omega, 0, rfl⟩
  case round =>
    obtain ⟨k, h2, hk, rfl, he, m, rfl⟩ := hrel
    have He := Lib.hid he
    clear he
    by_cases hlt : k < xs.length
    · obtain ⟨b, off, rfl, hc⟩ := hri.get hlt
      have hc0 := hc k hlt
      have hc1 := hc (k - 1) (by omega)
      have hc2 := hc (k - 2) (by omega)
      have b0 := hx k hlt
      have b1 := hx (k - 1) (by omega)
      have b2 := hx (k - 2) (by omega)
      have Hh : Hid (hit xs k = hitB (nth xs (k - 2)) (nth xs (k - 1)) (nth xs k)) := rfl
      unfold I64 at b0 b1 b2
      clear hc hri hx
      go_wp2
      go_quiet (fail)
      go_wp2
      all_goals (try simp only [beq_iff_eq, beq_eq_false_iff_ne, ne_eq, wrap64] at *)
      all_goals first
        | (have hh : hit xs k = true := by rw [Hh.out]; exact hitB_true (by omega)
           go_ret
           exact ⟨by rw [braid_yes h2 hlt hh]; rfl, by first | exact ⟨_, rfl⟩ | exact dr2 _ _ _⟩)
        | (have hh : hit xs k = false := by rw [Hh.out]; exact hitB_false (by omega)
           have He2 := Lib.hid (noHit_succ He.out hh)
           clear hh
           go_roundw
           case rel => exact ⟨k + 1, by omega, .inl (by omega), by go_num, He2.out, by first | exact ⟨_, rfl⟩ | exact dr2 _ _ _⟩
           case measure => simp [intOf]; omega)
    · go_wp2
      go_ret
      exact ⟨by rw [braid_no (fun j h1 h3 => He.out j h1 (by omega))]; rfl, by first | exact ⟨_, rfl⟩ | exact dr2 _ _ _⟩
end Go.Proofs.Ytcifngcmdiokpaa
