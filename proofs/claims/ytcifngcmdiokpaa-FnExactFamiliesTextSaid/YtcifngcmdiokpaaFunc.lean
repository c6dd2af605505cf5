/- Contracts of the library's searches with a function (IndexFunc, ContainsFunc), of Index and Contains. Conditions: lengths below a bound; the function's own contract. -/
import Derived.Test.YtcifngcmdiokpaaSort
import Derived.Test.YtcifngcmdiokpaaHarnSS
namespace Go.Proofs.Ytcifngcmdiokpaa
open Go.RowKit

/-- a search's answer: -1, or the first place that fits. -/
def Found (n : Nat) (p : Nat → Bool) (r : Int) : Prop := (r = -1 ∧ ∀ i, i < n → p i = false) ∨ ∃ k, k < n ∧ r = (k : Int) ∧ p k = true ∧ ∀ i, i < k → p i = false
def Miss (p : Nat → Bool) (k : Nat) : Prop := ∀ i, i < k → p i = false
theorem Miss.succ {p : Nat → Bool} {k : Nat} (h : Miss p k) (hk : p k = false) : Miss p (k + 1) := fun i hi => by
  rcases Nat.lt_or_ge i k with h1 | h1
  · exact h i h1
  · obtain rfl : i = k := by omega
    exact hk
def anyI (p : Int → Bool) (xs : List Int) : Bool := xs.any p
theorem Found.any {p : Int → Bool} {xs : List Int} {r : Int} (h : Found xs.length (fun i => p (nth xs i)) r) : decide (0 ≤ r) = anyI p xs := by
  rcases h with ⟨rfl, h⟩ | ⟨k, hk, rfl, h1, _⟩
  · have : anyI p xs = false := by
      unfold anyI; rw [List.any_eq_false]
      intro x hx
      obtain ⟨i, hi, rfl⟩ := List.getElem_of_mem hx
      have h2 : p (nth xs i) = false := h i hi
      rw [nth_get hi] at h2; simp [h2]
    rw [this]; rfl
  · have : anyI p xs = true := by unfold anyI; rw [List.any_eq_true]; exact ⟨_, nth_mem hk, h1⟩
    rw [this]; simp
def anyL (p : List Int → Bool) (xs : List (List Int)) : Bool := xs.any p
theorem Found.anyL {p : List Int → Bool} {xs : List (List Int)} {r : Int} (h : Found xs.length (fun i => p (nthL xs i)) r) : decide (0 ≤ r) = anyL p xs := by
  rcases h with ⟨rfl, h⟩ | ⟨k, hk, rfl, h1, _⟩
  · have : Go.Proofs.Ytcifngcmdiokpaa.anyL p xs = false := by
      unfold Go.Proofs.Ytcifngcmdiokpaa.anyL; rw [List.any_eq_false]
      intro x hx
      obtain ⟨i, hi, rfl⟩ := List.getElem_of_mem hx
      have h2 : p (nthL xs i) = false := h i hi
      rw [nthL_get hi] at h2; simp [h2]
    rw [this]; rfl
  · have : Go.Proofs.Ytcifngcmdiokpaa.anyL p xs = true := by unfold Go.Proofs.Ytcifngcmdiokpaa.anyL; rw [List.any_eq_true]; exact ⟨_, nthL_mem hk, h1⟩
    rw [this]; simp

set_option maxHeartbeats 1000000 in
theorem indexFuncL_ok (v : Value) (xs : List (List Int)) (n : Nat) (cp : Array Value) (p : List Int → Bool) (w : World) (h : SII w v xs) (hl : xs.length ≤ 1000000000) (hen : Enters n)
    (hf : ∀ i, i < xs.length → ∀ u w1, Ext w w1 → SI w1 u (nthL xs i) → Calls Try.prog n (#[u] ++ cp) w1 fun e w2 => e = .returned (.bool (p (nthL xs i))) ∧ Ext w1 w2) :
    Calls Try.prog 81 #[v, .func (.func n) #[] cp] w fun e w' => (∃ r, e = .returned (.int .i64 r) ∧ Found xs.length (fun i => p (nthL xs i)) r) ∧ Ext w w' := by
  obtain ⟨a, cap, rfl, hri⟩ := h.elim
  have HF := Lib.hid hf
  unfold Enters at hen
  clear hf h
  go_enter Try.func81, Try.ntmps81
  go_wp2
  go_loopw [5, 8] (fun _ i wr => ∃ k : Nat, k ≤ xs.length ∧ i = .int .i64 k ∧ Miss (fun i => p (nthL xs i)) k ∧ Ext w wr) (fun _ i _ => xs.length - (intOf i).toNat)
  case atStart => exact ⟨0, by omega, rfl, fun i hi => by omega, Ext.refl _⟩
  case round =>
    obtain ⟨k, hk, rfl, hm, he⟩ := hrel
    have HM := Lib.hid hm
    clear hm
    by_cases hlt : k < xs.length
    · obtain ⟨b, off, rfl, u, hc, hu⟩ := hri k hlt
      replace hc := he.cell hc
      replace hu := hu.ext he
      clear hri
      cases hp : p (nthL xs k)
      · have HP := Lib.hid hp
        clear hp
        go_wp2_with fail
        refine (HF.out k hlt _ _ he hu).mono ?_
        rintro e w2 ⟨rfl, he2⟩
        rw [HP.out]
        go_wp2_with fail
        go_roundw
        case rel => exact ⟨k + 1, by omega, by go_num, HM.out.succ HP.out, he.trans he2⟩
        case measure => simp [intOf]; omega
      · have HP := Lib.hid hp
        clear hp
        go_wp2_with fail
        refine (HF.out k hlt _ _ he hu).mono ?_
        rintro e w2 ⟨rfl, he2⟩
        rw [HP.out]
        go_wp2_with fail
        go_ret
        exact ⟨⟨_, rfl, .inr ⟨k, hlt, rfl, HP.out, HM.out⟩⟩, he.trans he2⟩
    · obtain rfl : k = xs.length := by omega
      go_wp2
      go_ret
      exact ⟨⟨_, rfl, .inl ⟨rfl, HM.out⟩⟩, he⟩
set_option maxHeartbeats 1000000 in
theorem containsFuncL_ok (v : Value) (xs : List (List Int)) (n : Nat) (cp : Array Value) (p : List Int → Bool) (w : World) (h : SII w v xs) (hl : xs.length ≤ 1000000000) (hen : Enters n)
    (hf : ∀ i, i < xs.length → ∀ u w1, Ext w w1 → SI w1 u (nthL xs i) → Calls Try.prog n (#[u] ++ cp) w1 fun e w2 => e = .returned (.bool (p (nthL xs i))) ∧ Ext w1 w2) :
    Calls Try.prog 62 #[v, .func (.func n) #[] cp] w fun e w' => e = .returned (.bool (anyL p xs)) ∧ Ext w w' := by
  have HF := Lib.hid hf
  clear hf
  go_enter Try.func62, Try.ntmps62
  go_wp2_with fail
  refine (indexFuncL_ok v xs n cp p _ h hl hen HF.out).mono ?_
  rintro e w1 ⟨⟨r, rfl, hr⟩, he⟩
  have HA := Lib.hid hr.anyL
  clear hr
  go_wp2_with fail
  go_ret
  exact ⟨by rw [← HA.out]; rfl, he⟩
end Go.Proofs.Ytcifngcmdiokpaa
