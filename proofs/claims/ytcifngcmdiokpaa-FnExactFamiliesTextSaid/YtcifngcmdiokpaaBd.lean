/- Bounds of lists of lists that a law compares. Conditions: none. -/
import Derived.Test.YtcifngcmdiokpaaRow2
import Derived.Test.YtcifngcmdiokpaaHarnL
namespace Go.Proofs.Ytcifngcmdiokpaa
open Go.RowKit

theorem ret_bool {a b : Bool} (h : a = b) : Ending.returned (.bool a) = .returned (.bool b) := by rw [h]
theorem ret_int {k : IntKind} {a b : Int} (h : a = b) : Ending.returned (.int k a) = .returned (.int k b) := by rw [h]

def Bd (L : List (List Int)) : Prop := L.length ≤ 1000000000 ∧ small L ∧ sumLen L ≤ 1000000000
theorem sumLen_le {L : List (List Int)} {m : Nat} (h : ∀ xs ∈ L, xs.length ≤ m) : sumLen L ≤ L.length * m := by
  unfold sumLen
  induction L with
  | nil => simp
  | cons x xs ih =>
    have h1 := ih (fun y hy => h y (List.mem_cons_of_mem _ hy))
    have h2 := h x (List.mem_cons_self ..)
    simp only [List.map_cons, List.sum_cons, List.length_cons, Nat.add_mul, Nat.one_mul]
    omega
theorem Bd.of {L : List (List Int)} (n m : Nat) (h1 : L.length ≤ n) (h2 : ∀ xs ∈ L, xs.length ≤ m) (hn : n ≤ 2000000) (hm : m ≤ 500) : Bd L := by
  refine ⟨by omega, fun xs hx => by have := h2 xs hx; omega, ?_⟩
  have h3 := sumLen_le h2
  have h4 : L.length * m ≤ 2000000 * 500 := Nat.mul_le_mul (by omega) hm
  omega
theorem Bd.nil : Bd [] := Bd.of 0 0 (by simp) (by simp) (by omega) (by omega)
end Go.Proofs.Ytcifngcmdiokpaa
