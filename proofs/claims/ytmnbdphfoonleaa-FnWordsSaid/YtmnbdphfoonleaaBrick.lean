/- Contracts of BrickNetwork, the program's and the reference's. Conditions: the argument is an int. -/
import Derived.Test.YtmnbdphfoonleaaBd
namespace Go.Proofs.Ytmnbdphfoonleaa
open Go.RowKit

def brRow (a j : Nat) : List (List Int) := (List.range j).map fun (i : Nat) => [((a + 2 * i : Nat) : Int), ((a + 2 * i : Nat) : Int) + 1]
def brCnt (n k : Nat) : Nat := (n - (1 + k % 2) + 1) / 2
def brTo (n k : Nat) : List (List Int) := (List.range k).flatMap fun r => brRow (1 + r % 2) (brCnt n r)
def brI (x : Int) : List (List Int) := if 1 ≤ x ∧ x ≤ 8 then brTo x.toNat x.toNat else []
theorem brRow_succ (a j : Nat) : brRow a (j + 1) = brRow a j ++ [[((a + 2 * j : Nat) : Int), ((a + 2 * j : Nat) : Int) + 1]] := by simp [brRow, List.range_succ]
theorem brTo_succ (n k : Nat) : brTo n (k + 1) = brTo n k ++ brRow (1 + k % 2) (brCnt n k) := by simp [brTo, List.range_succ]
theorem brTo_len (n k : Nat) (h : n ≤ 8) : (brTo n k).length ≤ 4 * k := by
  induction k with
  | zero => simp [brTo]
  | succ k ih => rw [brTo_succ, List.length_append]; simp [brRow]; unfold brCnt; omega
theorem brTo_two (n k : Nat) : ∀ xs ∈ brTo n k, xs.length ≤ 2 := by
  intro xs hx
  simp only [brTo, List.mem_flatMap, brRow, List.mem_map] at hx
  obtain ⟨_, _, _, _, rfl⟩ := hx
  simp
theorem bound_BrickNetwork (x : Int) : Bd (brI x) := by
  unfold brI
  split
  · exact Bd.of (4 * x.toNat) 2 (brTo_len _ _ (by omega)) (brTo_two _ _) (by omega) (by omega)
  · exact Bd.nil

end Go.Proofs.Ytmnbdphfoonleaa
