/- Patterns that are told by texts: the reference's l7Has, and ParsePerm of texts of digits. Conditions: lengths below small bounds. -/
import Derived.Test.YtoieaphacnaohaaFind
import Derived.Test.YtoieaphacnaohaaBd
namespace Go.Proofs.Ytoieaphacnaohaa
open Go.RowKit

theorem pow_small {n f : Nat} (hn : n ≤ 8) (hf : f ≤ 5) : n ^ f ≤ 32768 :=
  Nat.le_trans (Nat.pow_le_pow_left hn f) (Nat.le_trans (Nat.pow_le_pow_right (show 0 < 8 by omega) hf) (by decide))
def occB (p q : List Int) : Bool := haB p q q.length []
/-- the digits of a text. -/
def digL (T : ByteArray) : List Int := T.data.toList.map fun c => (c.toNat : Int) - 48
theorem digL_len (T : ByteArray) : (digL T).length = T.size := by simp [digL]
theorem digL_nth {T : ByteArray} {k : Nat} (h : k < T.size) : nth (digL T) k = (T[k].toNat : Int) - 48 := by
  rw [nth_get (by rw [digL_len]; exact h)]
  simp [digL]; rfl
theorem digL_succ {T : ByteArray} {k : Nat} (h : k < T.size) : (digL T).take (k + 1) = (digL T).take k ++ [(T[k].toNat : Int) - 48] := by
  rw [take_nth (by rw [digL_len]; exact h), digL_nth h]
end Go.Proofs.Ytoieaphacnaohaa
