/- How a slice of ints that came in is read by the walks of this seat. Conditions: none. -/
import Derived.Test.YtcifngcmdiokpaaLib
namespace Go.Proofs.Ytcifngcmdiokpaa
open Go.RowKit

def I64 (x : Int) : Prop := -9223372036854775808 ≤ x ∧ x ≤ 9223372036854775807
def I64s (xs : List Int) : Prop := ∀ x ∈ xs, I64 x
theorem I64s.nth {xs : List Int} (h : I64s xs) {i : Nat} (hi : i < xs.length) : I64 (nth xs i) := h _ (nth_mem hi)

def IsRow (k : IntKind) (w : World) (a : Option Addr) (len cap : Nat) (zs : List Int) : Prop :=
  (a = none ∧ len = 0 ∧ cap = 0 ∧ zs = []) ∨
  ∃ x, a = some x ∧ len ≤ cap ∧ cap ≤ maxLen ∧ zs.length = cap ∧ (∀ i, i < zs.length → w.cell? (x.add i) = some (.int k (zs.getD i 0))) ∧ ∀ n ∈ zs, (Lit.int k n).wf = true

theorem I64_of_wf {n : Int} (h : (Lit.int .i64 n).wf = true) : I64 n := by
  simp [Lit.wf, IntKind.min, IntKind.max, IntKind.signed, IntKind.bits] at h
  unfold I64; omega

theorem cell_spot {w : World} {b o : Nat} {s : Option Nat} {v : Value} (h : w.cell? ⟨b, o, s⟩ = some v) : s = none := by
  cases s with
  | none => rfl
  | some s => unfold World.cell? at h; split at h <;> simp at h

theorem IsRow.si {w : World} {a : Option Addr} {len cap : Nat} {zs : List Int} (h : IsRow .i64 w a len cap zs) :
    ∃ xs, xs.length = len ∧ SI w (.slice a len cap) xs ∧ I64s xs := by
  rcases h with ⟨rfl, rfl, rfl, rfl⟩ | ⟨x, rfl, hl, hm, hz, hc, hw⟩
  · exact ⟨[], rfl, SI.nil w, fun _ h => by simp at h⟩
  · have hlen : (zs.take len).length = len := by simp; omega
    refine ⟨zs.take len, hlen, ⟨some x, cap, by rw [hlen], by omega, hm, by simp, ?_⟩, fun n hn => I64_of_wf (hw n (List.mem_of_mem_take hn))⟩
    by_cases h0 : len = 0
    · exact .inl (by subst h0; rfl)
    · have hx := hc 0 (by omega)
      obtain ⟨b, o, s⟩ := x
      rw [Addr.add_zero'] at hx
      obtain rfl := cell_spot hx
      refine .inr ⟨b, o, rfl, fun i hi => ?_⟩
      rw [hlen] at hi
      have := hc i (by omega)
      rw [Addr.add_lit] at this
      rw [this]
      unfold nth
      simp [hi]
end Go.Proofs.Ytcifngcmdiokpaa
