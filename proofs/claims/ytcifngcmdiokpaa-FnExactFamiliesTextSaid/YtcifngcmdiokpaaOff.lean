/- Slices that lie off a block that is written. Conditions: none. -/
import Derived.Test.YtcifngcmdiokpaaRow3
namespace Go.Proofs.Ytcifngcmdiokpaa
open Go.RowKit

def Off (b : Nat) (v : Value) (xs : List Int) : Prop := xs = [] ∨ ∀ b' off s n c, v = .slice (some ⟨b', off, s⟩) n c → b' ≠ b
theorem SI.off {w w' : World} {v : Value} {xs : List Int} {b : Nat} (h : SI w v xs) (hu : Upd (· = b) w w') (hf : Off b v xs) : SI w' v xs := by
  obtain ⟨a, cap, rfl, h2, h3, h4, h5⟩ := h
  refine ⟨a, cap, rfl, h2, h3, h4, ?_⟩
  rcases hf with hf | hf
  · exact .inl hf
  · exact h5.upd hu (fun b' off s e e2 => hf b' off s _ _ (by rw [e]) e2)
theorem Off.far {w : World} {v : Value} {xs : List Int} {b : Nat} (h : SI w v xs) (hb : w.heap.size ≤ b) : Off b v xs := by
  obtain ⟨a, cap, rfl, h2, h3, h4, h5⟩ := h
  rcases h5 with h5 | ⟨b1, off, rfl, hc⟩
  · exact .inl h5
  · by_cases e : xs = []
    · exact .inl e
    · refine .inr (fun b' off' s n c e2 => ?_)
      have hl : 0 < xs.length := by cases xs with | nil => exact absurd rfl e | cons _ _ => simp
      have := World.block_lt_of_cell? _ _ (hc 0 hl)
      injection e2 with e3 e4 e5
      injection e3 with e3
      injection e3 with e3 e6 e7
      simp at this
      omega
/-- a slice of its own that lies from block B on lies off every block below. -/
theorem Off.own {B H : Nat} {w : World} {v : Value} {xs : List Int} {b : Nat} (h : OI B H w v xs) (hb : b < B) : Off b v xs := by
  rcases h with ⟨rfl, rfl⟩ | ⟨b1, cap, rfl, h1, _, _⟩
  · exact .inl rfl
  · refine .inr (fun b' off' s n c e2 => ?_)
    injection e2 with e3 e4 e5
    injection e3 with e3
    injection e3 with e3 e6 e7
    omega
end Go.Proofs.Ytcifngcmdiokpaa
