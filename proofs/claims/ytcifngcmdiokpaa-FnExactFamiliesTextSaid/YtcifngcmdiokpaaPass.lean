/- Passes that are applied again and again until the order ascends: how often, and what comes of it; contracts of the program's and the reference's loops over such a pass. Conditions: a permutation of at most 8 numbers; the pass's own contract. -/
import Derived.Test.YtcifngcmdiokpaaInv
import Derived.Test.YtcifngcmdiokpaaCopy
namespace Go.Proofs.Ytcifngcmdiokpaa
open Go.RowKit

structure PassOK (g : List Int → List Int) : Prop where
  len : ∀ xs, (g xs).length = xs.length
  perm : ∀ xs, IsP xs → IsP (g xs)
  dec : ∀ xs, IsP xs → ¬ Srt xs → inv (g xs) < inv xs

def tmF (g : List Int → List Int) : Nat → List Int → Nat
  | 0, _ => 0
  | f + 1, xs => bif srtB xs then 0 else 1 + tmF g f (g xs)
def tms (g : List Int → List Int) (xs : List Int) : Nat := tmF g (inv xs) xs
theorem tmF_stable {g : List Int → List Int} (hg : PassOK g) : ∀ (f f' : Nat) (xs : List Int), IsP xs → inv xs ≤ f → inv xs ≤ f' → tmF g f xs = tmF g f' xs := by
  intro f
  induction f with
  | zero =>
    intro f' xs hp h0 _
    have hs := srtB_true (inv_zero_srt (by omega : inv xs = 0))
    cases f' with
    | zero => rfl
    | succ f' => simp [tmF, hs]
  | succ f ih =>
    intro f' xs hp h1 h2
    cases hs : srtB xs
    · have hns : ¬ Srt xs := fun h => by rw [srtB_true h] at hs; simp at hs
      have hd := hg.dec xs hp hns
      cases f' with
      | zero => omega
      | succ f' => simp only [tmF, hs, cond_false]; rw [ih f' (g xs) (hg.perm xs hp) (by omega) (by omega)]
    · cases f' with
      | zero => simp [tmF, hs]
      | succ f' => simp [tmF, hs]
theorem tms_sorted {g : List Int → List Int} {xs : List Int} (h : srtB xs = true) : tms g xs = 0 := by
  unfold tms; cases inv xs <;> simp [tmF, h]
theorem tms_step {g : List Int → List Int} (hg : PassOK g) {xs : List Int} (hp : IsP xs) (h : srtB xs = false) : tms g xs = 1 + tms g (g xs) := by
  have hns : ¬ Srt xs := fun hh => by rw [srtB_true hh] at h; simp at h
  have hd := hg.dec xs hp hns
  unfold tms
  obtain ⟨f, hf⟩ : ∃ f, inv xs = f + 1 := ⟨inv xs - 1, by omega⟩
  rw [hf]
  simp only [tmF, h, cond_false]
  rw [tmF_stable hg f (inv (g xs)) (g xs) (hg.perm xs hp) (by omega) (Nat.le_refl _)]
theorem tms_le {g : List Int → List Int} (xs : List Int) : tms g xs ≤ inv xs := by
  have : ∀ f xs, tmF g f xs ≤ f := by
    intro f
    induction f with
    | zero => intro xs; simp [tmF]
    | succ f ih => intro xs; have := ih (g xs); cases h : srtB xs <;> simp [tmF, h]; omega
  exact this _ _
def tmsI (g : List Int → List Int) (xs : List Int) : Int := if isP8 xs then (tms g xs : Int) else -1

/-- a permutation of at most 8 numbers, and its pass, at any world. -/
def PassC (k : Nat) (g : List Int → List Int) : Prop := ∀ (v : Value) (xs : List Int) (w : World), IsP xs → xs.length ≤ 8 → SI w v xs → Calls Try.prog k #[v] w fun e w' => ∃ v', e = .returned v' ∧ OI w.heap.size w'.heap.size w' v' (g xs) ∧ Ext w w'

end Go.Proofs.Ytcifngcmdiokpaa
