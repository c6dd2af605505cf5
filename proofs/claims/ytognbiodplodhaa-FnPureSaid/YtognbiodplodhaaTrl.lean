/- A pass applied again and again, and all that comes of it: the lists, told as a plain function; a slice of one row. Conditions: a permutation. -/
import Derived.Test.YtognbiodplodhaaPass
import Derived.Test.YtognbiodplodhaaBd
namespace Go.Proofs.Ytognbiodplodhaa
open Go.RowKit

theorem RR.one {w : World} {v : Value} {ys : List Int} (B : Nat) (h : OI B w.heap.size w v ys) (hB : B ≤ w.heap.size) : RR B (w.heap.size + 1) (w.alloc (.cells #[v] 24)) w.heap.size 1 [ys] := by
  have hrow := Row.new 24 w [v] (by simp; unfold maxLen; omega)
  refine ⟨[v], hrow, ?_, ?_, hB, by omega⟩
  · refine ⟨rfl, fun i hi => ?_, fun i j c hij hj => ?_⟩
    · obtain rfl : i = 0 := by simpa using hi
      have h1 : OI B w.heap.size (w.alloc (.cells #[v] 24)) v ys := h.ext (Upd.alloc _ _ _)
      exact h1.mono (Nat.le_refl _) (by omega)
    · have : j < 1 := by simpa using hj
      omega
  · intro i hi hc
    obtain rfl : i = 0 := by simpa using hi
    have := h.own hc
    omega

def trF (g : List Int → List Int) : Nat → List Int → List (List Int)
  | 0, _ => []
  | f + 1, xs => bif srtB xs then [] else g xs :: trF g f (g xs)
def tr (g : List Int → List Int) (xs : List Int) : List (List Int) := trF g (inv xs) xs
theorem trF_stable {g : List Int → List Int} (hg : PassOK g) : ∀ (f f' : Nat) (xs : List Int), IsP xs → inv xs ≤ f → inv xs ≤ f' → trF g f xs = trF g f' xs := by
  intro f
  induction f with
  | zero =>
    intro f' xs hp h0 _
    have hs := srtB_true (inv_zero_srt (by omega : inv xs = 0))
    cases f' with
    | zero => rfl
    | succ f' => simp [trF, hs]
  | succ f ih =>
    intro f' xs hp h1 h2
    cases hs : srtB xs
    · have hns : ¬ Srt xs := fun h => by rw [srtB_true h] at hs; simp at hs
      have hd := hg.dec xs hp hns
      cases f' with
      | zero => omega
      | succ f' => simp only [trF, hs, cond_false]; rw [ih f' (g xs) (hg.perm xs hp) (by omega) (by omega)]
    · cases f' with
      | zero => simp [trF, hs]
      | succ f' => simp [trF, hs]
theorem tr_sorted {g : List Int → List Int} {xs : List Int} (h : srtB xs = true) : tr g xs = [] := by
  unfold tr; cases inv xs <;> simp [trF, h]
theorem tr_step {g : List Int → List Int} (hg : PassOK g) {xs : List Int} (hp : IsP xs) (h : srtB xs = false) : tr g xs = g xs :: tr g (g xs) := by
  have hns : ¬ Srt xs := fun hh => by rw [srtB_true hh] at h; simp at h
  have hd := hg.dec xs hp hns
  unfold tr
  obtain ⟨f, hf⟩ : ∃ f, inv xs = f + 1 := ⟨inv xs - 1, by omega⟩
  rw [hf]
  simp only [trF, h, cond_false]
  rw [trF_stable hg f (inv (g xs)) (g xs) (hg.perm xs hp) (by omega) (Nat.le_refl _)]
theorem trF_len (g : List Int → List Int) : ∀ (f : Nat) (xs : List Int), (trF g f xs).length ≤ f := by
  intro f
  induction f with
  | zero => intro xs; simp [trF]
  | succ f ih => intro xs; have := ih (g xs); cases h : srtB xs <;> simp [trF, h]; omega
theorem trF_each {g : List Int → List Int} (hl : ∀ xs, (g xs).length = xs.length) : ∀ (f : Nat) (xs : List Int), ∀ ys ∈ trF g f xs, ys.length = xs.length := by
  intro f
  induction f with
  | zero => intro xs ys h; simp [trF] at h
  | succ f ih =>
    intro xs ys h
    cases hs : srtB xs
    · simp only [trF, hs, cond_false, List.mem_cons] at h
      rcases h with rfl | h
      · exact hl xs
      · rw [ih _ _ h, hl]
    · simp [trF, hs] at h
/-- the trail of a permutation of at most 8 numbers, with itself at its head; of others: nothing. -/
def trlL (g : List Int → List Int) (xs : List Int) : List (List Int) := bif isP8 xs then xs :: tr g xs else []
theorem trlL_bd {g : List Int → List Int} (hl : ∀ xs, (g xs).length = xs.length) (xs : List Int) : Bd (trlL g xs) := by
  unfold trlL
  cases h : isP8 xs
  · exact Bd.nil
  · have h8 : xs.length ≤ 8 := (isP8_iff.1 h).1
    have hib := inv_bound xs (by omega)
    have h1 := trF_len g (inv xs) xs
    refine Bd.of 1000001 8 ?_ (fun ys hy => ?_) (by omega) (by omega)
    · simp [tr]; omega
    · simp only [cond_true, List.mem_cons] at hy
      rcases hy with rfl | hy
      · exact h8
      · have := trF_each hl _ _ _ hy; omega
end Go.Proofs.Ytognbiodplodhaa
