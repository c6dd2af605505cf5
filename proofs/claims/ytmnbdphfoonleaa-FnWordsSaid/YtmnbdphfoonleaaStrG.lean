/- Plain facts that the law FnStrong wants. Conditions: none. -/
import Derived.Test.YtmnbdphfoonleaaDrSub
namespace Go.Proofs.Ytmnbdphfoonleaa
open Go.RowKit

theorem ir_wp {n : Int} {W : List Int} (h : irB n W = true) : wokB n W = true ∧ I64s (wpL n W) ∧ (wpL n W).length ≤ 8 := by
  obtain ⟨h1, h2, _⟩ := ir_rd h
  obtain ⟨e1, e2, e3, e4⟩ := wok_true h1
  have e : wpL n W = wRun n.toNat W := by unfold wpL; rw [h1]; rfl
  have hp := wRun_perm h2
  rw [e]
  refine ⟨h1, fun x hx => ?_, by rw [wRun_len]; omega⟩
  have := hp.1 x hx
  rw [wRun_len] at this
  unfold I64; omega
theorem str_true {p q : List Int} (h : strB p q = true) : isP8 p = true ∧ isP8 q = true := ⟨(strB_iff.1 h).1, (strB_iff.1 h).2.1⟩
theorem isP8_I64 {p : List Int} (h : isP8 p = true) : I64s p ∧ p.length ≤ 8 := by
  have h1 := isP8_iff.1 h
  refine ⟨fun x hx => ?_, h1.1⟩
  have := h1.2.1 x hx
  unfold I64; omega
theorem invI_bd (p : List Int) : -1 ≤ invI p ∧ invI p ≤ 1000000 := by
  unfold invI
  split
  · next h => have := inv_bound p (by have := (isP8_iff.1 h).1; omega); omega
  · omega
theorem bel_none {p : List Int} (h : (belL p).length = 0) : rcL p = [] := by
  cases hb : belOK p
  · unfold rcL; rw [hb]; rfl
  · have := bel_self hb
    rw [List.eq_nil_of_length_eq_zero h] at this
    simp at this
theorem rc_bd (p : List Int) : (rcL p).length ≤ 1000 ∧ (belL p).length ≤ 1000 ∧ ∀ x ∈ rcL p, 0 ≤ x ∧ x ≤ 1000 := by
  cases hb : belOK p
  · have h1 : rcL p = [] := by unfold rcL; rw [hb]; rfl
    have h2 : belL p = [] := by unfold belL; rw [hb]; rfl
    rw [h1, h2]; simp
  · have hs := belL_small hb
    have h1 : rcL p = rcTo (belL p) (inv p) (belL p).length := by unfold rcL; rw [hb]; rfl
    refine ⟨?_, hs, fun x hx => ?_⟩
    · rw [h1, rcTo_len]
      have h5 := (belOK_true hb).2
      have ht := inv_tri p
      have : p.length * (p.length - 1) ≤ 5 * 4 := Nat.mul_le_mul h5 (by omega)
      omega
    · rw [h1] at hx
      have := rcTo_bd _ _ _ x hx; omega
theorem ch_ends {L : List (List Int)} {j : Nat} (h : chB L = true) (hj : L.length = j + 1) : strB (nthL L 0) (nthL L j) = true := ch_str h j (by omega)
end Go.Proofs.Ytmnbdphfoonleaa
