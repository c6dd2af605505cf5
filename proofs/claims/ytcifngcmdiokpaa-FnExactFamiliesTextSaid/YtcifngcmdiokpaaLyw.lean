/- Contract of the reference's IsLayered. Conditions: lengths below a bound. -/
import Derived.Test.YtcifngcmdiokpaaSmw
import Derived.Test.YtcifngcmdiokpaaRev
namespace Go.Proofs.Ytcifngcmdiokpaa
open Go.RowKit

def goodL (l : List Int) : Bool := decide (l.reverse = idL l.length)
def goodTo (L : List (List Int)) (k : Nat) : Bool := (L.take k).all goodL
theorem goodTo_succ {L : List (List Int)} {k : Nat} (h : k < L.length) : goodTo L (k + 1) = (goodTo L k && goodL (nthL L k)) := by unfold goodTo; rw [take_nthL h]; simp
theorem layB_eq (p : List Int) : layB p = (isP8 p && goodTo (sumL p) (sumL p).length) := by
  unfold layB goodTo; rw [take_all (Nat.le_refl _)]; rfl
theorem layB_bad {p : List Int} {k : Nat} (hk : k < (sumL p).length) (h : goodL (nthL (sumL p) k) = false) : layB p = false := by
  have h1 : ¬ (sumL p).all goodL = true := fun hh => by
    have := List.all_eq_true.1 hh _ (nthL_mem hk)
    rw [h] at this; simp at this
  unfold layB
  have h2 : (sumL p).all goodL = false := by simpa using h1
  have h3 : ((sumL p).all fun l => decide (l.reverse = idL l.length)) = false := h2
  rw [h3]; simp
theorem sumL_len (p : List Int) : (sumL p).length ≤ 8 := by
  unfold sumL
  cases h : isP8 p
  · simp
  · have := spP_len p p.length
    have := (isP8_iff.1 h).1
    simp only [cond_true]; omega
theorem sumL_each {p l : List Int} (h : l ∈ sumL p) : l.length ≤ 8 := by
  unfold sumL at h
  cases h8 : isP8 p
  · rw [h8] at h; simp at h
  · rw [h8] at h
    have := spP_each p p.length (Nat.le_refl _) l h
    have := (isP8_iff.1 h8).1
    omega
set_option maxHeartbeats 4000000 in
theorem spec_IsLayered_ok (v : Value) (xs : List Int) (w : World) (h : SI w v xs) (hl : xs.length ≤ 1048576) :
    Calls Try.prog 36 #[v] w fun e w' => e = .returned (.bool (layB xs)) ∧ Ext w w' := by
  obtain ⟨L, hL⟩ : ∃ L, L = sumL xs := ⟨_, rfl⟩
  have hL8 := sumL_len xs
  have hLe := fun k (hk : k < (sumL xs).length) => sumL_each (p := xs) (nthL_mem hk)
  have hbad := fun k (hk : k < (sumL xs).length) => layB_bad (p := xs) hk
  have heq := layB_eq xs
  rw [← hL] at hL8 hLe hbad heq
  have HL := Lib.hid hL
  have HLE := Lib.hid hLe
  have HBAD := Lib.hid hbad
  have HEQ := Lib.hid heq
  clear hL hLe hbad heq
  go_enter Try.func36, Try.ntmps36
  go_wp2_with fail
  refine (spec_SumParts_ok _ xs _ h hl).mono ?_
  rintro e w1 ⟨v1, rfl, ho1, he1⟩
  rw [← HL.out] at ho1
  obtain ⟨a1, c1, rfl, hri⟩ := ho1.sii.elim
  clear ho1
  go_wp2_with fail
  go_loopw [4] (fun i wr => ∃ k : Nat, k ≤ L.length ∧ i = .int .i64 k ∧ Hid (goodTo L k = true) ∧ Ext w1 wr) (fun i _ => L.length - (intOf i).toNat)
  case atStart => exact ⟨0, Nat.zero_le _, rfl, Lib.hid rfl, Ext.refl _⟩
  case round =>
    obtain ⟨k, hk, rfl, hg, he⟩ := hrel
    by_cases hlt : k < L.length
    · obtain ⟨b, off, rfl, u, hc, hu⟩ := hri k hlt
      have hc2 := Ext.cell he hc
      have hu2 := hu.ext he
      obtain ⟨l, hll⟩ : ∃ l, l = nthL L k := ⟨_, rfl⟩
      have hl8 := HLE.out k hlt
      rw [← hll] at hl8 hu2
      obtain ⟨pu, cu, rfl, -⟩ := hu2.elim
      have HU := Lib.hid hu2
      have HLL := Lib.hid hll
      have hkI : (k : Int) < (L.length : Int) := by omega
      have hl7 : l.length ≤ 10000000 := by omega
      have hres : Hid (decide (l.reverse = idL l.length) = goodL l) := rfl
      clear hc hu hu2 hll hri
      go_wp2_with fail
      go_region_held3 (fun w' => w'.cell? ⟨b, off + k, none⟩ = some (.slice pu l.length cu))
        (first | go_keep | (exact Ext.cell he7 (by assumption)) | (exact Ext.cell he8 (by assumption)) | (exact Ext.cell hq9.ext (by assumption)))
        ((first
          | (go_at_call 27; refine (l3Reverse_ok _ l _ (by first | exact HU.out.ext (Upd.drew _ _) | exact (HU.out.ext (Upd.drew _ _)).ext he8) hl7).mono ?_; rintro e w7 ⟨v7, rfl, ho7, he7⟩)
          | (go_at_call 58; refine (identityPerm_ok l.length _ hl8).mono ?_; rintro e w8 ⟨b8, c8, rfl, hb8, hr8, he8⟩)
          | (go_at_call 26; refine (l2Same_ok _ _ l.reverse (idL l.length) _ (by first | exact ho7.si | exact ho7.si.ext he8) (by first | exact (by have := hr8.si; rwa [idL_len] at this) | exact (by have := hr8.si.ext he7; rwa [idL_len] at this)) (by simp; omega)).mono ?_; rintro e w9 ⟨rfl, hq9⟩; rw [hres.out])))
      all_goals
        have hE : Ext w1 w9 := by first | exact ((he.drew.trans he7).trans he8).trans hq9.ext | exact ((he.drew.trans he8).trans he7).trans hq9.ext
        cases hgl : goodL l
        · have e0 := Lib.hid (HBAD.out k hlt (by rw [← HLL.out]; exact hgl))
          clear hgl
          go_wp2_with fail
          go_ret
          exact ⟨by rw [e0.out]; rfl, he1.trans hE⟩
        · have HG := Lib.hid (show goodTo L (k + 1) = true by rw [goodTo_succ hlt, hg.out, ← HLL.out, hgl]; rfl)
          clear hgl
          go_wp2_with fail
          go_roundw
          case rel => exact ⟨k + 1, by omega, by go_num, HG, hE⟩
          case measure => simp [intOf]; omega
    · obtain rfl : k = L.length := by omega
      have HF := Lib.hid (show layB xs = isP8 xs by rw [HEQ.out, hg.out]; simp)
      go_wp2_with fail
      refine (spec_IsPerm_qt _ xs _ ((h.ext he1).ext he) (by omega)).mono ?_
      rintro e w5 ⟨rfl, hq5⟩
      go_wp2_with fail
      go_ret
      exact ⟨by rw [HF.out]; rfl, (he1.trans he).trans hq5.ext⟩
end Go.Proofs.Ytcifngcmdiokpaa
