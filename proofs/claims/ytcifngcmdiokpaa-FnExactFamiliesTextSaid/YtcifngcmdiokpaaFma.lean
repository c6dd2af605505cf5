/- IsInvolution, the program's and the reference's; the program's IsLayered. Conditions: lengths below a bound. -/
import Derived.Test.YtcifngcmdiokpaaWeak
import Derived.Test.YtcifngcmdiokpaaLyw
import Derived.Test.YtcifngcmdiokpaaSmi
import Derived.Test.YtcifngcmdiokpaaFunc
namespace Go.Proofs.Ytcifngcmdiokpaa
open Go.RowKit

def invoB (p : List Int) : Bool := isP8 p && decide (p = invLs p)
set_option maxHeartbeats 1000000 in
theorem impl_IsInvolution_ok (v : Value) (p : List Int) (w : World) (h : SI w v p) :
    Calls Try.prog 44 #[v] w fun e w' => e = .returned (.bool (invoB p)) ∧ Ext w w' := by
  have h00 := h
  obtain ⟨a, cap, rfl, -⟩ := h00.elim
  have HH := Lib.hid h
  cases hp : isP8 p
  · have HP := Lib.hid hp
    have HR : Hid (invoB p = false) := by show _ = _; unfold invoB; rw [hp]; rfl
    clear h h00 hp
    go_enter Try.func44, Try.ntmps44
    go_wp2_with fail
    refine (impl_IsPerm_ok _ p _ HH.out).mono ?_
    rintro e w1 ⟨rfl, he⟩
    rw [HP.out]
    have HE := Lib.hid he
    clear he
    go_wp2_with fail
    go_ret
    exact ⟨by rw [HR.out]; rfl, HE.out⟩
  · have HP := Lib.hid hp
    obtain ⟨h8, hpp⟩ := isP8_iff.1 hp
    have HPP := Lib.hid hpp
    obtain ⟨q, hq⟩ : ∃ q, q = decide (p = invLs p) := ⟨_, rfl⟩
    have HQ := Lib.hid hq
    have HR : Hid (invoB p = q) := by show _ = _; unfold invoB; rw [hp, hq]; rfl
    clear h h00 hp hpp hq
    go_enter Try.func44, Try.ntmps44
    go_wp2_with fail
    refine (impl_IsPerm_ok _ p _ HH.out).mono ?_
    rintro e w1 ⟨rfl, he⟩
    rw [HP.out]
    have HE := Lib.hid he
    clear he
    go_wp2_with fail
    refine (impl_inverse_ok _ p _ (HH.out.ext HE.out) (by omega) HPP.out).mono ?_
    rintro e w2 ⟨b, c, rfl, hb, hr, h2⟩
    have HE2 := Lib.hid (HE.out.trans h2)
    have hs := hr.si
    rw [invLs_len] at hs
    have HS := Lib.hid hs
    clear hr h2 hs
    go_wp2_with fail
    refine (slicesEqual_ok _ _ p (invLs p) _ (HH.out.ext HE2.out) HS.out (by omega)).mono ?_
    rintro e w3 ⟨rfl, q3⟩
    rw [← HQ.out]
    have HE3 := Lib.hid (HE2.out.trans q3.ext)
    clear q3
    go_wp2_with fail
    go_ret
    exact ⟨by rw [HR.out]; rfl, HE3.out⟩
set_option maxHeartbeats 1000000 in
theorem spec_IsInvolution_ok (v : Value) (p : List Int) (w : World) (h : SI w v p) (hl : p.length ≤ 1048576) :
    Calls Try.prog 37 #[v] w fun e w' => e = .returned (.bool (invoB p)) ∧ Ext w w' := by
  have h00 := h
  obtain ⟨a, cap, rfl, -⟩ := h00.elim
  have HH := Lib.hid h
  cases hp : isP8 p
  · have HP := Lib.hid hp
    have HR : Hid (invoB p = false) := by show _ = _; unfold invoB; rw [hp]; rfl
    clear h h00 hp
    go_enter Try.func37, Try.ntmps37
    go_wp2_with fail
    refine (spec_IsPerm_qt _ p _ HH.out (by omega)).mono ?_
    rintro e w1 ⟨rfl, he⟩
    rw [HP.out]
    have HE := Lib.hid he.ext
    clear he
    go_wp2_with fail
    go_ret
    exact ⟨by rw [HR.out]; rfl, HE.out⟩
  · have HP := Lib.hid hp
    obtain ⟨h8, hpp⟩ := isP8_iff.1 hp
    have HPP := Lib.hid hpp
    obtain ⟨q, hq⟩ : ∃ q, q = decide (p = invLs p) := ⟨_, rfl⟩
    have HQ := Lib.hid hq
    have HR : Hid (invoB p = q) := by show _ = _; unfold invoB; rw [hp, hq]; rfl
    clear h h00 hp hpp hq
    go_enter Try.func37, Try.ntmps37
    go_wp2_with fail
    refine (spec_IsPerm_qt _ p _ HH.out (by omega)).mono ?_
    rintro e w1 ⟨rfl, he⟩
    rw [HP.out]
    have HE := Lib.hid he.ext
    clear he
    go_wp2_with fail
    refine (l2Inverse_ok _ p _ (HH.out.ext HE.out) (by omega) HPP.out).mono ?_
    rintro e w2 ⟨b, c, rfl, hb, hr, h2⟩
    have HE2 := Lib.hid (HE.out.trans h2)
    have hs := hr.si
    rw [invLs_len] at hs
    have HS := Lib.hid hs
    clear hr h2 hs
    go_wp2_with fail
    refine (l2Same_ok _ _ p (invLs p) _ (HH.out.ext HE2.out) HS.out (by omega)).mono ?_
    rintro e w3 ⟨rfl, q3⟩
    rw [← HQ.out]
    have HE3 := Lib.hid (HE2.out.trans q3.ext)
    clear q3
    go_wp2_with fail
    go_ret
    exact ⟨by rw [HR.out]; rfl, HE3.out⟩
def fallB (q : List Int) : Bool := decide (q = (idL q.length).reverse)
theorem fallB_good (q : List Int) : fallB q = goodL q := by
  unfold fallB goodL
  by_cases h : q = (idL q.length).reverse
  · have h2 : q.reverse = idL q.length := by rw [h, List.reverse_reverse]; simp [idL]
    rw [decide_eq_true h, decide_eq_true h2]
  · have h2 : ¬ q.reverse = idL q.length := fun e => h (by rw [← e, List.reverse_reverse])
    rw [decide_eq_false h, decide_eq_false h2]
def notFall (q : List Int) : Bool := !fallB q
set_option maxHeartbeats 1000000 in
theorem isFalling_ok (v : Value) (q : List Int) (w : World) (h : SI w v q) (hl : q.length ≤ 1000) :
    Calls Try.prog 67 #[v] w fun e w' => e = .returned (.bool (fallB q)) ∧ Ext w w' := by
  have h00 := h
  obtain ⟨a, cap, rfl, -⟩ := h00.elim
  have HH := Lib.hid h
  clear h h00
  go_enter Try.func67, Try.ntmps67
  go_wp2_with fail
  refine (identity_ok q.length _ hl).mono ?_
  rintro e w1 ⟨b, c, rfl, hb, hr, h1⟩
  have hs := hr.si
  have hil : (idL q.length).length = q.length := by simp [idL]
  rw [hil] at hs
  have HS := Lib.hid hs
  have HIL := Lib.hid hil
  have HE := Lib.hid h1
  clear hr hs hil h1
  go_wp2_with fail
  refine (impl_reverse_ok _ (idL q.length) _ HS.out (by rw [HIL.out]; omega)).mono ?_
  rintro e w2 ⟨v2, rfl, ho, h2⟩
  have HO := Lib.hid ho.si
  have HE2 := Lib.hid (HE.out.trans h2)
  obtain ⟨r, hr⟩ : ∃ r, r = fallB q := ⟨_, rfl⟩
  have HR := Lib.hid hr
  clear ho h2 hr
  go_wp2_with fail
  refine (slicesEqual_ok _ _ q (idL q.length).reverse _ (HH.out.ext HE2.out) HO.out (by omega)).mono ?_
  rintro e w3 ⟨rfl, q3⟩
  have HE3 := Lib.hid (HE2.out.trans q3.ext)
  clear q3
  rw [show decide (q = (idL q.length).reverse) = r from HR.out.symm]
  go_wp2_with fail
  go_ret
  exact ⟨by rw [HR.out]; rfl, HE3.out⟩
theorem notFall_ok (v : Value) (q : List Int) (w : World) (h : SI w v q) (hl : q.length ≤ 1000) :
    Calls Try.prog 66 #[v] w fun e w' => e = .returned (.bool (notFall q)) ∧ Ext w w' := by
  have h00 := h
  obtain ⟨a, cap, rfl, -⟩ := h00.elim
  have HH := Lib.hid h
  obtain ⟨r, hr⟩ : ∃ r, r = fallB q := ⟨_, rfl⟩
  have HR := Lib.hid hr
  have HN : Hid (notFall q = !r) := by show _ = _; rw [hr]; rfl
  clear h h00 hr
  go_enter Try.func66, Try.ntmps66
  go_wp2_with fail
  refine (isFalling_ok _ q _ HH.out hl).mono ?_
  rintro e w1 ⟨rfl, he⟩
  rw [← HR.out]
  have HE := Lib.hid he
  clear he
  go_wp2_with fail
  go_ret
  exact ⟨by rw [HN.out]; rfl, HE.out⟩
set_option maxHeartbeats 1000000 in
theorem impl_IsLayered_ok (v : Value) (p : List Int) (w : World) (h : SI w v p) :
    Calls Try.prog 43 #[v] w fun e w' => e = .returned (.bool (layB p)) ∧ Ext w w' := by
  have h00 := h
  obtain ⟨a, cap, rfl, -⟩ := h00.elim
  have HH := Lib.hid h
  cases hp : isP8 p
  · have HP := Lib.hid hp
    have HR : Hid (layB p = false) := by show _ = _; unfold layB; rw [hp]; rfl
    clear h h00 hp
    go_enter Try.func43, Try.ntmps43
    go_wp2_with fail
    refine (impl_IsPerm_ok _ p _ HH.out).mono ?_
    rintro e w1 ⟨rfl, he⟩
    rw [HP.out]
    have HE := Lib.hid he
    clear he
    go_wp2_with fail
    go_ret
    exact ⟨by rw [HR.out]; rfl, HE.out⟩
  · have HP := Lib.hid hp
    obtain ⟨h8, hpp⟩ := isP8_iff.1 hp
    have HPP := Lib.hid hpp
    have hS : sumL p = spP p p.length := by unfold sumL; rw [hp]; rfl
    obtain ⟨r, hr⟩ : ∃ r, r = anyL notFall (spP p p.length) := ⟨_, rfl⟩
    have HR := Lib.hid hr
    have HL : Hid (layB p = !r) := by
      show _ = _
      unfold layB
      rw [hp, hr, hS, Bool.true_and]
      unfold anyL
      rw [List.all_eq_not_any_not]
      congr 2
      funext l
      exact congrArg (!·) (fallB_good l).symm
    have HLEN : Hid ((spP p p.length).length ≤ 8) := by show _ ≤ _; rw [← hS]; exact sumL_len p
    have HEACH : Hid (∀ l ∈ spP p p.length, l.length ≤ 8) := fun l hl => sumL_each (p := p) (by rw [hS]; exact hl)
    have hen : Enters 66 := enters_of Try.func66 rfl rfl
    have HEN := Lib.hid hen
    clear h h00 hp hpp hS hr hen
    go_enter Try.func43, Try.ntmps43
    go_wp2_with fail
    refine (impl_IsPerm_ok _ p _ HH.out).mono ?_
    rintro e w1 ⟨rfl, he⟩
    rw [HP.out]
    have HE := Lib.hid he
    clear he
    go_wp2_with fail
    refine (sumParts_ok _ p _ (HH.out.ext HE.out) HPP.out h8).mono ?_
    rintro e w2 ⟨v2, rfl, ho, h2⟩
    have HO := Lib.hid ho.sii
    have HE2 := Lib.hid (HE.out.trans h2)
    clear ho h2
    go_wp2_with fail
    refine (containsFuncL_ok _ (spP p p.length) 66 #[] notFall _ HO.out (by have := HLEN.out; omega) HEN.out (fun i hi u w1 hw hu => notFall_ok u _ w1 hu (by have := HEACH.out _ (nthL_mem hi); omega))).mono ?_
    rintro e w3 ⟨rfl, h3⟩
    rw [← HR.out]
    have HE3 := Lib.hid (HE2.out.trans h3)
    clear h3
    go_wp2_with fail
    go_ret
    exact ⟨by rw [HL.out]; rfl, HE3.out⟩
end Go.Proofs.Ytcifngcmdiokpaa
