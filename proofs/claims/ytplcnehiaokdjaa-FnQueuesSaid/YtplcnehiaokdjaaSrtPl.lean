/- Contracts of SortsByPlan, the program's and the reference's. Conditions: lengths below a bound. -/
import Derived.Test.YtplcnehiaokdjaaRunPs
namespace Go.Proofs.Ytplcnehiaokdjaa
open Go.RowKit

set_option maxHeartbeats 1000000 in
theorem impl_SortsByPlan_ok (v : Value) (p : List Int) (v2 : Value) (plan : List Int) (w : World) (h : SI w v p) (hl : p.length ≤ 1048576) (hb : I64s p) (h2 : SI w v2 plan) (hl2 : plan.length ≤ 1048576) (hb2 : I64s plan) :
    Calls Try.prog 20 #[v, v2] w fun e w' => e = .returned (.bool (spB p plan)) ∧ Ext w w' := by
  have HD := Lib.hid (impl_RunPlan_ok v p v2 plan w h hl hb h2 hl2 hb2)
  have hll := rpL_len p plan
  cases hr : rpB p plan
  · have HR := Lib.hid hr
    have e0 : Hid (spB p plan = false) := by show _ = _; simp [spB, hr]
    clear hr
    go_enter Try.func20, Try.ntmps20
    go_wp2_with fail
    refine HD.out.mono ?_
    rintro e w1 ⟨v1, rfl, ho1, he1⟩
    rw [HR.out]
    go_wp2_with fail
    go_ret
    exact ⟨by rw [e0.out]; rfl, he1⟩
  · have HR := Lib.hid hr
    have e0 : Hid (spB p plan = srtB (rpL p plan)) := by show _ = _; simp [spB, hr]
    clear hr
    go_enter Try.func20, Try.ntmps20
    go_wp2_with fail
    refine HD.out.mono ?_
    rintro e w1 ⟨v1, rfl, ho1, he1⟩
    rw [HR.out]
    go_wp2_with fail
    refine (isRising_ok _ (rpL p plan) _ ho1.si (by omega)).mono ?_
    rintro e w2 ⟨rfl, hq2⟩
    go_wp2_with fail
    go_ret
    exact ⟨by rw [e0.out]; rfl, he1.trans hq2.ext⟩
set_option maxHeartbeats 1000000 in
theorem spec_SortsByPlan_ok (v : Value) (p : List Int) (v2 : Value) (plan : List Int) (w : World) (h : SI w v p) (hl : p.length ≤ 1048576) (hb : I64s p) (h2 : SI w v2 plan) (hl2 : plan.length ≤ 1048576) (hb2 : I64s plan) :
    Calls Try.prog 21 #[v, v2] w fun e w' => e = .returned (.bool (spB p plan)) ∧ Ext w w' := by
  have HD := Lib.hid (spec_RunPlan_ok v p v2 plan w h hl hb h2 hl2 hb2)
  have hll := rpL_len p plan
  cases hr : rpB p plan
  · have HR := Lib.hid hr
    have e0 : Hid (spB p plan = false) := by show _ = _; simp [spB, hr]
    clear hr
    go_enter Try.func21, Try.ntmps21
    go_wp2_with fail
    refine HD.out.mono ?_
    rintro e w1 ⟨v1, rfl, ho1, he1⟩
    rw [HR.out]
    go_wp2_with fail
    go_ret
    exact ⟨by rw [e0.out]; rfl, he1⟩
  · have HR := Lib.hid hr
    have h8 := (isP8_iff.1 (rpB_true hr).1).1
    have e0 : Hid (spB p plan = decide (rpL p plan = idL (rpL p plan).length)) := by show _ = _; rw [srtB_eq (rpL_isP hr)]; simp [spB, hr]
    clear hr
    go_enter Try.func21, Try.ntmps21
    go_wp2_with fail
    refine HD.out.mono ?_
    rintro e w1 ⟨v1, rfl, ho1, he1⟩
    rw [HR.out]
    go_wp2_with fail
    refine (l13Straight_ok _ (rpL p plan) _ ho1.si (by omega)).mono ?_
    rintro e w2 ⟨rfl, hq2⟩
    go_wp2_with fail
    go_ret
    exact ⟨by rw [e0.out]; rfl, he1.trans hq2⟩
end Go.Proofs.Ytplcnehiaokdjaa
