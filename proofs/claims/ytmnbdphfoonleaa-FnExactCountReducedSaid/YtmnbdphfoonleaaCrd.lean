/- The number of reduced words: both versions. Conditions: a slice that can be read. -/
import Derived.Test.YtmnbdphfoonleaaCrI
import Derived.Test.YtmnbdphfoonleaaCrS
import Derived.Carry
namespace Go.Proofs.Ytmnbdphfoonleaa
open Go.RowKit Go.Maps

theorem cr_f {p : List Int} (h : crOK p = false) : crI p = -1 := by unfold crI; rw [h]; rfl
theorem cr_t {p : List Int} (h : crOK p = true) : crI p = cnt p := by unfold crI cnt; rw [h]; rfl
theorem six_top {p : List Int} (h6 : p.length ≤ 6) : 0 + 6 ^ inv p ≤ 470184984576 := by
  have h1 := inv_tri p
  have h2 : p.length * (p.length - 1) ≤ 6 * 5 := Nat.mul_le_mul h6 (by omega)
  have := Nat.pow_le_pow_right (n := 6) (by omega) (show inv p ≤ 15 by omega)
  omega
set_option maxRecDepth 100000 in
theorem impl_CountReduced_ok (v : Value) (p : List Int) (w : World) (h : SI w v p) (hl : p.length ≤ 1048576) (_hb : I64s p) :
    Calls Try.prog 34 #[v] w fun e w' => e = .returned (.int .i64 (crI p)) ∧ Ext w w' := by
  have hmm := @run_makeMap Try.prog
  have h00 := h
  obtain ⟨a, cap, rfl, -⟩ := h00.elim
  cases hp : isP8 p
  · have hP := Lib.hid hp
    have e0 := Lib.hid (cr_f (p := p) (by unfold crOK; rw [hp]; rfl))
    clear hp h00
    go_enter Try.func34, Try.ntmps34
    go_wp2_with (go_at_call 72; refine (impl_IsPerm_ok _ p _ h).mono ?_; rintro e w1 ⟨rfl, he⟩; rw [hP.out]; have HE := Lib.hid he; clear he)
    go_ret
    exact ⟨by rw [e0.out]; rfl, HE.out⟩
  · have hP := Lib.hid hp
    have h8 : p.length ≤ 8 := (isP8_iff.1 hp).1
    have HIP : Hid (IsP p) := (isP8_iff.1 hp).2
    by_cases h1 : 1 ≤ p.length ∧ p.length ≤ 6
    · have e0 := Lib.hid (cr_t (p := p) (by unfold crOK; rw [hp, decide_eq_true h1]; rfl))
      obtain ⟨h1, h6⟩ := h1
      have hne : ((p.length : Int) == 0) = false := by rw [beq_eq_false_iff_ne]; omega
      have h6I : ¬ (6 : Int) < (p.length : Int) := by omega
      have HH := Lib.hid h
      have HT := Lib.hid (six_top h6)
      clear hp h00 h
      go_enter Try.func34, Try.ntmps34
      go_wp2_with (go_at_call 72; refine (impl_IsPerm_ok _ p _ HH.out).mono ?_; rintro e w1 ⟨rfl, he⟩; rw [hP.out]; have HE := Lib.hid he; clear he)
      have HO : Hid (OM w1.heap.size 0 (.map []) (w1.alloc (.map #[] 0))) := World.ownsMap_made _ _ _ _
      have HA : Hid (Ext w (w1.alloc (.map #[] 0))) := Ext.trans HE.out (Upd.alloc _ _ _)
      refine (countReduced_ok (inv p) _ p w1.heap.size 0 _ _ HIP.out h6 h1 rfl (HH.out.ext HA.out) HO.out (Good.nil _) HT.out).mono ?_
      rintro e w2 ⟨rfl, hc⟩
      have HU := Lib.hid (HA.out.upd1 hc.upd HE.out.size)
      clear hc
      go_wp2_with fail
      go_ret
      exact ⟨by rw [e0.out]; rfl, HU.out⟩
    · have e0 := Lib.hid (cr_f (p := p) (by unfold crOK; rw [hp, decide_eq_false h1]; rfl))
      have hc : p.length = 0 ∨ (¬ p.length = 0 ∧ 6 < p.length) := by omega
      have HH := Lib.hid h
      clear hp h00 h1 h
      rcases hc with hc | ⟨hc, hd⟩
      · have hne : ((p.length : Int) == 0) = true := by rw [beq_iff_eq]; omega
        clear hc
        go_enter Try.func34, Try.ntmps34
        go_wp2_with (go_at_call 72; refine (impl_IsPerm_ok _ p _ HH.out).mono ?_; rintro e w1 ⟨rfl, he⟩; rw [hP.out]; have HE := Lib.hid he; clear he)
        go_ret
        exact ⟨by rw [e0.out]; rfl, HE.out⟩
      · have hne : ((p.length : Int) == 0) = false := by rw [beq_eq_false_iff_ne]; omega
        have h6I : (6 : Int) < (p.length : Int) := by omega
        clear hc
        go_enter Try.func34, Try.ntmps34
        go_wp2_with (go_at_call 72; refine (impl_IsPerm_ok _ p _ HH.out).mono ?_; rintro e w1 ⟨rfl, he⟩; rw [hP.out]; have HE := Lib.hid he; clear he)
        go_ret
        exact ⟨by rw [e0.out]; rfl, HE.out⟩
set_option maxRecDepth 100000 in
theorem spec_CountReduced_ok (v : Value) (p : List Int) (w : World) (h : SI w v p) (hl : p.length ≤ 1048576) (_hb : I64s p) :
    Calls Try.prog 35 #[v] w fun e w' => e = .returned (.int .i64 (crI p)) ∧ Ext w w' := by
  have h00 := h
  obtain ⟨a, cap, rfl, -⟩ := h00.elim
  have HH := Lib.hid h
  cases hp : isP8 p
  · have hP := Lib.hid hp
    have e0 := Lib.hid (cr_f (p := p) (by unfold crOK; rw [hp]; rfl))
    clear hp h00 h
    go_enter Try.func35, Try.ntmps35
    go_wp2_with fail
    refine (spec_IsPerm_qt _ p _ HH.out (by omega)).mono ?_
    rintro e w1 ⟨rfl, q1⟩
    rw [hP.out]
    have HE := Lib.hid q1.ext
    clear q1
    go_wp2_with fail
    go_ret
    exact ⟨by rw [e0.out]; rfl, HE.out⟩
  · have hP := Lib.hid hp
    have h8 : p.length ≤ 8 := (isP8_iff.1 hp).1
    have HIP : Hid (IsP p) := (isP8_iff.1 hp).2
    by_cases h1 : 1 ≤ p.length ∧ p.length ≤ 6
    · have e0 := Lib.hid (cr_t (p := p) (by unfold crOK; rw [hp, decide_eq_true h1]; rfl))
      obtain ⟨h1, h6⟩ := h1
      have HI : Hid (inB (p.length : Int) 1 6 = true) := inB_true (by omega)
      have HT := Lib.hid (six_top h6)
      clear hp h00 h
      go_enter Try.func35, Try.ntmps35
      go_wp2_with fail
      refine (spec_IsPerm_qt _ p _ HH.out (by omega)).mono ?_
      rintro e w1 ⟨rfl, q1⟩
      rw [hP.out]
      go_wp2_with fail
      refine (l1In_ok _ _ _ _).mono ?_
      rintro e w2 ⟨rfl, q2⟩
      rw [HI.out]
      have HE := Lib.hid (q1.trans q2).ext
      clear q1 q2
      go_wp2_with fail
      have hA1 : Ext w2 (w2.alloc (.cells #[] 9)) := Upd.alloc _ _ _
      have hA2 : Ext (w2.alloc (.cells #[] 9)) ((w2.alloc (.cells #[] 9)).alloc (.cells #[] 3)) := Upd.alloc _ _ _
      have HA := Lib.hid (HE.out.trans (hA1.trans hA2))
      have HS2 := Lib.hid (HH.out.ext HE.out)
      have HS := Lib.hid (HH.out.ext HA.out)
      have hz2 := HE.out.size
      clear hA1 hA2
      refine (l27Count_ok (inv p) _ p w2.heap.size 0 (w2.heap.size + 1) 0 0 [] _ rfl HIP.out h6 h1 rfl HS.out (Off.far HS2.out (by omega)) (Off.far HS2.out (by omega)) (TC.new _ _) HT.out).mono ?_
      rintro e w5 ⟨b1, c1, b2, c2, m5, qs5, rfl, hm5, ht5, hl5, hb1, hb2, hu5⟩
      have HU : Hid (Ext w w5) := HA.out.comp hu5 (D' := fun _ => False) (fun _ _ h => h) (fun i hi e => by rcases e with e | e <;> omega)
      clear hm5 ht5 hl5 hb1 hb2 hu5
      go_wp2_with fail
      go_ret
      exact ⟨by rw [e0.out]; rfl, HU.out⟩
    · have e0 := Lib.hid (cr_f (p := p) (by unfold crOK; rw [hp, decide_eq_false h1]; rfl))
      have HI : Hid (inB (p.length : Int) 1 6 = false) := inB_false (by omega)
      clear hp h00 h h1
      go_enter Try.func35, Try.ntmps35
      go_wp2_with fail
      refine (spec_IsPerm_qt _ p _ HH.out (by omega)).mono ?_
      rintro e w1 ⟨rfl, q1⟩
      rw [hP.out]
      go_wp2_with fail
      refine (l1In_ok _ _ _ _).mono ?_
      rintro e w2 ⟨rfl, q2⟩
      rw [HI.out]
      have HE := Lib.hid (q1.trans q2).ext
      clear q1 q2
      go_wp2_with fail
      go_ret
      exact ⟨by rw [e0.out]; rfl, HE.out⟩
end Go.Proofs.Ytmnbdphfoonleaa
