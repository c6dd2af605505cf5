/- The walk of the law FnExactCountReduced: out of the contracts of the program's CountReduced and of the reference's, the law returns true and leaves what was there. Conditions: none. -/
import Derived.Test.YtmnbdphfoonleaaHarnL
import Derived.Test.YtmnbdphfoonleaaCrd
namespace Go.Proofs.Ytmnbdphfoonleaa
open Go.RowKit

set_option maxHeartbeats 4000000 in
theorem law_CountReduced_ok (v0 : Value) (x0 : List Int) (w : World) (s0 : SI w v0 x0) (b0 : I64s x0) :
    Calls Try.prog 8 #[v0] w fun e w' => e = .returned (.bool true) ∧ Ext w w' := by
  have E : Ext w w := Ext.refl w
  have t0 := s0
  obtain ⟨a0, c0, rfl, _⟩ := t0.elim
  by_cases g0 : 1048576 < x0.length
  · go_enter Try.func8, Try.ntmps8
    go_wp2_with fail
    go_ret
    exact ⟨rfl, E⟩
  go_enter Try.func8, Try.ntmps8
  go_wp2_with fail
  refine (toIntS_ok _ x0 _ (s0.ext E) (by omega)).mono ?_
  rintro e w1 ⟨b_cs0, c_cs0, rfl, hb_cs0, hr_cs0, hw1⟩
  replace E := E.trans hw1
  have cs0 : OI w.heap.size w1.heap.size w1 _ x0 := OI.row hr_cs0 hb_cs0 rfl
  clear hr_cs0 hb_cs0
  have zw1 := hw1.size
  go_wp2_with fail
  refine (spec_CountReduced_ok _ x0 _ cs0.si (by omega) b0).mono ?_
  rintro e w2 ⟨rfl, hw2⟩
  replace cs0 := cs0.ext hw2
  replace E := E.trans hw2
  clear cs0
  go_wp2_with fail
  refine (toIntS_ok _ x0 _ (s0.ext E) (by omega)).mono ?_
  rintro e w3 ⟨b_cx0, c_cx0, rfl, hb_cx0, hr_cx0, hw3⟩
  replace E := E.trans hw3
  have cx0 : OI w2.heap.size w3.heap.size w3 _ x0 := OI.row hr_cx0 hb_cx0 rfl
  clear hr_cx0 hb_cx0
  have zw3 := hw3.size
  go_wp2_with fail
  refine (impl_CountReduced_ok _ x0 _ cx0.si (by omega) b0).mono ?_
  rintro e w4 ⟨rfl, hw4⟩
  replace cx0 := cx0.ext hw4
  replace E := E.trans hw4
  have ne0 : (crI x0 != crI x0) = false := by simp
  go_wp2_with fail
  refine (toIntS_ok _ x0 _ (s0.ext E) (by omega)).mono ?_
  rintro e w5 ⟨b_cy0, c_cy0, rfl, hb_cy0, hr_cy0, hw5⟩
  replace cx0 := cx0.ext hw5
  replace E := E.trans hw5
  have cy0 : OI w4.heap.size w5.heap.size w5 _ x0 := OI.row hr_cy0 hb_cy0 rfl
  clear hr_cy0 hb_cy0
  have zw5 := hw5.size
  go_wp2_with fail
  refine (eqIntS_same _ _ x0 _ cx0.si cy0.si (by omega)).mono ?_
  rintro e w6 ⟨rfl, hw6⟩
  replace hw6 : Ext w5 w6 := hw6.ext
  replace cx0 := cx0.ext hw6
  replace cy0 := cy0.ext hw6
  replace E := E.trans hw6
  clear cy0
  go_wp2_with fail
  go_ret
  exact ⟨rfl, E⟩
end Go.Proofs.Ytmnbdphfoonleaa
