/- The walk of the law FnExactIsReduced: out of the contracts of the program's IsReduced and of the reference's, the law returns true and leaves what was there. Conditions: none. -/
import Derived.Test.YtmnbdphfoonleaaHarnL
import Derived.Test.YtmnbdphfoonleaaRed
namespace Go.Proofs.Ytmnbdphfoonleaa
open Go.RowKit

set_option maxHeartbeats 4000000 in
theorem law_IsReduced_ok (x0 : Int) (v1 : Value) (x1 : List Int) (w : World) (b0 : I64 x0) (s1 : SI w v1 x1) (b1 : I64s x1) :
    Calls Try.prog 6 #[.int .i64 x0, v1] w fun e w' => e = .returned (.bool true) ∧ Ext w w' := by
  have E : Ext w w := Ext.refl w
  have t1 := s1
  obtain ⟨a1, c1, rfl, _⟩ := t1.elim
  by_cases g1 : 1048576 < x1.length
  · go_enter Try.func6, Try.ntmps6
    go_wp2_with fail
    go_ret
    exact ⟨rfl, E⟩
  go_enter Try.func6, Try.ntmps6
  go_wp2_with fail
  refine (toIntS_ok _ x1 _ (s1.ext E) (by omega)).mono ?_
  rintro e w1 ⟨b_cs1, c_cs1, rfl, hb_cs1, hr_cs1, hw1⟩
  replace E := E.trans hw1
  have cs1 : OI w.heap.size w1.heap.size w1 _ x1 := OI.row hr_cs1 hb_cs1 rfl
  clear hr_cs1 hb_cs1
  have zw1 := hw1.size
  go_wp2_with fail
  refine (spec_IsReduced_ok x0 _ x1 _ b0 cs1.si (by omega) b1).mono ?_
  rintro e w2 ⟨rfl, hw2⟩
  replace cs1 := cs1.ext hw2
  replace E := E.trans hw2
  clear cs1
  go_wp2_with fail
  refine (toIntS_ok _ x1 _ (s1.ext E) (by omega)).mono ?_
  rintro e w3 ⟨b_cx1, c_cx1, rfl, hb_cx1, hr_cx1, hw3⟩
  replace E := E.trans hw3
  have cx1 : OI w2.heap.size w3.heap.size w3 _ x1 := OI.row hr_cx1 hb_cx1 rfl
  clear hr_cx1 hb_cx1
  have zw3 := hw3.size
  go_wp2_with fail
  refine (impl_IsReduced_ok x0 _ x1 _ b0 cx1.si (by omega) b1).mono ?_
  rintro e w4 ⟨rfl, hw4⟩
  replace cx1 := cx1.ext hw4
  replace E := E.trans hw4
  have ne0 : (irB x0 x1 != irB x0 x1) = false := by simp
  go_wp2_with fail
  refine (toIntS_ok _ x1 _ (s1.ext E) (by omega)).mono ?_
  rintro e w5 ⟨b_cy1, c_cy1, rfl, hb_cy1, hr_cy1, hw5⟩
  replace cx1 := cx1.ext hw5
  replace E := E.trans hw5
  have cy1 : OI w4.heap.size w5.heap.size w5 _ x1 := OI.row hr_cy1 hb_cy1 rfl
  clear hr_cy1 hb_cy1
  have zw5 := hw5.size
  go_wp2_with fail
  refine (eqIntS_same _ _ x1 _ cx1.si cy1.si (by omega)).mono ?_
  rintro e w6 ⟨rfl, hw6⟩
  replace hw6 : Ext w5 w6 := hw6.ext
  replace cx1 := cx1.ext hw6
  replace cy1 := cy1.ext hw6
  replace E := E.trans hw6
  clear cy1
  go_wp2_with fail
  go_ret
  exact ⟨rfl, E⟩
end Go.Proofs.Ytmnbdphfoonleaa
