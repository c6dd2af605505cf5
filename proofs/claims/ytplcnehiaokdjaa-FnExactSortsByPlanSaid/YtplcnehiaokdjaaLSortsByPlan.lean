/- The walk of the law FnExactSortsByPlan: out of the contracts of the program's SortsByPlan and of the reference's, the law returns true and leaves what was there. Conditions: none. -/
import Derived.Test.YtplcnehiaokdjaaHarnL
import Derived.Test.YtplcnehiaokdjaaSrtPl
namespace Go.Proofs.Ytplcnehiaokdjaa
open Go.RowKit

set_option maxHeartbeats 4000000 in
theorem law_SortsByPlan_ok (v0 : Value) (x0 : List Int) (v1 : Value) (x1 : List Int) (w : World) (s0 : SI w v0 x0) (b0 : I64s x0) (s1 : SI w v1 x1) (b1 : I64s x1) :
    Calls Try.prog 7 #[v0, v1] w fun e w' => e = .returned (.bool true) ∧ Ext w w' := by
  have E : Ext w w := Ext.refl w
  have t0 := s0
  obtain ⟨a0, c0, rfl, _⟩ := t0.elim
  by_cases g0 : 1048576 < x0.length
  · go_enter Try.func7, Try.ntmps7
    go_wp2_with fail
    go_ret
    exact ⟨rfl, E⟩
  have t1 := s1
  obtain ⟨a1, c1, rfl, _⟩ := t1.elim
  by_cases g1 : 1048576 < x1.length
  · go_enter Try.func7, Try.ntmps7
    go_wp2_with fail
    go_ret
    exact ⟨rfl, E⟩
  go_enter Try.func7, Try.ntmps7
  go_wp2_with fail
  refine (toIntS_ok _ x0 _ (s0.ext E) (by omega)).mono ?_
  rintro e w1 ⟨b_cs0, c_cs0, rfl, hb_cs0, hr_cs0, hw1⟩
  replace E := E.trans hw1
  have cs0 : OI w.heap.size w1.heap.size w1 _ x0 := OI.row hr_cs0 hb_cs0 rfl
  clear hr_cs0 hb_cs0
  have zw1 := hw1.size
  go_wp2_with fail
  refine (toIntS_ok _ x1 _ (s1.ext E) (by omega)).mono ?_
  rintro e w2 ⟨b_cs1, c_cs1, rfl, hb_cs1, hr_cs1, hw2⟩
  replace cs0 := cs0.ext hw2
  replace E := E.trans hw2
  have cs1 : OI w1.heap.size w2.heap.size w2 _ x1 := OI.row hr_cs1 hb_cs1 rfl
  clear hr_cs1 hb_cs1
  have zw2 := hw2.size
  go_wp2_with fail
  refine (spec_SortsByPlan_ok _ x0 _ x1 _ cs0.si (by omega) b0 cs1.si (by omega) b1).mono ?_
  rintro e w3 ⟨rfl, hw3⟩
  replace cs0 := cs0.ext hw3
  replace cs1 := cs1.ext hw3
  replace E := E.trans hw3
  clear cs0
  clear cs1
  go_wp2_with fail
  refine (toIntS_ok _ x0 _ (s0.ext E) (by omega)).mono ?_
  rintro e w4 ⟨b_cx0, c_cx0, rfl, hb_cx0, hr_cx0, hw4⟩
  replace E := E.trans hw4
  have cx0 : OI w3.heap.size w4.heap.size w4 _ x0 := OI.row hr_cx0 hb_cx0 rfl
  clear hr_cx0 hb_cx0
  have zw4 := hw4.size
  go_wp2_with fail
  refine (toIntS_ok _ x1 _ (s1.ext E) (by omega)).mono ?_
  rintro e w5 ⟨b_cx1, c_cx1, rfl, hb_cx1, hr_cx1, hw5⟩
  replace cx0 := cx0.ext hw5
  replace E := E.trans hw5
  have cx1 : OI w4.heap.size w5.heap.size w5 _ x1 := OI.row hr_cx1 hb_cx1 rfl
  clear hr_cx1 hb_cx1
  have zw5 := hw5.size
  go_wp2_with fail
  refine (impl_SortsByPlan_ok _ x0 _ x1 _ cx0.si (by omega) b0 cx1.si (by omega) b1).mono ?_
  rintro e w6 ⟨rfl, hw6⟩
  replace cx0 := cx0.ext hw6
  replace cx1 := cx1.ext hw6
  replace E := E.trans hw6
  have ne0 : (spB x0 x1 != spB x0 x1) = false := by simp
  go_wp2_with fail
  refine (toIntS_ok _ x0 _ (s0.ext E) (by omega)).mono ?_
  rintro e w7 ⟨b_cy0, c_cy0, rfl, hb_cy0, hr_cy0, hw7⟩
  replace cx0 := cx0.ext hw7
  replace cx1 := cx1.ext hw7
  replace E := E.trans hw7
  have cy0 : OI w6.heap.size w7.heap.size w7 _ x0 := OI.row hr_cy0 hb_cy0 rfl
  clear hr_cy0 hb_cy0
  have zw7 := hw7.size
  go_wp2_with fail
  refine (eqIntS_same _ _ x0 _ cx0.si cy0.si (by omega)).mono ?_
  rintro e w8 ⟨rfl, hw8⟩
  replace hw8 : Ext w7 w8 := hw8.ext
  replace cx0 := cx0.ext hw8
  replace cx1 := cx1.ext hw8
  replace cy0 := cy0.ext hw8
  replace E := E.trans hw8
  clear cy0
  go_wp2_with fail
  refine (toIntS_ok _ x1 _ (s1.ext E) (by omega)).mono ?_
  rintro e w9 ⟨b_cy1, c_cy1, rfl, hb_cy1, hr_cy1, hw9⟩
  replace cx0 := cx0.ext hw9
  replace cx1 := cx1.ext hw9
  replace E := E.trans hw9
  have cy1 : OI w8.heap.size w9.heap.size w9 _ x1 := OI.row hr_cy1 hb_cy1 rfl
  clear hr_cy1 hb_cy1
  have zw9 := hw9.size
  go_wp2_with fail
  refine (eqIntS_same _ _ x1 _ cx1.si cy1.si (by omega)).mono ?_
  rintro e w10 ⟨rfl, hw10⟩
  replace hw10 : Ext w9 w10 := hw10.ext
  replace cx0 := cx0.ext hw10
  replace cx1 := cx1.ext hw10
  replace cy1 := cy1.ext hw10
  replace E := E.trans hw10
  clear cy1
  go_wp2_with fail
  go_ret
  exact ⟨rfl, E⟩
end Go.Proofs.Ytplcnehiaokdjaa
