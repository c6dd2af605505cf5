/- The walk of the law FnExactSubwordBelow: out of the contracts of the program's SubwordBelow and of the reference's, the law returns true and leaves what was there. Conditions: none. -/
import Derived.Test.YtmnbdphfoonleaaHarnL
import Derived.Test.YtmnbdphfoonleaaSub
namespace Go.Proofs.Ytmnbdphfoonleaa
open Go.RowKit

set_option maxHeartbeats 4000000 in
theorem law_SubwordBelow_ok (x0 : Int) (v1 : Value) (x1 : List Int) (v2 : Value) (x2 : List Int) (w : World) (b0 : I64 x0) (s1 : SI w v1 x1) (b1 : I64s x1) (s2 : SI w v2 x2) (b2 : I64s x2) :
    Calls Try.prog 16 #[.int .i64 x0, v1, v2] w fun e w' => e = .returned (.bool true) ∧ Ext w w' := by
  have E : Ext w w := Ext.refl w
  have t1 := s1
  obtain ⟨a1, c1, rfl, _⟩ := t1.elim
  by_cases g1 : 1048576 < x1.length
  · go_enter Try.func16, Try.ntmps16
    go_wp2_with fail
    go_ret
    exact ⟨rfl, E⟩
  have t2 := s2
  obtain ⟨a2, c2, rfl, _⟩ := t2.elim
  by_cases g2 : 1048576 < x2.length
  · go_enter Try.func16, Try.ntmps16
    go_wp2_with fail
    go_ret
    exact ⟨rfl, E⟩
  go_enter Try.func16, Try.ntmps16
  go_wp2_with fail
  refine (toIntS_ok _ x1 _ (s1.ext E) (by omega)).mono ?_
  rintro e w1 ⟨b_cs1, c_cs1, rfl, hb_cs1, hr_cs1, hw1⟩
  replace E := E.trans hw1
  have cs1 : OI w.heap.size w1.heap.size w1 _ x1 := OI.row hr_cs1 hb_cs1 rfl
  clear hr_cs1 hb_cs1
  have zw1 := hw1.size
  go_wp2_with fail
  refine (toIntS_ok _ x2 _ (s2.ext E) (by omega)).mono ?_
  rintro e w2 ⟨b_cs2, c_cs2, rfl, hb_cs2, hr_cs2, hw2⟩
  replace cs1 := cs1.ext hw2
  replace E := E.trans hw2
  have cs2 : OI w1.heap.size w2.heap.size w2 _ x2 := OI.row hr_cs2 hb_cs2 rfl
  clear hr_cs2 hb_cs2
  have zw2 := hw2.size
  go_wp2_with fail
  refine (spec_SubwordBelow_ok x0 _ x1 _ x2 _ b0 cs1.si (by omega) b1 cs2.si (by omega) b2).mono ?_
  rintro e w3 ⟨rfl, hw3⟩
  replace cs1 := cs1.ext hw3
  replace cs2 := cs2.ext hw3
  replace E := E.trans hw3
  clear cs1
  clear cs2
  go_wp2_with fail
  refine (toIntS_ok _ x1 _ (s1.ext E) (by omega)).mono ?_
  rintro e w4 ⟨b_cx1, c_cx1, rfl, hb_cx1, hr_cx1, hw4⟩
  replace E := E.trans hw4
  have cx1 : OI w3.heap.size w4.heap.size w4 _ x1 := OI.row hr_cx1 hb_cx1 rfl
  clear hr_cx1 hb_cx1
  have zw4 := hw4.size
  go_wp2_with fail
  refine (toIntS_ok _ x2 _ (s2.ext E) (by omega)).mono ?_
  rintro e w5 ⟨b_cx2, c_cx2, rfl, hb_cx2, hr_cx2, hw5⟩
  replace cx1 := cx1.ext hw5
  replace E := E.trans hw5
  have cx2 : OI w4.heap.size w5.heap.size w5 _ x2 := OI.row hr_cx2 hb_cx2 rfl
  clear hr_cx2 hb_cx2
  have zw5 := hw5.size
  go_wp2_with fail
  refine (impl_SubwordBelow_ok x0 _ x1 _ x2 _ b0 cx1.si (by omega) b1 cx2.si (by omega) b2).mono ?_
  rintro e w6 ⟨rfl, hw6⟩
  replace cx1 := cx1.ext hw6
  replace cx2 := cx2.ext hw6
  replace E := E.trans hw6
  have ne0 : (subB x0 x1 x2 != subB x0 x1 x2) = false := by simp
  go_wp2_with fail
  refine (toIntS_ok _ x1 _ (s1.ext E) (by omega)).mono ?_
  rintro e w7 ⟨b_cy1, c_cy1, rfl, hb_cy1, hr_cy1, hw7⟩
  replace cx1 := cx1.ext hw7
  replace cx2 := cx2.ext hw7
  replace E := E.trans hw7
  have cy1 : OI w6.heap.size w7.heap.size w7 _ x1 := OI.row hr_cy1 hb_cy1 rfl
  clear hr_cy1 hb_cy1
  have zw7 := hw7.size
  go_wp2_with fail
  refine (eqIntS_same _ _ x1 _ cx1.si cy1.si (by omega)).mono ?_
  rintro e w8 ⟨rfl, hw8⟩
  replace hw8 : Ext w7 w8 := hw8.ext
  replace cx1 := cx1.ext hw8
  replace cx2 := cx2.ext hw8
  replace cy1 := cy1.ext hw8
  replace E := E.trans hw8
  clear cy1
  go_wp2_with fail
  refine (toIntS_ok _ x2 _ (s2.ext E) (by omega)).mono ?_
  rintro e w9 ⟨b_cy2, c_cy2, rfl, hb_cy2, hr_cy2, hw9⟩
  replace cx1 := cx1.ext hw9
  replace cx2 := cx2.ext hw9
  replace E := E.trans hw9
  have cy2 : OI w8.heap.size w9.heap.size w9 _ x2 := OI.row hr_cy2 hb_cy2 rfl
  clear hr_cy2 hb_cy2
  have zw9 := hw9.size
  go_wp2_with fail
  refine (eqIntS_same _ _ x2 _ cx2.si cy2.si (by omega)).mono ?_
  rintro e w10 ⟨rfl, hw10⟩
  replace hw10 : Ext w9 w10 := hw10.ext
  replace cx1 := cx1.ext hw10
  replace cx2 := cx2.ext hw10
  replace cy2 := cy2.ext hw10
  replace E := E.trans hw10
  clear cy2
  go_wp2_with fail
  go_ret
  exact ⟨rfl, E⟩
end Go.Proofs.Ytmnbdphfoonleaa
