/- The walk of the law FnExactRunPlan: out of the contracts of the program's RunPlan and of the reference's, the law returns true and leaves what was there. Conditions: none. -/
import Derived.Test.YtplcnehiaokdjaaHarnL
import Derived.Test.YtplcnehiaokdjaaRunPs
namespace Go.Proofs.Ytplcnehiaokdjaa
open Go.RowKit

set_option maxHeartbeats 4000000 in
theorem law_RunPlan_ok (v0 : Value) (x0 : List Int) (v1 : Value) (x1 : List Int) (w : World) (s0 : SI w v0 x0) (b0 : I64s x0) (s1 : SI w v1 x1) (b1 : I64s x1) :
    Calls Try.prog 6 #[v0, v1] w fun e w' => e = .returned (.bool true) ∧ Ext w w' := by
  have E : Ext w w := Ext.refl w
  have t0 := s0
  obtain ⟨a0, c0, rfl, _⟩ := t0.elim
  by_cases g0 : 1048576 < x0.length
  · go_enter Try.func6, Try.ntmps6
    go_wp2_with fail
    go_ret
    exact ⟨rfl, E⟩
  have t1 := s1
  obtain ⟨a1, c1, rfl, _⟩ := t1.elim
  by_cases g1 : 1048576 < x1.length
  · go_enter Try.func6, Try.ntmps6
    go_wp2_with fail
    go_ret
    exact ⟨rfl, E⟩
  go_enter Try.func6, Try.ntmps6
  go_wp2_with fail
  refine (toIntS_ok _ x0 _ (s0.ext E) (by omega)).mono ?_
  rintro e w1 ⟨b_cs0, c_cs0, rfl, hb_cs0, hr_cs0, hw1⟩
  replace E := E.trans hw1
  have cs0 : OI w.heap.size w1.heap.size w1 _ x0 := OI.row hr_cs0 hb_cs0 rfl
  clear hr_cs0 hb_cs0
  have zw1 := hw1.size
  go_wp2_with fail
  refine (toIntS_ok _ x1 _ (s1.ext E) (by omega)).mono ?_
  rintro e w2 ⟨b_cs1, c_cs1, rfl, hb_cs1, hr_cs1, hw2⟩
  replace cs0 := cs0.ext hw2
  replace E := E.trans hw2
  have cs1 : OI w1.heap.size w2.heap.size w2 _ x1 := OI.row hr_cs1 hb_cs1 rfl
  clear hr_cs1 hb_cs1
  have zw2 := hw2.size
  go_wp2_with fail
  refine (spec_RunPlan_ok _ x0 _ x1 _ cs0.si (by omega) b0 cs1.si (by omega) b1).mono ?_
  rintro e w3 ⟨v_ow, rfl, ow, hw3⟩
  replace cs0 := cs0.ext hw3
  replace cs1 := cs1.ext hw3
  replace E := E.trans hw3
  have zw3 := hw3.size
  clear cs0
  clear cs1
  go_wp2_with fail
  refine (toIntS_ok _ x0 _ (s0.ext E) (by omega)).mono ?_
  rintro e w4 ⟨b_cx0, c_cx0, rfl, hb_cx0, hr_cx0, hw4⟩
  replace ow := ow.ext hw4
  replace E := E.trans hw4
  have cx0 : OI w3.heap.size w4.heap.size w4 _ x0 := OI.row hr_cx0 hb_cx0 rfl
  clear hr_cx0 hb_cx0
  have zw4 := hw4.size
  go_wp2_with fail
  refine (toIntS_ok _ x1 _ (s1.ext E) (by omega)).mono ?_
  rintro e w5 ⟨b_cx1, c_cx1, rfl, hb_cx1, hr_cx1, hw5⟩
  replace ow := ow.ext hw5
  replace cx0 := cx0.ext hw5
  replace E := E.trans hw5
  have cx1 : OI w4.heap.size w5.heap.size w5 _ x1 := OI.row hr_cx1 hb_cx1 rfl
  clear hr_cx1 hb_cx1
  have zw5 := hw5.size
  go_wp2_with fail
  refine (impl_RunPlan_ok _ x0 _ x1 _ cx0.si (by omega) b0 cx1.si (by omega) b1).mono ?_
  rintro e w6 ⟨v_og, rfl, og, hw6⟩
  replace ow := ow.ext hw6
  replace cx0 := cx0.ext hw6
  replace cx1 := cx1.ext hw6
  replace E := E.trans hw6
  have zw6 := hw6.size
  have ne1 : (rpB x0 x1 != rpB x0 x1) = false := by simp
  have lb := bound_RunPlan x0 x1 (by omega) (by omega)
  go_wp2_with fail
  refine (eqIntS_same _ _ (rpL x0 x1) _ og.si ow.si (by omega)).mono ?_
  rintro e w7 ⟨rfl, hw7⟩
  replace hw7 : Ext w6 w7 := hw7.ext
  replace ow := ow.ext hw7
  replace cx0 := cx0.ext hw7
  replace cx1 := cx1.ext hw7
  replace og := og.ext hw7
  replace E := E.trans hw7
  go_wp2_with fail
  refine (toIntS_ok _ x0 _ (s0.ext E) (by omega)).mono ?_
  rintro e w8 ⟨b_cy0, c_cy0, rfl, hb_cy0, hr_cy0, hw8⟩
  replace ow := ow.ext hw8
  replace cx0 := cx0.ext hw8
  replace cx1 := cx1.ext hw8
  replace og := og.ext hw8
  replace E := E.trans hw8
  have cy0 : OI w7.heap.size w8.heap.size w8 _ x0 := OI.row hr_cy0 hb_cy0 rfl
  clear hr_cy0 hb_cy0
  have zw8 := hw8.size
  go_wp2_with fail
  refine (eqIntS_same _ _ x0 _ cx0.si cy0.si (by omega)).mono ?_
  rintro e w9 ⟨rfl, hw9⟩
  replace hw9 : Ext w8 w9 := hw9.ext
  replace ow := ow.ext hw9
  replace cx0 := cx0.ext hw9
  replace cx1 := cx1.ext hw9
  replace og := og.ext hw9
  replace cy0 := cy0.ext hw9
  replace E := E.trans hw9
  clear cy0
  go_wp2_with fail
  refine (toIntS_ok _ x1 _ (s1.ext E) (by omega)).mono ?_
  rintro e w10 ⟨b_cy1, c_cy1, rfl, hb_cy1, hr_cy1, hw10⟩
  replace ow := ow.ext hw10
  replace cx0 := cx0.ext hw10
  replace cx1 := cx1.ext hw10
  replace og := og.ext hw10
  replace E := E.trans hw10
  have cy1 : OI w9.heap.size w10.heap.size w10 _ x1 := OI.row hr_cy1 hb_cy1 rfl
  clear hr_cy1 hb_cy1
  have zw10 := hw10.size
  go_wp2_with fail
  refine (eqIntS_same _ _ x1 _ cx1.si cy1.si (by omega)).mono ?_
  rintro e w11 ⟨rfl, hw11⟩
  replace hw11 : Ext w10 w11 := hw11.ext
  replace ow := ow.ext hw11
  replace cx0 := cx0.ext hw11
  replace cx1 := cx1.ext hw11
  replace og := og.ext hw11
  replace cy1 := cy1.ext hw11
  replace E := E.trans hw11
  clear cy1
  go_wp2_with fail
  refine (markIntS_ok _ _ _ (x0) _ _ cx0 (by omega) (by omega) (by omega)).mono ?_
  rintro e w12 ⟨rfl, cx0_, hw12⟩
  replace hw12 := hw12.own (fun b hb => cx0.own hb)
  replace ow := ow.upd hw12 (fun b _ h3 h4 h5 => by omega)
  replace cx1 := cx1.upd hw12 (fun b _ h3 h4 h5 => by omega)
  replace og := og.upd hw12 (fun b _ h3 h4 h5 => by omega)
  replace cx0 := cx0_
  replace E := E.upd hw12 (fun b h5 => by have := E.size; omega)
  go_wp2_with fail
  refine (markIntS_ok _ _ _ (x1) _ _ cx1 (by omega) (by omega) (by omega)).mono ?_
  rintro e w13 ⟨rfl, cx1_, hw13⟩
  replace hw13 := hw13.own (fun b hb => cx1.own hb)
  replace ow := ow.upd hw13 (fun b _ h3 h4 h5 => by omega)
  replace cx0 := cx0.upd hw13 (fun b _ h3 h4 h5 => by omega)
  replace og := og.upd hw13 (fun b _ h3 h4 h5 => by omega)
  replace cx1 := cx1_
  replace E := E.upd hw13 (fun b h5 => by have := E.size; omega)
  clear cx0
  clear cx1
  go_wp2_with fail
  refine (eqIntS_same _ _ (rpL x0 x1) _ og.si ow.si (by omega)).mono ?_
  rintro e w14 ⟨rfl, hw14⟩
  replace hw14 : Ext w13 w14 := hw14.ext
  replace ow := ow.ext hw14
  replace og := og.ext hw14
  replace E := E.trans hw14
  go_wp2_with fail
  refine (markIntS_ok _ _ _ (rpL x0 x1) _ _ og (by omega) (by omega) (by omega)).mono ?_
  rintro e w15 ⟨rfl, og_, hw15⟩
  replace hw15 := hw15.own (fun b hb => og.own hb)
  replace ow := ow.upd hw15 (fun b _ h3 h4 h5 => by omega)
  replace og := og_
  replace E := E.upd hw15 (fun b h5 => by have := E.size; omega)
  have ne2 : (((1 : Int) + ((rpL x0 x1).length : Int)) != (1 + ((rpL x0 x1).length : Int))) = false := by simp
  go_wp2_with fail
  refine (heldIntS_ok _ (rpL x0 x1).length _ _ og.si (by omega) (by omega) (by omega)).mono ?_
  rintro e w16 ⟨rfl, hw16⟩
  replace hw16 : Ext w15 w16 := hw16.ext
  replace ow := ow.ext hw16
  replace og := og.ext hw16
  replace E := E.trans hw16
  go_wp2_with fail
  refine (toIntS_ok _ x0 _ (s0.ext E) (by omega)).mono ?_
  rintro e w17 ⟨b_cz0, c_cz0, rfl, hb_cz0, hr_cz0, hw17⟩
  replace ow := ow.ext hw17
  replace og := og.ext hw17
  replace E := E.trans hw17
  have cz0 : OI w16.heap.size w17.heap.size w17 _ x0 := OI.row hr_cz0 hb_cz0 rfl
  clear hr_cz0 hb_cz0
  have zw17 := hw17.size
  go_wp2_with fail
  refine (toIntS_ok _ x1 _ (s1.ext E) (by omega)).mono ?_
  rintro e w18 ⟨b_cz1, c_cz1, rfl, hb_cz1, hr_cz1, hw18⟩
  replace ow := ow.ext hw18
  replace og := og.ext hw18
  replace cz0 := cz0.ext hw18
  replace E := E.trans hw18
  have cz1 : OI w17.heap.size w18.heap.size w18 _ x1 := OI.row hr_cz1 hb_cz1 rfl
  clear hr_cz1 hb_cz1
  have zw18 := hw18.size
  go_wp2_with fail
  refine (impl_RunPlan_ok _ x0 _ x1 _ cz0.si (by omega) b0 cz1.si (by omega) b1).mono ?_
  rintro e w19 ⟨v_oh, rfl, oh, hw19⟩
  replace ow := ow.ext hw19
  replace og := og.ext hw19
  replace cz0 := cz0.ext hw19
  replace cz1 := cz1.ext hw19
  replace E := E.trans hw19
  have zw19 := hw19.size
  clear cz0
  clear cz1
  go_wp2_with fail
  refine (eqIntS_same _ _ (rpL x0 x1) _ oh.si ow.si (by omega)).mono ?_
  rintro e w20 ⟨rfl, hw20⟩
  replace hw20 : Ext w19 w20 := hw20.ext
  replace ow := ow.ext hw20
  replace og := og.ext hw20
  replace oh := oh.ext hw20
  replace E := E.trans hw20
  go_wp2_with fail
  refine (heldIntS_ok _ (rpL x0 x1).length _ _ og.si (by omega) (by omega) (by omega)).mono ?_
  rintro e w21 ⟨rfl, hw21⟩
  replace hw21 : Ext w20 w21 := hw21.ext
  replace ow := ow.ext hw21
  replace og := og.ext hw21
  replace oh := oh.ext hw21
  replace E := E.trans hw21
  go_wp2_with fail
  go_ret
  exact ⟨rfl, E⟩
end Go.Proofs.Ytplcnehiaokdjaa
