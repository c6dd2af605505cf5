/- The walk of the law FnExactRunNetwork: out of the contracts of the program's RunNetwork and of the reference's, the law returns true and leaves what was there. Conditions: none. -/
import Derived.Test.YtapcnhbgoolcgaaHarnL
import Derived.Test.YtapcnhbgoolcgaaRun
import Derived.Test.YtapcnhbgoolcgaaOpenL
namespace Go.Proofs.Ytapcnhbgoolcgaa
open Go.RowKit

set_option maxHeartbeats 4000000 in
theorem law_RunNetwork_ok (v0 : Value) (x0 : List (List Int)) (v1 : Value) (x1 : List Int) (w : World) (s0 : SII w v0 x0) (_b0 : I64ss x0) (s1 : SI w v1 x1) (b1 : I64s x1) :
    Calls Try.prog 7 #[v0, v1] w fun e w' => e = .returned (.bool true) ∧ Ext w w' := by
  have E : Ext w w := Ext.refl w
  have t1 := s1
  obtain ⟨a1, c1, rfl, _⟩ := t1.elim
  by_cases g1 : 1048576 < x1.length
  · go_enter Try.func7, Try.ntmps7
    go_wp2_with fail
    go_ret
    exact ⟨rfl, E⟩
  have t0 := s0
  obtain ⟨a0, c0, rfl, _⟩ := t0.elim
  go_enter Try.func7, Try.ntmps7
  go_wp2_with fail
  refine (szIntSS_ok _ x0 _ s0).mono ?_
  rintro e w1 ⟨⟨r0, rfl, hr0⟩, hw1⟩
  replace hw1 : Ext w w1 := hw1.ext
  replace E := E.trans hw1
  have zw1 := hw1.size
  by_cases gr0 : r0 < 0
  · go_wp2_with fail
    go_ret
    exact ⟨rfl, E⟩
  replace hr0 := hr0 (by omega)
  have sm0 : small x0 := fun xs hxs => by have := le_sumLen hxs; omega
  go_wp2_with fail
  refine (toIntSS_ok _ x0 _ (s0.ext E) (by omega) sm0).mono ?_
  rintro e w2 ⟨v_cs0, rfl, cs0, hw2⟩
  replace E := E.trans hw2
  have zw2 := hw2.size
  go_wp2_with fail
  refine (toIntS_ok _ x1 _ (s1.ext E) (by omega)).mono ?_
  rintro e w3 ⟨b_cs1, c_cs1, rfl, hb_cs1, hr_cs1, hw3⟩
  replace cs0 := cs0.ext hw3
  replace E := E.trans hw3
  have cs1 : OI w2.heap.size w3.heap.size w3 _ x1 := OI.row hr_cs1 hb_cs1 rfl
  clear hr_cs1 hb_cs1
  have zw3 := hw3.size
  go_wp2_with fail
  refine (spec_RunNetwork_ok _ x0 _ x1 _ cs0.sii (by omega) cs1.si (by omega) b1).mono ?_
  rintro e w4 ⟨v_ow, rfl, ow, hw4⟩
  replace cs0 := cs0.ext hw4
  replace cs1 := cs1.ext hw4
  replace E := E.trans hw4
  have zw4 := hw4.size
  clear cs0
  clear cs1
  go_wp2_with fail
  refine (toIntSS_ok _ x0 _ (s0.ext E) (by omega) sm0).mono ?_
  rintro e w5 ⟨v_cx0, rfl, cx0, hw5⟩
  replace ow := ow.ext hw5
  replace E := E.trans hw5
  have zw5 := hw5.size
  go_wp2_with fail
  refine (toIntS_ok _ x1 _ (s1.ext E) (by omega)).mono ?_
  rintro e w6 ⟨b_cx1, c_cx1, rfl, hb_cx1, hr_cx1, hw6⟩
  replace ow := ow.ext hw6
  replace cx0 := cx0.ext hw6
  replace E := E.trans hw6
  have cx1 : OI w5.heap.size w6.heap.size w6 _ x1 := OI.row hr_cx1 hb_cx1 rfl
  clear hr_cx1 hb_cx1
  have zw6 := hw6.size
  go_wp2_with fail
  refine (impl_RunNetwork_ok _ x0 _ x1 _ cx0.sii (by omega) cx1.si (by omega) b1).mono ?_
  rintro e w7 ⟨v_og, rfl, og, hw7⟩
  replace ow := ow.ext hw7
  replace cx0 := cx0.ext hw7
  replace cx1 := cx1.ext hw7
  replace E := E.trans hw7
  have zw7 := hw7.size
  have ne1 : (rnB x0 x1 != rnB x0 x1) = false := by simp
  have lb := bound_RunNetwork x0 x1 (by omega)
  go_wp2_with fail
  refine (eqIntS_same _ _ (rnL x0 x1) _ og.si ow.si (by omega)).mono ?_
  rintro e w8 ⟨rfl, hw8⟩
  replace hw8 : Ext w7 w8 := hw8.ext
  replace ow := ow.ext hw8
  replace cx0 := cx0.ext hw8
  replace cx1 := cx1.ext hw8
  replace og := og.ext hw8
  replace E := E.trans hw8
  go_wp2_with fail
  refine (toIntSS_ok _ x0 _ (s0.ext E) (by omega) sm0).mono ?_
  rintro e w9 ⟨v_cy0, rfl, cy0, hw9⟩
  replace ow := ow.ext hw9
  replace cx0 := cx0.ext hw9
  replace cx1 := cx1.ext hw9
  replace og := og.ext hw9
  replace E := E.trans hw9
  have zw9 := hw9.size
  go_wp2_with fail
  refine (eqIntSS_same _ _ x0 _ cx0.sii cy0.sii (by omega) sm0).mono ?_
  rintro e w10 ⟨rfl, hw10⟩
  replace hw10 : Ext w9 w10 := hw10.ext
  replace ow := ow.ext hw10
  replace cx0 := cx0.ext hw10
  replace cx1 := cx1.ext hw10
  replace og := og.ext hw10
  replace cy0 := cy0.ext hw10
  replace E := E.trans hw10
  clear cy0
  go_wp2_with fail
  refine (toIntS_ok _ x1 _ (s1.ext E) (by omega)).mono ?_
  rintro e w11 ⟨b_cy1, c_cy1, rfl, hb_cy1, hr_cy1, hw11⟩
  replace ow := ow.ext hw11
  replace cx0 := cx0.ext hw11
  replace cx1 := cx1.ext hw11
  replace og := og.ext hw11
  replace E := E.trans hw11
  have cy1 : OI w10.heap.size w11.heap.size w11 _ x1 := OI.row hr_cy1 hb_cy1 rfl
  clear hr_cy1 hb_cy1
  have zw11 := hw11.size
  go_wp2_with fail
  refine (eqIntS_same _ _ x1 _ cx1.si cy1.si (by omega)).mono ?_
  rintro e w12 ⟨rfl, hw12⟩
  replace hw12 : Ext w11 w12 := hw12.ext
  replace ow := ow.ext hw12
  replace cx0 := cx0.ext hw12
  replace cx1 := cx1.ext hw12
  replace og := og.ext hw12
  replace cy1 := cy1.ext hw12
  replace E := E.trans hw12
  clear cy1
  have smx0 : x0.length ≤ 1000000000 ∧ small x0 ∧ sumLen x0 ≤ 1000000000 := ⟨by omega, sm0, by omega⟩
  go_wp2_with fail
  refine (markIntSS_ok _ _ _ (x0) _ _ cx0 smx0.1 smx0.2.1 smx0.2.2 (by omega) (by omega)).mono ?_
  rintro e w13 ⟨rfl, cx0_, hw13⟩
  replace ow := ow.upd hw13 (fun b _ h3 h4 h5 => by omega)
  replace cx1 := cx1.upd hw13 (fun b _ h3 h4 h5 => by omega)
  replace og := og.upd hw13 (fun b _ h3 h4 h5 => by omega)
  replace cx0 := cx0_
  replace E := E.upd hw13 (fun b h5 => by have := E.size; omega)
  go_wp2_with fail
  refine (markIntS_ok _ _ _ (x1) _ _ cx1 (by omega) (by omega) (by omega)).mono ?_
  rintro e w14 ⟨rfl, cx1_, hw14⟩
  replace hw14 := hw14.own (fun b hb => cx1.own hb)
  replace ow := ow.upd hw14 (fun b _ h3 h4 h5 => by omega)
  replace cx0 := cx0.upd hw14 (fun b  h3 h4 h5 => by omega)
  replace og := og.upd hw14 (fun b _ h3 h4 h5 => by omega)
  replace cx1 := cx1_
  replace E := E.upd hw14 (fun b h5 => by have := E.size; omega)
  clear cx0
  clear cx1
  go_wp2_with fail
  refine (eqIntS_same _ _ (rnL x0 x1) _ og.si ow.si (by omega)).mono ?_
  rintro e w15 ⟨rfl, hw15⟩
  replace hw15 : Ext w14 w15 := hw15.ext
  replace ow := ow.ext hw15
  replace og := og.ext hw15
  replace E := E.trans hw15
  go_wp2_with fail
  refine (markIntS_ok _ _ _ (rnL x0 x1) _ _ og (by omega) (by omega) (by omega)).mono ?_
  rintro e w16 ⟨rfl, og_, hw16⟩
  replace hw16 := hw16.own (fun b hb => og.own hb)
  replace ow := ow.upd hw16 (fun b _ h3 h4 h5 => by omega)
  replace og := og_
  replace E := E.upd hw16 (fun b h5 => by have := E.size; omega)
  have ne2 : (((1 : Int) + ((rnL x0 x1).length : Int)) != (1 + ((rnL x0 x1).length : Int))) = false := by simp
  go_wp2_with fail
  refine (heldIntS_ok _ (rnL x0 x1).length _ _ og.si (by omega) (by omega) (by omega)).mono ?_
  rintro e w17 ⟨rfl, hw17⟩
  replace hw17 : Ext w16 w17 := hw17.ext
  replace ow := ow.ext hw17
  replace og := og.ext hw17
  replace E := E.trans hw17
  go_wp2_with fail
  refine (toIntSS_ok _ x0 _ (s0.ext E) (by omega) sm0).mono ?_
  rintro e w18 ⟨v_cz0, rfl, cz0, hw18⟩
  replace ow := ow.ext hw18
  replace og := og.ext hw18
  replace E := E.trans hw18
  have zw18 := hw18.size
  go_wp2_with fail
  refine (toIntS_ok _ x1 _ (s1.ext E) (by omega)).mono ?_
  rintro e w19 ⟨b_cz1, c_cz1, rfl, hb_cz1, hr_cz1, hw19⟩
  replace ow := ow.ext hw19
  replace og := og.ext hw19
  replace cz0 := cz0.ext hw19
  replace E := E.trans hw19
  have cz1 : OI w18.heap.size w19.heap.size w19 _ x1 := OI.row hr_cz1 hb_cz1 rfl
  clear hr_cz1 hb_cz1
  have zw19 := hw19.size
  go_wp2_with fail
  refine (impl_RunNetwork_ok _ x0 _ x1 _ cz0.sii (by omega) cz1.si (by omega) b1).mono ?_
  rintro e w20 ⟨v_oh, rfl, oh, hw20⟩
  replace ow := ow.ext hw20
  replace og := og.ext hw20
  replace cz0 := cz0.ext hw20
  replace cz1 := cz1.ext hw20
  replace E := E.trans hw20
  have zw20 := hw20.size
  clear cz0
  clear cz1
  go_wp2_with fail
  refine (eqIntS_same _ _ (rnL x0 x1) _ oh.si ow.si (by omega)).mono ?_
  rintro e w21 ⟨rfl, hw21⟩
  replace hw21 : Ext w20 w21 := hw21.ext
  replace ow := ow.ext hw21
  replace og := og.ext hw21
  replace oh := oh.ext hw21
  replace E := E.trans hw21
  go_wp2_with fail
  refine (heldIntS_ok _ (rnL x0 x1).length _ _ og.si (by omega) (by omega) (by omega)).mono ?_
  rintro e w22 ⟨rfl, hw22⟩
  replace hw22 : Ext w21 w22 := hw22.ext
  replace ow := ow.ext hw22
  replace og := og.ext hw22
  replace oh := oh.ext hw22
  replace E := E.trans hw22
  go_wp2_with fail
  go_ret
  exact ⟨rfl, E⟩
end Go.Proofs.Ytapcnhbgoolcgaa
