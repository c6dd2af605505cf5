/- The walk of the law FnExactIdleGates: out of the contracts of the program's IdleGates and of the reference's, the law returns true and leaves what was there. Conditions: none. -/
import Derived.Test.YtapcnhbgoolcgaaHarnL
import Derived.Test.YtapcnhbgoolcgaaIdle
import Derived.Test.YtapcnhbgoolcgaaOpenL
namespace Go.Proofs.Ytapcnhbgoolcgaa
open Go.RowKit

set_option maxHeartbeats 4000000 in
theorem law_IdleGates_ok (x0 : Int) (v1 : Value) (x1 : List (List Int)) (w : World) (b0 : I64 x0) (s1 : SII w v1 x1) (_b1 : I64ss x1) :
    Calls Try.prog 10 #[.int .i64 x0, v1] w fun e w' => e = .returned (.bool true) ∧ Ext w w' := by
  have E : Ext w w := Ext.refl w
  have t1 := s1
  obtain ⟨a1, c1, rfl, _⟩ := t1.elim
  go_enter Try.func10, Try.ntmps10
  go_wp2_with fail
  refine (szIntSS_ok _ x1 _ s1).mono ?_
  rintro e w1 ⟨⟨r1, rfl, hr1⟩, hw1⟩
  replace hw1 : Ext w w1 := hw1.ext
  replace E := E.trans hw1
  have zw1 := hw1.size
  by_cases gr1 : r1 < 0
  · go_wp2_with fail
    go_ret
    exact ⟨rfl, E⟩
  replace hr1 := hr1 (by omega)
  have sm1 : small x1 := fun xs hxs => by have := le_sumLen hxs; omega
  go_wp2_with fail
  refine (toIntSS_ok _ x1 _ (s1.ext E) (by omega) sm1).mono ?_
  rintro e w2 ⟨v_cs1, rfl, cs1, hw2⟩
  replace E := E.trans hw2
  have zw2 := hw2.size
  go_wp2_with fail
  refine (spec_IdleGates_ok x0 _ x1 _ b0 cs1.sii (by omega)).mono ?_
  rintro e w3 ⟨v_ow, rfl, ow, hw3⟩
  replace cs1 := cs1.ext hw3
  replace E := E.trans hw3
  have zw3 := hw3.size
  clear cs1
  go_wp2_with fail
  refine (toIntSS_ok _ x1 _ (s1.ext E) (by omega) sm1).mono ?_
  rintro e w4 ⟨v_cx1, rfl, cx1, hw4⟩
  replace ow := ow.ext hw4
  replace E := E.trans hw4
  have zw4 := hw4.size
  go_wp2_with fail
  refine (impl_IdleGates_ok x0 _ x1 _ b0 cx1.sii (by omega)).mono ?_
  rintro e w5 ⟨v_og, rfl, og, hw5⟩
  replace ow := ow.ext hw5
  replace cx1 := cx1.ext hw5
  replace E := E.trans hw5
  have zw5 := hw5.size
  have lb := bound_IdleGates x0 x1
  go_wp2_with fail
  refine (eqIntS_same _ _ (idleL x0 x1) _ og.si ow.si (by omega)).mono ?_
  rintro e w6 ⟨rfl, hw6⟩
  replace hw6 : Ext w5 w6 := hw6.ext
  replace ow := ow.ext hw6
  replace cx1 := cx1.ext hw6
  replace og := og.ext hw6
  replace E := E.trans hw6
  go_wp2_with fail
  refine (toIntSS_ok _ x1 _ (s1.ext E) (by omega) sm1).mono ?_
  rintro e w7 ⟨v_cy1, rfl, cy1, hw7⟩
  replace ow := ow.ext hw7
  replace cx1 := cx1.ext hw7
  replace og := og.ext hw7
  replace E := E.trans hw7
  have zw7 := hw7.size
  go_wp2_with fail
  refine (eqIntSS_same _ _ x1 _ cx1.sii cy1.sii (by omega) sm1).mono ?_
  rintro e w8 ⟨rfl, hw8⟩
  replace hw8 : Ext w7 w8 := hw8.ext
  replace ow := ow.ext hw8
  replace cx1 := cx1.ext hw8
  replace og := og.ext hw8
  replace cy1 := cy1.ext hw8
  replace E := E.trans hw8
  clear cy1
  have smx1 : x1.length ≤ 1000000000 ∧ small x1 ∧ sumLen x1 ≤ 1000000000 := ⟨by omega, sm1, by omega⟩
  go_wp2_with fail
  refine (markIntSS_ok _ _ _ (x1) _ _ cx1 smx1.1 smx1.2.1 smx1.2.2 (by omega) (by omega)).mono ?_
  rintro e w9 ⟨rfl, cx1_, hw9⟩
  replace ow := ow.upd hw9 (fun b _ h3 h4 h5 => by omega)
  replace og := og.upd hw9 (fun b _ h3 h4 h5 => by omega)
  replace cx1 := cx1_
  replace E := E.upd hw9 (fun b h5 => by have := E.size; omega)
  clear cx1
  go_wp2_with fail
  refine (eqIntS_same _ _ (idleL x0 x1) _ og.si ow.si (by omega)).mono ?_
  rintro e w10 ⟨rfl, hw10⟩
  replace hw10 : Ext w9 w10 := hw10.ext
  replace ow := ow.ext hw10
  replace og := og.ext hw10
  replace E := E.trans hw10
  go_wp2_with fail
  refine (markIntS_ok _ _ _ (idleL x0 x1) _ _ og (by omega) (by omega) (by omega)).mono ?_
  rintro e w11 ⟨rfl, og_, hw11⟩
  replace hw11 := hw11.own (fun b hb => og.own hb)
  replace ow := ow.upd hw11 (fun b _ h3 h4 h5 => by omega)
  replace og := og_
  replace E := E.upd hw11 (fun b h5 => by have := E.size; omega)
  have ne2 : (((1 : Int) + ((idleL x0 x1).length : Int)) != (1 + ((idleL x0 x1).length : Int))) = false := by simp
  go_wp2_with fail
  refine (heldIntS_ok _ (idleL x0 x1).length _ _ og.si (by omega) (by omega) (by omega)).mono ?_
  rintro e w12 ⟨rfl, hw12⟩
  replace hw12 : Ext w11 w12 := hw12.ext
  replace ow := ow.ext hw12
  replace og := og.ext hw12
  replace E := E.trans hw12
  go_wp2_with fail
  refine (toIntSS_ok _ x1 _ (s1.ext E) (by omega) sm1).mono ?_
  rintro e w13 ⟨v_cz1, rfl, cz1, hw13⟩
  replace ow := ow.ext hw13
  replace og := og.ext hw13
  replace E := E.trans hw13
  have zw13 := hw13.size
  go_wp2_with fail
  refine (impl_IdleGates_ok x0 _ x1 _ b0 cz1.sii (by omega)).mono ?_
  rintro e w14 ⟨v_oh, rfl, oh, hw14⟩
  replace ow := ow.ext hw14
  replace og := og.ext hw14
  replace cz1 := cz1.ext hw14
  replace E := E.trans hw14
  have zw14 := hw14.size
  clear cz1
  go_wp2_with fail
  refine (eqIntS_same _ _ (idleL x0 x1) _ oh.si ow.si (by omega)).mono ?_
  rintro e w15 ⟨rfl, hw15⟩
  replace hw15 : Ext w14 w15 := hw15.ext
  replace ow := ow.ext hw15
  replace og := og.ext hw15
  replace oh := oh.ext hw15
  replace E := E.trans hw15
  go_wp2_with fail
  refine (heldIntS_ok _ (idleL x0 x1).length _ _ og.si (by omega) (by omega) (by omega)).mono ?_
  rintro e w16 ⟨rfl, hw16⟩
  replace hw16 : Ext w15 w16 := hw16.ext
  replace ow := ow.ext hw16
  replace og := og.ext hw16
  replace oh := oh.ext hw16
  replace E := E.trans hw16
  go_wp2_with fail
  go_ret
  exact ⟨rfl, E⟩
end Go.Proofs.Ytapcnhbgoolcgaa
