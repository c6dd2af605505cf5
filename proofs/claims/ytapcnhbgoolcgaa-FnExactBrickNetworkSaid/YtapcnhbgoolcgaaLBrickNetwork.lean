/- The walk of the law FnExactBrickNetwork: out of the contracts of the program's BrickNetwork and of the reference's, the law returns true and leaves what was there. Conditions: none. -/
import Derived.Test.YtapcnhbgoolcgaaHarnL
import Derived.Test.YtapcnhbgoolcgaaBrick
namespace Go.Proofs.Ytapcnhbgoolcgaa
open Go.RowKit

set_option maxHeartbeats 4000000 in
theorem law_BrickNetwork_ok (x0 : Int) (w : World) (b0 : I64 x0) :
    Calls Try.prog 4 #[.int .i64 x0] w fun e w' => e = .returned (.bool true) ∧ Ext w w' := by
  have E : Ext w w := Ext.refl w
  go_enter Try.func4, Try.ntmps4
  go_wp2_with fail
  refine (spec_BrickNetwork_ok x0 _ b0).mono ?_
  rintro e w1 ⟨v_ow, rfl, ow, hw1⟩
  replace E := E.trans hw1
  have zw1 := hw1.size
  go_wp2_with fail
  refine (impl_BrickNetwork_ok x0 _ b0).mono ?_
  rintro e w2 ⟨v_og, rfl, og, hw2⟩
  replace ow := ow.ext hw2
  replace E := E.trans hw2
  have zw2 := hw2.size
  have lb := bound_BrickNetwork x0
  go_wp2_with fail
  refine (eqIntSS_same _ _ (brI x0) _ og.sii ow.sii lb.1 lb.2.1).mono ?_
  rintro e w3 ⟨rfl, hw3⟩
  replace hw3 : Ext w2 w3 := hw3.ext
  replace ow := ow.ext hw3
  replace og := og.ext hw3
  replace E := E.trans hw3
  go_wp2_with fail
  refine (markIntSS_ok _ _ _ (brI x0) _ _ og lb.1 lb.2.1 lb.2.2 (by omega) (by omega)).mono ?_
  rintro e w4 ⟨rfl, og_, hw4⟩
  replace ow := ow.upd hw4 (fun b  h3 h4 h5 => by omega)
  replace og := og_
  replace E := E.upd hw4 (fun b h5 => by have := E.size; omega)
  have ne2 : (((1 : Int) + (sumLen (brI x0) : Int)) != (1 + (sumLen (brI x0) : Int))) = false := by simp
  go_wp2_with fail
  refine (heldIntSS_ok _ (brI x0) _ _ og.sii lb.1 lb.2.1 lb.2.2 (by omega) (by omega)).mono ?_
  rintro e w5 ⟨rfl, hw5⟩
  replace hw5 : Ext w4 w5 := hw5.ext
  replace ow := ow.ext hw5
  replace og := og.ext hw5
  replace E := E.trans hw5
  go_wp2_with fail
  refine (impl_BrickNetwork_ok x0 _ b0).mono ?_
  rintro e w6 ⟨v_oh, rfl, oh, hw6⟩
  replace ow := ow.ext hw6
  replace og := og.ext hw6
  replace E := E.trans hw6
  have zw6 := hw6.size
  go_wp2_with fail
  refine (eqIntSS_same _ _ (brI x0) _ oh.sii ow.sii lb.1 lb.2.1).mono ?_
  rintro e w7 ⟨rfl, hw7⟩
  replace hw7 : Ext w6 w7 := hw7.ext
  replace ow := ow.ext hw7
  replace og := og.ext hw7
  replace oh := oh.ext hw7
  replace E := E.trans hw7
  go_wp2_with fail
  refine (heldIntSS_ok _ (brI x0) _ _ og.sii lb.1 lb.2.1 lb.2.2 (by omega) (by omega)).mono ?_
  rintro e w8 ⟨rfl, hw8⟩
  replace hw8 : Ext w7 w8 := hw8.ext
  replace ow := ow.ext hw8
  replace og := og.ext hw8
  replace oh := oh.ext hw8
  replace E := E.trans hw8
  go_wp2_with fail
  go_ret
  exact ⟨rfl, E⟩
end Go.Proofs.Ytapcnhbgoolcgaa
