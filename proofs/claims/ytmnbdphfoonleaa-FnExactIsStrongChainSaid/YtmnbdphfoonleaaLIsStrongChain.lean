/- The walk of the law FnExactIsStrongChain: out of the contracts of the program's IsStrongChain and of the reference's, the law returns true and leaves what was there. Conditions: none. -/
import Derived.Test.YtmnbdphfoonleaaHarnL
import Derived.Test.YtmnbdphfoonleaaChn
import Derived.Test.YtmnbdphfoonleaaOpenL
namespace Go.Proofs.Ytmnbdphfoonleaa
open Go.RowKit

set_option maxHeartbeats 4000000 in
theorem law_IsStrongChain_ok (v0 : Value) (x0 : List (List Int)) (w : World) (s0 : SII w v0 x0) (_b0 : I64ss x0) :
    Calls Try.prog 15 #[v0] w fun e w' => e = .returned (.bool true) ∧ Ext w w' := by
  have E : Ext w w := Ext.refl w
  have t0 := s0
  obtain ⟨a0, c0, rfl, _⟩ := t0.elim
  go_enter Try.func15, Try.ntmps15
  go_wp2_with fail
  refine (szIntSS_ok _ x0 _ s0).mono ?_
  rintro e w1 ⟨⟨r0, rfl, hr0⟩, hw1⟩
  replace hw1 : Ext w w1 := hw1.ext
  replace E := E.trans hw1
  have zw1 := hw1.size
  by_cases gr0 : r0 < 0
  · go_wp2_with fail
    go_ret
    exact ⟨rfl, E⟩
  replace hr0 := hr0 (by omega)
  have sm0 : small x0 := fun xs hxs => by have := le_sumLen hxs; omega
  go_wp2_with fail
  refine (toIntSS_ok _ x0 _ (s0.ext E) (by omega) sm0).mono ?_
  rintro e w2 ⟨v_cs0, rfl, cs0, hw2⟩
  replace E := E.trans hw2
  have zw2 := hw2.size
  go_wp2_with fail
  refine (spec_IsStrongChain_ok _ x0 _ cs0.sii (by omega) sm0).mono ?_
  rintro e w3 ⟨rfl, hw3⟩
  replace cs0 := cs0.ext hw3
  replace E := E.trans hw3
  clear cs0
  go_wp2_with fail
  refine (toIntSS_ok _ x0 _ (s0.ext E) (by omega) sm0).mono ?_
  rintro e w4 ⟨v_cx0, rfl, cx0, hw4⟩
  replace E := E.trans hw4
  have zw4 := hw4.size
  go_wp2_with fail
  refine (impl_IsStrongChain_ok _ x0 _ cx0.sii (by omega) sm0).mono ?_
  rintro e w5 ⟨rfl, hw5⟩
  replace cx0 := cx0.ext hw5
  replace E := E.trans hw5
  have ne0 : (chB x0 != chB x0) = false := by simp
  go_wp2_with fail
  refine (toIntSS_ok _ x0 _ (s0.ext E) (by omega) sm0).mono ?_
  rintro e w6 ⟨v_cy0, rfl, cy0, hw6⟩
  replace cx0 := cx0.ext hw6
  replace E := E.trans hw6
  have zw6 := hw6.size
  go_wp2_with fail
  refine (eqIntSS_same _ _ x0 _ cx0.sii cy0.sii (by omega) sm0).mono ?_
  rintro e w7 ⟨rfl, hw7⟩
  replace hw7 : Ext w6 w7 := hw7.ext
  replace cx0 := cx0.ext hw7
  replace cy0 := cy0.ext hw7
  replace E := E.trans hw7
  clear cy0
  go_wp2_with fail
  go_ret
  exact ⟨rfl, E⟩
end Go.Proofs.Ytmnbdphfoonleaa
