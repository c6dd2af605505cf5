/- The walk of the law FnExactSortsAll: out of the contracts of the program's SortsAll and of the reference's, the law returns true and leaves what was there. Conditions: none. -/
import Derived.Test.YtapcnhbgoolcgaaHarnL
import Derived.Test.YtapcnhbgoolcgaaSall
import Derived.Test.YtapcnhbgoolcgaaOpenL
namespace Go.Proofs.Ytapcnhbgoolcgaa
open Go.RowKit

set_option maxHeartbeats 4000000 in
theorem law_SortsAll_ok (x0 : Int) (v1 : Value) (x1 : List (List Int)) (w : World) (b0 : I64 x0) (s1 : SII w v1 x1) (_b1 : I64ss x1) :
    Calls Try.prog 8 #[.int .i64 x0, v1] w fun e w' => e = .returned (.bool true) ∧ Ext w w' := by
  have E : Ext w w := Ext.refl w
  have t1 := s1
  obtain ⟨a1, c1, rfl, _⟩ := t1.elim
  go_enter Try.func8, Try.ntmps8
  go_wp2_with fail
  refine (szIntSS_ok _ x1 _ s1).mono ?_
  rintro e w1 ⟨⟨r1, rfl, hr1⟩, hw1⟩
  replace hw1 : Ext w w1 := hw1.ext
  replace E := E.trans hw1
  have zw1 := hw1.size
  by_cases gr1 : r1 < 0
  · go_wp2_with fail
    go_ret
    exact ⟨rfl, E⟩
  replace hr1 := hr1 (by omega)
  have sm1 : small x1 := fun xs hxs => by have := le_sumLen hxs; omega
  go_wp2_with fail
  refine (toIntSS_ok _ x1 _ (s1.ext E) (by omega) sm1).mono ?_
  rintro e w2 ⟨v_cs1, rfl, cs1, hw2⟩
  replace E := E.trans hw2
  have zw2 := hw2.size
  go_wp2_with fail
  refine (spec_SortsAll_ok x0 _ x1 _ b0 cs1.sii (by omega)).mono ?_
  rintro e w3 ⟨rfl, hw3⟩
  replace cs1 := cs1.ext hw3
  replace E := E.trans hw3
  clear cs1
  go_wp2_with fail
  refine (toIntSS_ok _ x1 _ (s1.ext E) (by omega) sm1).mono ?_
  rintro e w4 ⟨v_cx1, rfl, cx1, hw4⟩
  replace E := E.trans hw4
  have zw4 := hw4.size
  go_wp2_with fail
  refine (impl_SortsAll_ok x0 _ x1 _ b0 cx1.sii (by omega)).mono ?_
  rintro e w5 ⟨rfl, hw5⟩
  replace cx1 := cx1.ext hw5
  replace E := E.trans hw5
  have ne0 : (saB x0 x1 != saB x0 x1) = false := by simp
  go_wp2_with fail
  refine (toIntSS_ok _ x1 _ (s1.ext E) (by omega) sm1).mono ?_
  rintro e w6 ⟨v_cy1, rfl, cy1, hw6⟩
  replace cx1 := cx1.ext hw6
  replace E := E.trans hw6
  have zw6 := hw6.size
  go_wp2_with fail
  refine (eqIntSS_same _ _ x1 _ cx1.sii cy1.sii (by omega) sm1).mono ?_
  rintro e w7 ⟨rfl, hw7⟩
  replace hw7 : Ext w6 w7 := hw7.ext
  replace cx1 := cx1.ext hw7
  replace cy1 := cy1.ext hw7
  replace E := E.trans hw7
  clear cy1
  go_wp2_with fail
  go_ret
  exact ⟨rfl, E⟩
end Go.Proofs.Ytapcnhbgoolcgaa
