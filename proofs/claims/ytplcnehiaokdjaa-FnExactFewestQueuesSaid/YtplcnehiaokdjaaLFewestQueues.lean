/- The walk of the law FnExactFewestQueues: out of the contracts of the program's FewestQueues and of the reference's, the law returns true and leaves what was there. Conditions: none. -/
import Derived.Test.YtplcnehiaokdjaaHarnL
import Derived.Test.YtplcnehiaokdjaaFew
namespace Go.Proofs.Ytplcnehiaokdjaa
open Go.RowKit

set_option maxHeartbeats 4000000 in
theorem law_FewestQueues_ok (x0 : Int) (x1 : Int) (w : World) (b0 : I64 x0) (b1 : I64 x1) :
    Calls Try.prog 8 #[.int .i64 x0, .int .i64 x1] w fun e w' => e = .returned (.bool true) ∧ Ext w w' := by
  have E : Ext w w := Ext.refl w
  go_enter Try.func8, Try.ntmps8
  go_wp2_with fail
  refine (spec_FewestQueues_ok x0 x1 _ b0 b1).mono ?_
  rintro e w1 ⟨rfl, hw1⟩
  replace E := E.trans hw1
  go_wp2_with fail
  refine (impl_FewestQueues_ok x0 x1 _ b0 b1).mono ?_
  rintro e w2 ⟨rfl, hw2⟩
  replace E := E.trans hw2
  have ne0 : (fqI x0 x1 != fqI x0 x1) = false := by simp
  go_wp2_with fail
  go_ret
  exact ⟨rfl, E⟩
end Go.Proofs.Ytplcnehiaokdjaa
