/- FnExactHasBraid: for every word the program's HasBraid answers as the reference's does, and leaves its argument as it was. Conditions: none. -/
import Derived.Test.YtcifngcmdiokpaaBraid
namespace Go.Proofs.Ytcifngcmdiokpaa
open Go.RowKit

set_option maxHeartbeats 1000000 in
theorem lawBraid_big (a : Option Addr) (n cap : Nat) (w : World) (h : 1048576 < n) :
    Calls Try.prog 3 #[.slice a n cap] w fun e w' => e = .returned (.bool true) ∧ Ext w w' := by
  go_enter Try.func3, Try.ntmps3
  go_wp2_with fail
  go_ret
  exact ⟨rfl, Ext.refl _⟩

set_option maxHeartbeats 1000000 in
theorem lawBraid_small (v : Value) (xs : List Int) (w : World) (h : SI w v xs) (hl : xs.length ≤ 1048576) (hx : ∀ i, i < xs.length → I64 (nth xs i)) :
    Calls Try.prog 3 #[v] w fun e w' => e = .returned (.bool true) ∧ Ext w w' := by
  have h0 := h
  obtain ⟨a, cap, rfl, hri⟩ := h0.elim
  go_enter Try.func3, Try.ntmps3
  go_wp2_with fail
  refine (toIntS_ok _ xs _ h (by omega)).mono ?_
  rintro e w1 ⟨b1, c1, rfl, hb1, hr1, he1⟩
  go_wp2_with fail
  refine (specHasBraid_ok _ xs _ hr1.si (by omega) hx).mono ?_
  rintro e w2 ⟨rfl, m2, rfl⟩
  go_wp2_with fail
  refine (toIntS_ok _ xs _ ((h.ext he1).ext (Upd.drewN _ _ _)) (by omega)).mono ?_
  rintro e w3 ⟨b3, c3, rfl, hb3, hr3, he3⟩
  go_wp2_with fail
  refine (implHasBraid_ok _ xs _ hr3.si (by omega) hx).mono ?_
  rintro e w4 ⟨rfl, m4, rfl⟩
  have hne : (braid xs != braid xs) = false := by simp
  have e3 : Ext w w3 := (he1.drewN m2).trans he3
  go_wp2_with fail
  refine (toIntS_ok _ xs _ ((h.ext e3).ext (Upd.drewN _ _ _)) (by omega)).mono ?_
  rintro e w5 ⟨b5, c5, rfl, hb5, hr5, he5⟩
  go_wp2_with fail
  refine (eqIntS_ok _ _ xs xs _ ((hr3.ext (Upd.drewN _ _ _)).ext he5).si hr5.si (by omega)).mono ?_
  rintro e w6 ⟨rfl, m6, rfl⟩
  go_wp2_with fail
  go_ret
  exact ⟨rfl, ((e3.drewN m4).trans he5).drewN m6⟩
end Go.Proofs.Ytcifngcmdiokpaa
