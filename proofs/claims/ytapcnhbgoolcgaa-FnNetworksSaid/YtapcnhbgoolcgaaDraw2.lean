/- The draws of the great laws: small numbers, permutations. Conditions: small bounds. -/
import Derived.Test.YtapcnhbgoolcgaaDraw
import Derived.Test.YtapcnhbgoolcgaaOff
namespace Go.Proofs.Ytapcnhbgoolcgaa
open Go.RowKit

set_option maxHeartbeats 1000000 in
theorem l1Below_ok (bc n : Nat) (w : World) (h : Cur bc w) (h1 : 1 ≤ n) (h2 : n ≤ 256) :
    Calls Try.prog 51 #[.pointer (some ⟨bc, 0, none⟩), .int .i64 (n : Int)] w fun e w' => ∃ x : Nat, x < n ∧ e = .returned (.int .i64 (x : Int)) ∧ Cur bc w' ∧ Upd (· = bc) w w' := by
  go_enter Try.func51, Try.ntmps51
  go_wp2_with fail
  refine (l1Byte_ok bc _ h).mono ?_
  rintro e w1 ⟨x, hx, rfl, hc, hu⟩
  have hn0 : ((n : Int) == 0) = false := by simpa using (show (n : Int) ≠ 0 by omega)
  go_wp2_with fail
  go_ret
  refine ⟨x % n, Nat.mod_lt _ (by omega), ?_, hc, hu⟩
  rfl
set_option maxHeartbeats 1000000 in
theorem l1Once_ok (bc n : Nat) (w : World) (h : Cur bc w) (h1 : 1 ≤ n) (h2 : n ≤ 256) :
    Calls Try.prog 52 #[.pointer (some ⟨bc, 0, none⟩), .int .i64 (n : Int)] w fun e w' => ∃ x : Bool, e = .returned (.bool x) ∧ Cur bc w' ∧ Upd (· = bc) w w' := by
  go_enter Try.func52, Try.ntmps52
  go_wp2_with fail
  refine (l1Below_ok bc n _ h h1 h2).mono ?_
  rintro e w1 ⟨x, hx, rfl, hc, hu⟩
  go_wp2_with fail
  go_ret
  exact ⟨_, rfl, hc, hu⟩
set_option maxHeartbeats 1000000 in
theorem l1PickInt_ok (bc : Nat) (v : Value) (xs : List Int) (w : World) (h : Cur bc w) (hx : SI w v xs) (ho : Off bc v xs) (h1 : 1 ≤ xs.length) (h2 : xs.length ≤ 256) :
    Calls Try.prog 53 #[.pointer (some ⟨bc, 0, none⟩), v] w fun e w' => ∃ k, k < xs.length ∧ e = .returned (.int .i64 (nth xs k)) ∧ Cur bc w' ∧ Upd (· = bc) w w' := by
  obtain ⟨a, cap, rfl, -⟩ := hx.elim
  go_enter Try.func53, Try.ntmps53
  go_wp2_with fail
  refine (l1Below_ok bc xs.length _ h h1 h2).mono ?_
  rintro e w1 ⟨k, hk, rfl, hc, hu⟩
  obtain ⟨a', cap', e1, hri⟩ := (hx.off hu ho).elim
  obtain ⟨b, off, e2, hcell⟩ := hri.get hk
  injection e1 with e3 e4 e5
  subst e3 e2
  have hck := hcell k hk
  clear hcell hri e5
  go_wp2_with fail
  go_ret
  exact ⟨k, hk, rfl, hc, hu⟩
theorem RI.drop0 {w : World} {b : Nat} {xs : List Int} (h : RI w (some ⟨b, 0, none⟩) xs) (k : Nat) : RI w (some ⟨b, k, none⟩) (xs.drop k) := by
  rcases h with h | ⟨b', off', e, h⟩
  · left; subst h; simp
  · simp only [Option.some.injEq, Addr.mk.injEq, and_true] at e
    obtain ⟨rfl, rfl⟩ := e
    refine .inr ⟨b, k, rfl, fun i hi => ?_⟩
    simp only [List.length_drop] at hi
    have := h (k + i) (by omega)
    rw [Nat.zero_add] at this
    rw [this]; congr 2; unfold nth; simp
theorem Row.shrinkI {w : World} {b cap : Nat} {xs : List Int} (h : Row 3 w b cap (vals xs)) (k : Nat) : Row 3 w b cap (vals (xs.take k)) := by
  have := h.shrink k
  rwa [← List.map_take] at this
theorem l1Below_int (bc : Nat) (N : Int) (w : World) (h : Cur bc w) (h1 : 1 ≤ N) (h2 : N ≤ 256) :
    Calls Try.prog 51 #[.pointer (some ⟨bc, 0, none⟩), .int .i64 N] w fun e w' => ∃ x : Nat, (x : Int) < N ∧ e = .returned (.int .i64 (x : Int)) ∧ Cur bc w' ∧ Upd (· = bc) w w' := by
  obtain ⟨n, rfl⟩ : ∃ n : Nat, N = (n : Int) := ⟨N.toNat, by omega⟩
  refine (l1Below_ok bc n w h (by omega) (by omega)).mono ?_
  rintro e w1 ⟨x, h1, h2⟩
  exact ⟨x, by omega, h2⟩
def DrawPost (bc n : Nat) (w : World) (e : Ending) (w' : World) : Prop :=
  ∃ b c m L, e = .returned (.slice (some ⟨b, 0, none⟩) m c) ∧ m = L.length ∧ L.length = n ∧ (∀ x ∈ L, 1 ≤ x ∧ x ≤ (n : Int)) ∧ w.heap.size ≤ b ∧ Row 3 w' b c (vals L) ∧ Cur bc w' ∧ Upd (· = bc) w w'
end Go.Proofs.Ytapcnhbgoolcgaa
