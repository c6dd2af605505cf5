/- Contracts of RunNetwork, the program's and the reference's. Conditions: lengths below a bound. -/
import Derived.Test.YtapcnhbgoolcgaaThr
namespace Go.Proofs.Ytapcnhbgoolcgaa
open Go.RowKit

def farB (x : Int) : Bool := decide (x < -1000 ∨ 1000 < x)
def rnB (gs : List (List Int)) (xs : List Int) : Bool := netB xs.length gs && !anyI farB xs
def rnL (gs : List (List Int)) (xs : List Int) : List Int := bif rnB gs xs then runL gs xs else []
theorem bound_RunNetwork (gs : List (List Int)) (xs : List Int) (h : xs.length ≤ 1048576) : (rnL gs xs).length ≤ 1048576 := by
  unfold rnL
  cases rnB gs xs
  · simp
  · simp [runL_len]; omega

set_option maxHeartbeats 400000 in
theorem farB_ok (x : Int) (w : World) : Calls Try.prog 55 #[.int .i64 x] w fun e w' => e = .returned (.bool (farB x)) ∧ Qt w w' := by
  by_cases h1 : x < -1000
  · have e0 : farB x = true := by simp [farB]; omega
    rw [e0]
    clear e0
    go_enter Try.func55, Try.ntmps55
    go_wp2
    go_ret
    exact ⟨rfl, Qt.refl _⟩
  · by_cases h2 : 1000 < x
    · have e0 : farB x = true := by simp [farB]; omega
      rw [e0]
      clear e0
      go_enter Try.func55, Try.ntmps55
      go_wp2
      go_ret
      exact ⟨rfl, Qt.refl _⟩
    · have e0 : farB x = false := by simp [farB]; omega
      rw [e0]
      clear e0
      go_enter Try.func55, Try.ntmps55
      go_wp2
      go_ret
      exact ⟨rfl, Qt.refl _⟩

set_option maxHeartbeats 1000000 in
theorem impl_RunNetwork_ok (v : Value) (gs : List (List Int)) (v2 : Value) (xs : List Int) (w : World) (h : SII w v gs) (hg : gs.length ≤ 1000000000) (h2 : SI w v2 xs) (hl : xs.length ≤ 1048576) (_hb : I64s xs) :
    Calls Try.prog 16 #[v, v2] w fun e w' => ∃ v', e = .returned (.tuple #[v', .bool (rnB gs xs)]) ∧ OI w.heap.size w'.heap.size w' v' (rnL gs xs) ∧ Ext w w' := by
  obtain ⟨av, capv, rfl, -⟩ := h2.elim
  have hn : I64 (xs.length : Int) := by unfold I64; omega
  have HN := Lib.hid hn
  have hen : Enters 55 := enters_of Try.func55 rfl rfl
  have HEN := Lib.hid hen
  clear hn hen
  cases hnet : netB xs.length gs
  · have HT := Lib.hid hnet
    have e0 : Hid (rnB gs xs = false) := by show _ = _; simp [rnB, hnet]
    have e1 : Hid (rnL gs xs = []) := by show _ = _; simp [rnL, e0.out]
    clear hnet
    go_enter Try.func16, Try.ntmps16
    go_wp2_with (go_at_call 29; refine (impl_IsNetwork_ok _ _ gs _ HN.out h hg).mono ?_; rintro e w1 ⟨rfl, he1⟩; rw [HT.out])
    go_ret2
    rw [e0.out, e1.out]
    exact ⟨_, rfl, OI.nil _ _ _, he1⟩
  · have HT := Lib.hid hnet
    obtain ⟨n1, n2, n3, n4⟩ := net_true hnet
    cases hfar : anyI farB xs
    · have HF := Lib.hid hfar
      have e0 : Hid (rnB gs xs = true) := by show _ = _; simp [rnB, hnet, hfar]
      have e1 : Hid (rnL gs xs = runL gs xs) := by show _ = _; simp [rnL, e0.out]
      have N4 := Lib.hid n4
      have n1' : 1 ≤ xs.length := by omega
      have n2' : xs.length ≤ 1000 := by omega
      clear hnet hfar n4 n1
      go_enter Try.func16, Try.ntmps16
      go_wp2_with (first | (go_at_call 29; refine (impl_IsNetwork_ok _ _ gs _ HN.out h hg).mono ?_; rintro e w1 ⟨rfl, he1⟩; rw [HT.out]) | (go_at_call 54; refine (containsFuncI_ok _ xs 55 #[] farB _ (h2.ext he1) (by omega) HEN.out (fun i hi w1 hw => (farB_ok _ w1).mono fun e w2 ⟨h1, h2⟩ => ⟨h1, h2.ext⟩)).mono ?_; rintro e w3 ⟨rfl, he3⟩; rw [HF.out]) | (go_at_call 47; refine (through_ok _ _ gs xs _ ((h.ext he1).ext he3) ((h2.ext he1).ext he3) n2' n1' (by omega) N4.out).mono ?_; rintro e w4 ⟨v4, rfl, ho, he4⟩))
      go_ret2
      rw [e0.out, e1.out]
      exact ⟨_, rfl, ho.mono (he1.trans he3).size (Nat.le_refl _), (he1.trans he3).trans he4⟩
    · have HF := Lib.hid hfar
      have e0 : Hid (rnB gs xs = false) := by show _ = _; simp [rnB, hnet, hfar]
      have e1 : Hid (rnL gs xs = []) := by show _ = _; simp [rnL, e0.out]
      clear hnet hfar n4
      go_enter Try.func16, Try.ntmps16
      go_wp2_with (first | (go_at_call 29; refine (impl_IsNetwork_ok _ _ gs _ HN.out h hg).mono ?_; rintro e w1 ⟨rfl, he1⟩; rw [HT.out]) | (go_at_call 54; refine (containsFuncI_ok _ xs 55 #[] farB _ (h2.ext he1) (by omega) HEN.out (fun i hi w1 hw => (farB_ok _ w1).mono fun e w2 ⟨h1, h2⟩ => ⟨h1, h2.ext⟩)).mono ?_; rintro e w3 ⟨rfl, he3⟩; rw [HF.out]))
      go_ret2
      rw [e0.out, e1.out]
      exact ⟨_, rfl, OI.nil _ _ _, he1.trans he3⟩
set_option maxHeartbeats 2000000 in
theorem spec_RunNetwork_ok (v : Value) (gs : List (List Int)) (v2 : Value) (xs : List Int) (w : World) (h : SII w v gs) (hg : gs.length ≤ 1000000000) (h2 : SI w v2 xs) (hl : xs.length ≤ 1048576) (_hb : I64s xs) :
    Calls Try.prog 17 #[v, v2] w fun e w' => ∃ v', e = .returned (.tuple #[v', .bool (rnB gs xs)]) ∧ OI w.heap.size w'.heap.size w' v' (rnL gs xs) ∧ Ext w w' := by
  obtain ⟨av, capv, rfl, hri⟩ := h2.elim
  have hn : I64 (xs.length : Int) := by unfold I64; omega
  have HN := Lib.hid hn
  clear hn
  cases hnet : netB xs.length gs
  · have HT := Lib.hid hnet
    have e0 : Hid (rnB gs xs = false) := by show _ = _; simp [rnB, hnet]
    have e1 : Hid (rnL gs xs = []) := by show _ = _; simp [rnL, e0.out]
    clear hnet
    go_enter Try.func17, Try.ntmps17
    go_wp2_with (go_at_call 30; refine (spec_IsNetwork_ok _ _ gs _ HN.out h hg).mono ?_; rintro e w1 ⟨rfl, he1⟩; rw [HT.out])
    go_ret2
    rw [e0.out, e1.out]
    exact ⟨_, rfl, OI.row (Row.new 3 w1 [] (by simp)) he1.size rfl, he1.alloc _⟩
  · have HT := Lib.hid hnet
    obtain ⟨n1, n2, n3, n4⟩ := net_true hnet
    have N4 := Lib.hid n4
    have n1' : 1 ≤ xs.length := by omega
    have n2' : xs.length ≤ 1000 := by omega
    have HRB : Hid (rnB gs xs = !anyI farB xs) := by show _ = _; simp [rnB, hnet]
    clear hnet n4 n1
    go_enter Try.func17, Try.ntmps17
    go_wp2_with (go_at_call 30; refine (spec_IsNetwork_ok _ _ gs _ HN.out h hg).mono ?_; rintro e w1 ⟨rfl, he1⟩; rw [HT.out])
    go_loopw [6] (fun i wr => ∃ k : Nat, k ≤ xs.length ∧ i = .int .i64 k ∧ Hid (anyI farB (xs.take k) = false) ∧ Ext w wr) (fun i _ => xs.length - (intOf i).toNat)
    case atStart => exact ⟨0, by omega, rfl, Lib.hid rfl, he1⟩
    case round =>
      obtain ⟨k, hk, rfl, ha, he⟩ := hrel
      clear he1
      by_cases hlt : k < xs.length
      · obtain ⟨b, off, rfl, hc⟩ := (hri.ext he).get hlt
        have hck := hc k hlt
        clear hc hri
        have hst : ∀ b, farB (nth xs k) = b → anyI farB (xs.take (k + 1)) = b := fun b hb => by rw [take_nth hlt]; simp [anyI, List.any_append] at ha ⊢; have := ha.out; simp_all
        cases hin : inB (nth xs k) (-1000) 1000
        · have HI := Lib.hid hin
          have hfx : farB (nth xs k) = true := by simp [inB] at hin; simp [farB]; omega
          have hall : anyI farB xs = true := by
            unfold anyI; exact List.any_eq_true.2 ⟨_, nth_mem hlt, hfx⟩
          have e0 : Hid (rnB gs xs = false) := by show _ = _; rw [HRB.out, hall]; rfl
          have e1 : Hid (rnL gs xs = []) := by show _ = _; simp [rnL, e0.out]
          clear hin hfx hall hst
          go_wp2_with (go_at_call 56; refine (l1In_ok _ _ _ _).mono ?_; rintro e w3 ⟨rfl, hq⟩; rw [HI.out])
          go_ret2
          rw [e0.out, e1.out]
          exact ⟨_, rfl, OI.row (Row.new 3 w3 [] (by simp)) (he.trans hq.ext).size rfl, (he.trans hq.ext).alloc _⟩
        · have HI := Lib.hid hin
          have hfx : farB (nth xs k) = false := by simp [inB] at hin; simp [farB]; omega
          have HST := Lib.hid (hst _ hfx)
          clear hin hfx hst
          go_wp2_with (go_at_call 56; refine (l1In_ok _ _ _ _).mono ?_; rintro e w3 ⟨rfl, hq⟩; rw [HI.out])
          go_roundw
          case rel => exact ⟨k + 1, by omega, by go_num, HST, he.trans hq.ext⟩
          case measure => simp [intOf]; omega
      · have hall : anyI farB xs = false := by rw [← ha.out, take_all (by omega)]
        have e0 : Hid (rnB gs xs = true) := by show _ = _; rw [HRB.out, hall]; rfl
        have e1 : Hid (rnL gs xs = runL gs xs) := by show _ = _; simp [rnL, e0.out]
        clear hall
        go_wp2_with (go_at_call 57; refine (l26Run_ok _ _ gs xs _ (h.ext he) (h2.ext he) n2' (by omega) N4.out).mono ?_; rintro e w4 ⟨b1, c1, b2, c2, rfl, hb1, -, hr, -, he4⟩)
        go_ret2
        rw [e0.out, e1.out]
        exact ⟨_, rfl, OI.row hr (by have := he.size; omega) (by rw [runL_len]), he.trans he4⟩
end Go.Proofs.Ytapcnhbgoolcgaa
