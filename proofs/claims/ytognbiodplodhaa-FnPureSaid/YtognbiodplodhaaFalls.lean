/- Contracts of FallsOf, the program's and the reference's. Conditions: a length below a bound. -/
import Derived.Test.YtognbiodplodhaaPop
import Derived.Test.YtognbiodplodhaaBd
namespace Go.Proofs.Ytognbiodplodhaa
open Go.RowKit

def fallsOfL (xs : List Int) : List (List Int) := bif isP8 xs then fallsL xs else []
theorem scL_two (xs : List Int) : ∀ i, ∀ ys ∈ scL xs i, ys.length = 2 := by
  intro i
  induction i with
  | zero => intro ys h; simp [scL] at h
  | succ i ih =>
    intro ys h
    cases hc : cutB xs i
    · rw [scL_f hc] at h; exact ih ys h
    · rw [scL_t hc] at h
      rcases List.mem_append.1 h with h | h
      · exact ih ys h
      · simp at h; subst h; rfl
theorem bound_FallsOf (xs : List Int) (_h : xs.length ≤ 1048576) : Bd (fallsOfL xs) := by
  unfold fallsOfL
  cases h : isP8 xs
  · exact Bd.nil
  · have h8 : xs.length ≤ 8 := (isP8_iff.1 h).1
    have h1 := scL_len xs xs.length
    exact Bd.of 8 2 (by unfold fallsL; simp; omega) (fun ys hy => by have := scL_two xs _ ys hy; omega) (by omega) (by omega)
set_option maxHeartbeats 400000 in
theorem impl_FallsOf_ok (v : Value) (xs : List Int) (w : World) (h : SI w v xs) (_hl : xs.length ≤ 1048576) (_hb : I64s xs) :
    Calls Try.prog 17 #[v] w fun e w' => ∃ v', e = .returned v' ∧ OII w.heap.size w'.heap.size w' v' (fallsOfL xs) ∧ Ext w w' := by
  cases hp : isP8 xs
  · have hP := Lib.hid hp
    have e0 : Hid (fallsOfL xs = []) := by show _ = _; simp [fallsOfL, hp]
    clear hp
    go_enter Try.func17, Try.ntmps17
    go_wp2_with (go_at_call 49; refine (impl_IsPerm_ok _ xs _ h).mono ?_; rintro e w1 ⟨rfl, he⟩; rw [hP.out])
    go_ret
    rw [e0.out]
    exact ⟨_, rfl, OII.nil _ _ _, he⟩
  · have hP := Lib.hid hp
    have h8 : xs.length ≤ 8 := (isP8_iff.1 hp).1
    have e0 : Hid (fallsOfL xs = fallsL xs) := by show _ = _; simp [fallsOfL, hp]
    clear hp
    go_enter Try.func17, Try.ntmps17
    go_wp2_with (first | (go_at_call 49; refine (impl_IsPerm_ok _ xs _ h).mono ?_; rintro e w1 ⟨rfl, he⟩; rw [hP.out]) | (go_at_call 53; refine (falls_ok _ xs _ (h.ext he) (isP8_iff.1 hP.out).2 (by omega)).mono ?_; rintro e w2 ⟨v2, rfl, ho, he2⟩))
    go_ret
    rw [e0.out]
    exact ⟨_, rfl, ho.mono he.size (Nat.le_refl _), he.trans he2⟩
set_option maxHeartbeats 1000000 in
theorem spec_FallsOf_ok (v : Value) (xs : List Int) (w : World) (h : SI w v xs) (hl : xs.length ≤ 1048576) (_hb : I64s xs) :
    Calls Try.prog 26 #[v] w fun e w' => ∃ v', e = .returned v' ∧ OII w.heap.size w'.heap.size w' v' (fallsOfL xs) ∧ Ext w w' := by
  have h0 := h
  obtain ⟨a, cap, rfl, hc1, hc2, -, hri⟩ := h0
  have hmx := hc2
  unfold maxLen at hmx
  have hr0 := RR.new w
  have he0 : Ext w (w.alloc (.cells #[] 24)) := Upd.alloc _ _ _
  cases hp : isP8 xs
  · have hP := Lib.hid hp
    have e0 : Hid (fallsOfL xs = []) := by show _ = _; simp [fallsOfL, hp]
    clear hp
    go_enter Try.func26, Try.ntmps26
    go_wp2_with fail
    go_loopw [3, 4] (fun o f wr => f = .int .i64 0 ∧ o = .slice (some ⟨w.heap.size, 0, none⟩) 0 0 ∧ w.alloc (.cells #[] 24) = wr) (fun _ _ _ => 0)
    case atStart => exact ⟨rfl, rfl, rfl⟩
    case round =>
      obtain ⟨rfl, rfl, rfl⟩ := hrel
      by_cases hz : (0 : Int) < (xs.length : Int)
      · go_wp2_with (go_at_call 29; refine (spec_IsPerm_qt _ xs _ (h.ext he0) (by omega)).mono ?_; rintro e w1 ⟨rfl, hq⟩; rw [hP.out])
        go_ret
        rw [e0.out]
        exact ⟨_, rfl, ((hr0.ext hq.ext).mono (by have := hq.ext.size; simp at this ⊢; omega)).oii rfl, he0.trans hq.ext⟩
      · go_wp2_with fail
        go_ret
        rw [e0.out]
        exact ⟨_, rfl, (hr0.mono (by simp)).oii rfl, he0⟩
  · have hP := Lib.hid hp
    have h8 : xs.length ≤ 8 := (isP8_iff.1 hp).1
    have e0 : Hid (fallsOfL xs = fallsL xs) := by show _ = _; simp [fallsOfL, hp]
    clear hp
    go_enter Try.func26, Try.ntmps26
    go_wp2_with fail
    go_loopw [3, 4] (fun o f wr => ∃ k : Nat, k ≤ xs.length ∧ f = .int .i64 k ∧ Hid (scF xs k = k) ∧ (∃ b c n, o = .slice (some ⟨b, 0, none⟩) n c ∧ n = (scL xs k).length ∧ RR w.heap.size wr.heap.size wr b c (scL xs k)) ∧ Ext w wr) (fun _ f _ => xs.length - (intOf f).toNat)
    case atStart => exact ⟨0, Nat.zero_le _, rfl, Lib.hid rfl, ⟨_, 0, 0, rfl, rfl, hr0.mono (by simp)⟩, he0⟩
    case round =>
      obtain ⟨k, hk, rfl, hF, ⟨b, c, n, rfl, hn, hr⟩, he⟩ := hrel
      have HN := Lib.hid hn
      have hll := scL_len xs k
      clear hr0 he0 hn
      by_cases hlt : k < xs.length
      · have hki : (k : Int) < (xs.length : Int) := by omega
        go_wp2_with (go_at_call 29; refine (spec_IsPerm_qt _ xs _ (h.ext he) (by omega)).mono ?_; rintro e wp ⟨rfl, hq1⟩; rw [hP.out])
        have he1 : Ext w wp := he.trans hq1.ext
        have hr1 := (hr.ext hq1.ext).mono hq1.ext.size
        obtain ⟨bb, off, rfl, hc⟩ := (hri.ext he1).get hlt
        clear hr he hq1
        go_loopw [5] (fun t wr => ∃ j : Nat, k ≤ j ∧ j < xs.length ∧ t = .int .i64 j ∧ Hid (scF xs j = k) ∧ Hid (scL xs j = scL xs k) ∧ Qt wp wr) (fun t _ => xs.length - (intOf t).toNat)
        case atStart => exact ⟨k, Nat.le_refl _, hlt, rfl, hF, Lib.hid rfl, Qt.refl _⟩
        case round =>
          obtain ⟨j, hj1, hj2, rfl, hFj, hOj, hq⟩ := hrel
          have c0 := hq.ext.cell (hc j hj2) id
          have w1 : IntKind.i64.wrap ((j : Int) + 1) = (j : Int) + 1 := IntWalk.i64_in _ (by omega)
          have w2 : 0 ≤ (j : Int) + 1 := by omega
          have w3 : ((j : Int) + 1).toNat = j + 1 := by omega
          by_cases hlast : j + 1 < xs.length
          · have c1 := hq.ext.cell (hc (j + 1) hlast) id
            have hji : (j : Int) + 1 < (xs.length : Int) := by omega
            by_cases hdn : nth xs (j + 1) < nth xs j
            · have hct := Lib.hid (cutB_down hlast hdn)
              go_wp2_with fail
              go_quiet (fail)
              clear w1 w3
              go_wp2_with fail
              go_roundw
              case rel => exact ⟨j + 1, by omega, by omega, by go_num, Lib.hid (by rw [scF_f hct.out, hFj.out]), Lib.hid (by rw [scL_f hct.out, hOj.out]), hq.drewN _⟩
              case measure => simp [intOf]; omega
            · have hct := Lib.hid (cutB_up hdn)
              go_wp2_with fail
              go_quiet (fail)
              clear c1
              clear c0 hc w1 w3
              have HR := Lib.hid ((hr1.ext hq.ext).mono hq.ext.size)
              have he' : Ext w wr := he1.trans hq.ext
              go_wp2_with (at_builtin; refine wpl_appLit rfl _ _ rfl w.heap.size b c n _ _ (scL xs k) [(k : Int) + 1, (j : Int) + 1] rfl (HR.out.ext (Upd.drewN _ _ _)) HN.out (he'.drewN _).size (by simp) rfl rfl rfl (by omega) ?_; intro b3 c3 w3 hr3 hu3)
              go_roundw
              case rel => exact ⟨j + 1, by omega, by go_num, Lib.hid (scF_t hct.out), ⟨b3, c3, n + 1, rfl, by rw [scL_t hct.out, hOj.out]; simp [HN.out], by rw [scL_t hct.out, hOj.out, hFj.out]; exact hr3⟩, (he'.drewN _).upd1 hu3 HR.out.lo⟩
              case measure => simp [intOf]; omega
          · have hji : ¬ (j : Int) + 1 < (xs.length : Int) := by omega
            have hjd : decide ((j : Int) + 1 < (xs.length : Int)) = false := decide_eq_false hji
            have hct := Lib.hid (cutB_last (xs := xs) (i := j) (by omega))
            go_wp2_with fail
            go_quiet (fail)
            clear c0 hc w1 w3
            have HR := Lib.hid ((hr1.ext hq.ext).mono hq.ext.size)
            have he' : Ext w wr := he1.trans hq.ext
            go_wp2_with (at_builtin; refine wpl_appLit rfl _ _ rfl w.heap.size b c n _ _ (scL xs k) [(k : Int) + 1, (j : Int) + 1] rfl (HR.out.ext (Upd.drewN _ _ _)) HN.out (he'.drewN _).size (by simp) rfl rfl rfl (by omega) ?_; intro b3 c3 w3 hr3 hu3)
            go_roundw
            case rel => exact ⟨j + 1, by omega, by go_num, Lib.hid (scF_t hct.out), ⟨b3, c3, n + 1, rfl, by rw [scL_t hct.out, hOj.out]; simp [HN.out], by rw [scL_t hct.out, hOj.out, hFj.out]; exact hr3⟩, (he'.drewN _).upd1 hu3 HR.out.lo⟩
            case measure => simp [intOf]; omega
      · have hfin : Hid (fallsL xs = scL xs k) := by show _ = _; unfold fallsL; congr 1; omega
        go_wp2_with fail
        go_ret
        rw [e0.out, hfin.out]
        exact ⟨_, rfl, hr.oii HN.out, he⟩
end Go.Proofs.Ytognbiodplodhaa
