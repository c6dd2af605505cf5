/- The contract of the reference's ReducedWords. Conditions: lengths below a bound. -/
import Derived.Test.YtmnbdphfoonleaaRws
namespace Go.Proofs.Ytmnbdphfoonleaa
open Go.RowKit

theorem rwT_nil (p : List Int) : rwT p [] = rwL p := by unfold rwT; simp
set_option maxHeartbeats 4000000 in
theorem spec_ReducedWords_rr (v : Value) (p : List Int) (w : World) (h : SI w v p) (hl : p.length ≤ 1000000000) :
    Calls Try.prog 28 #[v] w fun e w' => ∃ b c, e = .returned (.slice (some ⟨b, 0, none⟩) (rdL p).length c) ∧ RR w.heap.size w'.heap.size w' b c (rdL p) ∧ Ext w w' := by
  have h00 := h
  obtain ⟨a, cap, rfl, -⟩ := h00.elim
  have he0 : Ext w (w.alloc (.cells #[] 24)) := Upd.alloc _ _ _
  have hr0 := Lib.hid (RR.new w)
  have hs0 := Lib.hid (h.ext he0)
  clear h00
  cases hp : isP8 p
  · have hP := Lib.hid hp
    have e0 := Lib.hid (rd_f (p := p) (by unfold rdOK; rw [hp]; rfl))
    clear hp
    go_enter Try.func28, Try.ntmps28
    go_wp2_with (go_at_call 82; refine (spec_IsPerm_qt _ p _ hs0.out (by omega)).mono ?_; rintro e w1 ⟨rfl, q1⟩; rw [hP.out])
    go_ret
    exact ⟨_, _, by rw [e0.out]; rfl, by rw [e0.out]; exact (hr0.out.ext q1.ext).mono (by have := q1.ext.size; simp at this ⊢; omega), he0.trans q1.ext⟩
  · have hP := Lib.hid hp
    have h8 : p.length ≤ 8 := (isP8_iff.1 hp).1
    have HIP : Hid (IsP p) := (isP8_iff.1 hp).2
    by_cases h1 : 1 ≤ p.length ∧ p.length ≤ 5
    · obtain ⟨h1, h5⟩ := h1
      have HI : Hid (inB (p.length : Int) 1 5 = true) := inB_true ⟨by omega, by omega⟩
      obtain ⟨n, hn⟩ : ∃ n, n = inv p := ⟨_, rfl⟩
      have hnb := inv_bound p (by omega)
      have hci : Hid (invI p = (n : Int)) := by show _ = _; rw [hn]; simp [invI, hp]
      have HN := Lib.hid hn
      by_cases h7 : inv p ≤ 7
      · have e0 := Lib.hid (rd_t (p := p) (by unfold rdOK; rw [hp, decide_eq_true ⟨h1, h5, h7⟩]; rfl))
        have h7I : ¬ (7 : Int) < (n : Int) := by omega
        have HD : Hid (inv p ≤ 7) := h7
        have hrl := rw_len HIP.out h5 h7
        rw [← hn] at hnb
        clear hp hn h7
        go_enter Try.func28, Try.ntmps28
        go_wp2_with fail
        refine (spec_IsPerm_qt _ p _ hs0.out (by omega)).mono ?_
        rintro e w1 ⟨rfl, q1⟩
        rw [hP.out]
        go_wp2_with fail
        refine (l1In_ok _ _ _ _).mono ?_
        rintro e w2 ⟨rfl, q2⟩
        rw [HI.out]
        have hq2 := Lib.hid (q1.trans q2)
        clear q1 q2
        go_wp2_with fail
        refine (spec_CountInversions_ok _ p _ (hs0.out.ext hq2.out.ext) (by omega)).mono ?_
        rintro e w3 ⟨rfl, q3⟩
        rw [hci.out]
        have hq3 := Lib.hid (hq2.out.trans q3)
        have hz3 := hq3.out.ext.size
        simp at hz3
        have hs3 := Lib.hid (hs0.out.ext hq3.out.ext)
        have HE3 := Lib.hid (Ext.trans he0 hq3.out.ext)
        have hr3 := Lib.hid (hr0.out.ext hq3.out.ext)
        have hA1 : Ext w3 (w3.alloc (.cells #[] 3)) := Upd.alloc _ _ _
        have hA2 : Ext (w3.alloc (.cells #[] 3)) ((w3.alloc (.cells #[] 3)).alloc (.cells #[] 24)) := Upd.alloc _ _ _
        have hA := Lib.hid (hA1.trans hA2)
        have ht4 := Lib.hid ((Row.new 3 w3 [] (by simp)).ext hA2)
        have hg4 := Lib.hid (GP.new w3.heap.size (w3.alloc (.cells #[] 3)) (by simp))
        have hof : Hid (Off (w3.heap.size + 1) (.slice a p.length cap) p) := Off.far hs3.out (by omega)
        have hs4 := Lib.hid (hs3.out.ext hA.out)
        clear hA1 hA2 q3 hs0 hq2 hq3 hr0 he0
        go_wp2_with fail
        refine (l27Words_ok (inv p) _ p w3.heap.size 0 0 [] w3.heap.size (w3.heap.size + 1) 0 0 [] _ rfl HIP.out h5 rfl HD.out hs4.out hof.out (by simpa using ht4.out) (Nat.le_refl _) (by simp; exact HD.out) (by simpa using hg4.out) rfl (by simp; omega) (by simp; omega)).mono ?_
        rintro e w5 ⟨ba, ca, rfl, hg5, hb5, hu5⟩
        rw [List.nil_append, rwT_nil] at hg5 ⊢
        have hz5 := hu5.size
        simp at hz5
        have hba : w3.heap.size + 1 ≤ ba := by rcases hb5 with e | e <;> (try simp at e) <;> omega
        have hr5 := Lib.hid (((hr3.out.ext hA.out).upd hu5 (fun k h1 h2 e => by omega)).mono (show w.heap.size + 1 ≤ w5.heap.size by omega))
        have HE5 := Lib.hid ((HE3.out.trans hA.out).upd1 hu5 (by omega))
        obtain ⟨LW, hLW⟩ : ∃ LW, LW = rwL p := ⟨_, rfl⟩
        have HLW := Lib.hid hLW
        rw [← hLW] at hg5 hrl ⊢
        have HG5 := Lib.hid hg5
        have HR5 : Hid (RR w.heap.size w5.heap.size w5 w.heap.size 0 (putAll (LW.take 0))) := hr5.out
        clear hg5 hu5 hb5 hr5 hr3 HE3 ht4 hg4 hof hs4 hs3 hA hLW
        go_wp2_with fail
        go_loopw [3, 5] (fun o i wr => ∃ k : Nat, k ≤ LW.length ∧ i = .int .i64 k ∧ (∃ b c m, o = .slice (some ⟨b, 0, none⟩) m c ∧ Hid (m = (putAll (LW.take k)).length) ∧ Hid (RR w.heap.size wr.heap.size wr b c (putAll (LW.take k))) ∧ b ≠ ba) ∧ Hid (GP w3.heap.size wr ba ca LW) ∧ Hid (Ext w wr)) (fun _ i _ => LW.length - (intOf i).toNat)
        case atStart => exact ⟨0, Nat.zero_le _, rfl, ⟨_, 0, 0, rfl, Lib.hid rfl, HR5, by omega⟩, HG5, HE5⟩
        case round =>
          obtain ⟨k, hk, rfl, ⟨b, c, m, rfl, hm, hr, hbne⟩, hg, he⟩ := hrel
          clear HG5 HR5 HE5
          by_cases hlt : k < LW.length
          · obtain ⟨bi, ci, hc, hrow⟩ := hg.out.get hlt
            have HT := Lib.hid (take_nthL hlt)
            have hwl : (nthL LW k).length ≤ 7 := by
              have := rwL_wlen HIP.out (w := nthL LW k) (by rw [← HLW.out]; exact nthL_mem hlt)
              have := HD.out; omega
            have hpl := putAll_len (LW.take k)
            have hpl9 : (putAll (LW.take k)).length ≤ 78125 := by rw [List.length_take] at hpl; omega
            have hput := l3Put_ok w.heap.size wr.heap.size b c (putAll (LW.take k)) ⟨bi, 0, none⟩ ci (nthL LW k) wr hr.out hr.out.lo (Nat.le_refl _) hrow.si (by omega) (by omega) (fun x hx => by
              have h1 := List.mem_of_mem_take ((putAll_mem _ x).1 hx)
              rw [HLW.out] at h1
              have := rwL_wlen HIP.out h1
              have := HD.out; omega)
            rw [← hm.out] at hput
            have HPUT := Lib.hid hput
            have hlo := hr.out.lo
            have hbal := hg.out.lt
            clear hput hrow hpl
            go_wp2_with fail
            refine HPUT.out.mono ?_
            rintro e w8 ⟨b8, c8, rfl, hr8, hb8, hu8⟩
            rw [← putAll_snoc, ← HT.out] at hr8 ⊢
            have hg8 : Hid (GP w3.heap.size w8 ba ca LW) := by
              obtain ⟨vs, x1, _⟩ := hr.out
              exact hg.out.off x1 (fun e => hbne e.symm) hu8
            have hE8 := Lib.hid (he.out.upd1 hu8 hlo)
            have hR8 := Lib.hid hr8
            have hbne8 : b8 ≠ ba := by rcases hb8 with e | e <;> omega
            clear hr8 hu8 hb8
            go_wp2_with fail
            go_roundw
            case rel => exact ⟨k + 1, by omega, by go_num, ⟨b8, c8, _, rfl, Lib.hid rfl, hR8, hbne8⟩, hg8, hE8⟩
            case measure => simp [intOf]; omega
          · obtain rfl : k = LW.length := by omega
            rw [take_all (Nat.le_refl _)] at hr hm
            have HF : Hid (rdL p = putAll LW) := by show _ = _; rw [e0.out, HLW.out]
            have HM := hm
            clear hm
            go_wp2_with fail
            go_ret
            exact ⟨b, c, by rw [HF.out, ← HM.out]; rfl, by rw [HF.out]; exact hr.out, he.out⟩
      · have e0 := Lib.hid (rd_f (p := p) (by unfold rdOK; rw [decide_eq_false (fun h => h7 h.2.2), Bool.and_false]))
        have h7I : (7 : Int) < (n : Int) := by omega
        rw [← hn] at hnb
        clear hp hn h7
        go_enter Try.func28, Try.ntmps28
        go_wp2_with fail
        refine (spec_IsPerm_qt _ p _ hs0.out (by omega)).mono ?_
        rintro e w1 ⟨rfl, q1⟩
        rw [hP.out]
        go_wp2_with fail
        refine (l1In_ok _ _ _ _).mono ?_
        rintro e w2 ⟨rfl, q2⟩
        rw [HI.out]
        have hq2 := Lib.hid (q1.trans q2)
        clear q1 q2
        go_wp2_with fail
        refine (spec_CountInversions_ok _ p _ (hs0.out.ext hq2.out.ext) (by omega)).mono ?_
        rintro e w3 ⟨rfl, q3⟩
        rw [hci.out]
        have hq3 := Lib.hid (hq2.out.trans q3)
        have hz3 := hq3.out.ext.size
        go_wp2_with fail
        go_ret
        exact ⟨_, _, by rw [e0.out]; rfl, by rw [e0.out]; exact (hr0.out.ext hq3.out.ext).mono (by simp at hz3 ⊢; omega), Ext.trans he0 hq3.out.ext⟩
    · have e0 := Lib.hid (rd_f (p := p) (by unfold rdOK; rw [decide_eq_false (fun h => h1 ⟨h.1, h.2.1⟩), Bool.and_false]))
      have HI : Hid (inB (p.length : Int) 1 5 = false) := inB_false (by omega)
      clear hp h1
      go_enter Try.func28, Try.ntmps28
      go_wp2_with fail
      refine (spec_IsPerm_qt _ p _ hs0.out (by omega)).mono ?_
      rintro e w1 ⟨rfl, q1⟩
      rw [hP.out]
      go_wp2_with fail
      refine (l1In_ok _ _ _ _).mono ?_
      rintro e w2 ⟨rfl, q2⟩
      rw [HI.out]
      have hq2 := Lib.hid (q1.trans q2)
      have hz3 := hq2.out.ext.size
      go_wp2_with fail
      go_ret
      exact ⟨_, _, by rw [e0.out]; rfl, by rw [e0.out]; exact (hr0.out.ext hq2.out.ext).mono (by simp at hz3 ⊢; omega), Ext.trans he0 hq2.out.ext⟩
theorem spec_ReducedWords_ok (v : Value) (p : List Int) (w : World) (h : SI w v p) (hl : p.length ≤ 1048576) (_hb : I64s p) :
    Calls Try.prog 28 #[v] w fun e w' => ∃ v', e = .returned v' ∧ OII w.heap.size w'.heap.size w' v' (rdL p) ∧ Ext w w' := by
  refine (spec_ReducedWords_rr v p w h (by omega)).mono ?_
  rintro e w' ⟨b, c, rfl, hr, he⟩
  exact ⟨_, rfl, hr.oii rfl, he⟩
end Go.Proofs.Ytmnbdphfoonleaa
