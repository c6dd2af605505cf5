/- Contracts of the reference's DescentsOf, of its patterns, of the parts of a sum and of IsLayered. Conditions: lengths below a bound. -/
import Derived.Test.YtcifngcmdiokpaaLayP
import Derived.Test.YtcifngcmdiokpaaRow3
import Derived.Test.YtcifngcmdiokpaaHarnSS
import Derived.Test.YtcifngcmdiokpaaBase2
import Derived.Test.YtcifngcmdiokpaaSort
import Derived.Deep.RegionHeld3
namespace Go.Proofs.Ytcifngcmdiokpaa
open Go.RowKit

theorem ltC_take {xs : List Int} {k : Nat} (h : k < xs.length) (x : Int) : ltC (xs.take (k + 1)) x = ltC (xs.take k) x + if nth xs k < x then 1 else 0 := by
  unfold ltC; rw [take_nth h, List.countP_append]; simp [List.countP_cons]
theorem ltC_le (xs : List Int) (x : Int) : ltC xs x ≤ xs.length := List.countP_le_length
theorem patL_take {xs : List Int} {k : Nat} (h : k < xs.length) : (patL xs).take (k + 1) = (patL xs).take k ++ [(ltC xs (nth xs k) : Int) + 1] := by
  rw [take_nth (by rw [patL_len]; exact h), patL_nth h]
set_option maxHeartbeats 2000000 in
theorem l2Pattern_ok (v : Value) (xs : List Int) (w : World) (h : SI w v xs) (hl : xs.length ≤ 1000) :
    Calls Try.prog 79 #[v] w fun e w' => ∃ b c, e = .returned (.slice (some ⟨b, 0, none⟩) xs.length c) ∧ w.heap.size ≤ b ∧ Row 3 w' b c (vals (patL xs)) ∧ Ext w w' := by
  obtain ⟨a, cap, rfl, hri⟩ := h.elim
  have hr0 := Row.new 3 w [] (by simp)
  have he0 : Ext w (w.alloc (.cells #[] 3)) := Upd.alloc _ _ _
  clear h
  go_enter Try.func79, Try.ntmps79
  go_wp2_with fail
  go_loopw [3, 4] (fun o i wr => ∃ k : Nat, k ≤ xs.length ∧ i = .int .i64 k ∧ (∃ b c, o = .slice (some ⟨b, 0, none⟩) k c ∧ w.heap.size ≤ b ∧ Row 3 wr b c (vals ((patL xs).take k))) ∧ Ext w wr) (fun _ i _ => xs.length - (intOf i).toNat)
  case atStart => exact ⟨0, Nat.zero_le _, rfl, ⟨_, 0, rfl, Nat.le_refl _, hr0⟩, he0⟩
  case round =>
    obtain ⟨k, hk, rfl, ⟨b, c, rfl, hb, hr⟩, he⟩ := hrel
    clear hr0 he0
    by_cases hlt : k < xs.length
    · obtain ⟨bb, off, rfl, hc⟩ := (hri.ext he).get hlt
      have hck := hc k hlt
      obtain ⟨x, hx⟩ : ∃ x, x = nth xs k := ⟨_, rfl⟩
      rw [← hx] at hck
      have HX := Lib.hid hx
      have HC := Lib.hid hc
      clear hx hc
      go_wp2_with fail
      obtain ⟨wp, hwp⟩ : ∃ wp, wp = wr := ⟨_, rfl⟩
      subst hwp
      go_loopw [5, 6] (fun n i wr => ∃ m : Nat, m ≤ xs.length ∧ i = .int .i64 m ∧ (∃ q : Nat, n = .int .i64 ((q : Int) + 1) ∧ Hid (q = ltC (xs.take m) x) ∧ q ≤ m) ∧ Qt wp wr) (fun _ i _ => xs.length - (intOf i).toNat)
      case atStart => exact ⟨0, Nat.zero_le _, rfl, ⟨0, rfl, Lib.hid rfl, Nat.le_refl _⟩, Qt.refl _⟩
      case round =>
        obtain ⟨m, hm, rfl, ⟨q, rfl, hq2, hq3⟩, hq⟩ := hrel
        by_cases hml : m < xs.length
        · have hcm := hq.ext.cell (HC.out m hml) id
          have hck2 := hq.ext.cell hck id
          have hst := ltC_take hml x
          rw [← hq2.out] at hst
          obtain ⟨y, hy⟩ : ∃ y, y = nth xs m := ⟨_, rfl⟩
          rw [← hy] at hcm hst
          have w1 : IntKind.i64.wrap ((q : Int) + 1 + 1) = (q : Int) + 1 + 1 := IntWalk.i64_in _ (by omega)
          have w0 : IntKind.i64.wrap ((q : Int) + 1 + 0) = (q : Int) + 1 := by rw [IntWalk.i64_in _ (by omega)]; omega
          have hmI : (m : Int) < (xs.length : Int) := by omega
          have hkI : (k : Int) < (xs.length : Int) := by omega
          clear hy hr hck
          by_cases hyx : y < x
          · rw [if_pos hyx] at hst
            have HST := Lib.hid hst
            have hd : decide (y < x) = true := decide_eq_true hyx
            clear hst
            go_wp2_with fail
            go_quiet ((go_at_call 92; exact Calls.quiet_of (l1Bit_t _)))
            clear w1 w0
            go_wp2_with fail
            go_roundw
            case rel => exact ⟨m + 1, by omega, by go_num, ⟨q + 1, by rw [Value.int.injEq]; exact ⟨rfl, by push_cast; rfl⟩, Lib.hid HST.out.symm, by omega⟩, hq.drewN _⟩
            case measure => simp [intOf]; omega
          · rw [if_neg hyx] at hst
            have HST := Lib.hid hst
            have hd : decide (y < x) = false := decide_eq_false hyx
            clear hst
            go_wp2_with fail
            go_quiet ((go_at_call 92; exact Calls.quiet_of (l1Bit_f _)))
            clear w1 w0
            go_wp2_with fail
            go_roundw
            case rel => exact ⟨m + 1, by omega, by go_num, ⟨q, rfl, Lib.hid HST.out.symm, by omega⟩, hq.drewN _⟩
            case measure => simp [intOf]; omega
        · obtain rfl : m = xs.length := by omega
          have hfin : Hid ((patL xs).take (k + 1) = (patL xs).take k ++ [(q : Int) + 1]) := by
            show _ = _
            rw [patL_take hlt, hq2.out, ← HX.out, take_all (Nat.le_refl _)]
          have hln : Hid (k = ((patL xs).take k).length) := by show _ = _; rw [List.length_take, patL_len]; omega
          have hr2 := hr.ext hq.ext
          have he2 : Ext w wr := he.trans hq.ext
          have HR2 := Lib.hid hr2
          clear hr hr2 hck
          go_wp2_with (at_builtin; refine wpl_app1 rfl _ _ rfl b c k ((patL xs).take k) ((q : Int) + 1) rfl HR2.out hln.out rfl (by rw [← hln.out]; omega) ?_; intro b6 c6 w6 h3 h4 h5)
          go_roundw
          case rel => exact ⟨k + 1, by omega, by go_num, ⟨b6, c6, rfl, by have := he2.size; omega, by rw [hfin.out]; exact h3⟩, he2.upd1 h5 hb⟩
          case measure => simp [intOf]; omega
    · obtain rfl : k = xs.length := by omega
      rw [take_all (by rw [patL_len]; exact Nat.le_refl _)] at hr
      go_wp2_with fail
      go_ret
      exact ⟨_, _, rfl, hb, hr, he⟩
set_option maxHeartbeats 4000000 in
theorem spec_SumParts_ok (v : Value) (xs : List Int) (w : World) (h : SI w v xs) (hl : xs.length ≤ 1048576) :
    Calls Try.prog 57 #[v] w fun e w' => ∃ v', e = .returned v' ∧ OII w.heap.size w'.heap.size w' v' (sumL xs) ∧ Ext w w' := by
  have h0 := h
  obtain ⟨a, cap, rfl, hc1, hc2, -, hri⟩ := h0
  have hr0 := RR.new w
  have he0 : Ext w (w.alloc (.cells #[] 22)) := Upd.alloc _ _ _
  cases hp : isP8 xs
  · have hP := Lib.hid hp
    have e0 : Hid (sumL xs = []) := by show _ = _; simp [sumL, hp]
    clear hp
    go_enter Try.func57, Try.ntmps57
    go_wp2_with (go_at_call 32; refine (spec_IsPerm_qt _ xs _ (h.ext he0) (by omega)).mono ?_; rintro e w1 ⟨rfl, hq⟩; rw [hP.out])
    go_ret
    rw [e0.out]
    exact ⟨_, rfl, ((hr0.ext hq.ext).mono (by have := hq.ext.size; simp at this ⊢; omega)).oii rfl, he0.trans hq.ext⟩
  · have hP := Lib.hid hp
    obtain ⟨h8, hpp⟩ := isP8_iff.1 hp
    have HPP := Lib.hid hpp
    have e0 : Hid (sumL xs = spP xs xs.length) := by show _ = _; simp [sumL, hp]
    have hmx := hc2
    unfold maxLen at hmx
    clear hp hpp
    go_enter Try.func57, Try.ntmps57
    go_wp2_with fail
    refine (spec_IsPerm_qt _ xs _ (h.ext he0) (by omega)).mono ?_
    rintro e w1 ⟨rfl, hq⟩
    rw [hP.out]
    have hr1 : RR w.heap.size w1.heap.size w1 w.heap.size 0 [] := (hr0.ext hq.ext).mono (by have := hq.ext.size; simp at this; omega)
    have he1 : Ext w w1 := he0.trans hq.ext
    clear hr0 he0 hq
    go_wp2_with fail
    go_loopw [3, 4, 5, 6] (fun o f m i wr => ∃ k : Nat, k ≤ xs.length ∧ i = .int .i64 k ∧ f = .int .i64 (spF xs k) ∧ (∃ z : Int, m = .int .i64 z ∧ Hid (z = spM xs k) ∧ 0 ≤ z ∧ z ≤ 8) ∧ (∃ b c n, o = .slice (some ⟨b, 0, none⟩) n c ∧ Hid (n = (spP xs k).length) ∧ RR w.heap.size wr.heap.size wr b c (spP xs k)) ∧ Ext w wr) (fun _ _ _ i _ => xs.length - (intOf i).toNat)
    case atStart => exact ⟨0, Nat.zero_le _, rfl, rfl, ⟨0, rfl, Lib.hid rfl, by omega, by omega⟩, ⟨_, 0, 0, rfl, Lib.hid rfl, hr1⟩, he1⟩
    case round =>
      obtain ⟨k, hk, rfl, rfl, ⟨z, rfl, hz, hz1, hz2⟩, ⟨b, c, n, rfl, hn, hr⟩, he⟩ := hrel
      clear hr1 he1
      by_cases hlt : k < xs.length
      · obtain ⟨bb, off, rfl, hc⟩ := (hri.ext he).get hlt
        have hck := hc k hlt
        have hxb := HPP.out.bd hlt
        have hfl := spF_le xs k
        have hpl := spP_len xs k
        obtain ⟨x, hx⟩ : ∃ x, x = nth xs k := ⟨_, rfl⟩
        obtain ⟨z2, hz2'⟩ : ∃ z2, z2 = max z x := ⟨_, rfl⟩
        have hsm : Hid (z2 = spM xs (k + 1)) := by show _ = _; rw [hz2', hz.out, hx]; rfl
        rw [← hx] at hck hxb
        have hz3 : 0 ≤ z2 ∧ z2 ≤ 8 := by omega
        have HZ2 := Lib.hid hz2'
        obtain ⟨f, hf⟩ : ∃ f, f = spF xs k := ⟨_, rfl⟩
        rw [← hf] at hfl ⊢
        have HF := Lib.hid hf
        have HR := Lib.hid hr
        have HC := Lib.hid hc
        clear hx hz2' hf hr hc
        go_wp2_with fail
        refine (l1Max_ok _ _ _).mono ?_
        rintro e w5 ⟨rfl, hq5⟩
        rw [← HZ2.out]
        have he5 : Ext w w5 := he.trans hq5.ext
        have hr5 := (HR.out.ext hq5.ext).mono hq5.ext.size
        have HR5 := Lib.hid hr5
        clear hck hr5
        cases hcb : cloB xs k
        · have hne : ¬ z2 = (k : Int) + 1 := fun e => by
            unfold cloB at hcb; rw [← hsm.out] at hcb; exact of_decide_eq_false hcb e
          have hnb : (z2 == (k : Int) + 1) = false := by simpa using hne
          have hsf : Hid (spF xs (k + 1) = f) := by show _ = _; rw [HF.out]; simp [spF, hcb]
          have hsp : Hid (spP xs (k + 1) = spP xs k) := by show _ = _; simp [spP, hcb]
          clear hcb
          go_wp2_with fail
          go_roundw
          case rel => exact ⟨k + 1, by omega, by go_num, by rw [hsf.out], ⟨z2, rfl, hsm, hz3.1, hz3.2⟩, ⟨b, c, n, rfl, Lib.hid (by rw [hsp.out]; exact hn.out), by rw [hsp.out]; exact HR5.out⟩, he5⟩
          case measure => simp [intOf]; omega
        · have heq : z2 = (k : Int) + 1 := by
            unfold cloB at hcb; rw [← hsm.out] at hcb; exact of_decide_eq_true hcb
          have heqb : (z2 == (k : Int) + 1) = true := by simpa using heq
          have hsf : Hid (spF xs (k + 1) = k + 1) := by show _ = _; simp [spF, hcb]
          obtain ⟨sg, hsg⟩ : ∃ sg, sg = seg xs f (k + 1) := ⟨_, rfl⟩
          have hsp : Hid (spP xs (k + 1) = spP xs k ++ [patL sg]) := by show _ = _; rw [hsg, HF.out]; simp [spP, hcb]
          have hsl : sg.length = k + 1 - f := by rw [hsg]; exact seg_len (by omega)
          have hseg : SI w5 (.slice (some ⟨bb, off + f, none⟩) (k + 1 - f) (cap - f)) sg := by
            have := SI.seg (w := w5) (b := bb) (off := off) (cap := cap) (xs := xs) (fun i hi => hq5.ext.cell (HC.out i hi) id) f (k + 1 - f) (by omega) hc1 hc2
            rw [hsg]; exact this
          have HSG := Lib.hid hseg
          have HSL := Lib.hid hsl
          have f1 : (f : Int) ≤ (k : Int) + 1 := by omega
          have f2 : (k : Int) + 1 ≤ (cap : Int) := by omega
          have f3 : ((k : Int) + 1).toNat = k + 1 := by omega
          have f4 : 0 ≤ (k : Int) + 1 := by omega
          have f5 : (f : Int) ≤ (cap : Int) := by omega
          have f6 : ¬ (cap = f) := by omega
          clear hcb hsg hseg hsl heq
          go_wp2_with fail
          refine (l2Pattern_ok _ sg _ HSG.out (by rw [HSL.out]; omega)).mono ?_
          rintro e w6 ⟨b6, c6, rfl, hb6, hr6, he6⟩
          have hpl2 := patL_len sg
          have ho6 : OI w.heap.size w6.heap.size w6 (.slice (some ⟨b6, 0, none⟩) sg.length c6) (patL sg) := OI.row hr6 (by have := he5.size; omega) hpl2.symm
          have hr6' := HR5.out.ext he6
          have HO6 := Lib.hid ho6
          have HR6 := Lib.hid hr6'
          have HE6 := Lib.hid (he5.trans he6)
          have hz6 := he6.size
          clear hpl2 hr6 hr6' ho6 he6
          go_wp2_with (at_builtin; refine wpl_appRR rfl _ _ rfl w.heap.size w5.heap.size b c n (spP xs k) _ _ _ (patL sg) rfl HR6.out hn.out HO6.out (fun i hi => by simp [Value.ownBlock] at hi; omega) hz6 rfl (by omega) ?_; intro b7 c7 w7 hr7 hb7 hu7)
          go_roundw
          case rel => exact ⟨k + 1, by omega, by go_num, by rw [hsf.out]; push_cast; rfl, ⟨z2, rfl, hsm, hz3.1, hz3.2⟩, ⟨b7, c7, n + 1, rfl, Lib.hid (by rw [hsp.out, hn.out]; simp), by rw [hsp.out]; exact hr7⟩, HE6.out.upd1 hu7 HR6.out.lo⟩
          case measure => simp [intOf]; omega
      · obtain rfl : k = xs.length := by omega
        go_wp2_with fail
        go_ret
        rw [e0.out]
        exact ⟨_, rfl, hr.oii hn.out, he⟩
end Go.Proofs.Ytcifngcmdiokpaa
