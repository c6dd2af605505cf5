/- Contracts of PopTrail, the program's and the reference's. Conditions: a length below a bound. -/
import Derived.Test.YtognbiodplodhaaPop2
import Derived.Test.YtognbiodplodhaaTrl
namespace Go.Proofs.Ytognbiodplodhaa
open Go.RowKit

theorem bound_PopTrail (xs : List Int) (_h : xs.length ≤ 1048576) : Bd (trlL popL xs) := trlL_bd popL_len xs
set_option maxHeartbeats 1000000 in
theorem impl_PopTrail_ok (v : Value) (xs : List Int) (w : World) (h : SI w v xs) (_hl : xs.length ≤ 1048576) (_hb : I64s xs) :
    Calls Try.prog 19 #[v] w fun e w' => ∃ v', e = .returned v' ∧ OII w.heap.size w'.heap.size w' v' (trlL popL xs) ∧ Ext w w' := by
  cases hp : isP8 xs
  · have hP := Lib.hid hp
    have e0 : Hid (trlL popL xs = []) := by show _ = _; simp [trlL, hp]
    clear hp
    go_enter Try.func19, Try.ntmps19
    go_wp2_with (go_at_call 49; refine (impl_IsPerm_ok _ xs _ h).mono ?_; rintro e w1 ⟨rfl, he⟩; rw [hP.out])
    go_ret
    rw [e0.out]
    exact ⟨_, rfl, OII.nil _ _ _, he⟩
  · have hP := Lib.hid hp
    have h8 : xs.length ≤ 8 := (isP8_iff.1 hp).1
    have hpp := (isP8_iff.1 hp).2
    have HPP := Lib.hid hpp
    have hib := inv_bound xs (by omega)
    have e0 : Hid (trlL popL xs = xs :: tr popL xs) := by show _ = _; simp [trlL, hp]
    clear hp hpp
    go_enter Try.func19, Try.ntmps19
    go_wp2_with (first | (go_at_call 49; refine (impl_IsPerm_ok _ xs _ h).mono ?_; rintro e w1 ⟨rfl, he1⟩; rw [hP.out]) | (go_at_call 54; refine (slicesClone_ok _ xs _ (h.ext he1) (by omega)).mono ?_; rintro e w2 ⟨v2, rfl, ho2, he2⟩; obtain ⟨p2, c2, rfl⟩ := ho2.shape))
    have hr0 := RR.one w.heap.size (ho2.mono he1.size (Nat.le_refl _)) (he1.trans he2).size
    have hex0 : Ext w (w2.alloc (.cells #[.slice p2 xs.length c2] 24)) := (he1.trans he2).alloc _
    have h0 : SI (w2.alloc (.cells #[.slice p2 xs.length c2] 24)) v xs := h.ext hex0
    obtain ⟨B2, hB2⟩ : ∃ B2, B2 = w2.heap.size := ⟨_, rfl⟩
    have hsz : (w2.alloc (.cells #[.slice p2 xs.length c2] 24)).heap.size = B2 + 1 := by simp [hB2]
    rw [← hB2] at hr0 ⊢
    rw [← hsz] at hr0
    clear h ho2 hB2 hsz
    go_loopw [0, 3] (fun p o wr => (∃ ys : List Int, SI wr p ys ∧ IsP ys ∧ ys.length ≤ 8 ∧ ∃ D : List (List Int), Hid (D ++ tr popL ys = xs :: tr popL xs) ∧ D.length + inv ys ≤ inv xs + 1 ∧ ∃ b c n, o = .slice (some ⟨b, 0, none⟩) n c ∧ Hid (n = D.length) ∧ RR w.heap.size wr.heap.size wr b c D) ∧ Ext w wr) (fun _ o _ => inv xs + 1 - (match o with | .slice _ n _ => n | _ => 0))
    case atStart => exact ⟨⟨xs, h0, HPP.out, h8, [xs], Lib.hid rfl, by simp; omega, _, _, 1, rfl, Lib.hid rfl, hr0⟩, hex0⟩
    case round =>
      obtain ⟨⟨ys, hs, hpy, hly, D, hD, hDl, b, c, n, rfl, hn, hr⟩, he⟩ := hrel
      clear h0 hr0 hex0
      have HPY := Lib.hid hpy
      cases hb : srtB ys
      · have HB := Lib.hid hb
        have hd := pop_ok.dec ys hpy (fun hh => by rw [srtB_true hh] at hb; simp at hb)
        have hstep := Lib.hid (tr_step pop_ok hpy hb)
        have hpl := popL_len ys
        have HPL := Lib.hid hpl
        have hn2 : n ≤ 1000001 := by have := hn.out; omega
        clear hb hpy hpl
        go_wp2_with fail
        refine (isRising_ok _ ys _ hs (by omega)).mono ?_
        rintro e w3 ⟨rfl, hq⟩
        rw [HB.out]
        go_wp2_with fail
        refine (popPass_ok _ ys _ HPY.out hly (hs.ext hq.ext)).mono ?_
        rintro e w4 ⟨v4, rfl, ho4, he4⟩
        go_wp2_with fail
        refine (slicesClone_ok _ (popL ys) _ ho4.si (by rw [HPL.out]; omega)).mono ?_
        rintro e w5 ⟨v5, rfl, ho5, he5⟩
        have hz3 := hq.ext.size
        have hz4 := he4.size
        have hz5 := he5.size
        have hzw := he.size
        have hr5 := (((hr.ext hq.ext).ext he4).ext he5)
        have HR5 := Lib.hid hr5
        have hw5 : w.heap.size ≤ w4.heap.size := by omega
        have hr4 : wr.heap.size ≤ w4.heap.size := by omega
        obtain ⟨p5, c5, hv5⟩ := ho5.shape
        subst hv5
        have HO5 := Lib.hid ho5
        have ho4s := ho4.si
        have HO4 := Lib.hid ho4
        have hblt := hr.lt
        clear hr hr5 ho5 ho4
        go_wp2_with (at_builtin; refine wpl_appRR rfl _ _ rfl w.heap.size wr.heap.size b c n D p5 _ c5 (popL ys) rfl HR5.out hn.out (HO5.out.mono hw5 (Nat.le_refl _)) (fun k hk => by have := HO5.out.own hk; omega) (by omega) rfl (by have := hn.out; omega) ?_; intro b6 c6 w6 hr6 hb6 hu6)
        have hE : Ext w w6 := (((he.trans hq.ext).trans he4).trans he5).upd1 hu6 HR5.out.lo
        have hs6 : SI w6 v4 (popL ys) := ((HO4.out.ext he5).upd hu6 (fun k _ h1 _ e => by omega)).si
        refine ⟨⟨⟨popL ys, hs6, pop_ok.perm ys HPY.out, by rw [HPL.out]; exact hly, D ++ [popL ys], Lib.hid (by rw [List.append_assoc]; simp only [List.singleton_append]; rw [← hstep.out]; exact hD.out), by simp; omega, b6, c6, n + 1, rfl, Lib.hid (by simp [hn.out]), hr6⟩, hE⟩, ?_⟩
        have := hn.out
        simp; omega
      · have HB := Lib.hid hb
        have hz := Lib.hid (tr_sorted (g := popL) hb)
        clear hb
        go_wp2_with fail
        refine (isRising_ok _ ys _ hs (by omega)).mono ?_
        rintro e w3 ⟨rfl, hq⟩
        rw [HB.out]
        have hfin : Hid (trlL popL xs = D) := by show _ = _; rw [e0.out, ← hD.out, hz.out]; simp
        go_wp2_with fail
        go_ret
        rw [hfin.out]
        exact ⟨_, rfl, ((hr.ext hq.ext).mono hq.ext.size).oii hn.out, he.trans hq.ext⟩
/-- what a copy by 'append([]int{}, p...)' leaves. -/
theorem copied_own {w1 w2 : World} {b2 c2 : Nat} {xs : List Int} (hr : Row 3 w2 b2 c2 (vals xs)) (hb : b2 = w1.heap.size ∨ (w1.alloc (.cells #[] 3)).heap.size ≤ b2) (hu : Upd (· = w1.heap.size) (w1.alloc (.cells #[] 3)) w2) :
    w1.heap.size ≤ b2 ∧ OI w1.heap.size w2.heap.size w2 (.slice (some ⟨b2, 0, none⟩) xs.length c2) xs ∧ Ext w1 w2 := by
  have h1 : w1.heap.size ≤ b2 := by
    rcases hb with e | e
    · omega
    · simp at e; omega
  exact ⟨h1, OI.row hr h1 rfl, ((Ext.refl w1).alloc _).upd1 hu (Nat.le_refl _)⟩
set_option maxHeartbeats 2000000 in
theorem spec_PopTrail_ok (v : Value) (xs : List Int) (w : World) (h : SI w v xs) (_hl : xs.length ≤ 1048576) (_hb : I64s xs) :
    Calls Try.prog 27 #[v] w fun e w' => ∃ v', e = .returned v' ∧ OII w.heap.size w'.heap.size w' v' (trlL popL xs) ∧ Ext w w' := by
  have hr0 := RR.new w
  have he0 : Ext w (w.alloc (.cells #[] 24)) := Upd.alloc _ _ _
  have h1 := h.ext he0
  cases hp : isP8 xs
  · have hP := Lib.hid hp
    have e0 : Hid (trlL popL xs = []) := by show _ = _; simp [trlL, hp]
    clear hp
    go_enter Try.func27, Try.ntmps27
    go_wp2_with (go_at_call 29; refine (spec_IsPerm_qt _ xs _ h1 (by omega)).mono ?_; rintro e w1 ⟨rfl, hq⟩; rw [hP.out])
    go_ret
    rw [e0.out]
    exact ⟨_, rfl, ((hr0.ext hq.ext).mono (by have := hq.ext.size; simp at this ⊢; omega)).oii rfl, he0.trans hq.ext⟩
  · have hP := Lib.hid hp
    have h8 : xs.length ≤ 8 := (isP8_iff.1 hp).1
    have hpp := (isP8_iff.1 hp).2
    have HPP := Lib.hid hpp
    have hib := inv_bound xs (by omega)
    have e0 : Hid (trlL popL xs = xs :: tr popL xs) := by show _ = _; simp [trlL, hp]
    obtain ⟨av, cv, rfl, -⟩ := h.elim
    clear hp hpp
    go_enter Try.func27, Try.ntmps27
    go_wp2_with fail
    refine (spec_IsPerm_qt _ xs _ h1 (by omega)).mono ?_
    rintro e w1 ⟨rfl, hq⟩
    rw [hP.out]
    have he1 : Ext w w1 := he0.trans hq.ext
    have hr1 := (hr0.ext hq.ext).mono (H' := w1.heap.size) (by have := hq.ext.size; simp at this; omega)
    have hs1 : SI w1 _ xs := h1.ext hq.ext
    have hz1 : w.heap.size < w1.heap.size := by have := hq.ext.size; simp at this; omega
    have HH := Lib.hid h
    clear hr0 he0 h1 h hq
    go_wp2_with (first | (at_builtin; refine wpl_appSI rfl _ _ rfl w1.heap.size 0 0 [] xs rfl (Row.new 3 w1 [] (by simp)) rfl _ rfl (hs1.ext (Upd.alloc _ _ _)) (by simp) (by omega) ?_; intro b2 c2 w2 hr2 hb2 hu2; rw [List.nil_append] at hr2; obtain ⟨hb2', ho2, he2⟩ := copied_own hr2 hb2 hu2; have hz2 := he2.size; have hR := hr1.ext he2; clear hr2 hb2 hu2) | (at_builtin; refine wpl_appRR rfl _ _ rfl w.heap.size w1.heap.size w.heap.size 0 0 [] (some ⟨b2, 0, none⟩) _ c2 xs rfl hR rfl (ho2.mono (by omega) (Nat.le_refl _)) (fun k hk => (ho2.own hk).1) (by omega) rfl (by simp) ?_; intro b6 c6 w6 hr6 hb6 hu6))
    have hex0 : Ext w w6 := (he1.trans he2).upd1 hu6 (Nat.le_refl _)
    have h0 := HH.out.ext hex0
    rw [List.nil_append] at hr6
    clear hR hu6 hb6 ho2 hr1 hs1 he1 he2
    go_loopw [0, 3] (fun p o wr => (∃ ys : List Int, SI wr p ys ∧ IsP ys ∧ ys.length ≤ 8 ∧ ∃ D : List (List Int), Hid (D ++ tr popL ys = xs :: tr popL xs) ∧ D.length + inv ys ≤ inv xs + 1 ∧ ∃ b c n, o = .slice (some ⟨b, 0, none⟩) n c ∧ Hid (n = D.length) ∧ RR w.heap.size wr.heap.size wr b c D) ∧ Ext w wr) (fun _ o _ => inv xs + 1 - (match o with | .slice _ n _ => n | _ => 0))
    case atStart => exact ⟨⟨xs, h0, HPP.out, h8, [xs], Lib.hid rfl, by simp; omega, _, _, _, rfl, Lib.hid rfl, hr6⟩, hex0⟩
    case round =>
      obtain ⟨⟨ys, hs, hpy, hly, D, hD, hDl, b, c, n, rfl, hn, hr⟩, he⟩ := hrel
      clear h0 hr6 hex0
      have HPY := Lib.hid hpy
      have hse := Lib.hid (srtB_eq hpy)
      cases hb : srtB ys
      · have HB := Lib.hid hb
        have hd := pop_ok.dec ys hpy (fun hh => by rw [srtB_true hh] at hb; simp at hb)
        have hstep := Lib.hid (tr_step pop_ok hpy hb)
        have hpl := popL_len ys
        have HPL := Lib.hid hpl
        have hn2 : n ≤ 1000001 := by have := hn.out; omega
        clear hb hpy hpl
        go_wp2_with fail
        refine (l13Straight_ok _ ys _ hs hly).mono ?_
        rintro e w3 ⟨rfl, hq⟩
        rw [hse.out, HB.out]
        go_wp2_with fail
        refine (l22Pass_ok _ ys _ hly (hs.ext hq)).mono ?_
        rintro e w4 ⟨v4, rfl, ho4, he4⟩
        have hz3 := hq.size
        have hz4 := he4.size
        have hzw := he.size
        have hR4 := Lib.hid (((hr.ext hq).ext he4))
        have hw4 : w.heap.size ≤ w4.heap.size := by omega
        have hr4 : wr.heap.size ≤ w4.heap.size := by omega
        obtain ⟨p4, c4, hv4⟩ := ho4.shape
        subst hv4
        have HO4 := Lib.hid ho4
        have hblt := hr.lt
        have hpl8 : (popL ys).length ≤ 8 := by rw [HPL.out]; omega
        clear hr ho4 hs
        go_wp2_with (first | (at_builtin; refine wpl_appSI rfl _ _ rfl w4.heap.size 0 0 [] (popL ys) rfl (Row.new 3 w4 [] (by simp)) rfl _ rfl (HO4.out.si.ext (Upd.alloc _ _ _)) (by simp) (by omega) ?_; intro b2 c2 w2 hr2 hb2 hu2; rw [List.nil_append] at hr2; obtain ⟨hb2', ho2, he2⟩ := copied_own hr2 hb2 hu2; have hz2 := he2.size; clear hr2 hb2 hu2) | (at_builtin; refine wpl_appRR rfl _ _ rfl w.heap.size wr.heap.size b c n D (some ⟨b2, 0, none⟩) _ c2 (popL ys) rfl (hR4.out.ext he2) hn.out (ho2.mono (by omega) (Nat.le_refl _)) (fun k hk => by have := (ho2.own hk).1; omega) (by omega) rfl (by have := hn.out; omega) ?_; intro b6 c6 w6 hr6 hb6 hu6))
        have hE : Ext w w6 := (((he.trans hq).trans he4).trans he2).upd1 hu6 hR4.out.lo
        have hs6 : SI w6 _ (popL ys) := ((HO4.out.ext he2).upd hu6 (fun k _ h1 _ e => by omega)).si
        refine ⟨⟨⟨popL ys, hs6, pop_ok.perm ys HPY.out, by rw [HPL.out]; exact hly, D ++ [popL ys], Lib.hid (by rw [List.append_assoc]; simp only [List.singleton_append]; rw [← hstep.out]; exact hD.out), by simp; omega, b6, c6, n + 1, rfl, Lib.hid (by simp [hn.out]), hr6⟩, hE⟩, ?_⟩
        have := hn.out
        simp; omega
      · have HB := Lib.hid hb
        have hz := Lib.hid (tr_sorted (g := popL) hb)
        clear hb
        go_wp2_with fail
        refine (l13Straight_ok _ ys _ hs hly).mono ?_
        rintro e w3 ⟨rfl, hq⟩
        rw [hse.out, HB.out]
        have hfin : Hid (trlL popL xs = D) := by show _ = _; rw [e0.out, ← hD.out, hz.out]; simp
        go_wp2_with fail
        go_ret
        rw [hfin.out]
        exact ⟨_, rfl, ((hr.ext hq).mono hq.size).oii hn.out, he.trans hq⟩
end Go.Proofs.Ytognbiodplodhaa
