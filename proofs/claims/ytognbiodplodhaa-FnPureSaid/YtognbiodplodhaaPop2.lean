/- Contracts of PopPass, PopTimes and IsPopSorted, the program's and the reference's. Conditions: a length below a bound. -/
import Derived.Test.YtognbiodplodhaaPop
namespace Go.Proofs.Ytognbiodplodhaa
open Go.RowKit

def popOfL (xs : List Int) : List Int := bif isP8 xs then popL xs else []
def popSortedB (xs : List Int) : Bool := isP8 xs && srtB (popL xs)
theorem bound_PopPass (xs : List Int) (_h : xs.length ≤ 1048576) : (popOfL xs).length ≤ 1048576 := by
  unfold popOfL
  cases isP8 xs
  · simp
  · simp [popL_len]; omega

set_option maxHeartbeats 400000 in
theorem spec_PopPass_ok (v : Value) (xs : List Int) (w : World) (h : SI w v xs) (hl : xs.length ≤ 1048576) (_hb : I64s xs) :
    Calls Try.prog 21 #[v] w fun e w' => ∃ v', e = .returned v' ∧ OI w.heap.size w'.heap.size w' v' (popOfL xs) ∧ Ext w w' := by
  cases hp : isP8 xs
  · have hP := Lib.hid hp
    have e0 : Hid (popOfL xs = []) := by show _ = _; simp [popOfL, hp]
    clear hp
    go_enter Try.func21, Try.ntmps21
    go_wp2_with (go_at_call 29; refine (spec_IsPerm_qt _ xs _ h (by omega)).mono ?_; rintro e w1 ⟨rfl, hq⟩; rw [hP.out])
    go_ret
    rw [e0.out]
    exact ⟨_, rfl, OI.row (Row.new 3 w1 [] (by simp)) hq.ext.size rfl, (show Ext w w1 from hq.ext).alloc _⟩
  · have hP := Lib.hid hp
    have h8 : xs.length ≤ 8 := (isP8_iff.1 hp).1
    have e0 : Hid (popOfL xs = popL xs) := by show _ = _; simp [popOfL, hp]
    clear hp
    go_enter Try.func21, Try.ntmps21
    go_wp2_with (first | (go_at_call 29; refine (spec_IsPerm_qt _ xs _ h (by omega)).mono ?_; rintro e w1 ⟨rfl, hq⟩; rw [hP.out]) | (go_at_call 56; refine (l22Pass_ok _ xs _ (by omega) (h.ext hq.ext)).mono ?_; rintro e w2 ⟨v2, rfl, ho, he⟩))
    go_ret
    rw [e0.out]
    exact ⟨_, rfl, ho.mono hq.ext.size (Nat.le_refl _), (show Ext w w1 from hq.ext).trans he⟩
set_option maxHeartbeats 400000 in
theorem impl_PopPass_ok (v : Value) (xs : List Int) (w : World) (h : SI w v xs) (hl : xs.length ≤ 1048576) (_hb : I64s xs) :
    Calls Try.prog 12 #[v] w fun e w' => ∃ v', e = .returned v' ∧ OI w.heap.size w'.heap.size w' v' (popOfL xs) ∧ Ext w w' := by
  cases hp : isP8 xs
  · have hP := Lib.hid hp
    have e0 : Hid (popOfL xs = []) := by show _ = _; simp [popOfL, hp]
    clear hp
    go_enter Try.func12, Try.ntmps12
    go_wp2_with (go_at_call 49; refine (impl_IsPerm_ok _ xs _ h).mono ?_; rintro e w1 ⟨rfl, he⟩; rw [hP.out])
    go_ret
    rw [e0.out]
    exact ⟨_, rfl, OI.nil _ _ _, he⟩
  · have hP := Lib.hid hp
    have h8 : xs.length ≤ 8 := (isP8_iff.1 hp).1
    have e0 : Hid (popOfL xs = popL xs) := by show _ = _; simp [popOfL, hp]
    clear hp
    go_enter Try.func12, Try.ntmps12
    go_wp2_with (first | (go_at_call 49; refine (impl_IsPerm_ok _ xs _ h).mono ?_; rintro e w1 ⟨rfl, he⟩; rw [hP.out]) | (go_at_call 50; refine (popPass_ok _ xs _ (isP8_iff.1 hP.out).2 (by omega) (h.ext he)).mono ?_; rintro e w2 ⟨v2, rfl, ho, he2⟩))
    go_ret
    rw [e0.out]
    exact ⟨_, rfl, ho.mono he.size (Nat.le_refl _), he.trans he2⟩
set_option maxHeartbeats 400000 in
theorem impl_IsPopSorted_ok (v : Value) (xs : List Int) (w : World) (h : SI w v xs) (hl : xs.length ≤ 1048576) (_hb : I64s xs) :
    Calls Try.prog 22 #[v] w fun e w' => e = .returned (.bool (popSortedB xs)) ∧ Ext w w' := by
  cases hp : isP8 xs
  · have hP := Lib.hid hp
    have e0 : Hid (popSortedB xs = false) := by show _ = _; simp [popSortedB, hp]
    clear hp
    go_enter Try.func22, Try.ntmps22
    go_wp2_with (go_at_call 49; refine (impl_IsPerm_ok _ xs _ h).mono ?_; rintro e w1 ⟨rfl, he⟩; rw [hP.out])
    go_ret
    exact ⟨by rw [e0.out]; rfl, he⟩
  · have hP := Lib.hid hp
    have h8 : xs.length ≤ 8 := (isP8_iff.1 hp).1
    have e0 : Hid (popSortedB xs = srtB (popL xs)) := by show _ = _; simp [popSortedB, hp]
    have hbl : (popL xs).length ≤ 1000000000 := by rw [popL_len]; omega
    clear hp
    go_enter Try.func22, Try.ntmps22
    go_wp2_with (first | (go_at_call 49; refine (impl_IsPerm_ok _ xs _ h).mono ?_; rintro e w1 ⟨rfl, he⟩; rw [hP.out]) | (go_at_call 50; refine (popPass_ok _ xs _ (isP8_iff.1 hP.out).2 (by omega) (h.ext he)).mono ?_; rintro e w2 ⟨v2, rfl, ho, he2⟩) | (go_at_call 55; refine (isRising_ok _ (popL xs) _ ho.si hbl).mono ?_; rintro e w3 ⟨rfl, hq⟩))
    go_ret
    exact ⟨by rw [e0.out]; rfl, (he.trans he2).trans hq.ext⟩
set_option maxHeartbeats 400000 in
theorem spec_IsPopSorted_ok (v : Value) (xs : List Int) (w : World) (h : SI w v xs) (hl : xs.length ≤ 1048576) (_hb : I64s xs) :
    Calls Try.prog 23 #[v] w fun e w' => e = .returned (.bool (popSortedB xs)) ∧ Ext w w' := by
  cases hp : isP8 xs
  · have hP := Lib.hid hp
    have e0 : Hid (popSortedB xs = false) := by show _ = _; simp [popSortedB, hp]
    clear hp
    go_enter Try.func23, Try.ntmps23
    go_wp2_with (go_at_call 29; refine (spec_IsPerm_qt _ xs _ h (by omega)).mono ?_; rintro e w1 ⟨rfl, hq⟩; rw [hP.out])
    go_ret
    exact ⟨by rw [e0.out]; rfl, hq.ext⟩
  · have hP := Lib.hid hp
    have h8 : xs.length ≤ 8 := (isP8_iff.1 hp).1
    have hpp : IsP xs := (isP8_iff.1 hp).2
    have e0 : Hid (popSortedB xs = srtB (popL xs)) := by show _ = _; simp [popSortedB, hp]
    have hbl : (popL xs).length ≤ 8 := by rw [popL_len]; omega
    have hse := Lib.hid (srtB_eq (pop_ok.perm xs hpp))
    clear hp
    go_enter Try.func23, Try.ntmps23
    go_wp2_with (first | (go_at_call 29; refine (spec_IsPerm_qt _ xs _ h (by omega)).mono ?_; rintro e w1 ⟨rfl, hq⟩; rw [hP.out]) | (go_at_call 56; refine (l22Pass_ok _ xs _ (by omega) (h.ext hq.ext)).mono ?_; rintro e w2 ⟨v2, rfl, ho, he2⟩) | (go_at_call 57; refine (l13Straight_ok _ (popL xs) _ ho.si hbl).mono ?_; rintro e w3 ⟨rfl, he3⟩; rw [hse.out]))
    go_ret
    exact ⟨by rw [e0.out]; rfl, ((show Ext w w1 from hq.ext).trans he2).trans he3⟩
set_option maxHeartbeats 400000 in
theorem impl_PopTimes_ok (v : Value) (xs : List Int) (w : World) (h : SI w v xs) (hl : xs.length ≤ 1048576) (_hb : I64s xs) :
    Calls Try.prog 15 #[v] w fun e w' => e = .returned (.int .i64 (tmsI popL xs)) ∧ Ext w w' := by
  have hen : Enters 50 := enters_of Try.func50 rfl rfl
  cases hp : isP8 xs
  · have hP := Lib.hid hp
    have e0 : Hid (tmsI popL xs = -1) := by show _ = _; simp [tmsI, hp]
    clear hp hen
    go_enter Try.func15, Try.ntmps15
    go_wp2_with (go_at_call 49; refine (impl_IsPerm_ok _ xs _ h).mono ?_; rintro e w1 ⟨rfl, he⟩; rw [hP.out])
    go_ret
    exact ⟨by rw [e0.out]; rfl, he⟩
  · have hP := Lib.hid hp
    have h8 : xs.length ≤ 8 := (isP8_iff.1 hp).1
    have hpp : IsP xs := (isP8_iff.1 hp).2
    have e0 : Hid (tmsI popL xs = (tms popL xs : Int)) := by show _ = _; simp [tmsI, hp]
    have HEN := Lib.hid hen
    clear hp hen
    go_enter Try.func15, Try.ntmps15
    go_wp2_with (first | (go_at_call 49; refine (impl_IsPerm_ok _ xs _ h).mono ?_; rintro e w1 ⟨rfl, he⟩; rw [hP.out]) | (go_at_call 52; refine (timesOf_ok 50 popL pop_ok HEN.out (fun v ys w hp hl hs => popPass_ok v ys w hp (by omega) hs) _ xs _ (h.ext he) hpp h8).mono ?_; rintro e w2 ⟨rfl, he2⟩))
    go_ret
    exact ⟨by rw [e0.out]; rfl, he.trans he2⟩
set_option maxHeartbeats 1000000 in
theorem spec_PopTimes_ok (v : Value) (xs : List Int) (w : World) (h : SI w v xs) (hl : xs.length ≤ 1048576) (_hb : I64s xs) :
    Calls Try.prog 24 #[v] w fun e w' => e = .returned (.int .i64 (tmsI popL xs)) ∧ Ext w w' := by
  cases hp : isP8 xs
  · have hP := Lib.hid hp
    have e0 : Hid (tmsI popL xs = -1) := by show _ = _; simp [tmsI, hp]
    clear hp
    go_enter Try.func24, Try.ntmps24
    go_wp2_with (go_at_call 29; refine (spec_IsPerm_qt _ xs _ h (by omega)).mono ?_; rintro e w1 ⟨rfl, hq⟩; rw [hP.out])
    go_ret
    exact ⟨by rw [e0.out]; rfl, hq.ext⟩
  · have hP := Lib.hid hp
    have h8 : xs.length ≤ 8 := (isP8_iff.1 hp).1
    have hpp : IsP xs := (isP8_iff.1 hp).2
    have e0 : Hid (tmsI popL xs = (tms popL xs : Int)) := by show _ = _; simp [tmsI, hp]
    have hib := inv_bound xs (by omega)
    clear hp
    go_enter Try.func24, Try.ntmps24
    go_wp2_with (go_at_call 29; refine (spec_IsPerm_qt _ xs _ h (by omega)).mono ?_; rintro e w1 ⟨rfl, hq1⟩; rw [hP.out])
    have h1 := h.ext hq1.ext
    have he1 : Ext w w1 := hq1.ext
    go_loopw [0, 3] (fun p c wr => (∃ ys : List Int, SI wr p ys ∧ IsP ys ∧ ys.length ≤ 8 ∧ inv ys ≤ inv xs ∧ ∃ n : Nat, c = .int .i64 n ∧ n + tms popL ys = tms popL xs ∧ n + inv ys ≤ inv xs) ∧ Ext w wr) (fun _ c _ => inv xs - (intOf c).toNat)
    case atStart => exact ⟨⟨xs, h1, hpp, h8, Nat.le_refl _, 0, rfl, by omega, by omega⟩, he1⟩
    case round =>
      obtain ⟨⟨ys, hs, hpy, hly, hiy, n, rfl, hn, hni⟩, he⟩ := hrel
      have HN := Lib.hid hn
      have hnb : n ≤ 1000000 := by omega
      have HSE := Lib.hid (srtB_eq hpy)
      clear hn h hpp h1
      cases hb : srtB ys
      · have HB := Lib.hid hb
        have hd := Lib.hid (pop_ok.dec ys hpy (fun hh => by rw [srtB_true hh] at hb; simp at hb))
        have hstep := Lib.hid (tms_step pop_ok hpy hb)
        clear hb
        go_wp2_with fail
        refine (l13Straight_ok _ ys _ hs hly).mono ?_
        rintro e w2 ⟨rfl, he2⟩
        rw [HSE.out, HB.out]
        go_wp2_with fail
        refine (l22Pass_ok _ ys _ hly (hs.ext he2)).mono ?_
        rintro e w3 ⟨v3, rfl, ho, he3⟩
        go_wp2_with fail
        have hd' := hd.out
        refine ⟨⟨⟨popL ys, ho.si, pop_ok.perm ys hpy, by rw [pop_ok.len]; exact hly, by omega, n + 1, by go_num, by have := HN.out; have := hstep.out; omega, by omega⟩, (he.trans he2).trans he3⟩, ?_⟩
        simp [intOf]; omega
      · have HB := Lib.hid hb
        have hz := tms_sorted (g := popL) hb
        clear hb
        go_wp2_with fail
        refine (l13Straight_ok _ ys _ hs hly).mono ?_
        rintro e w2 ⟨rfl, he2⟩
        rw [HSE.out, HB.out]
        have hfin : tms popL xs = n := by have := HN.out; omega
        have HF := Lib.hid hfin
        clear hfin hz
        go_wp2_with fail
        go_ret
        exact ⟨by rw [e0.out, HF.out]; rfl, he.trans he2⟩
end Go.Proofs.Ytognbiodplodhaa
