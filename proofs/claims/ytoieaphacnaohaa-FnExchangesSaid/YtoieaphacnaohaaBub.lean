/- Contracts of BubblePass, BubbleTimes and IsBubbleSorted, the program's and the reference's. Conditions: a length below a bound. -/
import Derived.Test.YtoieaphacnaohaaPass
import Derived.Test.YtoieaphacnaohaaIns
namespace Go.Proofs.Ytoieaphacnaohaa
open Go.RowKit

def bubTo (xs : List Int) : Nat → List Int
  | 0 => xs
  | k + 1 => if nth (bubTo xs k) (k + 1) < nth (bubTo xs k) k then swp (bubTo xs k) (k + 1) else bubTo xs k
def bubL (xs : List Int) : List Int := bubTo xs (xs.length - 1)
theorem bubTo_len (xs : List Int) (k : Nat) : (bubTo xs k).length = xs.length := by
  induction k with
  | zero => rfl
  | succ k ih => unfold bubTo; split <;> simp [swp_len, ih]
theorem swp_perm (ys : List Int) (i : Nat) (hi : 0 < i) (h : i < ys.length) : (swp ys i).Perm ys := by
  have h1 := swap_split ys (i - 1) (by omega)
  have h2 := swap_set ys (i - 1) (by omega) (nth ys i) (nth ys (i - 1))
  rw [Nat.sub_add_cancel hi] at h1 h2
  unfold swp
  rw [List.set_comm _ _ (by omega), h2]
  conv => rhs; rw [h1]
  exact List.Perm.append_left _ (List.Perm.swap _ _ _)
theorem IsP.ofPerm {xs ys : List Int} (h : IsP xs) (hp : ys.Perm xs) : IsP ys :=
  ⟨fun x hx => by rw [hp.length_eq]; exact h.1 x (hp.mem_iff.1 hx), hp.nodup_iff.2 h.2⟩
theorem bubTo_perm (xs : List Int) (k : Nat) (h : k < xs.length ∨ k = 0) : (bubTo xs k).Perm xs := by
  induction k with
  | zero => exact List.Perm.refl _
  | succ k ih =>
    have h' := ih (by omega)
    unfold bubTo
    split
    · exact (swp_perm _ _ (by omega) (by rw [bubTo_len]; omega)).trans h'
    · exact h'
theorem bubTo_inv (xs : List Int) (k : Nat) (h : k < xs.length ∨ k = 0) : (bubTo xs k = xs ∧ ∀ i, i < k → nth xs i ≤ nth xs (i + 1)) ∨ inv (bubTo xs k) < inv xs := by
  induction k with
  | zero => exact .inl ⟨rfl, fun i hi => by omega⟩
  | succ k ih =>
    unfold bubTo
    split
    · rename_i hlt
      have hs := swp_inv (ys := bubTo xs k) (i := k + 1) (by omega) (by rw [bubTo_len]; omega) (by simpa using hlt)
      rcases ih (by omega) with ⟨h1, _⟩ | h1
      · right; rw [h1] at hs ⊢; omega
      · right; omega
    · rename_i hge
      rcases ih (by omega) with ⟨h1, h2⟩ | h1
      · left
        refine ⟨h1, fun i hi => ?_⟩
        by_cases e : i = k
        · subst e; rw [h1] at hge; omega
        · exact h2 i (by omega)
      · exact .inr h1
theorem bub_ok : PassOK bubL where
  len xs := bubTo_len xs _
  perm xs h := h.ofPerm (bubTo_perm xs _ (by omega))
  dec xs hp hn := by
    rcases bubTo_inv xs (xs.length - 1) (by omega) with ⟨_, h⟩ | h
    · exact absurd (fun i hi => h i (by omega)) hn
    · exact h

set_option maxHeartbeats 1000000 in
theorem l25Pass_ok (v : Value) (xs : List Int) (w : World) (h : SI w v xs) (hl : xs.length ≤ 1000) :
    Calls Try.prog 58 #[v] w fun e w' => ∃ v', e = .returned v' ∧ OI w.heap.size w'.heap.size w' v' (bubL xs) ∧ Ext w w' := by
  have h0 := h
  obtain ⟨a, cap, rfl, hri⟩ := h0.elim
  go_enter Try.func58, Try.ntmps58
  go_wp2_with (at_builtin; refine wpl_appSI rfl _ _ rfl w.heap.size 0 0 [] xs rfl (Row.new 3 w [] (by simp)) rfl _ rfl (h.ext (Upd.alloc _ _ _)) (by simp) (by omega) ?_; intro b c w2 hr hs hu)
  rw [List.nil_append] at hr
  have he1 : Ext w (w.alloc (.cells #[] 3)) := Upd.alloc _ _ _
  have he2 : Ext w w2 := he1.upd1 hu (by omega)
  have hbb : w.heap.size ≤ b := by
    rcases hs with e | e
    · omega
    · simp at e; omega
  clear hri h hu hs he1
  go_loopw [4] (fun i wr => ∃ k : Nat, (k < xs.length ∨ k = 0) ∧ i = .int .i64 k ∧ Row 3 wr b c (vals (bubTo xs k)) ∧ Ext w wr) (fun i _ => xs.length - (intOf i).toNat)
  case atStart => exact ⟨0, .inr rfl, rfl, hr, he2⟩
  case round =>
    obtain ⟨k, hk, rfl, hr1, he⟩ := hrel
    have hbl := Lib.hid (bubTo_len xs k)
    clear hr
    by_cases hlt : k + 1 < xs.length
    · have c0 := hr1.icell (j := k) (by rw [hbl.out]; omega)
      have c1 := hr1.icell (j := k + 1) (by rw [hbl.out]; omega)
      have w1 : IntKind.i64.wrap ((k : Int) + 1) = (k : Int) + 1 := IntWalk.i64_in _ (by omega)
      have w2 : 0 ≤ (k : Int) + 1 := by omega
      have w3 : ((k : Int) + 1).toNat = k + 1 := by omega
      have w4 : (k : Int) + 1 < (xs.length : Int) := by omega
      have w5 : (k : Int) < (xs.length : Int) := by omega
      by_cases hgt : nth (bubTo xs k) (k + 1) < nth (bubTo xs k) k
      · have f0 := hr1.free k none
        have f1 := hr1.free (k + 1) none
        have hset := (hr1.set k (.int .i64 (nth (bubTo xs k) (k + 1)))).set (k + 1) (.int .i64 (nth (bubTo xs k) k))
        rw [vals_set, vals_set] at hset
        have hbs : bubTo xs (k + 1) = ((bubTo xs k).set k (nth (bubTo xs k) (k + 1))).set (k + 1) (nth (bubTo xs k) k) := by
          rw [bubTo, if_pos hgt]; unfold swp; rw [Nat.add_sub_cancel, List.set_comm _ _ (by omega)]
        rw [← hbs] at hset
        have HS := Lib.hid hset
        have HU := (Upd.setCell wr ⟨b, k, none⟩ (.int .i64 (nth (bubTo xs k) (k + 1)))).trans (Upd.setCell _ ⟨b, k + 1, none⟩ (.int .i64 (nth (bubTo xs k) k)))
        clear hr1 hset hbs
        go_wp2
        go_quiet (fail)
        go_wp2
        go_roundw
        case rel =>
          refine ⟨k + 1, by omega, by go_num, ?_, ?_⟩
          · first | exact HS.out.ext (Upd.drewN _ _ _) | exact HS.out
          · first | exact (he.upd1 HU hbb).drewN _ | exact he.upd1 HU hbb
        case measure => simp [intOf]; omega
      · have hbs : Hid (bubTo xs (k + 1) = bubTo xs k) := by show _ = _; rw [bubTo, if_neg hgt]
        go_wp2
        go_quiet (fail)
        clear w1 w3
        go_wp2
        go_roundw
        case rel => exact ⟨k + 1, by omega, by go_num, by rw [hbs.out]; exact hr1.ext (Upd.drewN _ _ _), he.drewN _⟩
        case measure => simp [intOf]; omega
    · have hfin : Hid (bubL xs = bubTo xs k) := by show _ = _; unfold bubL; congr 1; omega
      go_wp2
      go_ret
      rw [hfin.out]
      exact ⟨_, rfl, OI.row hr1 hbb hbl.out.symm, he⟩
set_option maxHeartbeats 1000000 in
theorem bubblePass_ok (v : Value) (xs : List Int) (w : World) (h : SI w v xs) (hl : xs.length ≤ 1000) :
    Calls Try.prog 51 #[v] w fun e w' => ∃ v', e = .returned v' ∧ OI w.heap.size w'.heap.size w' v' (bubL xs) ∧ Ext w w' := by
  go_enter Try.func51, Try.ntmps51
  go_wp2_with fail
  refine (slicesClone_ok _ xs _ h (by omega)).mono ?_
  rintro e w2 ⟨v2, rfl, ho, he2⟩
  rcases ho with ⟨rfl, rfl⟩ | ⟨b, c, rfl, hbb, hbz, hr⟩
  · go_wp2_with fail
    go_loopw [4] (fun i wr => i = .int .i64 0 ∧ w2 = wr) (fun _ _ => 0)
    case atStart => exact ⟨rfl, rfl⟩
    case round =>
      obtain ⟨rfl, rfl⟩ := hrel
      go_wp2_with fail
      go_ret
      exact ⟨_, rfl, OI.nil _ _ _, he2⟩
  · clear h
    go_wp2_with fail
    go_loopw [4] (fun i wr => ∃ k : Nat, (k < xs.length ∨ k = 0) ∧ i = .int .i64 k ∧ Row 3 wr b c (vals (bubTo xs k)) ∧ Ext w wr) (fun i _ => xs.length - (intOf i).toNat)
    case atStart => exact ⟨0, .inr rfl, rfl, hr, he2⟩
    case round =>
      obtain ⟨k, hk, rfl, hr1, he⟩ := hrel
      have hbl := Lib.hid (bubTo_len xs k)
      clear hr
      by_cases hlt : k + 1 < xs.length
      · have c0 := hr1.icell (j := k) (by rw [hbl.out]; omega)
        have c1 := hr1.icell (j := k + 1) (by rw [hbl.out]; omega)
        have w1 : IntKind.i64.wrap ((k : Int) + 1) = (k : Int) + 1 := IntWalk.i64_in _ (by omega)
        have w2 : 0 ≤ (k : Int) + 1 := by omega
        have w3 : ((k : Int) + 1).toNat = k + 1 := by omega
        have w4 : (k : Int) + 1 < (xs.length : Int) := by omega
        have w5 : (k : Int) < (xs.length : Int) := by omega
        by_cases hgt : nth (bubTo xs k) (k + 1) < nth (bubTo xs k) k
        · have f0 := hr1.free k none
          have f1 := hr1.free (k + 1) none
          have hbs : bubTo xs (k + 1) = ((bubTo xs k).set k (nth (bubTo xs k) (k + 1))).set (k + 1) (nth (bubTo xs k) k) := by
            rw [bubTo, if_pos hgt]; unfold swp; rw [Nat.add_sub_cancel, List.set_comm _ _ (by omega)]
          have HS : Hid (∀ m, Row 3 (((wr.drewN m).setCell ⟨b, k, none⟩ (.int .i64 (nth (bubTo xs k) (k + 1)))).setCell ⟨b, k + 1, none⟩ (.int .i64 (nth (bubTo xs k) k))) b c (vals (bubTo xs (k + 1)))) := fun m => by
            have hset := ((hr1.ext (Upd.drewN wr m _)).set k (.int .i64 (nth (bubTo xs k) (k + 1)))).set (k + 1) (.int .i64 (nth (bubTo xs k) k))
            rw [vals_set, vals_set, ← hbs] at hset
            exact hset
          have HU : Hid (∀ m, Ext w (((wr.drewN m).setCell ⟨b, k, none⟩ (.int .i64 (nth (bubTo xs k) (k + 1)))).setCell ⟨b, k + 1, none⟩ (.int .i64 (nth (bubTo xs k) k)))) := fun m => ((he.drewN m).setCell hbb _).setCell hbb _
          clear hr1 hbs
          go_wp2
          go_quiet (fail)
          go_wp2
          go_region
          go_wp2
          go_roundw
          case rel => exact ⟨k + 1, by omega, by go_num, HS.out _, HU.out _⟩
          case measure => simp [intOf]; omega
        · have hbs : Hid (bubTo xs (k + 1) = bubTo xs k) := by show _ = _; rw [bubTo, if_neg hgt]
          go_wp2
          go_quiet (fail)
          clear w1 w3
          go_wp2
          go_roundw
          case rel => exact ⟨k + 1, by omega, by go_num, by rw [hbs.out]; exact hr1.ext (Upd.drewN _ _ _), he.drewN _⟩
          case measure => simp [intOf]; omega
      · have hfin : Hid (bubL xs = bubTo xs k) := by show _ = _; unfold bubL; congr 1; omega
        go_wp2
        go_ret
        rw [hfin.out]
        exact ⟨_, rfl, OI.row hr1 hbb hbl.out.symm, he⟩

def bubOfL (xs : List Int) : List Int := bif isP8 xs then bubL xs else []
def bubSortedB (xs : List Int) : Bool := isP8 xs && srtB (bubL xs)
theorem bound_BubblePass (xs : List Int) (_h : xs.length ≤ 1048576) : (bubOfL xs).length ≤ 1048576 := by
  unfold bubOfL
  cases isP8 xs
  · simp
  · simp [bubL, bubTo_len]; omega

set_option maxHeartbeats 400000 in
theorem spec_BubblePass_ok (v : Value) (xs : List Int) (w : World) (h : SI w v xs) (hl : xs.length ≤ 1048576) (_hb : I64s xs) :
    Calls Try.prog 22 #[v] w fun e w' => ∃ v', e = .returned v' ∧ OI w.heap.size w'.heap.size w' v' (bubOfL xs) ∧ Ext w w' := by
  cases hp : isP8 xs
  · have hP := Lib.hid hp
    have e0 : Hid (bubOfL xs = []) := by show _ = _; simp [bubOfL, hp]
    clear hp
    go_enter Try.func22, Try.ntmps22
    go_wp2_with (go_at_call 30; refine (spec_IsPerm_qt _ xs _ h (by omega)).mono ?_; rintro e w1 ⟨rfl, hq⟩; rw [hP.out])
    go_ret
    rw [e0.out]
    exact ⟨_, rfl, OI.row (Row.new 3 w1 [] (by simp)) hq.ext.size rfl, (show Ext w w1 from hq.ext).alloc _⟩
  · have hP := Lib.hid hp
    have h8 : xs.length ≤ 8 := (isP8_iff.1 hp).1
    have e0 : Hid (bubOfL xs = bubL xs) := by show _ = _; simp [bubOfL, hp]
    clear hp
    go_enter Try.func22, Try.ntmps22
    go_wp2_with (first | (go_at_call 30; refine (spec_IsPerm_qt _ xs _ h (by omega)).mono ?_; rintro e w1 ⟨rfl, hq⟩; rw [hP.out]) | (go_at_call 58; refine (l25Pass_ok _ xs _ (h.ext hq.ext) (by omega)).mono ?_; rintro e w2 ⟨v2, rfl, ho, he⟩))
    go_ret
    rw [e0.out]
    exact ⟨_, rfl, ho.mono hq.ext.size (Nat.le_refl _), (show Ext w w1 from hq.ext).trans he⟩
set_option maxHeartbeats 400000 in
theorem impl_BubblePass_ok (v : Value) (xs : List Int) (w : World) (h : SI w v xs) (hl : xs.length ≤ 1048576) (_hb : I64s xs) :
    Calls Try.prog 14 #[v] w fun e w' => ∃ v', e = .returned v' ∧ OI w.heap.size w'.heap.size w' v' (bubOfL xs) ∧ Ext w w' := by
  cases hp : isP8 xs
  · have hP := Lib.hid hp
    have e0 : Hid (bubOfL xs = []) := by show _ = _; simp [bubOfL, hp]
    clear hp
    go_enter Try.func14, Try.ntmps14
    go_wp2_with (go_at_call 50; refine (impl_IsPerm_ok _ xs _ h).mono ?_; rintro e w1 ⟨rfl, he⟩; rw [hP.out])
    go_ret
    rw [e0.out]
    exact ⟨_, rfl, OI.nil _ _ _, he⟩
  · have hP := Lib.hid hp
    have h8 : xs.length ≤ 8 := (isP8_iff.1 hp).1
    have e0 : Hid (bubOfL xs = bubL xs) := by show _ = _; simp [bubOfL, hp]
    clear hp
    go_enter Try.func14, Try.ntmps14
    go_wp2_with (first | (go_at_call 50; refine (impl_IsPerm_ok _ xs _ h).mono ?_; rintro e w1 ⟨rfl, he⟩; rw [hP.out]) | (go_at_call 51; refine (bubblePass_ok _ xs _ (h.ext he) (by omega)).mono ?_; rintro e w2 ⟨v2, rfl, ho, he2⟩))
    go_ret
    rw [e0.out]
    exact ⟨_, rfl, ho.mono he.size (Nat.le_refl _), he.trans he2⟩
set_option maxHeartbeats 400000 in
theorem impl_IsBubbleSorted_ok (v : Value) (xs : List Int) (w : World) (h : SI w v xs) (hl : xs.length ≤ 1048576) (_hb : I64s xs) :
    Calls Try.prog 28 #[v] w fun e w' => e = .returned (.bool (bubSortedB xs)) ∧ Ext w w' := by
  cases hp : isP8 xs
  · have hP := Lib.hid hp
    have e0 : Hid (bubSortedB xs = false) := by show _ = _; simp [bubSortedB, hp]
    clear hp
    go_enter Try.func28, Try.ntmps28
    go_wp2_with (go_at_call 50; refine (impl_IsPerm_ok _ xs _ h).mono ?_; rintro e w1 ⟨rfl, he⟩; rw [hP.out])
    go_ret
    exact ⟨by rw [e0.out]; rfl, he⟩
  · have hP := Lib.hid hp
    have h8 : xs.length ≤ 8 := (isP8_iff.1 hp).1
    have e0 : Hid (bubSortedB xs = srtB (bubL xs)) := by show _ = _; simp [bubSortedB, hp]
    have hbl : (bubL xs).length ≤ 1000000000 := by unfold bubL; rw [bubTo_len]; omega
    clear hp
    go_enter Try.func28, Try.ntmps28
    go_wp2_with (first | (go_at_call 50; refine (impl_IsPerm_ok _ xs _ h).mono ?_; rintro e w1 ⟨rfl, he⟩; rw [hP.out]) | (go_at_call 51; refine (bubblePass_ok _ xs _ (h.ext he) (by omega)).mono ?_; rintro e w2 ⟨v2, rfl, ho, he2⟩) | (go_at_call 61; refine (isRising_ok _ (bubL xs) _ ho.si hbl).mono ?_; rintro e w3 ⟨rfl, hq⟩))
    go_ret
    exact ⟨by rw [e0.out]; rfl, (he.trans he2).trans hq.ext⟩
set_option maxHeartbeats 400000 in
theorem spec_IsBubbleSorted_ok (v : Value) (xs : List Int) (w : World) (h : SI w v xs) (hl : xs.length ≤ 1048576) (_hb : I64s xs) :
    Calls Try.prog 29 #[v] w fun e w' => e = .returned (.bool (bubSortedB xs)) ∧ Ext w w' := by
  cases hp : isP8 xs
  · have hP := Lib.hid hp
    have e0 : Hid (bubSortedB xs = false) := by show _ = _; simp [bubSortedB, hp]
    clear hp
    go_enter Try.func29, Try.ntmps29
    go_wp2_with (go_at_call 30; refine (spec_IsPerm_qt _ xs _ h (by omega)).mono ?_; rintro e w1 ⟨rfl, hq⟩; rw [hP.out])
    go_ret
    exact ⟨by rw [e0.out]; rfl, hq.ext⟩
  · have hP := Lib.hid hp
    have h8 : xs.length ≤ 8 := (isP8_iff.1 hp).1
    have hpp : IsP xs := (isP8_iff.1 hp).2
    have e0 : Hid (bubSortedB xs = srtB (bubL xs)) := by show _ = _; simp [bubSortedB, hp]
    have hbl : (bubL xs).length ≤ 8 := by unfold bubL; rw [bubTo_len]; omega
    have hse := Lib.hid (srtB_eq (bub_ok.perm xs hpp))
    clear hp
    go_enter Try.func29, Try.ntmps29
    go_wp2_with (first | (go_at_call 30; refine (spec_IsPerm_qt _ xs _ h (by omega)).mono ?_; rintro e w1 ⟨rfl, hq⟩; rw [hP.out]) | (go_at_call 58; refine (l25Pass_ok _ xs _ (h.ext hq.ext) (by omega)).mono ?_; rintro e w2 ⟨v2, rfl, ho, he2⟩) | (go_at_call 59; refine (l13Straight_ok _ (bubL xs) _ ho.si hbl).mono ?_; rintro e w3 ⟨rfl, he3⟩; rw [hse.out]))
    go_ret
    exact ⟨by rw [e0.out]; rfl, ((show Ext w w1 from hq.ext).trans he2).trans he3⟩
set_option maxHeartbeats 400000 in
theorem impl_BubbleTimes_ok (v : Value) (xs : List Int) (w : World) (h : SI w v xs) (hl : xs.length ≤ 1048576) (_hb : I64s xs) :
    Calls Try.prog 16 #[v] w fun e w' => e = .returned (.int .i64 (tmsI bubL xs)) ∧ Ext w w' := by
  have hen : Enters 51 := enters_of Try.func51 rfl rfl
  cases hp : isP8 xs
  · have hP := Lib.hid hp
    have e0 : Hid (tmsI bubL xs = -1) := by show _ = _; simp [tmsI, hp]
    clear hp hen
    go_enter Try.func16, Try.ntmps16
    go_wp2_with (go_at_call 50; refine (impl_IsPerm_ok _ xs _ h).mono ?_; rintro e w1 ⟨rfl, he⟩; rw [hP.out])
    go_ret
    exact ⟨by rw [e0.out]; rfl, he⟩
  · have hP := Lib.hid hp
    have h8 : xs.length ≤ 8 := (isP8_iff.1 hp).1
    have hpp : IsP xs := (isP8_iff.1 hp).2
    have e0 : Hid (tmsI bubL xs = (tms bubL xs : Int)) := by show _ = _; simp [tmsI, hp]
    have HEN := Lib.hid hen
    clear hp hen
    go_enter Try.func16, Try.ntmps16
    go_wp2_with (first | (go_at_call 50; refine (impl_IsPerm_ok _ xs _ h).mono ?_; rintro e w1 ⟨rfl, he⟩; rw [hP.out]) | (go_at_call 52; refine (timesOf_ok 51 bubL bub_ok HEN.out (fun v ys w hp hl hs => bubblePass_ok v ys w hs (by omega)) _ xs _ (h.ext he) hpp h8).mono ?_; rintro e w2 ⟨rfl, he2⟩))
    go_ret
    exact ⟨by rw [e0.out]; rfl, he.trans he2⟩
set_option maxHeartbeats 1000000 in
theorem spec_BubbleTimes_ok (v : Value) (xs : List Int) (w : World) (h : SI w v xs) (hl : xs.length ≤ 1048576) (_hb : I64s xs) :
    Calls Try.prog 23 #[v] w fun e w' => e = .returned (.int .i64 (tmsI bubL xs)) ∧ Ext w w' := by
  cases hp : isP8 xs
  · have hP := Lib.hid hp
    have e0 : Hid (tmsI bubL xs = -1) := by show _ = _; simp [tmsI, hp]
    clear hp
    go_enter Try.func23, Try.ntmps23
    go_wp2_with (go_at_call 30; refine (spec_IsPerm_qt _ xs _ h (by omega)).mono ?_; rintro e w1 ⟨rfl, hq⟩; rw [hP.out])
    go_ret
    exact ⟨by rw [e0.out]; rfl, hq.ext⟩
  · have hP := Lib.hid hp
    have h8 : xs.length ≤ 8 := (isP8_iff.1 hp).1
    have hpp : IsP xs := (isP8_iff.1 hp).2
    have e0 : Hid (tmsI bubL xs = (tms bubL xs : Int)) := by show _ = _; simp [tmsI, hp]
    have hib := inv_bound xs (by omega)
    clear hp
    go_enter Try.func23, Try.ntmps23
    go_wp2_with (go_at_call 30; refine (spec_IsPerm_qt _ xs _ h (by omega)).mono ?_; rintro e w1 ⟨rfl, hq1⟩; rw [hP.out])
    have h1 := h.ext hq1.ext
    have he1 : Ext w w1 := hq1.ext
    go_loopw [0, 3] (fun p c wr => (∃ ys : List Int, SI wr p ys ∧ IsP ys ∧ ys.length ≤ 8 ∧ inv ys ≤ inv xs ∧ ∃ n : Nat, c = .int .i64 n ∧ n + tms bubL ys = tms bubL xs ∧ n + inv ys ≤ inv xs) ∧ Ext w wr) (fun _ c _ => inv xs - (intOf c).toNat)
    case atStart => exact ⟨⟨xs, h1, hpp, h8, Nat.le_refl _, 0, rfl, by omega, by omega⟩, he1⟩
    case round =>
      obtain ⟨⟨ys, hs, hpy, hly, hiy, n, rfl, hn, hni⟩, he⟩ := hrel
      have HN := Lib.hid hn
      have hnb : n ≤ 1000000 := by omega
      have HSE := Lib.hid (srtB_eq hpy)
      clear hn h hpp h1
      cases hb : srtB ys
      · have HB := Lib.hid hb
        have hd := Lib.hid (bub_ok.dec ys hpy (fun hh => by rw [srtB_true hh] at hb; simp at hb))
        have hstep := Lib.hid (tms_step bub_ok hpy hb)
        clear hb
        go_wp2_with fail
        refine (l13Straight_ok _ ys _ hs hly).mono ?_
        rintro e w2 ⟨rfl, he2⟩
        rw [HSE.out, HB.out]
        go_wp2_with fail
        refine (l25Pass_ok _ ys _ (hs.ext he2) (by omega)).mono ?_
        rintro e w3 ⟨v3, rfl, ho, he3⟩
        go_wp2_with fail
        have hd' := hd.out
        refine ⟨⟨⟨bubL ys, ho.si, bub_ok.perm ys hpy, by rw [bub_ok.len]; exact hly, by omega, n + 1, by go_num, by have := HN.out; have := hstep.out; omega, by omega⟩, (he.trans he2).trans he3⟩, ?_⟩
        simp [intOf]; omega
      · have HB := Lib.hid hb
        have hz := tms_sorted (g := bubL) hb
        clear hb
        go_wp2_with fail
        refine (l13Straight_ok _ ys _ hs hly).mono ?_
        rintro e w2 ⟨rfl, he2⟩
        rw [HSE.out, HB.out]
        have hfin : tms bubL xs = n := by have := HN.out; omega
        have HF := Lib.hid hfin
        clear hfin hz
        go_wp2_with fail
        go_ret
        exact ⟨by rw [e0.out, HF.out]; rfl, he.trans he2⟩
end Go.Proofs.Ytoieaphacnaohaa
