/- Contracts of TurnedForm, the program's and the reference's: for each c how many numbers are at least c. Conditions: a length below a bound. -/
import Derived.Test.YtoieaphacnaohaaFunc
namespace Go.Proofs.Ytoieaphacnaohaa
open Go.RowKit

def geTo (xs : List Int) (c : Int) (j : Nat) : Nat := (xs.take j).countP (fun n => decide (c ≤ n))
def ge (xs : List Int) (c : Int) : Nat := xs.countP (fun n => decide (c ≤ n))
theorem geTo_zero (xs : List Int) (c : Int) : geTo xs c 0 = 0 := by simp [geTo]
theorem geTo_all (xs : List Int) (c : Int) : geTo xs c xs.length = ge xs c := by simp [geTo, ge]
theorem geTo_succ (xs : List Int) (c : Int) (j : Nat) (h : j < xs.length) : geTo xs c (j + 1) = geTo xs c j + (if c ≤ nth xs j then 1 else 0) := by
  unfold geTo
  rw [take_nth h, List.countP_append]; simp
theorem geTo_le (xs : List Int) (c : Int) (j : Nat) : geTo xs c j ≤ xs.length := by
  unfold geTo
  refine Nat.le_trans List.countP_le_length ?_
  simp; omega
theorem ge_pos {xs : List Int} {c : Int} : 0 < ge xs c ↔ ∃ x ∈ xs, c ≤ x := by simp [ge, List.countP_pos_iff]
def mxL (xs : List Int) : Int := xs.foldl max 0
theorem mxL_snoc (xs : List Int) (x : Int) : mxL (xs ++ [x]) = max (mxL xs) x := by simp [mxL]
theorem mx_fold (xs : List Int) : ∀ a : Int, a ≤ xs.foldl max a ∧ (∀ x ∈ xs, x ≤ xs.foldl max a) ∧ (xs.foldl max a = a ∨ xs.foldl max a ∈ xs) := by
  induction xs with
  | nil => intro a; simp
  | cons y ys ih =>
    intro a
    obtain ⟨h1, h2, h3⟩ := ih (max a y)
    simp only [List.foldl_cons]
    refine ⟨by omega, fun x hx => ?_, ?_⟩
    · rcases List.mem_cons.1 hx with rfl | hx
      · omega
      · exact h2 x hx
    · rcases h3 with h3 | h3
      · by_cases h : y ≤ a
        · left; rw [h3]; omega
        · right; rw [h3]; simp; left; omega
      · right; exact List.mem_cons_of_mem _ h3
theorem mxL_nonneg (xs : List Int) : 0 ≤ mxL xs := (mx_fold xs 0).1
theorem le_mxL {xs : List Int} {x : Int} (h : x ∈ xs) : x ≤ mxL xs := (mx_fold xs 0).2.1 x h
theorem mxL_mem (xs : List Int) : mxL xs = 0 ∨ mxL xs ∈ xs := (mx_fold xs 0).2.2
theorem ge_zero_iff {xs : List Int} {c : Int} (hc : 1 ≤ c) : ge xs c = 0 ↔ mxL xs < c := by
  constructor
  · intro h
    rcases mxL_mem xs with h1 | h1
    · omega
    · rcases Int.lt_or_le (mxL xs) c with h2 | h2
      · exact h2
      · have := ge_pos.2 ⟨_, h1, h2⟩; omega
  · intro h
    rcases Nat.eq_zero_or_pos (ge xs c) with h1 | h1
    · exact h1
    · obtain ⟨x, hx, h2⟩ := ge_pos.1 h1
      have := le_mxL hx; omega

def tfTo (xs : List Int) (k : Nat) : List Int := (List.range k).map fun (i : Nat) => (ge xs ((i : Int) + 1) : Int)
theorem tfTo_len (xs : List Int) (k : Nat) : (tfTo xs k).length = k := by simp [tfTo]
theorem tfTo_succ (xs : List Int) (k : Nat) : tfTo xs (k + 1) = tfTo xs k ++ [(ge xs ((k : Int) + 1) : Int)] := by simp [tfTo, List.range_succ]
def outB (n : Int) : Bool := decide (n < 1 ∨ 100 < n)
def badF (xs : List Int) : Bool := decide (100 < xs.length) || anyI outB xs
def tfL (xs : List Int) : List Int := bif badF xs then [] else tfTo xs (mxL xs).toNat
theorem bad_long {xs : List Int} (h : 100 < xs.length) : badF xs = true := by simp [badF, h]
theorem bad_at {xs : List Int} {k : Nat} (hk : k < xs.length) (h : ¬ (1 ≤ nth xs k ∧ nth xs k ≤ 100)) : badF xs = true := by
  unfold badF anyI
  rw [Bool.or_eq_true, List.any_eq_true]
  right
  exact ⟨_, nth_mem hk, by simp [outB]; omega⟩
def goodTo (xs : List Int) (k : Nat) : Prop := ∀ i, i < k → 1 ≤ nth xs i ∧ nth xs i ≤ 100
theorem goodTo_succ {xs : List Int} {k : Nat} (h : goodTo xs k) (hk : 1 ≤ nth xs k ∧ nth xs k ≤ 100) : goodTo xs (k + 1) := fun i hi => by
  rcases Nat.lt_or_ge i k with h1 | h1
  · exact h i h1
  · obtain rfl : i = k := by omega
    exact hk
theorem good_all {xs : List Int} (h : goodTo xs xs.length) (hl : xs.length ≤ 100) : badF xs = false := by
  unfold badF anyI
  rw [Bool.or_eq_false_iff, List.any_eq_false]
  refine ⟨by simp; omega, fun x hx => ?_⟩
  obtain ⟨i, hi, rfl⟩ := List.getElem_of_mem hx
  have := h i hi
  rw [nth_get hi] at this
  simp [outB]; omega
theorem good_mx {xs : List Int} (h : badF xs = false) : mxL xs ≤ 100 ∧ xs.length ≤ 100 := by
  unfold badF anyI at h
  rw [Bool.or_eq_false_iff, List.any_eq_false] at h
  refine ⟨?_, by have := h.1; simp at this; omega⟩
  rcases mxL_mem xs with h1 | h1
  · omega
  · have := h.2 _ h1
    simp [outB] at this; omega
theorem bound_TurnedForm (xs : List Int) (_h : xs.length ≤ 1048576) : (tfL xs).length ≤ 1048576 := by
  unfold tfL
  cases h : badF xs
  · have := good_mx h; simp [tfTo_len]; omega
  · simp

set_option maxHeartbeats 400000 in
theorem outB_ok (x : Int) (w : World) : Calls Try.prog 70 #[.int .i64 x] w fun e w' => e = .returned (.bool (outB x)) ∧ Qt w w' := by
  by_cases h1 : x < 1
  · have e0 : outB x = true := by simp [outB]; omega
    rw [e0]
    clear e0
    go_enter Try.func70, Try.ntmps70
    go_wp2
    go_ret
    exact ⟨rfl, Qt.refl _⟩
  · by_cases h2 : 100 < x
    · have e0 : outB x = true := by simp [outB]; omega
      rw [e0]
      clear e0
      go_enter Try.func70, Try.ntmps70
      go_wp2
      go_ret
      exact ⟨rfl, Qt.refl _⟩
    · have e0 : outB x = false := by simp [outB]; omega
      rw [e0]
      clear e0
      go_enter Try.func70, Try.ntmps70
      go_wp2
      go_ret
      exact ⟨rfl, Qt.refl _⟩

set_option maxHeartbeats 1000000 in
theorem impl_TurnedForm_ok (v : Value) (xs : List Int) (w : World) (h : SI w v xs) (hl : xs.length ≤ 1048576) (_hb : I64s xs) :
    Calls Try.prog 47 #[v] w fun e w' => ∃ v', e = .returned v' ∧ OI w.heap.size w'.heap.size w' v' (tfL xs) ∧ Ext w w' := by
  have h0 := h
  obtain ⟨a, cap, rfl, hri⟩ := h0.elim
  by_cases hlong : 100 < xs.length
  · have e0 : tfL xs = [] := by simp [tfL, bad_long hlong]
    rw [e0]
    clear e0
    go_enter Try.func47, Try.ntmps47
    go_wp2_with fail
    go_ret
    exact ⟨_, rfl, OI.nil _ _ _, Ext.refl _⟩
  · have hen : Enters 70 := enters_of Try.func70 rfl rfl
    cases hbad : anyI outB xs
    · have HB := Lib.hid hbad
      have hbf : badF xs = false := by simp [badF, hbad]; omega
      obtain ⟨hm1, hm2⟩ := good_mx hbf
      have hm0 := mxL_nonneg xs
      have e0 : tfL xs = tfTo xs (mxL xs).toNat := by simp [tfL, hbf]
      rw [e0]
      obtain ⟨M, hM⟩ : ∃ M : Nat, mxL xs = (M : Int) := ⟨(mxL xs).toNat, by omega⟩
      rw [show (mxL xs).toNat = M by omega]
      have HM := Lib.hid hM
      rw [hM] at hm1
      clear hbad hbf e0 hM hm0
      go_enter Try.func47, Try.ntmps47
      go_wp2_with fail
      refine (containsFuncI_ok _ xs 70 #[] outB _ h (by omega) hen (fun i hi w1 hw => (outB_ok _ w1).mono fun e w2 ⟨h1, h2⟩ => ⟨h1, h2.ext⟩)).mono ?_
      rintro e w1 ⟨rfl, he1⟩
      rw [HB.out]
      have hr0 := Row.new 3 w1 [] (by simp)
      clear hen
      go_wp2_with fail
      go_loopw [3, 4] (fun o i wr => ∃ k : Nat, k ≤ M ∧ i = .int .i64 ((k : Int) + 1) ∧ (∃ b cap, o = .slice (some ⟨b, 0, none⟩) k cap ∧ w.heap.size ≤ b ∧ Row 3 wr b cap (vals (tfTo xs k))) ∧ Ext w wr) (fun _ i _ => 102 - (intOf i).toNat)
      case atStart => exact ⟨0, by omega, rfl, ⟨_, 0, rfl, he1.size, by simpa [tfTo] using hr0⟩, he1.alloc _⟩
      case round =>
        obtain ⟨k, hk, rfl, ⟨b, c, rfl, hb, hr⟩, he⟩ := hrel
        have hri1 := hri.ext he
        clear hr0 hri
        go_wp2_with fail
        go_loop [5, 20] (fun c i => ∃ j : Nat, j ≤ xs.length ∧ i = .int .i64 j ∧ c = .int .i64 (geTo xs ((k : Int) + 1) j)) (fun _ i => xs.length - (intOf i).toNat)
        case atStart => exact ⟨0, by omega, rfl, by rw [geTo_zero]; rfl⟩
        case round =>
          obtain ⟨j, hj, rfl, rfl⟩ := hrel
          have hcl := geTo_le xs ((k : Int) + 1) j
          by_cases hjl : j < xs.length
          · obtain ⟨b1, off, rfl, hc⟩ := hri1.get hjl
            have hcj := hc j hjl
            have HS := Lib.hid (geTo_succ xs ((k : Int) + 1) j hjl)
            clear hc hri1
            by_cases hge : (k : Int) + 1 ≤ nth xs j
            · go_wp2
              go_round
              case rel => exact ⟨j + 1, by omega, by go_num, by rw [HS.out, if_pos hge]; go_num⟩
              case measure => simp [intOf]; omega
            · go_wp2
              go_round
              case rel => exact ⟨j + 1, by omega, by go_num, by rw [HS.out, if_neg (by omega)]; rfl⟩
              case measure => simp [intOf]; omega
          · obtain rfl : j = xs.length := by omega
            rw [geTo_all] at hcl
            rw [geTo_all]
            by_cases hz : ge xs ((k : Int) + 1) = 0
            · have hend : M = k := by have := (ge_zero_iff (xs := xs) (c := (k : Int) + 1) (by omega)).1 hz; rw [HM.out] at this; omega
              have HE := Lib.hid hend
              clear hend
              rw [hz]
              clear hz
              go_wp2_with fail
              go_ret
              rw [HE.out]
              exact ⟨_, rfl, OI.row hr hb (tfTo_len _ _).symm, he⟩
            · have hlt : k < M := by
                have h1 : ¬ mxL xs < (k : Int) + 1 := fun h => hz ((ge_zero_iff (by omega)).2 h)
                rw [HM.out] at h1; omega
              have hzb : ((ge xs ((k : Int) + 1) : Int) == 0) = false := by simp; omega
              clear hz
              go_wp2_with (at_builtin; refine wpl_app1 rfl _ _ rfl b c k (tfTo xs k) (ge xs ((k : Int) + 1)) rfl hr (tfTo_len xs k).symm rfl (by rw [tfTo_len]; omega) ?_; intro b' c' w' h1 h2 h3)
              rw [← tfTo_succ] at h1
              go_roundw
              case rel => exact ⟨k + 1, by omega, by go_num, ⟨b', c', rfl, by have := he.size; omega, h1⟩, he.upd1 h3 hb⟩
              case measure => simp [intOf]; omega
    · have HB := Lib.hid hbad
      have e0 : tfL xs = [] := by simp [tfL, badF, hbad]
      rw [e0]
      clear hbad e0
      go_enter Try.func47, Try.ntmps47
      go_wp2_with fail
      refine (containsFuncI_ok _ xs 70 #[] outB _ h (by omega) hen (fun i hi w1 hw => (outB_ok _ w1).mono fun e w2 ⟨h1, h2⟩ => ⟨h1, h2.ext⟩)).mono ?_
      rintro e w1 ⟨rfl, he⟩
      rw [HB.out]
      go_wp2_with fail
      go_ret
      exact ⟨_, rfl, OI.nil _ _ _, he⟩
set_option maxHeartbeats 1000000 in
theorem spec_TurnedForm_ok (v : Value) (xs : List Int) (w : World) (h : SI w v xs) (hl : xs.length ≤ 1048576) (_hb : I64s xs) :
    Calls Try.prog 46 #[v] w fun e w' => ∃ v', e = .returned v' ∧ OI w.heap.size w'.heap.size w' v' (tfL xs) ∧ Ext w w' := by
  obtain ⟨a, cap, rfl, hri⟩ := h.elim
  clear h
  go_enter Try.func46, Try.ntmps46
  go_wp2
  go_loopw [3, 4] (fun c i wr => ∃ k : Nat, k ≤ xs.length ∧ i = .int .i64 k ∧ goodTo xs k ∧ (0 < k → xs.length ≤ 100) ∧ c = .int .i64 (mxL (xs.take k)) ∧ Qt w wr) (fun _ i _ => xs.length - (intOf i).toNat)
  case atStart => exact ⟨0, by omega, rfl, fun i hi => by omega, by omega, by simp [mxL], Qt.refl _⟩
  case round =>
    obtain ⟨k, hk, rfl, hg, hlen, rfl, hq⟩ := hrel
    have HG := Lib.hid hg
    clear hg
    by_cases hlt : k < xs.length
    · obtain ⟨b1, off, rfl, hc⟩ := (hri.ext hq.ext).get hlt
      have hck := hc k hlt
      clear hc hri
      by_cases hin : 1 ≤ nth xs k ∧ nth xs k ≤ 100
      · have hin' := inB_true hin
        by_cases hlong : 100 < xs.length
        · have hbad := Lib.hid (show tfL xs = [] by simp [tfL, bad_long hlong])
          clear hin
          go_wp2_with (first | (go_at_call 62; refine (l1In_ok _ _ _ _).mono ?_; rintro e w1 ⟨rfl, hq1⟩; rw [hin']))
          go_ret
          refine ⟨_, rfl, ?_, (hq.trans hq1).ext.trans (Upd.alloc _ _ _)⟩
          rw [hbad.out]
          exact OI.row (Row.new 3 w1 [] (by simp)) (by have := (hq.trans hq1).ext.size; simpa using this) rfl
        · have HG2 := Lib.hid (goodTo_succ HG.out hin)
          have hmx := mxL_snoc (xs.take k) (nth xs k)
          rw [← take_nth hlt] at hmx
          have HM := Lib.hid hmx
          clear hin hmx
          go_wp2_with (first | (go_at_call 62; refine (l1In_ok _ _ _ _).mono ?_; rintro e w1 ⟨rfl, hq1⟩; rw [hin']; replace hck := Ext.cell hq1.ext hck) | (go_at_call 68; refine (l1Max_ok _ _ _).mono ?_; rintro e w2 ⟨rfl, hq2⟩))
          go_roundw
          case rel => exact ⟨k + 1, by omega, by go_num, HG2.out, by omega, by rw [HM.out], (hq.trans hq1).trans hq2⟩
          case measure => simp [intOf]; omega
      · have hin' := inB_false hin
        have hbad := Lib.hid (show tfL xs = [] by simp [tfL, bad_at hlt hin])
        clear hin
        go_wp2_with (first | (go_at_call 62; refine (l1In_ok _ _ _ _).mono ?_; rintro e w1 ⟨rfl, hq1⟩; rw [hin']))
        go_ret
        refine ⟨_, rfl, ?_, (hq.trans hq1).ext.trans (Upd.alloc _ _ _)⟩
        rw [hbad.out]
        exact OI.row (Row.new 3 w1 [] (by simp)) (by have := (hq.trans hq1).ext.size; simpa using this) rfl
    · obtain rfl : k = xs.length := by omega
      have hlen' : xs.length ≤ 100 := by
        by_cases h0 : 0 < xs.length
        · exact hlen h0
        · omega
      have hbf := good_all HG.out hlen'
      obtain ⟨hm1, hm2⟩ := good_mx hbf
      have hm0 := mxL_nonneg xs
      obtain ⟨M, hM⟩ : ∃ M : Nat, mxL xs = (M : Int) := ⟨(mxL xs).toNat, by omega⟩
      have hres : tfL xs = tfTo xs M := by simp [tfL, hbf, hM]
      have HR := Lib.hid hres
      rw [List.take_length, hM]
      rw [hM] at hm1
      have hr0 := Row.new 3 wr [] (by simp)
      have hsz := hq.ext.size
      clear hbf hM hres hm0 hlen
      go_wp2_with fail
      obtain ⟨wo, hwo⟩ : ∃ wo : World, wo = wr := ⟨_, rfl⟩
      go_loopw [5, 6] (fun o i wz => ∃ k : Nat, k ≤ M ∧ i = .int .i64 ((k : Int) + 1) ∧ (∃ b cap, o = .slice (some ⟨b, 0, none⟩) k cap ∧ w.heap.size ≤ b ∧ Row 3 wz b cap (vals (tfTo xs k))) ∧ Ext w wz) (fun _ i _ => M + 1 - (intOf i).toNat)
      case atStart => exact ⟨0, by omega, rfl, ⟨_, 0, rfl, hsz, by simpa [tfTo] using hr0⟩, hq.ext.trans (Upd.alloc _ _ _)⟩
      case round =>
        obtain ⟨k, hk, rfl, ⟨b, c, rfl, hb, hr⟩, he⟩ := hrel
        have hri1 := hri.ext he
        clear hr0 hri hwo
        by_cases hkM : k < M
        · have hkM2 : (k : Int) + 1 ≤ (M : Int) := by omega
          go_wp2_with fail
          obtain ⟨wp, hwp⟩ : ∃ wp : World, wp = wr := ⟨_, rfl⟩
          subst hwp
          go_loopw [7, 8] (fun c i wz => ∃ j : Nat, j ≤ xs.length ∧ i = .int .i64 j ∧ c = .int .i64 (geTo xs ((k : Int) + 1) j) ∧ Qt wp wz) (fun _ i _ => xs.length - (intOf i).toNat)
          case atStart => exact ⟨0, by omega, rfl, by rw [geTo_zero]; rfl, Qt.refl _⟩
          case round =>
            obtain ⟨j, hj, rfl, rfl, hq2⟩ := hrel
            have hcl := geTo_le xs ((k : Int) + 1) j
            by_cases hjl : j < xs.length
            · obtain ⟨b1, off, rfl, hc⟩ := (hri1.ext hq2.ext).get hjl
              have hcj := hc j hjl
              have HS := Lib.hid (geTo_succ xs ((k : Int) + 1) j hjl)
              clear hc hri1
              by_cases hge : (k : Int) + 1 ≤ nth xs j
              · have hd : decide ((k : Int) + 1 ≤ nth xs j) = true := decide_eq_true hge
                go_wp2_with (go_at_call 65; refine (l1Bit_t _).mono ?_; rintro e w1 ⟨rfl, hq3⟩)
                go_roundw
                case rel => exact ⟨j + 1, by omega, by go_num, by rw [HS.out, if_pos hge]; go_num, hq2.trans hq3⟩
                case measure => simp [intOf]; omega
              · have hd : decide ((k : Int) + 1 ≤ nth xs j) = false := decide_eq_false hge
                go_wp2_with (go_at_call 65; refine (l1Bit_f _).mono ?_; rintro e w1 ⟨rfl, hq3⟩)
                go_roundw
                case rel => exact ⟨j + 1, by omega, by go_num, by rw [HS.out, if_neg (by omega)]; first | rfl | go_num, hq2.trans hq3⟩
                case measure => simp [intOf]; omega
            · obtain rfl : j = xs.length := by omega
              rw [geTo_all] at hcl
              rw [geTo_all]
              have hr2 := hr.ext hq2.ext
              have he2 := he.trans hq2.ext
              go_wp2_with (at_builtin; refine wpl_app1 rfl _ _ rfl b c k (tfTo xs k) (ge xs ((k : Int) + 1)) rfl hr2 (tfTo_len xs k).symm rfl (by rw [tfTo_len]; omega) ?_; intro b' c' w' h1 h2 h3)
              rw [← tfTo_succ] at h1
              go_roundw
              case rel => exact ⟨k + 1, by omega, by go_num, ⟨b', c', rfl, by have := he2.size; omega, h1⟩, he2.upd1 h3 hb⟩
              case measure => simp [intOf]; omega
        · obtain rfl : k = M := by omega
          go_wp2_with fail
          go_ret
          rw [HR.out]
          exact ⟨_, rfl, OI.row hr hb (tfTo_len _ _).symm, he⟩
end Go.Proofs.Ytoieaphacnaohaa
