/- The walk of the law FnExchanges: it returns true and leaves what was there. Conditions: none. -/
import Derived.Test.YtoieaphacnaohaaDrBub
import Derived.Test.YtoieaphacnaohaaSel
import Derived.Test.YtoieaphacnaohaaIns
import Derived.Test.YtoieaphacnaohaaGreat
import Derived.Test.YtoieaphacnaohaaHarnL
import Derived.Deep.Cut
import Derived.Deep.CutRange
namespace Go.Proofs.Ytoieaphacnaohaa
open Go.RowKit

theorem SII.elim2 {w : World} {p : Option Addr} {n c : Nat} {xss : List (List Int)} (h : SII w (.slice p n c) xss) : ∀ k, k < xss.length → ∃ b off, p = some ⟨b, off, none⟩ ∧ ∀ i, i < xss.length → ∃ u, w.cell? ⟨b, off + i, none⟩ = some u ∧ SI w u (nthL xss i) := by
  intro k hk
  obtain ⟨a, cap, h1, _, _, _, h5⟩ := h
  injection h1 with e1 _ _
  rcases h5 with rfl | ⟨b, off, h6, h7⟩
  · simp at hk
  · exact ⟨b, off, by rw [e1, h6], h7⟩
theorem OII.len_shape {B H : Nat} {w : World} {v : Value} {xss : List (List Int)} (h : OII B H w v xss) : ∃ p c, v = .slice p xss.length c := by
  obtain ⟨a, c, h1, _⟩ := h.sii; exact ⟨a, c, h1⟩
theorem mostTo_le (xs : List Int) (k : Nat) : mostTo xs k ≤ xs.length := by
  induction k with
  | zero => exact Nat.zero_le _
  | succ k ih => have := gtTo_le xs k k; show max _ _ ≤ _; omega
theorem bubOf_bd {xs : List Int} (h : xs.length ≤ 9) : (bubOfL xs).length ≤ 1000000000 := by have := bound_BubblePass xs (by omega); omega
set_option maxHeartbeats 16000000 in
theorem law_FnExchanges (a : Option Addr) (n cap : Nat) (w : World) (hb : BY w.heap.size w a n) (hn : n ≤ 9223372036854775807) :
    Calls Try.prog 3 #[.slice a n cap] w fun e w' => e = .returned (.bool true) ∧ Ext w w' := by
  go_enter Try.func3, Try.ntmps3
  go_wp2_with fail
  refine (big_ok a n cap _ hn).mono ?_
  rintro e w0 ⟨rfl, hw0⟩
  have E : Ext w w0 := hw0.ext
  have HB := Lib.hid hb
  clear hb hw0
  by_cases hbig : 1048576 < n
  · rw [decide_eq_true hbig]
    go_wp2_with fail
    go_ret
    exact ⟨rfl, E⟩
  rw [decide_eq_false hbig]
  have hn9 : n ≤ 1048576 := by omega
  clear hn
  go_wp2_with fail
  refine (DrawBubblePass_ok a n cap _ hn9 ((HB.out.ext E).mono E.size)).mono ?_
  rintro e u_1 ⟨v_P, P, rfl, o_P, l_P, b_P, h_1⟩
  replace E := E.trans h_1
  clear h_1
  have i_P : I64s P := fun x hx => by have := b_P x hx; unfold I64; omega
  have I_P := Lib.hid i_P
  have B_P := Lib.hid b_P
  clear i_P b_P
  go_wp2_with fail
  refine (impl_BubblePass_ok _ P _ o_P.si (by omega) I_P.out).mono ?_
  rintro e u_2 ⟨v_B, rfl, o_B, h_2⟩
  replace o_P := o_P.ext h_2
  replace E := E.trans h_2
  clear h_2
  go_wp2_with fail
  refine (DrawBubbleTimes_ok a n cap _ hn9 ((HB.out.ext E).mono E.size)).mono ?_
  rintro e u_3 ⟨v_Q, Q, rfl, o_Q, l_Q, b_Q, h_3⟩
  replace o_P := o_P.ext h_3
  replace o_B := o_B.ext h_3
  replace E := E.trans h_3
  clear h_3
  have i_Q : I64s Q := fun x hx => by have := b_Q x hx; unfold I64; omega
  have I_Q := Lib.hid i_Q
  have B_Q := Lib.hid b_Q
  clear i_Q b_Q
  obtain ⟨p_Q, c_Q, rfl⟩ := o_Q.shape
  go_wp2_with fail
  refine (impl_BubbleTimes_ok _ Q _ o_Q.si (by omega) I_Q.out).mono ?_
  rintro e u_4 ⟨rfl, h_4⟩
  replace o_P := o_P.ext h_4
  replace o_B := o_B.ext h_4
  replace o_Q := o_Q.ext h_4
  replace E := E.trans h_4
  clear h_4
  obtain ⟨N, hN⟩ : ∃ N, N = tmsI bubL Q := ⟨_, rfl⟩
  rw [← hN]
  have HN := Lib.hid hN
  clear hN
  go_wp2_with fail
  refine (DrawSelectionTrail_ok a n cap _ hn9 ((HB.out.ext E).mono E.size)).mono ?_
  rintro e u_5 ⟨v_R, R, rfl, o_R, l_R, b_R, h_5⟩
  replace o_P := o_P.ext h_5
  replace o_B := o_B.ext h_5
  replace o_Q := o_Q.ext h_5
  replace E := E.trans h_5
  clear h_5
  have i_R : I64s R := fun x hx => by have := b_R x hx; unfold I64; omega
  have I_R := Lib.hid i_R
  have B_R := Lib.hid b_R
  clear i_R b_R
  obtain ⟨p_R, c_R, rfl⟩ := o_R.shape
  go_wp2_with fail
  refine (impl_SelectionTrail_ok _ R _ o_R.si (by omega) I_R.out).mono ?_
  rintro e u_6 ⟨v_TR, rfl, o_TR, h_6⟩
  replace o_P := o_P.ext h_6
  replace o_B := o_B.ext h_6
  replace o_Q := o_Q.ext h_6
  replace o_R := o_R.ext h_6
  replace E := E.trans h_6
  clear h_6
  obtain ⟨p_TR, c_TR, rfl⟩ := o_TR.len_shape
  go_wp2_with fail
  refine (DrawInsertionSteps_ok a n cap _ hn9 ((HB.out.ext E).mono E.size)).mono ?_
  rintro e u_7 ⟨v_S, S, rfl, o_S, l_S, b_S, h_7⟩
  replace o_P := o_P.ext h_7
  replace o_B := o_B.ext h_7
  replace o_Q := o_Q.ext h_7
  replace o_R := o_R.ext h_7
  replace o_TR := o_TR.ext h_7
  replace E := E.trans h_7
  clear h_7
  have i_S : I64s S := fun x hx => by have := b_S x hx; unfold I64; omega
  have I_S := Lib.hid i_S
  have B_S := Lib.hid b_S
  clear i_S b_S
  go_wp2_with fail
  refine (DrawIsBubbleSorted_ok a n cap _ hn9 ((HB.out.ext E).mono E.size)).mono ?_
  rintro e u_8 ⟨v_T, T, rfl, o_T, l_T, b_T, h_8⟩
  replace o_P := o_P.ext h_8
  replace o_B := o_B.ext h_8
  replace o_Q := o_Q.ext h_8
  replace o_R := o_R.ext h_8
  replace o_TR := o_TR.ext h_8
  replace o_S := o_S.ext h_8
  replace E := E.trans h_8
  clear h_8
  have i_T : I64s T := fun x hx => by have := b_T x hx; unfold I64; omega
  have I_T := Lib.hid i_T
  have B_T := Lib.hid b_T
  clear i_T b_T
  go_wp2_with fail
  refine (spec_BubblePass_ok _ P _ o_P.si (by omega) I_P.out).mono ?_
  rintro e u_9 ⟨v_B2, rfl, o_B2, h_9⟩
  replace o_P := o_P.ext h_9
  replace o_B := o_B.ext h_9
  replace o_Q := o_Q.ext h_9
  replace o_R := o_R.ext h_9
  replace o_TR := o_TR.ext h_9
  replace o_S := o_S.ext h_9
  replace o_T := o_T.ext h_9
  replace E := E.trans h_9
  clear h_9
  go_wp2_with fail
  refine (sameInts_same _ _ (bubOfL P) _ o_B.si o_B2.si (bubOf_bd l_P)).mono ?_
  rintro e u_10 ⟨rfl, h_10⟩
  replace h_10 : Ext u_9 u_10 := h_10.ext
  replace o_P := o_P.ext h_10
  replace o_B := o_B.ext h_10
  replace o_Q := o_Q.ext h_10
  replace o_R := o_R.ext h_10
  replace o_TR := o_TR.ext h_10
  replace o_S := o_S.ext h_10
  replace o_T := o_T.ext h_10
  replace o_B2 := o_B2.ext h_10
  replace E := E.trans h_10
  clear h_10
  have nn : (N != N) = false := by simp
  go_wp2_with fail
  refine (spec_BubbleTimes_ok _ Q _ o_Q.si (by omega) I_Q.out).mono ?_
  rintro e u_11 ⟨rfl, h_11⟩
  replace o_P := o_P.ext h_11
  replace o_B := o_B.ext h_11
  replace o_Q := o_Q.ext h_11
  replace o_R := o_R.ext h_11
  replace o_TR := o_TR.ext h_11
  replace o_S := o_S.ext h_11
  replace o_T := o_T.ext h_11
  replace o_B2 := o_B2.ext h_11
  replace E := E.trans h_11
  clear h_11
  rw [← HN.out]
  have br := bound_SelectionTrail R (by omega)
  have BR := Lib.hid br
  clear br
  go_wp2_with fail
  refine (spec_SelectionTrail_ok _ R _ o_R.si (by omega) I_R.out).mono ?_
  rintro e u_12 ⟨v_TR2, rfl, o_TR2, h_12⟩
  replace o_P := o_P.ext h_12
  replace o_B := o_B.ext h_12
  replace o_Q := o_Q.ext h_12
  replace o_R := o_R.ext h_12
  replace o_TR := o_TR.ext h_12
  replace o_S := o_S.ext h_12
  replace o_T := o_T.ext h_12
  replace o_B2 := o_B2.ext h_12
  replace E := E.trans h_12
  clear h_12
  go_wp2_with fail
  refine (sameLists_same _ _ (selL R) _ o_TR.sii o_TR2.sii BR.out.1 BR.out.2.1).mono ?_
  rintro e u_13 ⟨rfl, h_13⟩
  replace h_13 : Ext u_12 u_13 := h_13.ext
  replace o_P := o_P.ext h_13
  replace o_B := o_B.ext h_13
  replace o_Q := o_Q.ext h_13
  replace o_R := o_R.ext h_13
  replace o_TR := o_TR.ext h_13
  replace o_S := o_S.ext h_13
  replace o_T := o_T.ext h_13
  replace o_B2 := o_B2.ext h_13
  replace o_TR2 := o_TR2.ext h_13
  replace E := E.trans h_13
  clear h_13
  clear o_B o_B2 o_TR2 o_P
  go_wp2_with fail
  refine (impl_InsertionSteps_ok _ S _ o_S.si (by omega) I_S.out).mono ?_
  rintro e u_14 ⟨rfl, h_14⟩
  replace o_Q := o_Q.ext h_14
  replace o_R := o_R.ext h_14
  replace o_TR := o_TR.ext h_14
  replace o_S := o_S.ext h_14
  replace o_T := o_T.ext h_14
  replace E := E.trans h_14
  clear h_14
  obtain ⟨iv, hiv⟩ : ∃ iv, iv = invI S := ⟨_, rfl⟩
  rw [← hiv]
  have HIV := Lib.hid hiv
  clear hiv
  have ni : (iv != iv) = false := by simp
  go_wp2_with fail
  refine (spec_InsertionSteps_ok _ S _ o_S.si (by omega) I_S.out).mono ?_
  rintro e u_15 ⟨rfl, h_15⟩
  replace o_Q := o_Q.ext h_15
  replace o_R := o_R.ext h_15
  replace o_TR := o_TR.ext h_15
  replace o_S := o_S.ext h_15
  replace o_T := o_T.ext h_15
  replace E := E.trans h_15
  clear h_15
  rw [← HIV.out]
  go_wp2_with fail
  refine (impl_IsBubbleSorted_ok _ T _ o_T.si (by omega) I_T.out).mono ?_
  rintro e u_16 ⟨rfl, h_16⟩
  replace o_Q := o_Q.ext h_16
  replace o_R := o_R.ext h_16
  replace o_TR := o_TR.ext h_16
  replace o_S := o_S.ext h_16
  replace o_T := o_T.ext h_16
  replace E := E.trans h_16
  clear h_16
  obtain ⟨bs, hbs⟩ : ∃ bs, bs = bubSortedB T := ⟨_, rfl⟩
  rw [← hbs]
  have HBS := Lib.hid hbs
  clear hbs
  have nb : (bs != bs) = false := by simp
  go_wp2_with fail
  refine (spec_IsBubbleSorted_ok _ T _ o_T.si (by omega) I_T.out).mono ?_
  rintro e u_17 ⟨rfl, h_17⟩
  replace o_Q := o_Q.ext h_17
  replace o_R := o_R.ext h_17
  replace o_TR := o_TR.ext h_17
  replace o_S := o_S.ext h_17
  replace o_T := o_T.ext h_17
  replace E := E.trans h_17
  clear h_17
  rw [← HBS.out]
  go_wp2_with fail
  refine (spec_IsPerm_qt _ Q _ o_Q.si (by omega)).mono ?_
  rintro e u_18 ⟨rfl, h_18⟩
  replace h_18 : Ext u_17 u_18 := h_18.ext
  replace o_Q := o_Q.ext h_18
  replace o_R := o_R.ext h_18
  replace o_TR := o_TR.ext h_18
  replace o_S := o_S.ext h_18
  replace o_T := o_T.ext h_18
  replace E := E.trans h_18
  clear h_18
  cases hQ : isP8 Q
  · clear hQ
    go_upto_region 28 with fail
    go_cut [118] from 96 to 118 (fun x wx => x = .bool false ∧ Ext u_18 wx)
    case first =>
      have EC : Ext u_18 u_18 := Ext.refl _
      go_wp2_with fail
      refine (spec_IsPerm_qt _ R _ o_R.si (by omega)).mono ?_
      rintro e u_19 ⟨rfl, h_19⟩
      replace h_19 : Ext u_18 u_19 := h_19.ext
      replace o_Q := o_Q.ext h_19
      replace o_R := o_R.ext h_19
      replace o_TR := o_TR.ext h_19
      replace o_S := o_S.ext h_19
      replace o_T := o_T.ext h_19
      replace EC := EC.trans h_19
      clear h_19
      cases hR : isP8 R
      · clear hR
        go_wp2_with fail
        go_meet
        case rel => exact ⟨rfl, EC⟩
      ·
        have hRp := (isP8_iff.1 hR).2
        have hct := cycN_trail hRp
        have hcl := cycN_le hRp
        have hsl : selL R = slD R R.length := by unfold selL; rw [hR]; rfl
        obtain ⟨hA, hLA⟩ := slD_last R R.length
        rw [trail_end hRp] at hLA
        rw [← hsl] at hct hLA
        have hci : cycI R = (cycN R : Int) := by unfold cycI; rw [hR]; rfl
        obtain ⟨cy, hcy⟩ : ∃ cy, cy = cycN R := ⟨_, rfl⟩
        rw [← hcy] at hct hcl hci
        have HCI := Lib.hid hci
        obtain ⟨TL, hTL⟩ : ∃ TL, TL = selL R := ⟨_, rfl⟩
        rw [← hTL] at hct hLA o_TR BR ⊢
        obtain ⟨j, hjn⟩ : ∃ j, TL.length = j + 1 := ⟨TL.length - 1, by omega⟩
        have hlast : nthL TL j = idL R.length := by
          have : j = hA.length := by have := congrArg List.length hLA; simp at this; omega
          rw [hLA, this]; exact nthL_append_last _ _
        have HJ := Lib.hid hjn
        have HTL : Hid (TL = selL R) := Lib.hid hTL
        have HLAST := Lib.hid hlast
        have HCT := Lib.hid hct
        clear hR hRp hsl hci hcy hTL hLA hjn hlast hct
        go_wp2_with fail
        refine (CountCycles_ok _ R _ o_R.si (by omega)).mono ?_
        rintro e u_20 ⟨rfl, h_20⟩
        replace o_Q := o_Q.ext h_20
        replace o_R := o_R.ext h_20
        replace o_TR := o_TR.ext h_20
        replace o_S := o_S.ext h_20
        replace o_T := o_T.ext h_20
        replace EC := EC.trans h_20
        clear h_20
        rw [HCI.out]
        have hjn := HJ.out
        have hlast := HLAST.out
        have hct := HCT.out
        have nd : ((TL.length : Int) != ((R.length : Int) - (cy : Int) + 1)) = false := by rw [bne_eq_false_iff_eq]; omega
        have hcI : (cy : Int) ≤ (R.length : Int) := by omega
        have hri := o_TR.sii.elim2
        obtain ⟨b, off, rfl, hc⟩ := hri j (by omega)
        obtain ⟨u1, hu1, hs1⟩ := hc j (by omega)
        rw [hlast] at hs1
        obtain ⟨Z, hZ⟩ : ∃ Z, Z = idL R.length := ⟨_, rfl⟩
        have hZl : Z.length = R.length := by rw [hZ, idL_len]
        have hZi : Hid (Z = idL Z.length) := by show _ = _; rw [hZl]; exact hZ
        have hZ8 : Z.length ≤ 1000000 := by omega
        rw [← hZ] at hs1
        obtain ⟨a1, c1, rfl, -⟩ := hs1.elim
        have HS1 := Lib.hid hs1
        have w1 : IntKind.i64.wrap ((TL.length : Int) - 1) = (j : Int) := by rw [IntWalk.i64_in _ (by have := BR.out.1; omega)]; omega
        have w5 : (j : Int) < (TL.length : Int) := by omega
        have wb : (TL.length : Int) ≤ 1000000000 := by have := BR.out.1; omega
        clear hlast hri hc hs1 hZ hZl hjn
        clear hct
        go_wp2_with fail
        refine (straight_id _ Z _ HS1.out hZ8 hZi.out).mono ?_
        rintro e u_21 ⟨rfl, h_21⟩
        replace h_21 : Ext u_20 u_21 := h_21.ext
        replace o_Q := o_Q.ext h_21
        replace o_R := o_R.ext h_21
        replace o_TR := o_TR.ext h_21
        replace o_S := o_S.ext h_21
        replace o_T := o_T.ext h_21
        replace EC := EC.trans h_21
        clear h_21
        clear w1
        have eTL := HTL.out
        clear HTL BR HJ HLAST HCT
        subst eTL
        go_wp2_with fail
        go_meet
        case rel => exact ⟨rfl, EC⟩
    case rest =>
      obtain ⟨rfl, h_c⟩ := hcut
      replace o_Q := o_Q.ext h_c
      replace o_R := o_R.ext h_c
      replace o_TR := o_TR.ext h_c
      replace o_S := o_S.ext h_c
      replace o_T := o_T.ext h_c
      replace E := E.trans h_c
      clear h_c
      obtain ⟨u_22, hwc⟩ : ∃ u, u = wc := ⟨_, rfl⟩
      subst hwc
      go_upto_region 30 with fail
      go_cut [133] from 119 to 133 (fun x wx => x = .bool false ∧ Ext u_22 wx)
      case first =>
        have EC : Ext u_22 u_22 := Ext.refl _
        go_wp2_with fail
        refine (spec_IsPerm_qt _ T _ o_T.si (by omega)).mono ?_
        rintro e u_23 ⟨rfl, h_23⟩
        replace h_23 : Ext u_22 u_23 := h_23.ext
        replace o_Q := o_Q.ext h_23
        replace o_R := o_R.ext h_23
        replace o_TR := o_TR.ext h_23
        replace o_S := o_S.ext h_23
        replace o_T := o_T.ext h_23
        replace EC := EC.trans h_23
        clear h_23
        cases hT : isP8 T
        · clear hT
          go_wp2_with fail
          go_meet
          case rel => exact ⟨rfl, EC⟩
        ·
          have hav := bub_avoid hT
          rw [← HBS.out] at hav
          have HAV := Lib.hid hav
          have HT := Lib.hid hT
          clear hav hT
          go_wp2_with fail
          refine (impl_IsBubbleSorted_ok _ T _ o_T.si (by omega) I_T.out).mono ?_
          rintro e u_24 ⟨rfl, h_24⟩
          replace o_Q := o_Q.ext h_24
          replace o_R := o_R.ext h_24
          replace o_TR := o_TR.ext h_24
          replace o_S := o_S.ext h_24
          replace o_T := o_T.ext h_24
          replace EC := EC.trans h_24
          clear h_24
          rw [← HBS.out]
          have hr_h1 := Row.new 3 u_24 (vals [2, 3, 1]) (by simp; unfold maxLen; omega)
          have he_h1 : Ext u_24 (u_24.alloc (.cells (vals [2, 3, 1]).toArray 3)) := Upd.alloc _ _ _
          have HP_h1 := Lib.hid (HasPattern_ok T [2, 3, 1] _ _ _ HT.out (by decide) (by decide) (o_T.si.ext he_h1) hr_h1.si)
          have HX_h1 := Lib.hid he_h1
          clear hr_h1 he_h1
          go_wp2_with fail
          refine HP_h1.out.mono ?_
          rintro e u_25 ⟨rfl, hh_h1⟩
          replace hh_h1 := HX_h1.out.trans hh_h1
          replace o_Q := o_Q.ext hh_h1
          replace o_R := o_R.ext hh_h1
          replace o_TR := o_TR.ext hh_h1
          replace o_S := o_S.ext hh_h1
          replace o_T := o_T.ext hh_h1
          replace EC := EC.trans hh_h1
          obtain ⟨h1, hx_h1⟩ : ∃ x, x = occB T [2, 3, 1] := ⟨_, rfl⟩
          rw [← hx_h1]
          rw [← hx_h1] at HAV
          clear hx_h1
          cases h1
          ·
            have hr_h2 := Row.new 3 u_25 (vals [3, 2, 1]) (by simp; unfold maxLen; omega)
            have he_h2 : Ext u_25 (u_25.alloc (.cells (vals [3, 2, 1]).toArray 3)) := Upd.alloc _ _ _
            have HP_h2 := Lib.hid (HasPattern_ok T [3, 2, 1] _ _ _ HT.out (by decide) (by decide) (o_T.si.ext he_h2) hr_h2.si)
            have HX_h2 := Lib.hid he_h2
            clear hr_h2 he_h2
            go_wp2_with fail
            refine HP_h2.out.mono ?_
            rintro e u_26 ⟨rfl, hh_h2⟩
            replace hh_h2 := HX_h2.out.trans hh_h2
            replace o_Q := o_Q.ext hh_h2
            replace o_R := o_R.ext hh_h2
            replace o_TR := o_TR.ext hh_h2
            replace o_S := o_S.ext hh_h2
            replace o_T := o_T.ext hh_h2
            replace EC := EC.trans hh_h2
            obtain ⟨h2, hx_h2⟩ : ∃ x, x = occB T [3, 2, 1] := ⟨_, rfl⟩
            rw [← hx_h2]
            rw [← hx_h2] at HAV
            clear hx_h2
            have hbe : (bs == h2) = false := by rw [HAV.out]; cases h2 <;> rfl
            go_wp2_with fail
            go_meet
            case rel => exact ⟨by first | rfl | rw [hbe], EC⟩
          ·
            have hbe : (bs == true) = false := by rw [HAV.out]; rfl
            go_wp2_with fail
            go_meet
            case rel => exact ⟨by first | rfl | rw [hbe], EC⟩
      case rest =>
        obtain ⟨rfl, h_c⟩ := hcut
        replace o_Q := o_Q.ext h_c
        replace o_R := o_R.ext h_c
        replace o_TR := o_TR.ext h_c
        replace o_S := o_S.ext h_c
        replace o_T := o_T.ext h_c
        replace E := E.trans h_c
        clear h_c
        obtain ⟨u_36, hwc⟩ : ∃ u, u = wc := ⟨_, rfl⟩
        subst hwc
        go_wp2_with fail
        refine (impl_InsertionSteps_ok _ S _ o_S.si (by omega) I_S.out).mono ?_
        rintro e u_37 ⟨rfl, h_37⟩
        replace o_Q := o_Q.ext h_37
        replace o_R := o_R.ext h_37
        replace o_TR := o_TR.ext h_37
        replace o_S := o_S.ext h_37
        replace o_T := o_T.ext h_37
        replace E := E.trans h_37
        clear h_37
        rw [← HIV.out]
        go_wp2_with fail
        refine (spec_CountInversions_ok _ S _ o_S.si (by omega)).mono ?_
        rintro e u_38 ⟨rfl, h_38⟩
        replace h_38 : Ext u_37 u_38 := h_38.ext
        replace o_Q := o_Q.ext h_38
        replace o_R := o_R.ext h_38
        replace o_TR := o_TR.ext h_38
        replace o_S := o_S.ext h_38
        replace o_T := o_T.ext h_38
        replace E := E.trans h_38
        clear h_38
        rw [← HIV.out]
        have be : (iv == iv) = true := by simp
        go_wp2_with fail
        go_ret
        exact ⟨rfl, E⟩
  · have htm := times_most hQ
    rw [← HN.out] at htm
    have HTM := Lib.hid htm
    clear hQ htm
    go_wp2_with fail
    have hriQ := o_Q.si.elim
    obtain ⟨aQ, cQ, hQv, hriQ⟩ := hriQ
    injection hQv with eQ1 _ eQ2
    subst eQ1 eQ2
    have HRQ := Lib.hid hriQ
    clear hriQ
    obtain ⟨uw, huw⟩ : ∃ uw, uw = u_18 := ⟨_, rfl⟩
    subst huw
    go_loopw [11, 12] (fun m i wr => ∃ k : Nat, k ≤ Q.length ∧ i = .int .i64 k ∧ (∃ q : Nat, m = .int .i64 q ∧ Hid (q = mostTo Q k) ∧ q ≤ 9) ∧ Qt uw wr) (fun _ i _ => Q.length - (intOf i).toNat)
    case atStart => exact ⟨0, Nat.zero_le _, rfl, ⟨0, rfl, Lib.hid rfl, by omega⟩, Qt.refl _⟩
    case round =>
      obtain ⟨k, hk, rfl, ⟨q, rfl, hq2, hq9⟩, hq⟩ := hrel
      by_cases hlt : k < Q.length
      · go_wp2_with fail
        obtain ⟨wp, hwp⟩ : ∃ wp, wp = wr := ⟨_, rfl⟩
        subst hwp
        go_loopw [13, 14] (fun m i wr => ∃ j : Nat, j ≤ k ∧ i = .int .i64 j ∧ (∃ s : Nat, m = .int .i64 s ∧ Hid (s = gtTo Q k j) ∧ s ≤ 9) ∧ Qt wp wr) (fun _ i _ => k - (intOf i).toNat)
        case atStart => exact ⟨0, Nat.zero_le _, rfl, ⟨0, rfl, Lib.hid (by simp [gtTo]), by omega⟩, Qt.refl _⟩
        case round =>
          obtain ⟨j, hj, rfl, ⟨s, rfl, hs2, hs9⟩, hqq⟩ := hrel
          by_cases hjk : j < k
          · have hqt := hq.trans hqq
            obtain ⟨bQ, oQ, rfl, hcQ⟩ := HRQ.out.get hlt
            have cQk := hqt.ext.cell (hcQ k hlt) id
            have cQj := hqt.ext.cell (hcQ j (by omega)) id
            have hst := gtTo_succ Q k j (by omega)
            have hle := gtTo_le Q k (j + 1)
            obtain ⟨x, hx⟩ : ∃ x, x = nth Q k := ⟨_, rfl⟩
            obtain ⟨y, hy⟩ : ∃ y, y = nth Q j := ⟨_, rfl⟩
            rw [← hx] at cQk hst
            rw [← hy] at cQj hst
            rw [← hs2.out] at hst
            have f1 : (k : Int) < (Q.length : Int) := by omega
            have f2 : (j : Int) < (Q.length : Int) := by omega
            have f5 : (j : Int) < (k : Int) := by omega
            clear hx hy hcQ
            by_cases hxy : x < y
            · rw [if_pos hxy] at hst
              have HN2 : Hid (s + 1 = gtTo Q k (j + 1)) := hst.symm
              have hd : decide (x < y) = true := decide_eq_true hxy
              have hs10 : s + 1 ≤ 9 := by omega
              clear hst
              go_wp2_with fail
              go_quiet (fail)
              go_wp2_with fail
              go_roundw
              case rel => exact ⟨j + 1, by omega, by go_num, ⟨s + 1, by go_num, HN2, hs10⟩, hqq.drewN _⟩
              case measure => simp [intOf]; omega
            · rw [if_neg hxy] at hst
              have HN2 : Hid (s = gtTo Q k (j + 1)) := hst.symm
              have hd : decide (x < y) = false := decide_eq_false hxy
              clear hst
              go_wp2_with fail
              go_quiet (fail)
              go_wp2_with fail
              go_roundw
              case rel => exact ⟨j + 1, by omega, by go_num, ⟨s, rfl, HN2, hs9⟩, hqq.drewN _⟩
              case measure => simp [intOf]; omega
          · obtain rfl : j = k := by omega
            have hmx : Hid (max q s = mostTo Q (j + 1)) := by show _ = max _ _; rw [← hq2.out, ← hs2.out]
            by_cases hqs : (q : Int) < (s : Int)
            · have hm := Lib.hid (show s = mostTo Q (j + 1) by rw [← hmx.out]; omega)
              go_wp2_with fail
              go_roundw
              case rel => exact ⟨j + 1, by omega, by go_num, ⟨s, rfl, hm, hs9⟩, hq.trans hqq⟩
              case measure => simp [intOf]; omega
            · have hm := Lib.hid (show q = mostTo Q (j + 1) by rw [← hmx.out]; omega)
              go_wp2_with fail
              go_roundw
              case rel => exact ⟨j + 1, by omega, by go_num, ⟨q, rfl, hm, hq9⟩, hq.trans hqq⟩
              case measure => simp [intOf]; omega
      · obtain rfl : k = Q.length := by omega
        replace o_T := o_T.ext hq.ext
        replace o_R := o_R.ext hq.ext
        replace o_S := o_S.ext hq.ext
        replace o_TR := o_TR.ext hq.ext
        replace E := E.trans hq.ext
        have hNq : N = (q : Int) := by rw [HTM.out, ← hq2.out]
        have nq : (N != (q : Int)) = false := by simp [hNq]
        clear hNq
        go_upto_region 28 with fail
        go_cut [118] from 96 to 118 (fun x wx => x = .bool false ∧ Ext wr wx)
        case first =>
          have EC : Ext wr wr := Ext.refl _
          go_wp2_with fail
          refine (spec_IsPerm_qt _ R _ o_R.si (by omega)).mono ?_
          rintro e u_119 ⟨rfl, h_119⟩
          replace h_119 : Ext wr u_119 := h_119.ext
          replace o_T := o_T.ext h_119
          replace o_R := o_R.ext h_119
          replace o_S := o_S.ext h_119
          replace o_TR := o_TR.ext h_119
          replace EC := EC.trans h_119
          clear h_119
          cases hR : isP8 R
          · clear hR
            go_wp2_with fail
            go_meet
            case rel => exact ⟨rfl, EC⟩
          ·
            have hRp := (isP8_iff.1 hR).2
            have hct := cycN_trail hRp
            have hcl := cycN_le hRp
            have hsl : selL R = slD R R.length := by unfold selL; rw [hR]; rfl
            obtain ⟨hA, hLA⟩ := slD_last R R.length
            rw [trail_end hRp] at hLA
            rw [← hsl] at hct hLA
            have hci : cycI R = (cycN R : Int) := by unfold cycI; rw [hR]; rfl
            obtain ⟨cy, hcy⟩ : ∃ cy, cy = cycN R := ⟨_, rfl⟩
            rw [← hcy] at hct hcl hci
            have HCI := Lib.hid hci
            obtain ⟨TL, hTL⟩ : ∃ TL, TL = selL R := ⟨_, rfl⟩
            rw [← hTL] at hct hLA o_TR BR ⊢
            obtain ⟨j, hjn⟩ : ∃ j, TL.length = j + 1 := ⟨TL.length - 1, by omega⟩
            have hlast : nthL TL j = idL R.length := by
              have : j = hA.length := by have := congrArg List.length hLA; simp at this; omega
              rw [hLA, this]; exact nthL_append_last _ _
            have HJ := Lib.hid hjn
            have HTL : Hid (TL = selL R) := Lib.hid hTL
            have HLAST := Lib.hid hlast
            have HCT := Lib.hid hct
            clear hR hRp hsl hci hcy hTL hLA hjn hlast hct
            go_wp2_with fail
            refine (CountCycles_ok _ R _ o_R.si (by omega)).mono ?_
            rintro e u_120 ⟨rfl, h_120⟩
            replace o_T := o_T.ext h_120
            replace o_R := o_R.ext h_120
            replace o_S := o_S.ext h_120
            replace o_TR := o_TR.ext h_120
            replace EC := EC.trans h_120
            clear h_120
            rw [HCI.out]
            have hjn := HJ.out
            have hlast := HLAST.out
            have hct := HCT.out
            have nd : ((TL.length : Int) != ((R.length : Int) - (cy : Int) + 1)) = false := by rw [bne_eq_false_iff_eq]; omega
            have hcI : (cy : Int) ≤ (R.length : Int) := by omega
            have hri := o_TR.sii.elim2
            obtain ⟨b, off, rfl, hc⟩ := hri j (by omega)
            obtain ⟨u1, hu1, hs1⟩ := hc j (by omega)
            rw [hlast] at hs1
            obtain ⟨Z, hZ⟩ : ∃ Z, Z = idL R.length := ⟨_, rfl⟩
            have hZl : Z.length = R.length := by rw [hZ, idL_len]
            have hZi : Hid (Z = idL Z.length) := by show _ = _; rw [hZl]; exact hZ
            have hZ8 : Z.length ≤ 1000000 := by omega
            rw [← hZ] at hs1
            obtain ⟨a1, c1, rfl, -⟩ := hs1.elim
            have HS1 := Lib.hid hs1
            have w1 : IntKind.i64.wrap ((TL.length : Int) - 1) = (j : Int) := by rw [IntWalk.i64_in _ (by have := BR.out.1; omega)]; omega
            have w5 : (j : Int) < (TL.length : Int) := by omega
            have wb : (TL.length : Int) ≤ 1000000000 := by have := BR.out.1; omega
            clear hlast hri hc hs1 hZ hZl hjn
            clear hct
            go_wp2_with fail
            refine (straight_id _ Z _ HS1.out hZ8 hZi.out).mono ?_
            rintro e u_121 ⟨rfl, h_121⟩
            replace h_121 : Ext u_120 u_121 := h_121.ext
            replace o_T := o_T.ext h_121
            replace o_R := o_R.ext h_121
            replace o_S := o_S.ext h_121
            replace o_TR := o_TR.ext h_121
            replace EC := EC.trans h_121
            clear h_121
            clear w1
            have eTL := HTL.out
            clear HTL BR HJ HLAST HCT
            subst eTL
            go_wp2_with fail
            go_meet
            case rel => exact ⟨rfl, EC⟩
        case rest =>
          obtain ⟨rfl, h_c⟩ := hcut
          replace o_T := o_T.ext h_c
          replace o_R := o_R.ext h_c
          replace o_S := o_S.ext h_c
          replace o_TR := o_TR.ext h_c
          replace E := E.trans h_c
          clear h_c
          obtain ⟨u_122, hwc⟩ : ∃ u, u = wc := ⟨_, rfl⟩
          subst hwc
          go_upto_region 30 with fail
          go_cut [133] from 119 to 133 (fun x wx => x = .bool false ∧ Ext u_122 wx)
          case first =>
            have EC : Ext u_122 u_122 := Ext.refl _
            go_wp2_with fail
            refine (spec_IsPerm_qt _ T _ o_T.si (by omega)).mono ?_
            rintro e u_123 ⟨rfl, h_123⟩
            replace h_123 : Ext u_122 u_123 := h_123.ext
            replace o_T := o_T.ext h_123
            replace o_R := o_R.ext h_123
            replace o_S := o_S.ext h_123
            replace o_TR := o_TR.ext h_123
            replace EC := EC.trans h_123
            clear h_123
            cases hT : isP8 T
            · clear hT
              go_wp2_with fail
              go_meet
              case rel => exact ⟨rfl, EC⟩
            ·
              have hav := bub_avoid hT
              rw [← HBS.out] at hav
              have HAV := Lib.hid hav
              have HT := Lib.hid hT
              clear hav hT
              go_wp2_with fail
              refine (impl_IsBubbleSorted_ok _ T _ o_T.si (by omega) I_T.out).mono ?_
              rintro e u_124 ⟨rfl, h_124⟩
              replace o_T := o_T.ext h_124
              replace o_R := o_R.ext h_124
              replace o_S := o_S.ext h_124
              replace o_TR := o_TR.ext h_124
              replace EC := EC.trans h_124
              clear h_124
              rw [← HBS.out]
              have hr_h1 := Row.new 3 u_124 (vals [2, 3, 1]) (by simp; unfold maxLen; omega)
              have he_h1 : Ext u_124 (u_124.alloc (.cells (vals [2, 3, 1]).toArray 3)) := Upd.alloc _ _ _
              have HP_h1 := Lib.hid (HasPattern_ok T [2, 3, 1] _ _ _ HT.out (by decide) (by decide) (o_T.si.ext he_h1) hr_h1.si)
              have HX_h1 := Lib.hid he_h1
              clear hr_h1 he_h1
              go_wp2_with fail
              refine HP_h1.out.mono ?_
              rintro e u_125 ⟨rfl, hh_h1⟩
              replace hh_h1 := HX_h1.out.trans hh_h1
              replace o_T := o_T.ext hh_h1
              replace o_R := o_R.ext hh_h1
              replace o_S := o_S.ext hh_h1
              replace o_TR := o_TR.ext hh_h1
              replace EC := EC.trans hh_h1
              obtain ⟨h1, hx_h1⟩ : ∃ x, x = occB T [2, 3, 1] := ⟨_, rfl⟩
              rw [← hx_h1]
              rw [← hx_h1] at HAV
              clear hx_h1
              cases h1
              ·
                have hr_h2 := Row.new 3 u_125 (vals [3, 2, 1]) (by simp; unfold maxLen; omega)
                have he_h2 : Ext u_125 (u_125.alloc (.cells (vals [3, 2, 1]).toArray 3)) := Upd.alloc _ _ _
                have HP_h2 := Lib.hid (HasPattern_ok T [3, 2, 1] _ _ _ HT.out (by decide) (by decide) (o_T.si.ext he_h2) hr_h2.si)
                have HX_h2 := Lib.hid he_h2
                clear hr_h2 he_h2
                go_wp2_with fail
                refine HP_h2.out.mono ?_
                rintro e u_126 ⟨rfl, hh_h2⟩
                replace hh_h2 := HX_h2.out.trans hh_h2
                replace o_T := o_T.ext hh_h2
                replace o_R := o_R.ext hh_h2
                replace o_S := o_S.ext hh_h2
                replace o_TR := o_TR.ext hh_h2
                replace EC := EC.trans hh_h2
                obtain ⟨h2, hx_h2⟩ : ∃ x, x = occB T [3, 2, 1] := ⟨_, rfl⟩
                rw [← hx_h2]
                rw [← hx_h2] at HAV
                clear hx_h2
                have hbe : (bs == h2) = false := by rw [HAV.out]; cases h2 <;> rfl
                go_wp2_with fail
                go_meet
                case rel => exact ⟨by first | rfl | rw [hbe], EC⟩
              ·
                have hbe : (bs == true) = false := by rw [HAV.out]; rfl
                go_wp2_with fail
                go_meet
                case rel => exact ⟨by first | rfl | rw [hbe], EC⟩
          case rest =>
            obtain ⟨rfl, h_c⟩ := hcut
            replace o_T := o_T.ext h_c
            replace o_R := o_R.ext h_c
            replace o_S := o_S.ext h_c
            replace o_TR := o_TR.ext h_c
            replace E := E.trans h_c
            clear h_c
            obtain ⟨u_136, hwc⟩ : ∃ u, u = wc := ⟨_, rfl⟩
            subst hwc
            go_wp2_with fail
            refine (impl_InsertionSteps_ok _ S _ o_S.si (by omega) I_S.out).mono ?_
            rintro e u_137 ⟨rfl, h_137⟩
            replace o_T := o_T.ext h_137
            replace o_R := o_R.ext h_137
            replace o_S := o_S.ext h_137
            replace o_TR := o_TR.ext h_137
            replace E := E.trans h_137
            clear h_137
            rw [← HIV.out]
            go_wp2_with fail
            refine (spec_CountInversions_ok _ S _ o_S.si (by omega)).mono ?_
            rintro e u_138 ⟨rfl, h_138⟩
            replace h_138 : Ext u_137 u_138 := h_138.ext
            replace o_T := o_T.ext h_138
            replace o_R := o_R.ext h_138
            replace o_S := o_S.ext h_138
            replace o_TR := o_TR.ext h_138
            replace E := E.trans h_138
            clear h_138
            rw [← HIV.out]
            have be : (iv == iv) = true := by simp
            go_wp2_with fail
            go_ret
            exact ⟨rfl, E⟩
end Go.Proofs.Ytoieaphacnaohaa
