/- The walk of the law FnStrong: it returns true and leaves what was there. Conditions: none. -/
import Derived.Test.YtmnbdphfoonleaaStrG
import Derived.Test.YtmnbdphfoonleaaChn
import Derived.Test.YtmnbdphfoonleaaSub
import Derived.Test.YtmnbdphfoonleaaQuX
import Derived.Test.YtmnbdphfoonleaaGreat
import Derived.Test.YtmnbdphfoonleaaHarnL
import Derived.Deep.RegionHeld3
import Derived.BigQuiet
import Derived.KernelRfl
import Derived.Deep.Cut
import Derived.Deep.CutRange
namespace Go.Proofs.Ytmnbdphfoonleaa
open Go.RowKit

set_option maxHeartbeats 16000000 in
set_option maxRecDepth 30000 in
theorem law_FnStrong (a : Option Addr) (n cap : Nat) (w : World) (hb : BY w.heap.size w a n) (hn : n ≤ 9223372036854775807) :
    Calls Try.prog 4 #[.slice a n cap] w fun e w' => e = .returned (.bool true) ∧ Ext w w' := by
  go_enter Try.func4, Try.ntmps4
  go_wp2_with fail
  refine (big_ok a n cap _ hn).mono ?_
  rintro e w0 ⟨rfl, hw0⟩
  have E : Ext w w0 := hw0.ext
  have HB := Lib.hid hb
  clear hb hw0
  by_cases hbig : 1048576 < n
  · rw [decide_eq_true hbig]
    go_wp2_with fail
    go_ret
    exact ⟨rfl, E⟩
  rw [decide_eq_false hbig]
  have hn9 : n ≤ 1048576 := by omega
  clear hn
  go_wp2_with fail
  refine (DrawStrongBelow_ok a n cap _ hn9 ((HB.out.ext E).mono E.size)).mono ?_
  rintro e u_1 ⟨v_A, A, v_B, B, rfl, o_A, l_A, b_A, o_B, l_B, b_B, h_1⟩
  replace E := E.trans h_1
  clear h_1
  have i_A : I64s A := fun x hx => by have := b_A x hx; unfold I64; omega
  have I_A := Lib.hid i_A
  have B_A := Lib.hid b_A
  clear i_A b_A
  have i_B : I64s B := fun x hx => by have := b_B x hx; unfold I64; omega
  have I_B := Lib.hid i_B
  have B_B := Lib.hid b_B
  clear i_B b_B
  go_wp2_with fail
  refine (DrawStrongCovers_ok a n cap _ hn9 ((HB.out.ext E).mono E.size)).mono ?_
  rintro e u_2 ⟨v_P, P, rfl, o_P, l_P, b_P, h_2⟩
  replace o_A := o_A.ext h_2
  replace o_B := o_B.ext h_2
  replace E := E.trans h_2
  clear h_2
  have i_P : I64s P := fun x hx => by have := b_P x hx; unfold I64; omega
  have I_P := Lib.hid i_P
  have B_P := Lib.hid b_P
  clear i_P b_P
  go_wp2_with fail
  refine (impl_StrongCovers_ok _ P _ o_P.si (by omega) I_P.out).mono ?_
  rintro e u_3 ⟨v_CV, rfl, o_CV, h_3⟩
  replace o_A := o_A.ext h_3
  replace o_B := o_B.ext h_3
  replace o_P := o_P.ext h_3
  replace E := E.trans h_3
  clear h_3
  go_wp2_with fail
  refine (DrawBelowOf_ok a n cap _ hn9 ((HB.out.ext E).mono E.size)).mono ?_
  rintro e u_4 ⟨v_Q, Q, rfl, o_Q, l_Q, b_Q, h_4⟩
  replace o_A := o_A.ext h_4
  replace o_B := o_B.ext h_4
  replace o_P := o_P.ext h_4
  replace o_CV := o_CV.ext h_4
  replace E := E.trans h_4
  clear h_4
  have i_Q : I64s Q := fun x hx => by have := b_Q x hx; unfold I64; omega
  have I_Q := Lib.hid i_Q
  have B_Q := Lib.hid b_Q
  clear i_Q b_Q
  go_wp2_with fail
  refine (impl_BelowOf_ok _ Q _ o_Q.si (by omega) I_Q.out).mono ?_
  rintro e u_5 ⟨v_L, rfl, o_L, h_5⟩
  replace o_A := o_A.ext h_5
  replace o_B := o_B.ext h_5
  replace o_P := o_P.ext h_5
  replace o_CV := o_CV.ext h_5
  replace o_Q := o_Q.ext h_5
  replace E := E.trans h_5
  clear h_5
  go_wp2_with fail
  refine (impl_RankCounts_ok _ Q _ o_Q.si (by omega) I_Q.out).mono ?_
  rintro e u_6 ⟨v_RK, rfl, o_RK, h_6⟩
  replace o_A := o_A.ext h_6
  replace o_B := o_B.ext h_6
  replace o_P := o_P.ext h_6
  replace o_CV := o_CV.ext h_6
  replace o_Q := o_Q.ext h_6
  replace o_L := o_L.ext h_6
  replace E := E.trans h_6
  clear h_6
  go_wp2_with fail
  refine (DrawIsStrongChain_ok a n cap _ hn9 ((HB.out.ext E).mono E.size)).mono ?_
  rintro e u_7 ⟨v_C, C, rfl, o_C, l_C, s_C, h_7⟩
  replace o_A := o_A.ext h_7
  replace o_B := o_B.ext h_7
  replace o_P := o_P.ext h_7
  replace o_CV := o_CV.ext h_7
  replace o_Q := o_Q.ext h_7
  replace o_L := o_L.ext h_7
  replace o_RK := o_RK.ext h_7
  replace E := E.trans h_7
  clear h_7
  have SC := Lib.hid s_C
  clear s_C
  go_wp2_with fail
  refine (DrawSubwordBelow_ok a n cap _ hn9 ((HB.out.ext E).mono E.size)).mono ?_
  rintro e u_8 ⟨nn, v_W, W, v_R, R, rfl, n9, o_W, l_W, b_W, o_R, l_R, b_R, h_8⟩
  replace o_A := o_A.ext h_8
  replace o_B := o_B.ext h_8
  replace o_P := o_P.ext h_8
  replace o_CV := o_CV.ext h_8
  replace o_Q := o_Q.ext h_8
  replace o_L := o_L.ext h_8
  replace o_RK := o_RK.ext h_8
  replace o_C := o_C.ext h_8
  replace E := E.trans h_8
  clear h_8
  have i_W : I64s W := fun x hx => by have := b_W x hx; unfold I64; omega
  have I_W := Lib.hid i_W
  have B_W := Lib.hid b_W
  clear i_W b_W
  have i_R : I64s R := fun x hx => by have := b_R x hx; unfold I64; omega
  have I_R := Lib.hid i_R
  have B_R := Lib.hid b_R
  clear i_R b_R
  have iN : I64 (nn : Int) := by unfold I64; omega
  have IN := Lib.hid iN
  clear iN
  obtain ⟨p_A, c_A, rfl⟩ := o_A.shape
  obtain ⟨p_B, c_B, rfl⟩ := o_B.shape
  obtain ⟨p_P, c_P, rfl⟩ := o_P.shape
  obtain ⟨p_Q, c_Q, rfl⟩ := o_Q.shape
  obtain ⟨p_W, c_W, rfl⟩ := o_W.shape
  obtain ⟨p_R, c_R, rfl⟩ := o_R.shape
  obtain ⟨p_RK, c_RK, rfl⟩ := o_RK.shape
  obtain ⟨p_CV, c_CV, rfl⟩ := o_CV.shape
  obtain ⟨p_L, c_L, rfl⟩ := o_L.shape
  obtain ⟨p_C, c_C, eC, -⟩ := o_C.sii.elim
  subst eC
  go_wp2_with fail
  refine (impl_StrongBelow_ok _ A _ B _ o_A.si (by omega) I_A.out o_B.si (by omega) I_B.out).mono ?_
  rintro e u_9 ⟨rfl, h_9⟩
  replace o_A := o_A.ext h_9
  replace o_B := o_B.ext h_9
  replace o_P := o_P.ext h_9
  replace o_CV := o_CV.ext h_9
  replace o_Q := o_Q.ext h_9
  replace o_L := o_L.ext h_9
  replace o_RK := o_RK.ext h_9
  replace o_C := o_C.ext h_9
  replace o_W := o_W.ext h_9
  replace o_R := o_R.ext h_9
  replace E := E.trans h_9
  clear h_9
  obtain ⟨sb, hsb⟩ : ∃ x, x = strB A B := ⟨_, rfl⟩
  rw [← hsb]
  have H_sb := Lib.hid hsb
  clear hsb
  have nsb : (sb != sb) = false := by simp
  go_wp2_with fail
  refine (spec_StrongBelow_ok _ A _ B _ o_A.si (by omega) I_A.out o_B.si (by omega) I_B.out).mono ?_
  rintro e u_10 ⟨rfl, h_10⟩
  replace o_A := o_A.ext h_10
  replace o_B := o_B.ext h_10
  replace o_P := o_P.ext h_10
  replace o_CV := o_CV.ext h_10
  replace o_Q := o_Q.ext h_10
  replace o_L := o_L.ext h_10
  replace o_RK := o_RK.ext h_10
  replace o_C := o_C.ext h_10
  replace o_W := o_W.ext h_10
  replace o_R := o_R.ext h_10
  replace E := E.trans h_10
  clear h_10
  rw [← H_sb.out]
  go_wp2_with fail
  refine (spec_StrongCovers_ok _ P _ o_P.si (by omega) I_P.out).mono ?_
  rintro e u_11 ⟨v_CV2, rfl, o_CV2, h_11⟩
  replace o_A := o_A.ext h_11
  replace o_B := o_B.ext h_11
  replace o_P := o_P.ext h_11
  replace o_CV := o_CV.ext h_11
  replace o_Q := o_Q.ext h_11
  replace o_L := o_L.ext h_11
  replace o_RK := o_RK.ext h_11
  replace o_C := o_C.ext h_11
  replace o_W := o_W.ext h_11
  replace o_R := o_R.ext h_11
  replace E := E.trans h_11
  clear h_11
  have bcv := bound_StrongCovers P (by omega)
  have BCV := Lib.hid bcv
  clear bcv
  go_wp2_with fail
  refine (sameLists_same _ _ (cvL P) _ o_CV.sii o_CV2.sii BCV.out.1 BCV.out.2.1).mono ?_
  rintro e u_12 ⟨rfl, h_12⟩
  replace h_12 : Ext u_11 u_12 := h_12.ext
  replace o_A := o_A.ext h_12
  replace o_B := o_B.ext h_12
  replace o_P := o_P.ext h_12
  replace o_CV := o_CV.ext h_12
  replace o_Q := o_Q.ext h_12
  replace o_L := o_L.ext h_12
  replace o_RK := o_RK.ext h_12
  replace o_C := o_C.ext h_12
  replace o_W := o_W.ext h_12
  replace o_R := o_R.ext h_12
  replace o_CV2 := o_CV2.ext h_12
  replace E := E.trans h_12
  clear h_12
  go_wp2_with fail
  refine (spec_BelowOf_ok _ Q _ o_Q.si (by omega) I_Q.out).mono ?_
  rintro e u_13 ⟨v_L2, rfl, o_L2, h_13⟩
  replace o_A := o_A.ext h_13
  replace o_B := o_B.ext h_13
  replace o_P := o_P.ext h_13
  replace o_CV := o_CV.ext h_13
  replace o_Q := o_Q.ext h_13
  replace o_L := o_L.ext h_13
  replace o_RK := o_RK.ext h_13
  replace o_C := o_C.ext h_13
  replace o_W := o_W.ext h_13
  replace o_R := o_R.ext h_13
  replace o_CV2 := o_CV2.ext h_13
  replace E := E.trans h_13
  clear h_13
  have bbl := bound_BelowOf Q (by omega)
  have BBL := Lib.hid bbl
  clear bbl
  go_wp2_with fail
  refine (sameLists_same _ _ (belL Q) _ o_L.sii o_L2.sii BBL.out.1 BBL.out.2.1).mono ?_
  rintro e u_14 ⟨rfl, h_14⟩
  replace h_14 : Ext u_13 u_14 := h_14.ext
  replace o_A := o_A.ext h_14
  replace o_B := o_B.ext h_14
  replace o_P := o_P.ext h_14
  replace o_CV := o_CV.ext h_14
  replace o_Q := o_Q.ext h_14
  replace o_L := o_L.ext h_14
  replace o_RK := o_RK.ext h_14
  replace o_C := o_C.ext h_14
  replace o_W := o_W.ext h_14
  replace o_R := o_R.ext h_14
  replace o_CV2 := o_CV2.ext h_14
  replace o_L2 := o_L2.ext h_14
  replace E := E.trans h_14
  clear h_14
  go_wp2_with fail
  refine (spec_RankCounts_ok _ Q _ o_Q.si (by omega) I_Q.out).mono ?_
  rintro e u_15 ⟨v_RK2, rfl, o_RK2, h_15⟩
  replace o_A := o_A.ext h_15
  replace o_B := o_B.ext h_15
  replace o_P := o_P.ext h_15
  replace o_CV := o_CV.ext h_15
  replace o_Q := o_Q.ext h_15
  replace o_L := o_L.ext h_15
  replace o_RK := o_RK.ext h_15
  replace o_C := o_C.ext h_15
  replace o_W := o_W.ext h_15
  replace o_R := o_R.ext h_15
  replace o_CV2 := o_CV2.ext h_15
  replace o_L2 := o_L2.ext h_15
  replace E := E.trans h_15
  clear h_15
  have brk := rc_bd Q
  have BRK := Lib.hid brk.2.2
  have brk1 : (rcL Q).length ≤ 1000 := brk.1
  have brk2 : (belL Q).length ≤ 1000 := brk.2.1
  clear brk
  go_wp2_with fail
  refine (sameInts_same _ _ (rcL Q) _ o_RK.si o_RK2.si (by omega)).mono ?_
  rintro e u_16 ⟨rfl, h_16⟩
  replace h_16 : Ext u_15 u_16 := h_16.ext
  replace o_A := o_A.ext h_16
  replace o_B := o_B.ext h_16
  replace o_P := o_P.ext h_16
  replace o_CV := o_CV.ext h_16
  replace o_Q := o_Q.ext h_16
  replace o_L := o_L.ext h_16
  replace o_RK := o_RK.ext h_16
  replace o_C := o_C.ext h_16
  replace o_W := o_W.ext h_16
  replace o_R := o_R.ext h_16
  replace o_CV2 := o_CV2.ext h_16
  replace o_L2 := o_L2.ext h_16
  replace o_RK2 := o_RK2.ext h_16
  replace E := E.trans h_16
  clear h_16
  clear o_CV2 o_L2 o_RK2 o_Q
  go_wp2_with fail
  refine (impl_IsStrongChain_ok _ C _ o_C.sii (by omega) SC.out).mono ?_
  rintro e u_17 ⟨rfl, h_17⟩
  replace o_A := o_A.ext h_17
  replace o_B := o_B.ext h_17
  replace o_P := o_P.ext h_17
  replace o_CV := o_CV.ext h_17
  replace o_L := o_L.ext h_17
  replace o_RK := o_RK.ext h_17
  replace o_C := o_C.ext h_17
  replace o_W := o_W.ext h_17
  replace o_R := o_R.ext h_17
  replace E := E.trans h_17
  clear h_17
  obtain ⟨ch, hch⟩ : ∃ x, x = chB C := ⟨_, rfl⟩
  rw [← hch]
  have H_ch := Lib.hid hch
  clear hch
  have nch : (ch != ch) = false := by simp
  go_wp2_with fail
  refine (spec_IsStrongChain_ok _ C _ o_C.sii (by omega) SC.out).mono ?_
  rintro e u_18 ⟨rfl, h_18⟩
  replace o_A := o_A.ext h_18
  replace o_B := o_B.ext h_18
  replace o_P := o_P.ext h_18
  replace o_CV := o_CV.ext h_18
  replace o_L := o_L.ext h_18
  replace o_RK := o_RK.ext h_18
  replace o_C := o_C.ext h_18
  replace o_W := o_W.ext h_18
  replace o_R := o_R.ext h_18
  replace E := E.trans h_18
  clear h_18
  rw [← H_ch.out]
  go_wp2_with fail
  refine (impl_SubwordBelow_ok (nn : Int) _ W _ R _ IN.out o_W.si (by omega) I_W.out o_R.si (by omega) I_R.out).mono ?_
  rintro e u_19 ⟨rfl, h_19⟩
  replace o_A := o_A.ext h_19
  replace o_B := o_B.ext h_19
  replace o_P := o_P.ext h_19
  replace o_CV := o_CV.ext h_19
  replace o_L := o_L.ext h_19
  replace o_RK := o_RK.ext h_19
  replace o_C := o_C.ext h_19
  replace o_W := o_W.ext h_19
  replace o_R := o_R.ext h_19
  replace E := E.trans h_19
  clear h_19
  obtain ⟨sw, hsw⟩ : ∃ x, x = subB (nn : Int) W R := ⟨_, rfl⟩
  rw [← hsw]
  have H_sw := Lib.hid hsw
  clear hsw
  have nsw : (sw != sw) = false := by simp
  go_wp2_with fail
  refine (spec_SubwordBelow_ok (nn : Int) _ W _ R _ IN.out o_W.si (by omega) I_W.out o_R.si (by omega) I_R.out).mono ?_
  rintro e u_20 ⟨rfl, h_20⟩
  replace o_A := o_A.ext h_20
  replace o_B := o_B.ext h_20
  replace o_P := o_P.ext h_20
  replace o_CV := o_CV.ext h_20
  replace o_L := o_L.ext h_20
  replace o_RK := o_RK.ext h_20
  replace o_C := o_C.ext h_20
  replace o_W := o_W.ext h_20
  replace o_R := o_R.ext h_20
  replace E := E.trans h_20
  clear h_20
  rw [← H_sw.out]
  go_wp2_with fail
  refine (spec_IsReduced_ok (nn : Int) _ W _ IN.out o_W.si (by omega) I_W.out).mono ?_
  rintro e u_21 ⟨rfl, h_21⟩
  replace o_A := o_A.ext h_21
  replace o_B := o_B.ext h_21
  replace o_P := o_P.ext h_21
  replace o_CV := o_CV.ext h_21
  replace o_L := o_L.ext h_21
  replace o_RK := o_RK.ext h_21
  replace o_C := o_C.ext h_21
  replace o_W := o_W.ext h_21
  replace o_R := o_R.ext h_21
  replace E := E.trans h_21
  clear h_21
  obtain ⟨rd, hrd⟩ : ∃ x, x = irB (nn : Int) W := ⟨_, rfl⟩
  rw [← hrd]
  have H_rd := Lib.hid hrd
  clear hrd
  go_upto_if 90 with fail
  go_cut [14] from 14 to 108 (fun _ wx => Ext u_21 wx)
  case first =>
    have EC : Ext u_21 u_21 := Ext.refl _
    cases rd
    ·
      go_wp2_with fail
      go_meet
      case rel => exact EC
    ·
      have hwp := ir_wp H_rd.out.symm
      have hss := sub_str (r := R) H_rd.out.symm l_W
      have HWK := Lib.hid hwp.1
      have HWI := Lib.hid hwp.2.1
      have hwl := hwp.2.2
      rw [← H_sw.out] at hss
      have HSS := Lib.hid hss
      clear hwp hss
      go_wp2_with fail
      refine (spec_WordPerm_ok (nn : Int) _ W _ IN.out o_W.si (by omega) I_W.out).mono ?_
      rintro e u_22 ⟨v_X, rfl, o_X, h_22⟩
      replace o_A := o_A.ext h_22
      replace o_B := o_B.ext h_22
      replace o_P := o_P.ext h_22
      replace o_CV := o_CV.ext h_22
      replace o_L := o_L.ext h_22
      replace o_RK := o_RK.ext h_22
      replace o_C := o_C.ext h_22
      replace o_W := o_W.ext h_22
      replace o_R := o_R.ext h_22
      replace EC := EC.trans h_22
      clear h_22
      rw [HWK.out]
      go_wp2_with fail
      refine (impl_SubwordBelow_ok (nn : Int) _ W _ R _ IN.out o_W.si (by omega) I_W.out o_R.si (by omega) I_R.out).mono ?_
      rintro e u_23 ⟨rfl, h_23⟩
      replace o_A := o_A.ext h_23
      replace o_B := o_B.ext h_23
      replace o_P := o_P.ext h_23
      replace o_CV := o_CV.ext h_23
      replace o_L := o_L.ext h_23
      replace o_RK := o_RK.ext h_23
      replace o_C := o_C.ext h_23
      replace o_W := o_W.ext h_23
      replace o_R := o_R.ext h_23
      replace o_X := o_X.ext h_23
      replace EC := EC.trans h_23
      clear h_23
      rw [← H_sw.out]
      go_wp2_with fail
      refine (impl_StrongBelow_ok _ R _ (wpL (nn : Int) W) _ o_R.si (by omega) I_R.out o_X.si (by omega) HWI.out).mono ?_
      rintro e u_24 ⟨rfl, h_24⟩
      replace o_A := o_A.ext h_24
      replace o_B := o_B.ext h_24
      replace o_P := o_P.ext h_24
      replace o_CV := o_CV.ext h_24
      replace o_L := o_L.ext h_24
      replace o_RK := o_RK.ext h_24
      replace o_C := o_C.ext h_24
      replace o_W := o_W.ext h_24
      replace o_R := o_R.ext h_24
      replace o_X := o_X.ext h_24
      replace EC := EC.trans h_24
      clear h_24
      rw [← HSS.out]
      go_wp2_with fail
      go_meet
      case rel => exact EC
  case rest =>
    have h_c := hcut
    clear hcut
    replace o_A := o_A.ext h_c
    replace o_B := o_B.ext h_c
    replace o_P := o_P.ext h_c
    replace o_CV := o_CV.ext h_c
    replace o_L := o_L.ext h_c
    replace o_RK := o_RK.ext h_c
    replace o_C := o_C.ext h_c
    replace o_W := o_W.ext h_c
    replace o_R := o_R.ext h_c
    replace E := E.trans h_c
    clear h_c
    obtain ⟨u_25, hwc⟩ : ∃ u, u = wc := ⟨_, rfl⟩
    subst hwc
    clear o_W o_R
    go_upto_region 17 with fail
    go_cut [133] from 109 to 133 (fun x wx => x = .bool false ∧ Ext u_25 wx)
    case first =>
      have EC : Ext u_25 u_25 := Ext.refl _
      go_wp2_with fail
      refine (spec_WeakBelow_ok _ A _ B _ o_A.si (by omega) I_A.out o_B.si (by omega) I_B.out).mono ?_
      rintro e u_26 ⟨rfl, h_26⟩
      replace o_A := o_A.ext h_26
      replace o_B := o_B.ext h_26
      replace o_P := o_P.ext h_26
      replace o_CV := o_CV.ext h_26
      replace o_L := o_L.ext h_26
      replace o_RK := o_RK.ext h_26
      replace o_C := o_C.ext h_26
      replace EC := EC.trans h_26
      clear h_26
      cases hw : weakB A B
      · clear hw
        go_wp2_with fail
        refine (impl_StrongBelow_ok _ A _ B _ o_A.si (by omega) I_A.out o_B.si (by omega) I_B.out).mono ?_
        rintro e u_27 ⟨rfl, h_27⟩
        replace o_A := o_A.ext h_27
        replace o_B := o_B.ext h_27
        replace o_P := o_P.ext h_27
        replace o_CV := o_CV.ext h_27
        replace o_L := o_L.ext h_27
        replace o_RK := o_RK.ext h_27
        replace o_C := o_C.ext h_27
        replace EC := EC.trans h_27
        clear h_27
        rw [← H_sb.out]
        cases sb
        ·
          go_wp2_with fail
          go_meet
          case rel => exact ⟨rfl, EC⟩
        ·
          go_wp2_with fail
          refine (impl_StrongBelow_ok _ B _ A _ o_B.si (by omega) I_B.out o_A.si (by omega) I_A.out).mono ?_
          rintro e u_28 ⟨rfl, h_28⟩
          replace o_A := o_A.ext h_28
          replace o_B := o_B.ext h_28
          replace o_P := o_P.ext h_28
          replace o_CV := o_CV.ext h_28
          replace o_L := o_L.ext h_28
          replace o_RK := o_RK.ext h_28
          replace o_C := o_C.ext h_28
          replace EC := EC.trans h_28
          clear h_28
          cases hba : strB B A
          · clear hba
            go_wp2_with fail
            go_meet
            case rel => exact ⟨rfl, EC⟩
          ·
            have hab := str_anti H_sb.out.symm hba
            have HAB := Lib.hid hab
            clear hba hab
            go_wp2_with fail
            refine (sameInts_ok _ _ A B _ o_A.si o_B.si (by omega)).mono ?_
            rintro e u_29 ⟨rfl, h_29⟩
            replace h_29 : Ext u_28 u_29 := h_29.ext
            replace o_A := o_A.ext h_29
            replace o_B := o_B.ext h_29
            replace o_P := o_P.ext h_29
            replace o_CV := o_CV.ext h_29
            replace o_L := o_L.ext h_29
            replace o_RK := o_RK.ext h_29
            replace o_C := o_C.ext h_29
            replace EC := EC.trans h_29
            clear h_29
            rw [decide_eq_true HAB.out]
            go_wp2_with fail
            go_meet
            case rel => exact ⟨rfl, EC⟩
      ·
        have hst := weak_str hw
        rw [← H_sb.out] at hst
        subst hst
        clear hw
        go_wp2_with fail
        refine (impl_StrongBelow_ok _ A _ B _ o_A.si (by omega) I_A.out o_B.si (by omega) I_B.out).mono ?_
        rintro e u_27 ⟨rfl, h_27⟩
        replace o_A := o_A.ext h_27
        replace o_B := o_B.ext h_27
        replace o_P := o_P.ext h_27
        replace o_CV := o_CV.ext h_27
        replace o_L := o_L.ext h_27
        replace o_RK := o_RK.ext h_27
        replace o_C := o_C.ext h_27
        replace EC := EC.trans h_27
        clear h_27
        rw [← H_sb.out]
        go_wp2_with fail
        refine (impl_StrongBelow_ok _ A _ B _ o_A.si (by omega) I_A.out o_B.si (by omega) I_B.out).mono ?_
        rintro e u_28 ⟨rfl, h_28⟩
        replace o_A := o_A.ext h_28
        replace o_B := o_B.ext h_28
        replace o_P := o_P.ext h_28
        replace o_CV := o_CV.ext h_28
        replace o_L := o_L.ext h_28
        replace o_RK := o_RK.ext h_28
        replace o_C := o_C.ext h_28
        replace EC := EC.trans h_28
        clear h_28
        rw [← H_sb.out]
        go_wp2_with fail
        refine (impl_StrongBelow_ok _ B _ A _ o_B.si (by omega) I_B.out o_A.si (by omega) I_A.out).mono ?_
        rintro e u_29 ⟨rfl, h_29⟩
        replace o_A := o_A.ext h_29
        replace o_B := o_B.ext h_29
        replace o_P := o_P.ext h_29
        replace o_CV := o_CV.ext h_29
        replace o_L := o_L.ext h_29
        replace o_RK := o_RK.ext h_29
        replace o_C := o_C.ext h_29
        replace EC := EC.trans h_29
        clear h_29
        cases hba : strB B A
        · clear hba
          go_wp2_with fail
          go_meet
          case rel => exact ⟨rfl, EC⟩
        ·
          have hab := str_anti H_sb.out.symm hba
          have HAB := Lib.hid hab
          clear hba hab
          go_wp2_with fail
          refine (sameInts_ok _ _ A B _ o_A.si o_B.si (by omega)).mono ?_
          rintro e u_30 ⟨rfl, h_30⟩
          replace h_30 : Ext u_29 u_30 := h_30.ext
          replace o_A := o_A.ext h_30
          replace o_B := o_B.ext h_30
          replace o_P := o_P.ext h_30
          replace o_CV := o_CV.ext h_30
          replace o_L := o_L.ext h_30
          replace o_RK := o_RK.ext h_30
          replace o_C := o_C.ext h_30
          replace EC := EC.trans h_30
          clear h_30
          rw [decide_eq_true HAB.out]
          go_wp2_with fail
          go_meet
          case rel => exact ⟨rfl, EC⟩
    case rest =>
      obtain ⟨rfl, h_c⟩ := hcut
      replace o_A := o_A.ext h_c
      replace o_B := o_B.ext h_c
      replace o_P := o_P.ext h_c
      replace o_CV := o_CV.ext h_c
      replace o_L := o_L.ext h_c
      replace o_RK := o_RK.ext h_c
      replace o_C := o_C.ext h_c
      replace E := E.trans h_c
      clear h_c
      obtain ⟨u_31, hwc⟩ : ∃ u, u = wc := ⟨_, rfl⟩
      subst hwc
      clear o_A o_B
      have hri := o_CV.sii.elim
      obtain ⟨aCV, cCV, eCV, hri⟩ := hri
      injection eCV with eCV1 _ eCV2
      subst eCV1 eCV2
      have HRI := Lib.hid hri
      have hip := invI_bd P
      obtain ⟨ip, hipv⟩ : ∃ x, x = invI P := ⟨_, rfl⟩
      rw [← hipv] at hip
      have HIP := Lib.hid hipv
      have hcl := cvL_cnt P
      clear hri hipv
      obtain ⟨uw, huw⟩ : ∃ uw, uw = u_31 := ⟨_, rfl⟩
      subst huw
      go_wp2_with fail
      go_loopw [16] (fun i wr => ∃ k : Nat, k ≤ (cvL P).length ∧ i = .int .i64 k ∧ Hid (Ext uw wr)) (fun i _ => (cvL P).length - (intOf i).toNat)
      case atStart => exact ⟨0, Nat.zero_le _, rfl, Ext.refl _⟩
      case round =>
        obtain ⟨k, hk, rfl, he⟩ := hrel
        by_cases hlt : k < (cvL P).length
        · obtain ⟨b, off, rfl, u, hc, hu⟩ := HRI.out k hlt
          replace hc := Ext.cell he.out hc
          replace hu := hu.ext he.out
          have hcs := cover_str (nthL_mem hlt)
          have hce := cvL_each (P := fun x => I64 x) (nthL_mem hlt) I_P.out
          obtain ⟨pu, cu, rfl⟩ := hu.shp
          obtain ⟨X, hX⟩ : ∃ X, X = nthL (cvL P) k := ⟨_, rfl⟩
          rw [← hX] at hc hu hcs hce
          have HU := Lib.hid hu
          have HCS := Lib.hid hcs.1
          have HCI : Hid (invI X = ip + 1) := by show _ = _; rw [hcs.2, HIP.out]
          have hxl : X.length ≤ 9 := by rw [hce.1]; omega
          have HXI : Hid (I64s X) := hce.2
          have o_P' := Lib.hid (o_P.ext he.out)
          have hltI : (k : Int) < ((cvL P).length : Int) := by omega
          have bip : ((ip + 1) != (ip + 1)) = false := by simp
          clear hX hu hcs hce
          go_wp2_with fail
          refine (impl_StrongBelow_ok _ P _ X _ o_P'.out.si (by omega) I_P.out HU.out (by omega) HXI.out).mono ?_
          rintro e w71 ⟨rfl, h71⟩
          rw [HCS.out]
          replace hc := Ext.cell h71 hc
          have HU1 := Lib.hid (HU.out.ext h71)
          have HP1 := Lib.hid (o_P'.out.ext h71)
          go_wp2_with fail
          refine (spec_CountInversions_ok _ X _ HU1.out (by omega)).mono ?_
          rintro e w72 ⟨rfl, h72⟩
          rw [HCI.out]
          have HP2 := Lib.hid (HP1.out.ext h72.ext)
          have hE := Lib.hid ((he.out.trans h71).trans h72.ext)
          clear HU1 HP1 HU
          go_wp2_with fail
          refine (spec_CountInversions_ok _ P _ HP2.out.si (by omega)).mono ?_
          rintro e w73 ⟨rfl, h73⟩
          rw [← HIP.out]
          have hE3 := Lib.hid (hE.out.trans h73.ext)
          go_wp2_with fail
          go_roundw
          case rel => exact ⟨k + 1, by omega, by go_num, hE3⟩
          case measure => simp [intOf]; omega
        · have hnI : ¬ (k : Int) < ((cvL P).length : Int) := by omega
          replace o_L := o_L.ext he.out
          replace o_RK := o_RK.ext he.out
          replace o_C := o_C.ext he.out
          replace E := E.trans he.out
          clear o_P o_CV HRI
          go_upto_region 24 with fail
          go_cut [177] from 158 to 177 (fun x wx => x = .bool false ∧ Ext wr wx)
          case first =>
            have EC : Ext wr wr := Ext.refl _
            have hri := o_C.sii.elim
            obtain ⟨aC, cC, eC, hri⟩ := hri
            injection eC with eC1 _ eC2
            subst eC1 eC2
            have HRC := Lib.hid hri
            clear hri
            cases ch
            ·
              have hcall : ∀ z : XW wr, Calls Try.prog 50 #[.slice p_C C.length c_C] z.v fun e w' => e = .returned (.bool false) ∧ ∃ x : XW wr, w' = x.v := fun z => (impl_IsStrongChain_ok _ C _ (o_C.sii.ext z.e) (by omega) SC.out).mono fun _ w1 ⟨h1, h2⟩ => ⟨by rw [h1, ← H_ch.out], ⟨w1, z.e.trans h2⟩, rfl⟩
              have HCALL := Lib.hid hcall
              clear hcall
              refine wp_region_ext (by kernel_rfl) (by kernel_rfl) ?_
              repeat (first | go_big_quiet_skip | (go_big_quiet_want; go_big_quiet_op; first | go_big_quiet_on | (apply Exists.intro; refine ⟨fun z => HCALL.out z, ?_⟩; go_big_quiet_on)))
              refine wpQuiet_nil ?_
              rintro _ ⟨⟨w71, h71⟩, rfl⟩
              have EC2 := Lib.hid (EC.trans h71)
              all_goals
                go_wp2_with fail
                go_meet
                case rel => exact ⟨rfl, EC2.out⟩
            ·
              by_cases h0 : C.length = 0
              ·
                have h0I : ¬ (0 : Int) < (C.length : Int) := by omega
                have h0d : decide (0 < C.length) = false := decide_eq_false (by omega)
                clear h0
                have hcall : ∀ z : XW wr, Calls Try.prog 50 #[.slice p_C C.length c_C] z.v fun e w' => e = .returned (.bool true) ∧ ∃ x : XW wr, w' = x.v := fun z => (impl_IsStrongChain_ok _ C _ (o_C.sii.ext z.e) (by omega) SC.out).mono fun _ w1 ⟨h1, h2⟩ => ⟨by rw [h1, ← H_ch.out], ⟨w1, z.e.trans h2⟩, rfl⟩
                have HCALL := Lib.hid hcall
                clear hcall
                refine wp_region_ext (by kernel_rfl) (by kernel_rfl) ?_
                repeat (first | go_big_quiet_skip | (go_big_quiet_want; go_big_quiet_op; first | go_big_quiet_on | (apply Exists.intro; refine ⟨fun z => HCALL.out z, ?_⟩; go_big_quiet_on)))
                refine wpQuiet_nil ?_
                rintro _ ⟨⟨w71, h71⟩, rfl⟩
                have EC2 := Lib.hid (EC.trans h71)
                all_goals
                  go_wp2_with fail
                  go_meet
                  case rel => exact ⟨rfl, EC2.out⟩
              ·
                obtain ⟨j, hj⟩ : ∃ j, C.length = j + 1 := ⟨C.length - 1, by omega⟩
                have hends := ch_ends H_ch.out.symm hj
                obtain ⟨b, off, rfl, u0, hc0, hu0⟩ := HRC.out 0 (by omega)
                obtain ⟨b', off', e', u1, hc1, hu1⟩ := HRC.out j (by omega)
                injection e' with e'
                injection e' with e1 e2 _
                subst e1 e2
                obtain ⟨X, hX⟩ : ∃ X, X = nthL C 0 := ⟨_, rfl⟩
                obtain ⟨Y, hY⟩ : ∃ Y, Y = nthL C j := ⟨_, rfl⟩
                rw [← hX] at hu0 hends
                rw [← hY] at hu1 hends
                have hsx := isP8_I64 (str_true hends).1
                have hsy := isP8_I64 (str_true hends).2
                obtain ⟨p0, c0, rfl⟩ := hu0.shp
                obtain ⟨p1, c1, rfl⟩ := hu1.shp
                have HU0 := Lib.hid hu0
                have HU1 := Lib.hid hu1
                have HEN := Lib.hid hends
                have hx8 := hsx.2
                have hy8 := hsy.2
                have HXI := Lib.hid hsx.1
                have HYI := Lib.hid hsy.1
                rw [Nat.add_zero] at hc0
                have w1 : IntKind.i64.wrap ((C.length : Int) - 1) = (j : Int) := by rw [IntWalk.i64_in _ (by omega)]; omega
                have w1b : IntKind.i64.wrap (j : Int) = (j : Int) := IntWalk.i64_in _ (by omega)
                have w5 : (j : Int) < (C.length : Int) := by omega
                have w6 : (0 : Int) < (C.length : Int) := by omega
                have w7 : j < C.length := by omega
                have w8 : decide (0 < C.length) = true := decide_eq_true (by omega)
                have w9 : ¬ C.length = 0 := by omega
                have w10 : ¬ C = [] := by intro e; rw [e] at w9; exact w9 rfl
                have w11 : 0 < C.length := by omega
                clear hX hY hends hsx hsy hu0 hu1 h0 hj
                go_region_held3 (fun w' => w'.cell? ⟨b, off, none⟩ = some (.slice p0 X.length c0) ∧ w'.cell? ⟨b, off + j, none⟩ = some (.slice p1 Y.length c1))
                  (first | go_keep | (exact ⟨Ext.cell h72 (Ext.cell h71 (Ext.cell (show Ext wr wr.drew from Upd.drew _ _) hc0)), Ext.cell h72 (Ext.cell h71 (Ext.cell (show Ext wr wr.drew from Upd.drew _ _) hc1))⟩) | (exact ⟨Ext.cell h71 (Ext.cell (show Ext wr wr.drew from Upd.drew _ _) hc0), Ext.cell h71 (Ext.cell (show Ext wr wr.drew from Upd.drew _ _) hc1)⟩))
                  ((first
                    | (go_at_call 50; refine (impl_IsStrongChain_ok _ C _ (o_C.sii.ext (Upd.drew _ _)) (by omega) SC.out).mono ?_; rintro e w71 ⟨rfl, h71⟩; rw [← H_ch.out])
                    | (go_at_call 45; refine (impl_StrongBelow_ok _ X _ Y _ ((HU0.out.ext (Upd.drew _ _)).ext h71) (by omega) HXI.out ((HU1.out.ext (Upd.drew _ _)).ext h71) (by omega) HYI.out).mono ?_; rintro e w72 ⟨rfl, h72⟩; rw [HEN.out])))
                all_goals
                  have EC2 := Lib.hid ((EC.drew.trans h71).trans h72)
                  clear w1 w1b
                  go_wp2_with fail
                  go_meet
                  case rel => exact ⟨rfl, EC2.out⟩
          case rest =>
            obtain ⟨rfl, h_c⟩ := hcut
            replace o_L := o_L.ext h_c
            replace o_RK := o_RK.ext h_c
            replace o_C := o_C.ext h_c
            replace E := E.trans h_c
            clear h_c
            obtain ⟨u_32, hwc⟩ : ∃ u, u = wc := ⟨_, rfl⟩
            subst hwc
            clear o_C
            by_cases h0 : (belL Q).length = 0
            ·
              have hrc := bel_none h0
              have HRC0 : Hid ((((rcL Q).length : Int) == 0) = true) := by show _ = _; rw [hrc]; rfl
              have hb0 : (((belL Q).length : Int) == 0) = true := by rw [h0]; rfl
              clear hrc h0
              go_wp2_with fail
              go_ret
              exact ⟨by rw [HRC0.out]; rfl, E⟩
            ·
              have hb0 : (((belL Q).length : Int) == 0) = false := by rw [beq_eq_false_iff_ne]; omega
              have hra := rank_all (p := Q) (by omega)
              obtain ⟨j, hj⟩ : ∃ j, (rcL Q).length = j + 1 := ⟨inv Q, hra.1⟩
              have hj2 : inv Q = j := by have := hra.1; omega
              rw [hj2] at hra
              have hri := o_RK.si.elim
              obtain ⟨aR, cR, eR, hri⟩ := hri
              injection eR with eR1 _ eR2
              subst eR1 eR2
              obtain ⟨b, off, rfl, hc⟩ := hri.get (k := 0) (by omega)
              have hc0 := hc 0 (by omega)
              have hc1 := hc j (by omega)
              rw [hra.2.2.1, Nat.add_zero] at hc0
              rw [hra.2.2.2] at hc1
              have HT : Hid (totL (rcL Q) = ((belL Q).length : Int)) := hra.2.1
              have C0 := Lib.hid hc0
              have C1 := Lib.hid hc1
              have w1 : IntKind.i64.wrap (((rcL Q).length : Int) - 1) = (j : Int) := by rw [IntWalk.i64_in _ (by omega)]; omega
              have w5 : (j : Int) < ((rcL Q).length : Int) := by omega
              have w6 : (0 : Int) < ((rcL Q).length : Int) := by omega
              have w7 : j < (rcL Q).length := by omega
              have w8 : ((rcL Q).length : Int) - 1 = (j : Int) := by omega
              have w9 : 0 < (rcL Q).length := by omega
              clear hra hri hc hc0 hc1 h0 hj hj2
              go_wp2_with fail
              refine (total_ok _ (rcL Q) _ o_RK.si (by omega) (fun x hx => by have := BRK.out x hx; omega)).mono ?_
              rintro e w91 ⟨rfl, q91⟩
              rw [HT.out]
              have hc0 := Ext.cell q91.ext C0.out
              have hc1 := Ext.cell q91.ext C1.out
              go_wp2_with fail
              go_ret
              exact ⟨rfl, E.trans q91.ext⟩
end Go.Proofs.Ytmnbdphfoonleaa
