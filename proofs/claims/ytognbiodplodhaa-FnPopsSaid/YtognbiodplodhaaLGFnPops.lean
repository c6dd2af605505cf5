/- The walk of the law FnPops: it returns true and leaves what was there. Conditions: none. -/
import Derived.Test.YtognbiodplodhaaPopP
import Derived.Test.YtognbiodplodhaaDrLay
import Derived.Test.YtognbiodplodhaaLayW
import Derived.Test.YtognbiodplodhaaGreat
import Derived.Test.YtognbiodplodhaaHarnL
import Derived.Deep.RegionHeld3
import Derived.Deep.Cut
import Derived.Deep.CutRange
namespace Go.Proofs.Ytognbiodplodhaa
open Go.RowKit

theorem OII.len_shape {B H : Nat} {w : World} {v : Value} {xss : List (List Int)} (h : OII B H w v xss) : ∃ p c, v = .slice p xss.length c := by
  obtain ⟨a, c, h1, _⟩ := h.sii; exact ⟨a, c, h1⟩
theorem SII.elim2 {w : World} {p : Option Addr} {n c : Nat} {xss : List (List Int)} (h : SII w (.slice p n c) xss) : ∀ k, k < xss.length → ∃ b off, p = some ⟨b, off, none⟩ ∧ ∀ i, i < xss.length → ∃ u, w.cell? ⟨b, off + i, none⟩ = some u ∧ SI w u (nthL xss i) := by
  intro k hk
  obtain ⟨a, cap, h1, _, _, _, h5⟩ := h
  injection h1 with e1 _ _
  rcases h5 with rfl | ⟨b, off, h6, h7⟩
  · simp at hk
  · exact ⟨b, off, by rw [e1, h6], h7⟩
theorem tmsI_small {xs : List Int} (h : isP8 xs = true) : 0 ≤ tmsI popL xs ∧ tmsI popL xs ≤ 1000000 := by
  have h8 := (isP8_iff.1 h).1
  have h1 := inv_bound xs (by omega)
  have h2 := tms_le (g := popL) xs
  unfold tmsI; rw [if_pos h]; omega
theorem popOf_bd {xs : List Int} (h : xs.length ≤ 9) : (popOfL xs).length ≤ 1000000000 := by have := bound_PopPass xs (by omega); omega
set_option maxHeartbeats 8000000 in
theorem law_FnPops (a : Option Addr) (n cap : Nat) (w : World) (hb : BY w.heap.size w a n) (hn : n ≤ 9223372036854775807) :
    Calls Try.prog 3 #[.slice a n cap] w fun e w' => e = .returned (.bool true) ∧ Ext w w' := by
  go_enter Try.func3, Try.ntmps3
  go_wp2_with fail
  refine (big_ok a n cap _ hn).mono ?_
  rintro e w0 ⟨rfl, hw0⟩
  have E : Ext w w0 := hw0.ext
  have HB := Lib.hid hb
  clear hb hw0
  by_cases hbig : 1048576 < n
  · rw [decide_eq_true hbig]
    go_wp2_with fail
    go_ret
    exact ⟨rfl, E⟩
  rw [decide_eq_false hbig]
  have hn9 : n ≤ 1048576 := by omega
  clear hn
  go_wp2_with fail
  refine (DrawPopPass_ok a n cap _ hn9 ((HB.out.ext E).mono E.size)).mono ?_
  rintro e u_1 ⟨v_P, P, rfl, o_P, l_P, b_P, h_1⟩
  replace E := E.trans h_1
  clear h_1
  have i_P : I64s P := fun x hx => by have := b_P x hx; unfold I64; omega
  have I_P := Lib.hid i_P
  have B_P := Lib.hid b_P
  clear i_P b_P
  go_wp2_with fail
  refine (impl_PopPass_ok _ P _ o_P.si (by omega) I_P.out).mono ?_
  rintro e u_2 ⟨v_S, rfl, o_S, h_2⟩
  replace o_P := o_P.ext h_2
  replace E := E.trans h_2
  clear h_2
  go_wp2_with fail
  refine (DrawIsPopSorted_ok a n cap _ hn9 ((HB.out.ext E).mono E.size)).mono ?_
  rintro e u_3 ⟨v_Q, Q, rfl, o_Q, l_Q, b_Q, h_3⟩
  replace o_P := o_P.ext h_3
  replace o_S := o_S.ext h_3
  replace E := E.trans h_3
  clear h_3
  have i_Q : I64s Q := fun x hx => by have := b_Q x hx; unfold I64; omega
  have I_Q := Lib.hid i_Q
  have B_Q := Lib.hid b_Q
  clear i_Q b_Q
  go_wp2_with fail
  refine (DrawPopTimes_ok a n cap _ hn9 ((HB.out.ext E).mono E.size)).mono ?_
  rintro e u_4 ⟨v_T, T, rfl, o_T, l_T, b_T, h_4⟩
  replace o_P := o_P.ext h_4
  replace o_S := o_S.ext h_4
  replace o_Q := o_Q.ext h_4
  replace E := E.trans h_4
  clear h_4
  have i_T : I64s T := fun x hx => by have := b_T x hx; unfold I64; omega
  have I_T := Lib.hid i_T
  have B_T := Lib.hid b_T
  clear i_T b_T
  obtain ⟨p_T, c_T, rfl⟩ := o_T.shape
  go_wp2_with fail
  refine (impl_PopTimes_ok _ T _ o_T.si (by omega) I_T.out).mono ?_
  rintro e u_5 ⟨rfl, h_5⟩
  replace o_P := o_P.ext h_5
  replace o_S := o_S.ext h_5
  replace o_Q := o_Q.ext h_5
  replace o_T := o_T.ext h_5
  replace E := E.trans h_5
  clear h_5
  obtain ⟨N, hN⟩ : ∃ N, N = tmsI popL T := ⟨_, rfl⟩
  rw [← hN]
  have HN := Lib.hid hN
  clear hN
  go_wp2_with fail
  refine (DrawFallsOf_ok a n cap _ hn9 ((HB.out.ext E).mono E.size)).mono ?_
  rintro e u_6 ⟨v_F, F, rfl, o_F, l_F, b_F, h_6⟩
  replace o_P := o_P.ext h_6
  replace o_S := o_S.ext h_6
  replace o_Q := o_Q.ext h_6
  replace o_T := o_T.ext h_6
  replace E := E.trans h_6
  clear h_6
  have i_F : I64s F := fun x hx => by have := b_F x hx; unfold I64; omega
  have I_F := Lib.hid i_F
  have B_F := Lib.hid b_F
  clear i_F b_F
  obtain ⟨p_F, c_F, rfl⟩ := o_F.shape
  go_wp2_with fail
  refine (impl_FallsOf_ok _ F _ o_F.si (by omega) I_F.out).mono ?_
  rintro e u_7 ⟨v_FL, rfl, o_FL, h_7⟩
  replace o_P := o_P.ext h_7
  replace o_S := o_S.ext h_7
  replace o_Q := o_Q.ext h_7
  replace o_T := o_T.ext h_7
  replace o_F := o_F.ext h_7
  replace E := E.trans h_7
  clear h_7
  obtain ⟨p_FL, c_FL, rfl⟩ := o_FL.len_shape
  go_wp2_with fail
  refine (DrawPopTrail_ok a n cap _ hn9 ((HB.out.ext E).mono E.size)).mono ?_
  rintro e u_8 ⟨v_R, R, rfl, o_R, l_R, b_R, h_8⟩
  replace o_P := o_P.ext h_8
  replace o_S := o_S.ext h_8
  replace o_Q := o_Q.ext h_8
  replace o_T := o_T.ext h_8
  replace o_F := o_F.ext h_8
  replace o_FL := o_FL.ext h_8
  replace E := E.trans h_8
  clear h_8
  have i_R : I64s R := fun x hx => by have := b_R x hx; unfold I64; omega
  have I_R := Lib.hid i_R
  have B_R := Lib.hid b_R
  clear i_R b_R
  go_wp2_with fail
  refine (impl_PopTrail_ok _ R _ o_R.si (by omega) I_R.out).mono ?_
  rintro e u_9 ⟨v_TR, rfl, o_TR, h_9⟩
  replace o_P := o_P.ext h_9
  replace o_S := o_S.ext h_9
  replace o_Q := o_Q.ext h_9
  replace o_T := o_T.ext h_9
  replace o_F := o_F.ext h_9
  replace o_FL := o_FL.ext h_9
  replace o_R := o_R.ext h_9
  replace E := E.trans h_9
  clear h_9
  obtain ⟨p_TR, c_TR, rfl⟩ := o_TR.len_shape
  go_wp2_with fail
  refine (spec_PopPass_ok _ P _ o_P.si (by omega) I_P.out).mono ?_
  rintro e u_10 ⟨v_S2, rfl, o_S2, h_10⟩
  replace o_P := o_P.ext h_10
  replace o_S := o_S.ext h_10
  replace o_Q := o_Q.ext h_10
  replace o_T := o_T.ext h_10
  replace o_F := o_F.ext h_10
  replace o_FL := o_FL.ext h_10
  replace o_R := o_R.ext h_10
  replace o_TR := o_TR.ext h_10
  replace E := E.trans h_10
  clear h_10
  go_wp2_with fail
  refine (sameInts_same _ _ (popOfL P) _ o_S.si o_S2.si (popOf_bd l_P)).mono ?_
  rintro e u_11 ⟨rfl, h_11⟩
  replace h_11 : Ext u_10 u_11 := h_11.ext
  replace o_P := o_P.ext h_11
  replace o_S := o_S.ext h_11
  replace o_Q := o_Q.ext h_11
  replace o_T := o_T.ext h_11
  replace o_F := o_F.ext h_11
  replace o_FL := o_FL.ext h_11
  replace o_R := o_R.ext h_11
  replace o_TR := o_TR.ext h_11
  replace o_S2 := o_S2.ext h_11
  replace E := E.trans h_11
  clear h_11
  go_wp2_with fail
  refine (impl_IsPopSorted_ok _ Q _ o_Q.si (by omega) I_Q.out).mono ?_
  rintro e u_12 ⟨rfl, h_12⟩
  replace o_P := o_P.ext h_12
  replace o_S := o_S.ext h_12
  replace o_Q := o_Q.ext h_12
  replace o_T := o_T.ext h_12
  replace o_F := o_F.ext h_12
  replace o_FL := o_FL.ext h_12
  replace o_R := o_R.ext h_12
  replace o_TR := o_TR.ext h_12
  replace o_S2 := o_S2.ext h_12
  replace E := E.trans h_12
  clear h_12
  obtain ⟨qb, hqb⟩ : ∃ x, x = popSortedB Q := ⟨_, rfl⟩
  rw [← hqb]
  have HQB := Lib.hid hqb
  clear hqb
  have nq : (qb != qb) = false := by simp
  go_wp2_with fail
  refine (spec_IsPopSorted_ok _ Q _ o_Q.si (by omega) I_Q.out).mono ?_
  rintro e u_13 ⟨rfl, h_13⟩
  replace o_P := o_P.ext h_13
  replace o_S := o_S.ext h_13
  replace o_Q := o_Q.ext h_13
  replace o_T := o_T.ext h_13
  replace o_F := o_F.ext h_13
  replace o_FL := o_FL.ext h_13
  replace o_R := o_R.ext h_13
  replace o_TR := o_TR.ext h_13
  replace o_S2 := o_S2.ext h_13
  replace E := E.trans h_13
  clear h_13
  rw [← HQB.out]
  have nn : (N != N) = false := by simp
  go_wp2_with fail
  refine (spec_PopTimes_ok _ T _ o_T.si (by omega) I_T.out).mono ?_
  rintro e u_14 ⟨rfl, h_14⟩
  replace o_P := o_P.ext h_14
  replace o_S := o_S.ext h_14
  replace o_Q := o_Q.ext h_14
  replace o_T := o_T.ext h_14
  replace o_F := o_F.ext h_14
  replace o_FL := o_FL.ext h_14
  replace o_R := o_R.ext h_14
  replace o_TR := o_TR.ext h_14
  replace o_S2 := o_S2.ext h_14
  replace E := E.trans h_14
  clear h_14
  rw [← HN.out]
  go_wp2_with fail
  refine (spec_FallsOf_ok _ F _ o_F.si (by omega) I_F.out).mono ?_
  rintro e u_15 ⟨v_FL2, rfl, o_FL2, h_15⟩
  replace o_P := o_P.ext h_15
  replace o_S := o_S.ext h_15
  replace o_Q := o_Q.ext h_15
  replace o_T := o_T.ext h_15
  replace o_F := o_F.ext h_15
  replace o_FL := o_FL.ext h_15
  replace o_R := o_R.ext h_15
  replace o_TR := o_TR.ext h_15
  replace o_S2 := o_S2.ext h_15
  replace E := E.trans h_15
  clear h_15
  have bf := bound_FallsOf F (by omega)
  have br := bound_PopTrail R (by omega)
  have BF := Lib.hid bf
  have BR := Lib.hid br
  clear bf br
  go_wp2_with fail
  refine (sameLists_same _ _ (fallsOfL F) _ o_FL.sii o_FL2.sii BF.out.1 BF.out.2.1).mono ?_
  rintro e u_16 ⟨rfl, h_16⟩
  replace h_16 : Ext u_15 u_16 := h_16.ext
  replace o_P := o_P.ext h_16
  replace o_S := o_S.ext h_16
  replace o_Q := o_Q.ext h_16
  replace o_T := o_T.ext h_16
  replace o_F := o_F.ext h_16
  replace o_FL := o_FL.ext h_16
  replace o_R := o_R.ext h_16
  replace o_TR := o_TR.ext h_16
  replace o_S2 := o_S2.ext h_16
  replace o_FL2 := o_FL2.ext h_16
  replace E := E.trans h_16
  clear h_16
  go_wp2_with fail
  refine (spec_PopTrail_ok _ R _ o_R.si (by omega) I_R.out).mono ?_
  rintro e u_17 ⟨v_TR2, rfl, o_TR2, h_17⟩
  replace o_P := o_P.ext h_17
  replace o_S := o_S.ext h_17
  replace o_Q := o_Q.ext h_17
  replace o_T := o_T.ext h_17
  replace o_F := o_F.ext h_17
  replace o_FL := o_FL.ext h_17
  replace o_R := o_R.ext h_17
  replace o_TR := o_TR.ext h_17
  replace o_S2 := o_S2.ext h_17
  replace o_FL2 := o_FL2.ext h_17
  replace E := E.trans h_17
  clear h_17
  go_wp2_with fail
  refine (sameLists_same _ _ (trlL popL R) _ o_TR.sii o_TR2.sii BR.out.1 BR.out.2.1).mono ?_
  rintro e u_18 ⟨rfl, h_18⟩
  replace h_18 : Ext u_17 u_18 := h_18.ext
  replace o_P := o_P.ext h_18
  replace o_S := o_S.ext h_18
  replace o_Q := o_Q.ext h_18
  replace o_T := o_T.ext h_18
  replace o_F := o_F.ext h_18
  replace o_FL := o_FL.ext h_18
  replace o_R := o_R.ext h_18
  replace o_TR := o_TR.ext h_18
  replace o_S2 := o_S2.ext h_18
  replace o_FL2 := o_FL2.ext h_18
  replace o_TR2 := o_TR2.ext h_18
  replace E := E.trans h_18
  clear h_18
  clear o_S2 o_FL2 o_TR2 o_S o_P
  go_upto_region 14 with fail
  go_cut [89] from 65 to 89 (fun x wx => x = .bool false ∧ Ext u_18 wx)
  case first =>
    have EC : Ext u_18 u_18 := Ext.refl _
    go_wp2_with fail
    refine (impl_IsPopSorted_ok _ Q _ o_Q.si (by omega) I_Q.out).mono ?_
    rintro e u_19 ⟨rfl, h_19⟩
    replace o_Q := o_Q.ext h_19
    replace o_T := o_T.ext h_19
    replace o_F := o_F.ext h_19
    replace o_FL := o_FL.ext h_19
    replace o_R := o_R.ext h_19
    replace o_TR := o_TR.ext h_19
    replace EC := EC.trans h_19
    clear h_19
    rw [← HQB.out]
    go_wp2_with fail
    refine (spec_IsLayered_ok _ Q _ o_Q.si (by omega)).mono ?_
    rintro e u_20 ⟨rfl, h_20⟩
    replace o_Q := o_Q.ext h_20
    replace o_T := o_T.ext h_20
    replace o_F := o_F.ext h_20
    replace o_FL := o_FL.ext h_20
    replace o_R := o_R.ext h_20
    replace o_TR := o_TR.ext h_20
    replace EC := EC.trans h_20
    clear h_20
    rw [← pop_lay, ← HQB.out]
    go_wp2_with fail
    refine (spec_IsPerm_qt _ T _ o_T.si (by omega)).mono ?_
    rintro e u_21 ⟨rfl, h_21⟩
    replace h_21 : Ext u_20 u_21 := h_21.ext
    replace o_Q := o_Q.ext h_21
    replace o_T := o_T.ext h_21
    replace o_F := o_F.ext h_21
    replace o_FL := o_FL.ext h_21
    replace o_R := o_R.ext h_21
    replace o_TR := o_TR.ext h_21
    replace EC := EC.trans h_21
    clear h_21
    cases hT : isP8 T
    · clear hT
      go_wp2_with fail
      go_meet
      case rel => exact ⟨rfl, EC⟩
    · by_cases hT0 : 0 < T.length
      ·
        have hm := times_most hT hT0
        rw [← HN.out] at hm
        obtain ⟨hm1, hm2⟩ := hm
        have hm3 : ¬ N < 0 := by omega
        have hm4 : ¬ (T.length : Int) - 1 < N := by omega
        have hT0I : (0 : Int) < (T.length : Int) := by omega
        have hmr : Hid ((decide (N < 0) || decide ((T.length : Int) - 1 < N)) = false) := by show _ = _; simp; omega
        clear hT
        go_wp2_with fail
        go_meet
        case rel => exact ⟨by rw [hmr.out], EC⟩
      ·
        have hT0I : ¬ (0 : Int) < (T.length : Int) := by omega
        clear hT
        go_wp2_with fail
        go_meet
        case rel => exact ⟨rfl, EC⟩
  case rest =>
    obtain ⟨rfl, h_c⟩ := hcut
    replace o_Q := o_Q.ext h_c
    replace o_T := o_T.ext h_c
    replace o_F := o_F.ext h_c
    replace o_FL := o_FL.ext h_c
    replace o_R := o_R.ext h_c
    replace o_TR := o_TR.ext h_c
    replace E := E.trans h_c
    clear h_c
    obtain ⟨u_22, hwc⟩ : ∃ u, u = wc := ⟨_, rfl⟩
    subst hwc
    go_upto_region 16 with fail
    go_cut [107] from 90 to 107 (fun x wx => x = .bool false ∧ Ext u_22 wx)
    case first =>
      have EC : Ext u_22 u_22 := Ext.refl _
      go_wp2_with fail
      refine (spec_IsPerm_qt _ F _ o_F.si (by omega)).mono ?_
      rintro e u_23 ⟨rfl, h_23⟩
      replace h_23 : Ext u_22 u_23 := h_23.ext
      replace o_Q := o_Q.ext h_23
      replace o_T := o_T.ext h_23
      replace o_F := o_F.ext h_23
      replace o_FL := o_FL.ext h_23
      replace o_R := o_R.ext h_23
      replace o_TR := o_TR.ext h_23
      replace EC := EC.trans h_23
      clear h_23
      cases hF : isP8 F
      · clear hF
        go_wp2_with fail
        go_meet
        case rel => exact ⟨rfl, EC⟩
      · by_cases hF0 : 0 < F.length
        ·
          have hFl := falls_len hF hF0
          have HF := Lib.hid hFl
          have hF0I : (0 : Int) < (F.length : Int) := by omega
          clear hF hFl
          go_wp2_with fail
          refine (spec_DescentsOf_ok _ F _ o_F.si (by omega)).mono ?_
          rintro e u_24 ⟨v_DS, rfl, o_DS, h_24⟩
          replace o_Q := o_Q.ext h_24
          replace o_T := o_T.ext h_24
          replace o_F := o_F.ext h_24
          replace o_FL := o_FL.ext h_24
          replace o_R := o_R.ext h_24
          replace o_TR := o_TR.ext h_24
          replace EC := EC.trans h_24
          clear h_24
          obtain ⟨p_DS, c_DS, rfl⟩ := o_DS.shape
          have nd : Hid ((((fallsOfL F).length : Int) != wrap64 ((F.length : Int) - ((dsL F).length : Int))) = false) := by show _ = _; have := HF.out; rw [IntWalk.wrap64_in _ (by omega), bne_eq_false_iff_eq]; omega
          go_wp2_with fail
          go_meet
          case rel => exact ⟨by rw [nd.out], EC⟩
        ·
          have hF0I : ¬ (0 : Int) < (F.length : Int) := by omega
          clear hF
          go_wp2_with fail
          go_meet
          case rel => exact ⟨rfl, EC⟩
    case rest =>
      obtain ⟨rfl, h_c⟩ := hcut
      replace o_Q := o_Q.ext h_c
      replace o_T := o_T.ext h_c
      replace o_F := o_F.ext h_c
      replace o_FL := o_FL.ext h_c
      replace o_R := o_R.ext h_c
      replace o_TR := o_TR.ext h_c
      replace E := E.trans h_c
      clear h_c
      obtain ⟨u_25, hwc⟩ : ∃ u, u = wc := ⟨_, rfl⟩
      subst hwc
      go_wp2_with fail
      have hri := o_TR.sii.elim2
      have HRI := Lib.hid hri
      clear hri
      obtain ⟨TL, hTL⟩ : ∃ TL, TL = trlL popL R := ⟨_, rfl⟩
      rw [← hTL] at HRI o_TR BR ⊢
      have HTL := Lib.hid hTL
      clear hTL
      obtain ⟨uw, huw⟩ : ∃ uw, uw = u_25 := ⟨_, rfl⟩
      subst huw
      go_loopw [12] (fun i wr => ∃ j : Nat, (j = 0 ∨ j + 1 ≤ TL.length) ∧ i = .int .i64 ((j : Int) + 1) ∧ Ext uw wr) (fun i _ => TL.length - (intOf i).toNat)
      case atStart => exact ⟨0, .inl rfl, rfl, Ext.refl _⟩
      case round =>
        obtain ⟨j, hj, rfl, he⟩ := hrel
        by_cases hlt : j + 1 < TL.length
        · obtain ⟨b, off, rfl, hc⟩ := HRI.out j (by omega)
          obtain ⟨u1, hu1, hs1⟩ := hc j (by omega)
          obtain ⟨u2, hu2, hs2⟩ := hc (j + 1) hlt
          replace hu1 := Ext.cell he hu1
          replace hu2 := Ext.cell he hu2
          replace hs1 := hs1.ext he
          replace hs2 := hs2.ext he
          have hx : popOfL (nthL TL j) = nthL TL (j + 1) ∧ (nthL TL j).length ≤ 8 := by
            have h1 : isP8 (nthL TL j) = true := trl_isP pop_ok (xs := R) (by rw [← HTL.out]; exact nthL_mem (by omega))
            have h2 : isP8 R = true := by
              cases h : isP8 R
              · have h3 := HTL.out
                unfold trlL at h3; rw [h] at h3; rw [h3] at hlt; simp at hlt
              · rfl
            have h3 := (trl_all pop_ok h2).2.1 j (by rw [← HTL.out]; exact hlt)
            rw [← HTL.out] at h3
            exact ⟨by unfold popOfL; rw [h1, h3]; rfl, (isP8_iff.1 h1).1⟩
          obtain ⟨X, hX⟩ : ∃ X, X = nthL TL j := ⟨_, rfl⟩
          obtain ⟨Y, hY⟩ : ∃ Y, Y = nthL TL (j + 1) := ⟨_, rfl⟩
          rw [← hX] at hs1 hx
          rw [← hY] at hs2 hx
          obtain ⟨a1, c1, rfl, -⟩ := hs1.elim
          obtain ⟨a2, c2, rfl, -⟩ := hs2.elim
          have hYl : Y.length ≤ 1000000000 := by rw [← hx.1]; exact popOf_bd (by omega)
          have HX := Lib.hid hx.1
          have hX8 := hx.2
          have HI : Hid (I64s X) := by
            intro x hx
            have h1 : isP8 X = true := by rw [hX]; exact trl_isP pop_ok (xs := R) (by rw [← HTL.out]; exact nthL_mem (by omega))
            have := (isP8_iff.1 h1).2.1 x hx
            unfold I64; omega
          have HS1 := Lib.hid hs1
          have HS2 := Lib.hid hs2
          have w1 : IntKind.i64.wrap ((j : Int) + 1 - 1) = (j : Int) := by rw [IntWalk.i64_in _ (by have := BR.out.1; omega)]; omega
          have w1b : IntKind.i64.wrap (j : Int) = (j : Int) := IntWalk.i64_in _ (by have := BR.out.1; omega)
          have w2 : ((j : Int) + 1).toNat = j + 1 := by omega
          have w3 : 0 ≤ (j : Int) + 1 := by omega
          have w4 : (j : Int) + 1 < (TL.length : Int) := by omega
          have w5 : (j : Int) < (TL.length : Int) := by omega
          have wb : (TL.length : Int) ≤ 1000000000 := by have := BR.out.1; omega
          clear hX hY hx hs1 hs2 hc
          go_wp2_with fail
          go_region_held3 (fun w' => w'.cell? ⟨b, off + j, none⟩ = some (.slice a1 X.length c1) ∧ w'.cell? ⟨b, off + (j + 1), none⟩ = some (.slice a2 Y.length c2))
            (first | go_keep | (exact ⟨Ext.cell h78.ext (Ext.cell h77 (Ext.cell (show Ext wr wr.drew from Upd.drew _ _) hu1)), Ext.cell h78.ext (Ext.cell h77 (Ext.cell (show Ext wr wr.drew from Upd.drew _ _) hu2))⟩) | (exact ⟨Ext.cell h77 (Ext.cell (show Ext wr wr.drew from Upd.drew _ _) hu1), Ext.cell h77 (Ext.cell (show Ext wr wr.drew from Upd.drew _ _) hu2)⟩))
            ((first
              | (go_at_call 12; refine (impl_PopPass_ok _ X _ (HS1.out.ext (Upd.drew _ _)) (by omega) HI.out).mono ?_; rintro e w77 ⟨v77, rfl, o77, h77⟩; rw [HX.out] at o77)
              | (go_at_call 20; refine (sameInts_same _ _ Y _ o77.si ((HS2.out.ext (Upd.drew _ _)).ext h77) hYl).mono ?_; rintro e w78 ⟨rfl, h78⟩)))
          all_goals
            have HE := Lib.hid ((he.drew.trans h77).trans h78.ext)
            clear w1 w1b
            go_wp2_with fail
            go_roundw
            case rel => exact ⟨j + 1, by omega, by rw [Value.int.injEq]; exact ⟨rfl, by push_cast; rfl⟩, HE.out⟩
            case measure => simp [intOf]; omega
        · have hnI : ¬ (j : Int) + 1 < (TL.length : Int) := by omega
          replace o_TR := o_TR.ext he
          replace o_R := o_R.ext he
          replace E := E.trans he
          go_wp2_with fail
          refine (spec_IsPerm_qt _ R _ o_R.si (by omega)).mono ?_
          rintro e u_26 ⟨rfl, h_26⟩
          replace h_26 : Ext wr u_26 := h_26.ext
          replace o_TR := o_TR.ext h_26
          replace o_R := o_R.ext h_26
          replace E := E.trans h_26
          clear h_26
          cases hR : isP8 R
          · go_wp2_with fail
            go_ret
            exact ⟨rfl, E⟩
          obtain ⟨M, hM⟩ : ∃ M, M = tmsI popL R := ⟨_, rfl⟩
          have hta := trl_all pop_ok hR
          have hMb := tmsI_small hR
          rw [← HTL.out, ← hM] at hta
          rw [← hM] at hMb
          have HR := Lib.hid hR
          have HM := Lib.hid hM
          clear hR hM
          go_wp2_with fail
          refine (impl_PopTimes_ok _ R _ o_R.si (by omega) I_R.out).mono ?_
          rintro e u_27 ⟨rfl, h_27⟩
          replace o_TR := o_TR.ext h_27
          replace o_R := o_R.ext h_27
          replace E := E.trans h_27
          clear h_27
          rw [← HM.out]
          have eqb : ((TL.length : Int) == (M + 1)) = true := by rw [beq_iff_eq]; exact hta.1
          obtain ⟨j, hjn⟩ : ∃ j, TL.length = j + 1 := ⟨TL.length - 1, by have := hta.1; omega⟩
          have hlast := hta.2.2
          rw [hjn, Nat.add_sub_cancel] at hlast
          have hri := o_TR.sii.elim2
          obtain ⟨b, off, rfl, hc⟩ := hri j (by omega)
          obtain ⟨u1, hu1, hs1⟩ := hc j (by omega)
          rw [hlast] at hs1
          obtain ⟨Z, hZ⟩ : ∃ Z, Z = idL R.length := ⟨_, rfl⟩
          have hZl : Z.length = R.length := by rw [hZ, idL_len]
          have hZi : Hid (Z = idL Z.length) := by show _ = _; rw [hZl]; exact hZ
          have hZ8 : Z.length ≤ 1000000 := by omega
          rw [← hZ] at hs1
          obtain ⟨a1, c1, rfl, -⟩ := hs1.elim
          have HS1 := Lib.hid hs1
          have w1 : IntKind.i64.wrap ((TL.length : Int) - 1) = (j : Int) := by rw [IntWalk.i64_in _ (by have := BR.out.1; omega)]; omega
          have w5 : (j : Int) < (TL.length : Int) := by omega
          have wb : (TL.length : Int) ≤ 1000000000 := by have := BR.out.1; omega
          clear hta hlast hri hc hs1 hZ hZl hjn
          go_wp2_with fail
          refine (straight_id _ Z _ HS1.out hZ8 hZi.out).mono ?_
          rintro e w99 ⟨rfl, h99⟩
          clear w1
          go_wp2_with fail
          go_ret
          exact ⟨rfl, E.trans h99.ext⟩
end Go.Proofs.Ytognbiodplodhaa
