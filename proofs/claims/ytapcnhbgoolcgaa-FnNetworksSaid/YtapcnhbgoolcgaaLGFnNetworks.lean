/- The walk of the law FnNetworks: it returns true and leaves what was there. Conditions: none. -/
import Derived.Test.YtapcnhbgoolcgaaGateN
import Derived.Test.YtapcnhbgoolcgaaGreat
import Derived.Test.YtapcnhbgoolcgaaHarnL
import Derived.Deep.Cut
import Derived.Deep.CutRange
namespace Go.Proofs.Ytapcnhbgoolcgaa
open Go.RowKit

set_option maxHeartbeats 16000000 in
set_option maxRecDepth 30000 in
theorem law_FnNetworks (a : Option Addr) (n cap : Nat) (w : World) (hb : BY w.heap.size w a n) (hn : n ≤ 9223372036854775807) :
    Calls Try.prog 3 #[.slice a n cap] w fun e w' => e = .returned (.bool true) ∧ Ext w w' := by
  go_enter Try.func3, Try.ntmps3
  go_wp2_with fail
  refine (big_ok a n cap _ hn).mono ?_
  rintro e w0 ⟨rfl, hw0⟩
  have E : Ext w w0 := hw0.ext
  have HB := Lib.hid hb
  clear hb hw0
  by_cases hbig : 1048576 < n
  · rw [decide_eq_true hbig]
    go_wp2_with fail
    go_ret
    exact ⟨rfl, E⟩
  rw [decide_eq_false hbig]
  have hn9 : n ≤ 1048576 := by omega
  clear hn
  have hE0 := E.size
  go_wp2_with fail
  refine (DrawSortsAll_ok a n cap _ hn9 ((HB.out.ext E).mono E.size)).mono ?_
  rintro e u_1 ⟨m, v_G, G, rfl, m1, m6, o_G, l_G, s_G, h_1⟩
  replace E := E.trans h_1
  clear h_1
  replace o_G := o_G.mono hE0
  obtain ⟨p_G, c_G, rfl⟩ := o_G.sii.shape
  have im : I64 (m : Int) := by unfold I64; omega
  have IM := Lib.hid im
  have SG := Lib.hid s_G
  clear im s_G
  go_wp2_with fail
  refine (impl_SortsAll_ok (m : Int) _ G _ IM.out o_G.sii (by omega)).mono ?_
  rintro e u_2 ⟨rfl, h_2⟩
  replace o_G := o_G.ext h_2
  replace E := E.trans h_2
  clear h_2
  obtain ⟨al, hal⟩ : ∃ al, al = saB (m : Int) G := ⟨_, rfl⟩
  rw [← hal]
  have hal2 : al = sbB (m : Int) G := by rw [hal, zero_one (by omega)]
  have HAL := Lib.hid hal
  have HBT := Lib.hid hal2
  clear hal hal2
  have bal : (al != al) = false := by simp
  have bal2 : (al == al) = true := by simp
  go_wp2_with fail
  refine (impl_SortsBits_ok (m : Int) _ G _ IM.out o_G.sii (by omega)).mono ?_
  rintro e u_3 ⟨rfl, h_3⟩
  replace o_G := o_G.ext h_3
  replace E := E.trans h_3
  clear h_3
  rw [← HBT.out]
  go_wp2_with fail
  refine (DrawRunNetwork_ok a n cap _ hn9 ((HB.out.ext E).mono E.size)).mono ?_
  rintro e u_4 ⟨v_R, v_L, R, L, rfl, o_R, l_R, s_R, o_L, l_L, b_L, h_4⟩
  replace o_G := o_G.ext h_4
  replace E := E.trans h_4
  clear h_4
  obtain ⟨p_R, c_R, rfl⟩ := o_R.sii.shape
  obtain ⟨p_L, c_L, rfl⟩ := o_L.shape
  have i_L : I64s L := fun x hx => by have := b_L x hx; unfold I64; omega
  have IL := Lib.hid i_L
  have BL := Lib.hid b_L
  have SR := Lib.hid s_R
  clear i_L b_L s_R
  go_wp2_with fail
  refine (impl_RunNetwork_ok _ R _ L _ o_R.sii (by omega) o_L (by omega) IL.out).mono ?_
  rintro e u_5 ⟨v_X, rfl, o_X, h_5⟩
  replace o_G := o_G.ext h_5
  replace o_R := o_R.ext h_5
  replace o_L := o_L.ext h_5
  replace E := E.trans h_5
  clear h_5
  obtain ⟨ok, hok⟩ : ∃ ok, ok = rnB R L := ⟨_, rfl⟩
  rw [← hok]
  have HOK := Lib.hid hok
  clear hok
  have bok : (ok != ok) = false := by simp
  go_wp2_with fail
  refine (spec_RunNetwork_ok _ R _ L _ o_R.sii (by omega) o_L (by omega) IL.out).mono ?_
  rintro e u_6 ⟨v_Y, rfl, o_Y, h_6⟩
  replace o_G := o_G.ext h_6
  replace o_R := o_R.ext h_6
  replace o_L := o_L.ext h_6
  replace o_X := o_X.ext h_6
  replace E := E.trans h_6
  clear h_6
  rw [← HOK.out]
  have bX := bound_RunNetwork R L (by omega)
  have BX : (rnL R L).length ≤ 1000000000 := by omega
  clear bX
  go_wp2_with fail
  refine (DrawBrickNetwork_ok a n cap _ hn9 ((HB.out.ext E).mono E.size)).mono ?_
  rintro e u_7 ⟨k, rfl, k1, k9, h_7⟩
  replace o_G := o_G.ext h_7
  replace o_R := o_R.ext h_7
  replace o_L := o_L.ext h_7
  replace o_X := o_X.ext h_7
  replace o_Y := o_Y.ext h_7
  replace E := E.trans h_7
  clear h_7
  have ik : I64 k := by unfold I64; omega
  have IK := Lib.hid ik
  clear ik
  go_wp2_with fail
  refine (impl_BrickNetwork_ok k _ IK.out).mono ?_
  rintro e u_8 ⟨v_B, rfl, o_B, h_8⟩
  replace o_G := o_G.ext h_8
  replace o_R := o_R.ext h_8
  replace o_L := o_L.ext h_8
  replace o_X := o_X.ext h_8
  replace o_Y := o_Y.ext h_8
  replace E := E.trans h_8
  clear h_8
  go_wp2_with fail
  refine (impl_IdleGates_ok (m : Int) _ G _ IM.out o_G.sii (by omega)).mono ?_
  rintro e u_9 ⟨v_I, rfl, o_I, h_9⟩
  replace o_G := o_G.ext h_9
  replace o_R := o_R.ext h_9
  replace o_L := o_L.ext h_9
  replace o_X := o_X.ext h_9
  replace o_Y := o_Y.ext h_9
  replace o_B := o_B.ext h_9
  replace E := E.trans h_9
  clear h_9
  obtain ⟨p_B, c_B, rfl⟩ := o_B.sii.shape
  obtain ⟨p_I, c_I, rfl⟩ := o_I.shape
  have bI := bound_IdleGates (m : Int) G
  have BI : (idleL (m : Int) G).length ≤ 1000000000 := by omega
  clear bI
  have bB := bound_BrickNetwork k
  have BB1 : (brI k).length ≤ 1000000000 := bB.1
  have BB := Lib.hid bB.2.1
  clear bB
  go_wp2_with fail
  refine (spec_SortsAll_ok (m : Int) _ G _ IM.out o_G.sii (by omega)).mono ?_
  rintro e u_10 ⟨rfl, h_10⟩
  replace o_G := o_G.ext h_10
  replace o_R := o_R.ext h_10
  replace o_L := o_L.ext h_10
  replace o_X := o_X.ext h_10
  replace o_Y := o_Y.ext h_10
  replace o_B := o_B.ext h_10
  replace o_I := o_I.ext h_10
  replace E := E.trans h_10
  clear h_10
  rw [← HAL.out]
  go_wp2_with fail
  refine (spec_SortsBits_ok (m : Int) _ G _ IM.out o_G.sii (by omega)).mono ?_
  rintro e u_11 ⟨rfl, h_11⟩
  replace o_G := o_G.ext h_11
  replace o_R := o_R.ext h_11
  replace o_L := o_L.ext h_11
  replace o_X := o_X.ext h_11
  replace o_Y := o_Y.ext h_11
  replace o_B := o_B.ext h_11
  replace o_I := o_I.ext h_11
  replace E := E.trans h_11
  clear h_11
  rw [← HBT.out]
  go_wp2_with fail
  refine (sameInts_same _ _ (rnL R L) _ o_X.si o_Y.si BX).mono ?_
  rintro e u_12 ⟨rfl, h_12⟩
  replace h_12 : Ext u_11 u_12 := h_12.ext
  replace o_G := o_G.ext h_12
  replace o_R := o_R.ext h_12
  replace o_L := o_L.ext h_12
  replace o_X := o_X.ext h_12
  replace o_Y := o_Y.ext h_12
  replace o_B := o_B.ext h_12
  replace o_I := o_I.ext h_12
  replace E := E.trans h_12
  clear h_12
  go_wp2_with fail
  refine (spec_BrickNetwork_ok k _ IK.out).mono ?_
  rintro e u_13 ⟨v_B2, rfl, o_B2, h_13⟩
  replace o_G := o_G.ext h_13
  replace o_R := o_R.ext h_13
  replace o_L := o_L.ext h_13
  replace o_X := o_X.ext h_13
  replace o_Y := o_Y.ext h_13
  replace o_B := o_B.ext h_13
  replace o_I := o_I.ext h_13
  replace E := E.trans h_13
  clear h_13
  go_wp2_with fail
  refine (sameLists_same _ _ (brI k) _ o_B.sii o_B2.sii BB1 BB.out).mono ?_
  rintro e u_14 ⟨rfl, h_14⟩
  replace h_14 : Ext u_13 u_14 := h_14.ext
  replace o_G := o_G.ext h_14
  replace o_R := o_R.ext h_14
  replace o_L := o_L.ext h_14
  replace o_X := o_X.ext h_14
  replace o_Y := o_Y.ext h_14
  replace o_B := o_B.ext h_14
  replace o_I := o_I.ext h_14
  replace o_B2 := o_B2.ext h_14
  replace E := E.trans h_14
  clear h_14
  go_wp2_with fail
  refine (spec_IdleGates_ok (m : Int) _ G _ IM.out o_G.sii (by omega)).mono ?_
  rintro e u_15 ⟨v_I2, rfl, o_I2, h_15⟩
  replace o_G := o_G.ext h_15
  replace o_R := o_R.ext h_15
  replace o_L := o_L.ext h_15
  replace o_X := o_X.ext h_15
  replace o_Y := o_Y.ext h_15
  replace o_B := o_B.ext h_15
  replace o_I := o_I.ext h_15
  replace o_B2 := o_B2.ext h_15
  replace E := E.trans h_15
  clear h_15
  go_wp2_with fail
  refine (sameInts_same _ _ (idleL (m : Int) G) _ o_I.si o_I2.si BI).mono ?_
  rintro e u_16 ⟨rfl, h_16⟩
  replace h_16 : Ext u_15 u_16 := h_16.ext
  replace o_G := o_G.ext h_16
  replace o_R := o_R.ext h_16
  replace o_L := o_L.ext h_16
  replace o_X := o_X.ext h_16
  replace o_Y := o_Y.ext h_16
  replace o_B := o_B.ext h_16
  replace o_I := o_I.ext h_16
  replace o_B2 := o_B2.ext h_16
  replace o_I2 := o_I2.ext h_16
  replace E := E.trans h_16
  clear h_16
  clear o_Y o_B2 o_I2
  go_wp2_with fail
  refine (impl_DepthOf_ok (m : Int) _ G _ IM.out o_G.sii (by omega)).mono ?_
  rintro e u_17 ⟨rfl, h_17⟩
  replace o_G := o_G.ext h_17
  replace o_R := o_R.ext h_17
  replace o_L := o_L.ext h_17
  replace o_X := o_X.ext h_17
  replace o_B := o_B.ext h_17
  replace o_I := o_I.ext h_17
  replace E := E.trans h_17
  clear h_17
  obtain ⟨dp, hdp⟩ : ∃ dp, dp = depI (m : Int) G := ⟨_, rfl⟩
  rw [← hdp]
  have HDP := Lib.hid hdp
  clear hdp
  have bdp : (dp != dp) = false := by simp
  go_wp2_with fail
  refine (spec_DepthOf_ok (m : Int) _ G _ IM.out o_G.sii (by omega)).mono ?_
  rintro e u_18 ⟨rfl, h_18⟩
  replace o_G := o_G.ext h_18
  replace o_R := o_R.ext h_18
  replace o_L := o_L.ext h_18
  replace o_X := o_X.ext h_18
  replace o_B := o_B.ext h_18
  replace o_I := o_I.ext h_18
  replace E := E.trans h_18
  clear h_18
  rw [← HDP.out]
  go_wp2_with fail
  refine (impl_IsNetwork_ok (m : Int) _ G _ IM.out o_G.sii (by omega)).mono ?_
  rintro e u_19 ⟨rfl, h_19⟩
  replace o_G := o_G.ext h_19
  replace o_R := o_R.ext h_19
  replace o_L := o_L.ext h_19
  replace o_X := o_X.ext h_19
  replace o_B := o_B.ext h_19
  replace o_I := o_I.ext h_19
  replace E := E.trans h_19
  clear h_19
  obtain ⟨nt, hnt⟩ : ∃ nt, nt = netB (m : Int) G := ⟨_, rfl⟩
  rw [← hnt]
  have HNT := Lib.hid hnt
  clear hnt
  have bnt : (nt != nt) = false := by simp
  go_wp2_with fail
  refine (spec_IsNetwork_ok (m : Int) _ G _ IM.out o_G.sii (by omega)).mono ?_
  rintro e u_20 ⟨rfl, h_20⟩
  replace o_G := o_G.ext h_20
  replace o_R := o_R.ext h_20
  replace o_L := o_L.ext h_20
  replace o_X := o_X.ext h_20
  replace o_B := o_B.ext h_20
  replace o_I := o_I.ext h_20
  replace E := E.trans h_20
  clear h_20
  rw [← HNT.out]
  have m6I : (m : Int) ≤ 6 := by omega
  go_upto_region 16 with fail
  go_cut [136] from 118 to 136 (fun x wx => x = .bool false ∧ Ext u_20 wx)
  case first =>
    have EC : Ext u_20 u_20 := Ext.refl _
    by_cases hK : 1 ≤ k ∧ k ≤ 8
    ·
      obtain ⟨hK1, hK2⟩ := hK
      have hbk := brick_k hK1 hK2
      obtain ⟨d, hd⟩ : ∃ d, d = depI k (brI k) := ⟨_, rfl⟩
      rw [← hd] at hbk
      have HD := Lib.hid hd
      clear hd
      have HSB := Lib.hid hbk.1
      have hdk : ¬ k < d := by have := hbk.2; omega
      clear hbk
      go_wp2_with fail
      refine (impl_SortsBits_ok k _ (brI k) _ IK.out o_B.sii BB1).mono ?_
      rintro e u_21 ⟨rfl, h_21⟩
      replace o_G := o_G.ext h_21
      replace o_R := o_R.ext h_21
      replace o_L := o_L.ext h_21
      replace o_X := o_X.ext h_21
      replace o_B := o_B.ext h_21
      replace o_I := o_I.ext h_21
      replace EC := EC.trans h_21
      clear h_21
      rw [HSB.out]
      go_wp2_with fail
      refine (impl_DepthOf_ok k _ (brI k) _ IK.out o_B.sii BB1).mono ?_
      rintro e u_22 ⟨rfl, h_22⟩
      replace o_G := o_G.ext h_22
      replace o_R := o_R.ext h_22
      replace o_L := o_L.ext h_22
      replace o_X := o_X.ext h_22
      replace o_B := o_B.ext h_22
      replace o_I := o_I.ext h_22
      replace EC := EC.trans h_22
      clear h_22
      rw [← HD.out]
      go_wp2_with fail
      go_meet
      case rel => exact ⟨by simp only [Value.bool.injEq, decide_eq_false_iff_not]; omega, EC⟩
    · by_cases h1 : 1 ≤ k
      · have h2 : ¬ k ≤ 8 := fun e => hK ⟨h1, e⟩
        clear hK
        go_wp2_with fail
        go_meet
        case rel => exact ⟨rfl, EC⟩
      · clear hK
        go_wp2_with fail
        go_meet
        case rel => exact ⟨rfl, EC⟩
  case rest =>
    obtain ⟨rfl, h_c⟩ := hcut
    replace o_G := o_G.ext h_c
    replace o_R := o_R.ext h_c
    replace o_L := o_L.ext h_c
    replace o_X := o_X.ext h_c
    replace o_B := o_B.ext h_c
    replace o_I := o_I.ext h_c
    replace E := E.trans h_c
    clear h_c
    obtain ⟨u_23, hwc⟩ : ∃ u, u = wc := ⟨_, rfl⟩
    subst hwc
    clear o_B
    go_upto_region 18 with fail
    go_cut [144] from 137 to 144 (fun x wx => x = .bool false ∧ Ext u_23 wx)
    case first =>
      have EC : Ext u_23 u_23 := Ext.refl _
      cases ok
      ·
        go_wp2_with fail
        go_meet
        case rel => exact ⟨rfl, EC⟩
      ·
        have hrs := rn_sum HOK.out.symm BL.out
        obtain ⟨t, ht⟩ : ∃ t, t = totL L := ⟨_, rfl⟩
        rw [← ht] at hrs
        have HT := Lib.hid ht
        have HT2 := Lib.hid hrs.1
        have hl6 : (rnL R L).length ≤ 1000000 := by rw [hrs.2.1]; omega
        have HB2 := Lib.hid hrs.2.2
        clear hrs ht
        have btt : (t != t) = false := by simp
        go_wp2_with fail
        refine (total_ok _ (rnL R L) _ o_X.si hl6 (fun x hx => by have := HB2.out x hx; omega)).mono ?_
        rintro e u_24 ⟨rfl, h_24⟩
        replace h_24 : Ext u_23 u_24 := h_24.ext
        replace o_G := o_G.ext h_24
        replace o_R := o_R.ext h_24
        replace o_L := o_L.ext h_24
        replace o_X := o_X.ext h_24
        replace o_I := o_I.ext h_24
        replace EC := EC.trans h_24
        clear h_24
        rw [HT2.out]
        go_wp2_with fail
        refine (total_ok _ L _ o_L (by omega) (fun x hx => by have := BL.out x hx; omega)).mono ?_
        rintro e u_25 ⟨rfl, h_25⟩
        replace h_25 : Ext u_24 u_25 := h_25.ext
        replace o_G := o_G.ext h_25
        replace o_R := o_R.ext h_25
        replace o_L := o_L.ext h_25
        replace o_X := o_X.ext h_25
        replace o_I := o_I.ext h_25
        replace EC := EC.trans h_25
        clear h_25
        rw [← HT.out]
        go_wp2_with fail
        go_meet
        case rel => exact ⟨rfl, EC⟩
    case rest =>
      obtain ⟨rfl, h_c⟩ := hcut
      replace o_G := o_G.ext h_c
      replace o_R := o_R.ext h_c
      replace o_L := o_L.ext h_c
      replace o_X := o_X.ext h_c
      replace o_I := o_I.ext h_c
      replace E := E.trans h_c
      clear h_c
      obtain ⟨u_26, hwc⟩ : ∃ u, u = wc := ⟨_, rfl⟩
      subst hwc
      clear o_X o_L o_R
      go_wp2_with fail
      refine (impl_IsNetwork_ok (m : Int) _ G _ IM.out o_G.sii (by omega)).mono ?_
      rintro e u_27 ⟨rfl, h_27⟩
      replace o_G := o_G.ext h_27
      replace o_I := o_I.ext h_27
      replace E := E.trans h_27
      clear h_27
      rw [← HNT.out]
      cases nt
      · have ha : al = false := by rw [HAL.out]; unfold saB; rw [← HNT.out]; rfl
        have hi : (idleL (m : Int) G).length = 0 := by unfold idleL; rw [← HNT.out]; rfl
        have HI : Hid ((((idleL (m : Int) G).length : Int) == 0) = true) := by show _ = _; rw [hi]; rfl
        subst ha
        clear hi
        go_wp2_with fail
        go_ret
        exact ⟨by rw [HI.out]; rfl, E⟩
      have hless := less_sbB HNT.out.symm
      have hld := less_depI HNT.out.symm
      have hli := less_idle HNT.out.symm
      have hlk := fun i (hi : i < G.length) => less_keep HNT.out.symm hi
      simp only [Int.toNat_natCast] at hless hld hli hlk
      rw [← HBT.out] at hless
      rw [← HDP.out] at hld
      have HL1 := Lib.hid hless
      have HL2 := Lib.hid hld
      have HL3 := Lib.hid hli
      have HLK := Lib.hid hlk
      clear hless hld hli hlk
      obtain ⟨uw, huw⟩ : ∃ uw, uw = u_27 := ⟨_, rfl⟩
      subst huw
      have hEs := E.size
      have HR0 := Lib.hid (GR.new w.heap.size uw hEs)
      go_wp2_with fail
      go_loopw [16, 17] (fun s i wr => ∃ j : Nat, j ≤ G.length ∧ i = .int .i64 j ∧ (∃ b c, s = .slice (some ⟨b, 0, none⟩) (lessTo G m j).length c ∧ uw.heap.size ≤ b ∧ Hid (GR w.heap.size wr b c (lessTo G m j))) ∧ Ext uw wr) (fun _ i _ => G.length - (intOf i).toNat)
      case atStart => exact ⟨0, Nat.zero_le _, rfl, ⟨_, 0, rfl, Nat.le_refl _, HR0⟩, Upd.alloc _ _ _⟩
      case round =>
        obtain ⟨j, hj, rfl, ⟨b, c, rfl, hbl, hr⟩, he⟩ := hrel
        by_cases hlt : j < G.length
        · have hltI : (j : Int) < (G.length : Int) := by omega
          have hsl := lessTo_len G m j
          obtain ⟨bG, rfl, p2, c2, hc, hv⟩ := o_G.get hlt
          have HK2 := Lib.hid (HLK.out j hlt)
          have HV := Lib.hid hv
          clear HR0 hlt hv
          go_wp2_with fail
          refine (hasInt_ok _ (idleL (m : Int) G) (j : Int) _ (o_I.si.ext he) BI).mono ?_
          rintro e w7 ⟨rfl, h7⟩
          have hE7 := he.trans h7.ext
          have hc7 := hE7.cell hc
          have hr7 := Lib.hid (hr.out.ext h7.ext)
          have hz7 := hE7.size
          rw [HK2.out]
          cases hz : busyB G m (2 ^ m) j
          · have HN := Lib.hid (lessTo_f hz)
            have HE7 := Lib.hid hE7
            clear hz hE7 hr hc7 HV
            go_wp2_with fail
            go_roundw
            case rel => exact ⟨j + 1, by omega, by go_num, ⟨b, c, by rw [HN.out], hbl, by rw [HN.out]; exact hr7⟩, HE7.out⟩
            case measure => simp [intOf]; omega
          · have HN := Lib.hid (lessTo_t hz)
            have HE7 := Lib.hid hE7
            have HV7 := Lib.hid ((HV.out.ext hE7).mono (Nat.le_refl _) hz7)
            have hvb : Hid ((Value.slice p2 (nthL G j).length c2).ownBlock ≠ some b) := fun e => by have := (HV.out.own e).2; omega
            have hB7 : w.heap.size ≤ w7.heap.size := by omega
            clear hz hE7 hr HV
            go_wp2_with (at_builtin; go_loud (refine wpl_app1GN rfl _ _ rfl w.heap.size b c (lessTo G m j).length (lessTo G m j) _ (nthL G j) rfl rfl hr7.out _ rfl rfl HV7.out hvb.out hB7 (by omega) ?_); intro b8 c8 w8 hr8 hb8 hu8)
            have hE8 : Hid (Ext uw w8) := HE7.out.upd1 hu8 hbl
            have HR8 := Lib.hid hr8
            have hb8' : uw.heap.size ≤ b8 := by rcases hb8 with e | e <;> omega
            clear hr8 hu8 hb8
            go_roundw
            case rel => exact ⟨j + 1, by omega, by go_num, ⟨b8, c8, by rw [HN.out, List.length_append]; rfl, hb8', by rw [HN.out]; exact HR8⟩, hE8.out⟩
            case measure => simp [intOf]; omega
        · obtain rfl : j = G.length := by omega
          replace E := E.trans he
          replace o_G := o_G.ext he
          have hsl := lessTo_len G m G.length
          obtain ⟨Ls, hLs⟩ : ∃ Ls, Ls = lessL G m := ⟨_, rfl⟩
          have hLs2 : lessTo G m G.length = Ls := by rw [hLs]; rfl
          rw [hLs2] at hr hsl
          rw [← hLs] at HL1 HL2 HL3
          have o_S := hr.out.sii rfl
          have HS2 := Lib.hid hLs2
          clear hLs hLs2 hr he o_I HLK HR0 hlt
          rw [HS2.out]
          go_wp2_with fail
          refine (impl_SortsBits_ok (m : Int) _ Ls _ IM.out o_S (by omega)).mono ?_
          rintro e u_28 ⟨rfl, h_28⟩
          replace o_G := o_G.ext h_28
          replace o_S := o_S.ext h_28
          replace E := E.trans h_28
          clear h_28
          rw [HL1.out]
          obtain ⟨dl, hdl⟩ : ∃ dl, dl = depI (m : Int) Ls := ⟨_, rfl⟩
          have hdd : dl ≤ dp := by rw [hdl]; exact HL2.out
          have HDL := Lib.hid hdl
          clear hdl
          go_wp2_with fail
          refine (impl_DepthOf_ok (m : Int) _ Ls _ IM.out o_S (by omega)).mono ?_
          rintro e u_29 ⟨rfl, h_29⟩
          replace o_G := o_G.ext h_29
          replace o_S := o_S.ext h_29
          replace E := E.trans h_29
          clear h_29
          rw [← HDL.out]
          go_wp2_with fail
          refine (impl_DepthOf_ok (m : Int) _ G _ IM.out o_G.sii (by omega)).mono ?_
          rintro e u_30 ⟨rfl, h_30⟩
          replace o_G := o_G.ext h_30
          replace o_S := o_S.ext h_30
          replace E := E.trans h_30
          clear h_30
          rw [← HDP.out]
          go_wp2_with fail
          refine (impl_IdleGates_ok (m : Int) _ Ls _ IM.out o_S (by omega)).mono ?_
          rintro e u_31 ⟨v_J, rfl, o_J, h_31⟩
          replace o_G := o_G.ext h_31
          replace o_S := o_S.ext h_31
          replace E := E.trans h_31
          clear h_31
          obtain ⟨p_J, c_J, rfl⟩ := o_J.shape
          rw [HL3.out]
          go_wp2_with fail
          go_ret
          exact ⟨rfl, E⟩
end Go.Proofs.Ytapcnhbgoolcgaa
