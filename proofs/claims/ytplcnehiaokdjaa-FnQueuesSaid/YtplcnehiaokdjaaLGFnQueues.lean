/- The walk of the law FnQueues: it returns true and leaves what was there. Conditions: none. -/
import Derived.Test.YtplcnehiaokdjaaQuW2
import Derived.Test.YtplcnehiaokdjaaSrtPl
import Derived.Test.YtplcnehiaokdjaaCntQ
import Derived.Test.YtplcnehiaokdjaaFew
import Derived.Test.YtplcnehiaokdjaaGreat
import Derived.Test.YtplcnehiaokdjaaHarnL
import Derived.Deep.Cut
import Derived.Deep.CutRange
namespace Go.Proofs.Ytplcnehiaokdjaa
open Go.RowKit

theorem rpL_small {p plan : List Int} (h : p.length ≤ 9) : (rpL p plan).length ≤ 1000000000 := by have := rpL_len p plan; omega
theorem qpL_I {L : List Int} (h : L.length ≤ 9) : (qpL L).length ≤ 9 ∧ Hid (I64s (qpL L)) := by
  have := qpL_small h
  exact ⟨this.1, fun x hx => by have := this.2 x hx; unfold I64; omega⟩
def fineTo (p plan : List Int) (i : Nat) : Bool := (List.range i).all fun i => (List.range i).all fun j => decide (nth plan i ≠ nth plan j ∨ nth p j < nth p i)
def fineRow (p plan : List Int) (i j : Nat) : Bool := (List.range j).all fun j => decide (nth plan i ≠ nth plan j ∨ nth p j < nth p i)
theorem fineTo_succ (p plan : List Int) (i : Nat) : fineTo p plan (i + 1) = (fineTo p plan i && fineRow p plan i i) := by simp [fineTo, fineRow, List.range_succ]
theorem fineRow_succ (p plan : List Int) (i j : Nat) : fineRow p plan i (j + 1) = (fineRow p plan i j && decide (nth plan i ≠ nth plan j ∨ nth p j < nth p i)) := by simp [fineRow, List.range_succ]
theorem cq_ld' (p : List Int) : ldI p = cqI p := cq_ld.symm
set_option maxHeartbeats 16000000 in
set_option maxRecDepth 30000 in
theorem law_FnQueues (a : Option Addr) (n cap : Nat) (w : World) (hb : BY w.heap.size w a n) (hn : n ≤ 9223372036854775807) :
    Calls Try.prog 3 #[.slice a n cap] w fun e w' => e = .returned (.bool true) ∧ Ext w w' := by
  go_enter Try.func3, Try.ntmps3
  go_wp2_with fail
  refine (big_ok a n cap _ hn).mono ?_
  rintro e w0 ⟨rfl, hw0⟩
  have E : Ext w w0 := hw0.ext
  have HB := Lib.hid hb
  clear hb hw0
  by_cases hbig : 1048576 < n
  · rw [decide_eq_true hbig]
    go_wp2_with fail
    go_ret
    exact ⟨rfl, E⟩
  rw [decide_eq_false hbig]
  have hn9 : n ≤ 1048576 := by omega
  clear hn
  go_wp2_with fail
  refine (DrawQueuePlan_ok a n cap _ hn9 ((HB.out.ext E).mono E.size)).mono ?_
  rintro e u_1 ⟨v_P, P, rfl, o_P, l_P, b_P, h_1⟩
  replace E := E.trans h_1
  clear h_1
  have i_P : I64s P := fun x hx => by have := b_P x hx; unfold I64; omega
  have I_P := Lib.hid i_P
  have B_P := Lib.hid b_P
  clear i_P b_P
  go_wp2_with fail
  refine (impl_QueuePlan_ok _ P _ o_P.si (by omega) I_P.out).mono ?_
  rintro e u_2 ⟨v_PL, rfl, o_PL, h_2⟩
  replace o_P := o_P.ext h_2
  replace E := E.trans h_2
  clear h_2
  go_wp2_with fail
  refine (DrawRunPlan_ok a n cap _ hn9 ((HB.out.ext E).mono E.size)).mono ?_
  rintro e u_3 ⟨v_A, A, v_B, B, rfl, o_A, l_A, b_A, o_B, l_B, b_B, h_3⟩
  replace o_P := o_P.ext h_3
  replace o_PL := o_PL.ext h_3
  replace E := E.trans h_3
  clear h_3
  have i_A : I64s A := fun x hx => by have := b_A x hx; unfold I64; omega
  have I_A := Lib.hid i_A
  clear i_A b_A
  have i_B : I64s B := fun x hx => by have := b_B x hx; unfold I64; omega
  have I_B := Lib.hid i_B
  clear i_B b_B
  obtain ⟨p_A, c_A, rfl⟩ := o_A.shape
  obtain ⟨p_B, c_B, rfl⟩ := o_B.shape
  go_wp2_with fail
  refine (impl_RunPlan_ok _ A _ B _ o_A.si (by omega) I_A.out o_B.si (by omega) I_B.out).mono ?_
  rintro e u_4 ⟨v_X, rfl, o_X, h_4⟩
  replace o_P := o_P.ext h_4
  replace o_PL := o_PL.ext h_4
  replace o_A := o_A.ext h_4
  replace o_B := o_B.ext h_4
  replace E := E.trans h_4
  clear h_4
  obtain ⟨ok, hok⟩ : ∃ ok, ok = rpB A B := ⟨_, rfl⟩
  rw [← hok]
  have HOK := Lib.hid hok
  clear hok
  go_wp2_with fail
  refine (spec_RunPlan_ok _ A _ B _ o_A.si (by omega) I_A.out o_B.si (by omega) I_B.out).mono ?_
  rintro e u_5 ⟨v_Y, rfl, o_Y, h_5⟩
  replace o_P := o_P.ext h_5
  replace o_PL := o_PL.ext h_5
  replace o_A := o_A.ext h_5
  replace o_B := o_B.ext h_5
  replace o_X := o_X.ext h_5
  replace E := E.trans h_5
  clear h_5
  rw [← HOK.out]
  go_wp2_with fail
  refine (DrawFewestQueues_ok a n cap _ hn9 ((HB.out.ext E).mono E.size)).mono ?_
  rintro e u_6 ⟨n1, k1, rfl, b_N, h_6⟩
  replace o_P := o_P.ext h_6
  replace o_PL := o_PL.ext h_6
  replace o_A := o_A.ext h_6
  replace o_B := o_B.ext h_6
  replace o_X := o_X.ext h_6
  replace o_Y := o_Y.ext h_6
  replace E := E.trans h_6
  clear h_6
  have IN : I64 n1 := by unfold I64; omega
  have IK : I64 k1 := by unfold I64; omega
  have HIN := Lib.hid IN
  have HIK := Lib.hid IK
  clear IN IK
  go_wp2_with fail
  refine (spec_QueuePlan_ok _ P _ o_P.si (by omega) I_P.out).mono ?_
  rintro e u_7 ⟨v_PL2, rfl, o_PL2, h_7⟩
  replace o_P := o_P.ext h_7
  replace o_PL := o_PL.ext h_7
  replace o_A := o_A.ext h_7
  replace o_B := o_B.ext h_7
  replace o_X := o_X.ext h_7
  replace o_Y := o_Y.ext h_7
  replace E := E.trans h_7
  clear h_7
  have QS := qpL_I l_P
  have bqp : (qpL P).length ≤ 1000000000 := by omega
  have bok : (ok != ok) = false := by simp
  go_wp2_with fail
  refine (sameInts_same _ _ (qpL P) _ o_PL.si o_PL2.si bqp).mono ?_
  rintro e u_8 ⟨rfl, h_8⟩
  replace h_8 : Ext u_7 u_8 := h_8.ext
  replace o_P := o_P.ext h_8
  replace o_PL := o_PL.ext h_8
  replace o_A := o_A.ext h_8
  replace o_B := o_B.ext h_8
  replace o_X := o_X.ext h_8
  replace o_Y := o_Y.ext h_8
  replace o_PL2 := o_PL2.ext h_8
  replace E := E.trans h_8
  clear h_8
  go_wp2_with fail
  refine (sameInts_same _ _ (rpL A B) _ o_X.si o_Y.si (rpL_small l_A)).mono ?_
  rintro e u_9 ⟨rfl, h_9⟩
  replace h_9 : Ext u_8 u_9 := h_9.ext
  replace o_P := o_P.ext h_9
  replace o_PL := o_PL.ext h_9
  replace o_A := o_A.ext h_9
  replace o_B := o_B.ext h_9
  replace o_X := o_X.ext h_9
  replace o_Y := o_Y.ext h_9
  replace o_PL2 := o_PL2.ext h_9
  replace E := E.trans h_9
  clear h_9
  clear o_X o_Y o_PL2
  go_wp2_with fail
  refine (impl_SortsByPlan_ok _ A _ B _ o_A.si (by omega) I_A.out o_B.si (by omega) I_B.out).mono ?_
  rintro e u_10 ⟨rfl, h_10⟩
  replace o_P := o_P.ext h_10
  replace o_PL := o_PL.ext h_10
  replace o_A := o_A.ext h_10
  replace o_B := o_B.ext h_10
  replace E := E.trans h_10
  clear h_10
  obtain ⟨sp, hsp⟩ : ∃ sp, sp = spB A B := ⟨_, rfl⟩
  rw [← hsp]
  have HSP := Lib.hid hsp
  clear hsp
  have bsp : (sp != sp) = false := by simp
  go_wp2_with fail
  refine (spec_SortsByPlan_ok _ A _ B _ o_A.si (by omega) I_A.out o_B.si (by omega) I_B.out).mono ?_
  rintro e u_11 ⟨rfl, h_11⟩
  replace o_P := o_P.ext h_11
  replace o_PL := o_PL.ext h_11
  replace o_A := o_A.ext h_11
  replace o_B := o_B.ext h_11
  replace E := E.trans h_11
  clear h_11
  rw [← HSP.out]
  go_wp2_with fail
  refine (impl_FewestQueues_ok n1 k1 _ HIN.out HIK.out).mono ?_
  rintro e u_12 ⟨rfl, h_12⟩
  replace o_P := o_P.ext h_12
  replace o_PL := o_PL.ext h_12
  replace o_A := o_A.ext h_12
  replace o_B := o_B.ext h_12
  replace E := E.trans h_12
  clear h_12
  obtain ⟨fq, hfq⟩ : ∃ fq, fq = fqI n1 k1 := ⟨_, rfl⟩
  rw [← hfq]
  have HFQ := Lib.hid hfq
  clear hfq
  have bfq : (fq != fq) = false := by simp
  go_wp2_with fail
  refine (spec_FewestQueues_ok n1 k1 _ HIN.out HIK.out).mono ?_
  rintro e u_13 ⟨rfl, h_13⟩
  replace o_P := o_P.ext h_13
  replace o_PL := o_PL.ext h_13
  replace o_A := o_A.ext h_13
  replace o_B := o_B.ext h_13
  replace E := E.trans h_13
  clear h_13
  rw [← HFQ.out]
  go_wp2_with fail
  refine (impl_CountQueues_ok _ P _ o_P.si (by omega) I_P.out).mono ?_
  rintro e u_14 ⟨rfl, h_14⟩
  replace o_P := o_P.ext h_14
  replace o_PL := o_PL.ext h_14
  replace o_A := o_A.ext h_14
  replace o_B := o_B.ext h_14
  replace E := E.trans h_14
  clear h_14
  obtain ⟨cq, hcq⟩ : ∃ cq, cq = cqI P := ⟨_, rfl⟩
  rw [← hcq]
  have HCQ := Lib.hid hcq
  clear hcq
  have bcq : (cq != cq) = false := by simp
  go_wp2_with fail
  refine (spec_CountQueues_ok _ P _ o_P.si (by omega) I_P.out).mono ?_
  rintro e u_15 ⟨rfl, h_15⟩
  replace o_P := o_P.ext h_15
  replace o_PL := o_PL.ext h_15
  replace o_A := o_A.ext h_15
  replace o_B := o_B.ext h_15
  replace E := E.trans h_15
  clear h_15
  rw [← HCQ.out]
  go_upto_region 11 with fail
  go_cut [99] from 85 to 99 (fun x wx => x = .bool false ∧ Ext u_15 wx)
  case first =>
    have EC : Ext u_15 u_15 := Ext.refl _
    go_wp2_with fail
    refine (spec_IsPerm_qt _ P _ o_P.si (by omega)).mono ?_
    rintro e u_16 ⟨rfl, h_16⟩
    replace h_16 : Ext u_15 u_16 := h_16.ext
    replace o_P := o_P.ext h_16
    replace o_PL := o_PL.ext h_16
    replace o_A := o_A.ext h_16
    replace o_B := o_B.ext h_16
    replace EC := EC.trans h_16
    clear h_16
    cases hP : isP8 P
    · clear hP
      go_wp2_with fail
      go_meet
      case rel => exact ⟨rfl, EC⟩
    ·
      have hs := plan_sorts hP
      have he : planL P = qpL P := by unfold qpL; rw [hP]; rfl
      rw [he] at hs
      have HS := Lib.hid hs
      clear hP hs he
      go_wp2_with fail
      refine (impl_SortsByPlan_ok _ P _ (qpL P) _ o_P.si (by omega) I_P.out o_PL.si (by omega) QS.2.out).mono ?_
      rintro e u_17 ⟨rfl, h_17⟩
      replace o_P := o_P.ext h_17
      replace o_PL := o_PL.ext h_17
      replace o_A := o_A.ext h_17
      replace o_B := o_B.ext h_17
      replace EC := EC.trans h_17
      clear h_17
      rw [HS.out]
      go_wp2_with fail
      refine (impl_CountQueues_ok _ P _ o_P.si (by omega) I_P.out).mono ?_
      rintro e u_18 ⟨rfl, h_18⟩
      replace o_P := o_P.ext h_18
      replace o_PL := o_PL.ext h_18
      replace o_A := o_A.ext h_18
      replace o_B := o_B.ext h_18
      replace EC := EC.trans h_18
      clear h_18
      rw [← HCQ.out]
      go_wp2_with fail
      refine (LongestDown_ok _ P _ o_P.si (by omega)).mono ?_
      rintro e u_19 ⟨rfl, h_19⟩
      replace o_P := o_P.ext h_19
      replace o_PL := o_PL.ext h_19
      replace o_A := o_A.ext h_19
      replace o_B := o_B.ext h_19
      replace EC := EC.trans h_19
      clear h_19
      rw [cq_ld', ← HCQ.out]
      go_wp2_with fail
      go_meet
      case rel => exact ⟨rfl, EC⟩
  case rest =>
    obtain ⟨rfl, h_c⟩ := hcut
    replace o_P := o_P.ext h_c
    replace o_PL := o_PL.ext h_c
    replace o_A := o_A.ext h_c
    replace o_B := o_B.ext h_c
    replace E := E.trans h_c
    clear h_c
    obtain ⟨u_20, hwc⟩ : ∃ u, u = wc := ⟨_, rfl⟩
    subst hwc
    go_upto_region 13 with fail
    go_cut [117] from 100 to 117 (fun x wx => x = .bool false ∧ Ext u_20 wx)
    case first =>
      have EC : Ext u_20 u_20 := Ext.refl _
      by_cases hN : 0 ≤ n1 ∧ n1 ≤ 5 ∧ k1 = 2
      ·
        obtain ⟨hN1, hN2, hN3⟩ := hN
        obtain ⟨nn, rfl⟩ : ∃ nn : Nat, n1 = (nn : Int) := ⟨n1.toNat, by omega⟩
        subst hN3
        have hnn : nn ≤ 5 := by omega
        have HCT := Lib.hid (cat_few nn hnn)
        go_wp2_with fail
        refine (impl_FewestQueues_ok _ _ _ HIN.out HIK.out).mono ?_
        rintro e u_21 ⟨rfl, h_21⟩
        replace o_P := o_P.ext h_21
        replace o_PL := o_PL.ext h_21
        replace o_A := o_A.ext h_21
        replace o_B := o_B.ext h_21
        replace EC := EC.trans h_21
        clear h_21
        go_wp2_with fail
        refine (Catalan_ok nn hnn _).mono ?_
        rintro e u_22 ⟨rfl, h_22⟩
        replace h_22 : Ext u_21 u_22 := h_22.ext
        replace o_P := o_P.ext h_22
        replace o_PL := o_PL.ext h_22
        replace o_A := o_A.ext h_22
        replace o_B := o_B.ext h_22
        replace EC := EC.trans h_22
        clear h_22
        rw [HCT.out]
        have bct : (catI nn != catI nn) = false := by simp
        go_wp2_with fail
        go_meet
        case rel => exact ⟨rfl, EC⟩
      · by_cases h1 : 0 ≤ n1
        · by_cases h2 : n1 ≤ 5
          · have h3 : (k1 == 2) = false := by simp; omega
            go_wp2_with fail
            go_meet
            case rel => exact ⟨rfl, EC⟩
          ·
            go_wp2_with fail
            go_meet
            case rel => exact ⟨rfl, EC⟩
        ·
          go_wp2_with fail
          go_meet
          case rel => exact ⟨rfl, EC⟩
    case rest =>
      obtain ⟨rfl, h_c⟩ := hcut
      replace o_P := o_P.ext h_c
      replace o_PL := o_PL.ext h_c
      replace o_A := o_A.ext h_c
      replace o_B := o_B.ext h_c
      replace E := E.trans h_c
      clear h_c
      obtain ⟨u_23, hwc⟩ : ∃ u, u = wc := ⟨_, rfl⟩
      subst hwc
      cases ok
      · have HF : Hid (spB A B = false) := by show _ = _; unfold spB; rw [← HOK.out]; rfl
        go_wp2_with fail
        refine (impl_SortsByPlan_ok _ A _ B _ o_A.si (by omega) I_A.out o_B.si (by omega) I_B.out).mono ?_
        rintro e u_24 ⟨rfl, h_24⟩
        replace o_P := o_P.ext h_24
        replace o_PL := o_PL.ext h_24
        replace o_A := o_A.ext h_24
        replace o_B := o_B.ext h_24
        replace E := E.trans h_24
        clear h_24
        rw [HF.out]
        go_wp2_with fail
        go_ret
        exact ⟨rfl, E⟩
      · have hrb := rpB_true HOK.out.symm
        have hbl := hrb.2.1
        have HF : Hid (spB A B = fineTo A B A.length) := by show _ = _; rw [sp_fine HOK.out.symm]; rfl
        have HBL := Lib.hid hbl
        clear hrb hbl
        have hriA := o_A.si.elim
        have hriB := o_B.si.elim
        obtain ⟨aA, cA, hA, hriA⟩ := hriA
        obtain ⟨aB, cB, hB, hriB⟩ := hriB
        injection hA with eA1 _ eA2
        injection hB with eB1 _ eB2
        subst eA1 eA2 eB1 eB2
        have HRA := Lib.hid hriA
        have HRB := Lib.hid hriB
        clear hriA hriB
        go_wp2_with fail
        obtain ⟨uw, huw⟩ : ∃ uw, uw = u_23 := ⟨_, rfl⟩
        subst huw
        go_loopw [13, 14] (fun f i wr => ∃ k : Nat, k ≤ A.length ∧ i = .int .i64 k ∧ (∃ q : Bool, f = .bool q ∧ Hid (q = fineTo A B k)) ∧ Qt uw wr) (fun _ i _ => A.length - (intOf i).toNat)
        case atStart => exact ⟨0, Nat.zero_le _, rfl, ⟨true, rfl, Lib.hid rfl⟩, Qt.refl _⟩
        case round =>
          obtain ⟨k, hk, rfl, ⟨q, rfl, hq2⟩, hq⟩ := hrel
          by_cases hlt : k < A.length
          · go_wp2_with fail
            obtain ⟨wp, hwp⟩ : ∃ wp, wp = wr := ⟨_, rfl⟩
            subst hwp
            go_loopw [13, 15] (fun f j wr => ∃ m : Nat, m ≤ k ∧ j = .int .i64 m ∧ (∃ q2 : Bool, f = .bool q2 ∧ Hid (q2 = (q && fineRow A B k m))) ∧ Qt wp wr) (fun _ j _ => k - (intOf j).toNat)
            case atStart => exact ⟨0, Nat.zero_le _, rfl, ⟨q, rfl, Lib.hid (by simp [fineRow])⟩, Qt.refl _⟩
            case round =>
              obtain ⟨m, hm, rfl, ⟨q2, rfl, hq3⟩, hqq⟩ := hrel
              by_cases hmk : m < k
              · have hqt := hq.trans hqq
                obtain ⟨bA, oA, rfl, hcA⟩ := HRA.out.get hlt
                obtain ⟨bB, oB, rfl, hcB⟩ := HRB.out.get (k := k) (by rw [HBL.out]; exact hlt)
                have cAk := hqt.ext.cell (hcA k hlt) id
                have cAm := hqt.ext.cell (hcA m (by omega)) id
                have cBk := hqt.ext.cell (hcB k (by rw [HBL.out]; exact hlt)) id
                have cBm := hqt.ext.cell (hcB m (by rw [HBL.out]; omega)) id
                have hst := fineRow_succ A B k m
                obtain ⟨x, hx⟩ : ∃ x, x = nth A k := ⟨_, rfl⟩
                obtain ⟨y, hy⟩ : ∃ y, y = nth A m := ⟨_, rfl⟩
                obtain ⟨s, hs⟩ : ∃ s, s = nth B k := ⟨_, rfl⟩
                obtain ⟨t, ht⟩ : ∃ t, t = nth B m := ⟨_, rfl⟩
                rw [← hx] at cAk hst
                rw [← hy] at cAm hst
                rw [← hs] at cBk hst
                rw [← ht] at cBm hst
                have f1 : (k : Int) < (A.length : Int) := by omega
                have f2 : (m : Int) < (A.length : Int) := by omega
                have f3 : (k : Int) < (B.length : Int) := by rw [HBL.out]; omega
                have f4 : (m : Int) < (B.length : Int) := by rw [HBL.out]; omega
                have f5 : (m : Int) < (k : Int) := by omega
                have HST := Lib.hid hst
                clear hst hx hy hs ht hcA hcB
                cases q2
                · have HN : Hid (false = (q && fineRow A B k (m + 1))) := by show _ = _; rw [HST.out, ← Bool.and_assoc, ← hq3.out]; rfl
                  go_wp2_with fail
                  go_quiet (fail)
                  go_wp2_with fail
                  go_roundw
                  case rel => exact ⟨m + 1, by omega, by go_num, ⟨false, rfl, HN⟩, hqq.drewN _⟩
                  case measure => simp [intOf]; omega
                · by_cases hst2 : s = t
                  · have hbne : (s != t) = false := by simp [hst2]
                    by_cases hyx : y < x
                    · have HN : Hid (true = (q && fineRow A B k (m + 1))) := by show _ = _; rw [HST.out, ← Bool.and_assoc, ← hq3.out, decide_eq_true (.inr hyx)]; rfl
                      have hd : decide (y < x) = true := decide_eq_true hyx
                      clear hst2
                      go_wp2_with fail
                      go_quiet (fail)
                      go_wp2_with fail
                      go_roundw
                      case rel => exact ⟨m + 1, by omega, by go_num, ⟨true, rfl, HN⟩, hqq.drewN _⟩
                      case measure => simp [intOf]; omega
                    · have HN : Hid (false = (q && fineRow A B k (m + 1))) := by show _ = _; rw [HST.out, ← Bool.and_assoc, ← hq3.out, decide_eq_false (fun h => h.elim (fun e => e hst2) hyx)]; rfl
                      have hd : decide (y < x) = false := decide_eq_false hyx
                      clear hst2
                      go_wp2_with fail
                      go_quiet (fail)
                      go_wp2_with fail
                      go_roundw
                      case rel => exact ⟨m + 1, by omega, by go_num, ⟨false, rfl, HN⟩, hqq.drewN _⟩
                      case measure => simp [intOf]; omega
                  · have hbne : (s != t) = true := by simp [hst2]
                    have HN : Hid (true = (q && fineRow A B k (m + 1))) := by show _ = _; rw [HST.out, ← Bool.and_assoc, ← hq3.out, decide_eq_true (.inl hst2)]; rfl
                    clear hst2
                    go_wp2_with fail
                    go_quiet (fail)
                    go_wp2_with fail
                    go_roundw
                    case rel => exact ⟨m + 1, by omega, by go_num, ⟨true, rfl, HN⟩, hqq.drewN _⟩
                    case measure => simp [intOf]; omega
              · have hnI : ¬ (m : Int) < (k : Int) := by omega
                have HN : Hid (q2 = fineTo A B (k + 1)) := by
                  show _ = _
                  obtain rfl : m = k := by omega
                  rw [fineTo_succ, ← hq2.out]; exact hq3.out
                have hkI : (k : Int) < (A.length : Int) := by omega
                clear hmk hm hq2 hq3
                go_wp2_with fail
                go_roundw
                case rel => exact ⟨k + 1, by omega, by go_num, ⟨q2, rfl, HN⟩, hq.trans hqq⟩
                case measure => simp [intOf]; omega
          · obtain rfl : k = A.length := by omega
            replace o_A := o_A.ext hq.ext
            replace o_B := o_B.ext hq.ext
            replace E := E.trans hq.ext
            have HFF : Hid (spB A B = q) := by show _ = _; rw [HF.out, hq2.out]
            have beq : (q == q) = true := by simp
            go_wp2_with fail
            refine (impl_SortsByPlan_ok _ A _ B _ o_A.si (by omega) I_A.out o_B.si (by omega) I_B.out).mono ?_
            rintro e w77 ⟨rfl, h77⟩
            rw [HFF.out]
            go_wp2_with fail
            go_ret
            exact ⟨rfl, E.trans h77⟩
end Go.Proofs.Ytplcnehiaokdjaa
