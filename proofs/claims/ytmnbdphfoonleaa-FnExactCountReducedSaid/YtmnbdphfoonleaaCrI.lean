/- The number of reduced words: the contract of the program's recursion countReduced over its map. Conditions: at most 6 numbers. -/
import Derived.Test.YtmnbdphfoonleaaCrP
import Derived.WalkArith
namespace Go.Proofs.Ytmnbdphfoonleaa
open Go.RowKit Go.Maps

set_option maxHeartbeats 2000000 in
set_option maxRecDepth 100000 in
theorem countReduced_ok : ∀ (d : Nat) (v : Value) (p : List Int) (b N : Nat) (D : DataW Unit) (w : World), IsP p → p.length ≤ 6 → 1 ≤ p.length → inv p = d → SI w v p → OM b N D w → Good p.length D → N + 6 ^ d ≤ 470184984576 →
    Calls Try.prog 87 #[v, .map (some b)] w fun e w' => e = .returned (.int .i64 (cnt p)) ∧ CRP p.length b (N + 6 ^ d) w w' := by
  intro d
  induction d with
  | zero =>
    intro v p b N D w hp h6 h1 hd h hom hgd hN
    have HS : Hid (srtB p = true) := srtB_true (inv_zero_srt hd)
    have HW := Lib.hid (cnt_srt HS.out)
    have HOM := Lib.hid hom
    have HGD := Lib.hid hgd
    obtain ⟨a, cap, rfl, -⟩ := h.elim
    clear hom hgd hp hd
    go_enter Try.func87, Try.ntmps87
    go_wp2_with (go_at_call 105; refine (isRising_ok _ p _ h (by omega)).mono ?_; rintro e w1 ⟨rfl, q1⟩; rw [HS.out])
    have HC : Hid (CRP p.length b (N + 6 ^ 0) w w1) := ⟨N, D, HOM.out.ext q1.ext, HGD.out, by omega, Ext.toUpd q1.ext _⟩
    go_ret
    exact ⟨by rw [HW.out]; rfl, HC.out⟩
  | succ d ih =>
    intro v p b N D w hp h6 h1 hd h hom hgd hN
    have hns : srtB p = false := by
      rw [Bool.eq_false_iff]; intro hh
      have := inv_srt (srt_pairwise (srtB_iff.1 hh)); omega
    have HS := Lib.hid hns
    have HW := Lib.hid (cnt_step hns)
    have HP := Lib.hid hp
    have HD := Lib.hid hd
    have hkey := key_ok (p := p) (by omega)
    have HOM := Lib.hid hom
    have HGD := Lib.hid hgd
    have HN := Lib.hid hN
    have HH := Lib.hid h
    have hblt := hom.lt
    have hoff := Lib.hid (hom.off h)
    obtain ⟨a, cap, rfl, hri⟩ := h.elim
    obtain ⟨hs1, hHS⟩ : ∃ x, x = has D (keyT p) := ⟨_, rfl⟩
    have HHS := Lib.hid hHS
    have HRNG := cnt_rng hp h6
    clear hns hp hd hom hgd hN h hHS
    cases hs1
    · -- not yet known
      go_enter Try.func87, Try.ntmps87
      go_wp2_with (first
        | (go_at_call 105; refine (isRising_ok _ p _ HH.out (by omega)).mono ?_; rintro e w1 ⟨rfl, q1⟩; rw [HS.out])
        | (go_at_call 114; refine (impl_PermText_ok _ p _ (HH.out.ext q1.ext) HP.out h1 (by omega)).mono ?_; rintro e w2 ⟨rfl, he2⟩; have HOM2 := Lib.hid (HOM.out.ext (q1.ext.trans he2)))
        | (at_lookup; go_loud (refine wpList_lookup_own_ok_int _ rfl _ _ 64 rfl 9 3 .i64 keyed9 Try.underlying64 Try.underlying3 (zero_int _) b N D rfl HOM2.out _ _ rfl hkey ?_); intro c hat hwc; rw [← HHS.out]))
      have HC0 : Hid (CRP p.length b (N + 0 * 6 ^ d) w w2) := ⟨N, D, HOM2.out, HGD.out, Nat.le_add_right _ _, Ext.toUpd (q1.ext.trans he2) _⟩
      have HOM3 := HOM2
      clear HOM2 hat hwc HOM q1 he2
      go_loopw [8, 9, 10] (fun s i _ wr => ∃ k : Nat, k ≤ p.length - 1 ∧ i = .int .i64 ((k : Int) + 1) ∧ (∃ z, s = .int .i64 z ∧ Hid (z = cntTo p k)) ∧ Hid (CRP p.length b (N + k * 6 ^ d) w wr)) (fun _ i _ _ => p.length + 1 - (intOf i).toNat)
      case atStart => exact ⟨0, Nat.zero_le _, rfl, ⟨0, rfl, (cntTo_zero p).symm⟩, HC0⟩
      case round =>
        obtain ⟨k, hk, rfl, ⟨z, rfl, hz⟩, hC⟩ := hrel
        clear HC0 HOM3
        have hU := Lib.hid hC.out.upd
        by_cases hlt : k + 1 < p.length
        · obtain ⟨b1, off1, rfl, hc0⟩ := hri.get hlt
          have hb1b : b1 ≠ b := by
            rcases hoff.out with e | e
            · rw [e] at hlt; simp at hlt
            · exact e b1 off1 none _ _ rfl
          have c0 := hU.out.cell (hc0 k (by omega)) hb1b
          have c1 := hU.out.cell (hc0 (k + 1) hlt) hb1b
          have hki : (k : Int) + 1 < (p.length : Int) := by omega
          have w1 : IntKind.i64.wrap ((k : Int) + 1 - 1) = (k : Int) := by rw [IntWalk.i64_in _ (by omega)]; omega
          have w2 : 0 ≤ (k : Int) + 1 := by omega
          have w3 : ((k : Int) + 1).toNat = k + 1 := by omega
          have w4 : (k : Int) < (p.length : Int) := by omega
          have w6 : (k : Int) + 1 - 1 = (k : Int) := by omega
          have hs := Lib.hid (HH.out.off hU.out hoff.out)
          have hzr := cntTo_rng HP.out h6 HS.out hk
          rw [← hz.out] at hzr
          clear hc0
          by_cases hup : nth p (k + 1) < nth p k
          · have hnv := nsw_inv hlt hup
            have hnp := nsw_isP HP.out hlt
            have hnl := nsw_len p k
            have HNP := Lib.hid hnp
            have HNV : Hid (inv (nsw p k) = d) := by show _ = _; have := HD.out; omega
            have HST1 := Lib.hid (cntTo_t hup)
            have hur := cnt_rng hnp (by omega)
            have wz : IntKind.i64.wrap (z + cnt (nsw p k)) = z + cnt (nsw p k) := IntWalk.i64_in _ (by omega)
            clear hnv hnp
            go_wp2_with fail
            go_quiet (fail)
            clear w1 w3 w6 c0 c1
            go_wp2_with fail
            refine (slicesClone_ok _ p _ (hs.out.ext (Upd.drewN _ _ _)) (by omega)).mono ?_
            rintro e w5 ⟨v5, rfl, ho5, he5⟩
            rcases ho5 with ⟨rfl, hx⟩ | ⟨b5, c5, rfl, hb5, hb5z, hr5⟩
            · rw [hx] at hlt; simp at hlt
            simp at hb5
            have hz5 := he5.size
            simp at hz5
            have d0 := hr5.icell (j := k) (by omega)
            have d1 := hr5.icell (j := k + 1) hlt
            have f0 := hr5.free k none
            have f1 := hr5.free (k + 1) none
            have hset := fun m => ((hr5.ext (Upd.drewN w5 m _)).set k (.int .i64 (nth p (k + 1)))).set (k + 1) (.int .i64 (nth p k))
            simp only [vals_set] at hset
            have HST := Lib.hid hset
            have hUs := Lib.hid (fun m => ((Upd.drewN w5 m (· = b5)).trans (Upd.setCell _ ⟨b5, k, none⟩ (.int .i64 (nth p (k + 1))))).trans (Upd.setCell _ ⟨b5, k + 1, none⟩ (.int .i64 (nth p k))))
            have hC5 := Lib.hid ((hC.out.ext (show Ext wr (wr.drewN nq) from Upd.drewN _ _ _)).ext he5)
            have hwz := hU.out.size
            have hcl := hr5.le
            simp at hcl
            have w1 : IntKind.i64.wrap ((k : Int) + 1 - 1) = (k : Int) := by rw [IntWalk.i64_in _ (by omega)]; omega
            have w3 : ((k : Int) + 1).toNat = k + 1 := by omega
            have w6 : (k : Int) + 1 - 1 = (k : Int) := by omega
            clear hr5 hset hC hU hs
            go_wp2_with fail
            go_region
            have hRw : Hid (Row 3 _ b5 c5 (vals (nsw p k))) := (HST.out 0).ext (Upd.drew _ _)
            have hUw := Lib.hid ((hUs.out 0).trans (Upd.drew _ _))
            have hsq := hRw.out.si
            rw [hnl] at hsq
            have HSQ := Lib.hid hsq
            have hC6 := Lib.hid (hC5.out.off hUw.out (by omega) hblt)
            clear hsq d0 d1 f0 f1 w1 w3 w6 HST hUs hC5
            obtain ⟨N6, D6, o6, g6, n6, u6⟩ := hC6.out
            have HO6 := Lib.hid o6
            have HG6 := Lib.hid g6
            have HU6 := Lib.hid u6
            have HN6 := Lib.hid (six_next n6)
            have HR6 : Hid (N6 + 6 ^ d ≤ 470184984576) := by
              show _ ≤ _
              have e1 := six_room2 (N := N) (k := k) (d := d) (by omega)
              have e2 := HN.out
              omega
            clear o6 g6 n6 u6 hC6
            go_wp2_with fail
            refine (ih _ (nsw p k) b N6 D6 _ HNP.out (by omega) (by omega) HNV.out HSQ.out HO6.out (by rw [hnl]; exact HG6.out) HR6.out).mono ?_
            rintro e w7 ⟨rfl, hc7⟩
            have HC7 := Lib.hid (CRP.comp HU6.out hc7 hnl HN6.out)
            clear hc7 hnl
            go_wp2_with fail
            go_roundw
            case rel => exact ⟨k + 1, by omega, by go_num, ⟨_, rfl, by show _ = _; rw [HST1.out, hz.out]⟩, HC7⟩
            case measure => simp [intOf]; omega
          · have HT := Lib.hid (cntTo_f hup)
            have HC7 : Hid (CRP p.length b (N + (k + 1) * 6 ^ d) w wr) := hC.out.mono (Nat.add_le_add_left (Nat.mul_le_mul_right _ (by omega)) _)
            go_wp2_with fail
            go_quiet (fail)
            clear w1 w3 w6 c0 c1
            go_wp2_with fail
            go_roundw
            case rel => exact ⟨k + 1, by omega, by go_num, ⟨_, rfl, by show _ = _; rw [HT.out]; exact hz.out⟩, HC7.out.ext (Upd.drewN _ _ _)⟩
            case measure => simp [intOf]; omega
        · have hki : ¬ (k : Int) + 1 < (p.length : Int) := by omega
          have HZ : Hid (z = cnt p) := by show _ = _; rw [HW.out, show p.length - 1 = k by omega]; exact hz.out
          have hzr : 0 ≤ z ∧ z ≤ 470184984576 := by rw [HZ.out]; exact HRNG
          obtain ⟨N6, D6, o6, g6, n6, u6⟩ := hC.out
          have HO6 := Lib.hid o6
          have HG6 := Lib.hid g6
          have HU6 := Lib.hid u6
          have HN6 : Hid (N6 + 1 ≤ N + 6 ^ (d + 1)) := by
            show _ ≤ _
            have := six_room (N := N) (k := k) (d := d) (by omega)
            omega
          have HM6 : Hid (N6 < maxLen) := by show _ < _; have := HN.out; have := HN6.out; unfold maxLen; omega
          clear o6 g6 n6 u6 hC hU hz
          go_wp2_with (at_mapUpdate; go_loud (refine wpList_mapUpdate_own _ rfl _ _ _ 64 rfl 9 3 keyed9 Try.underlying64 _ b N6 D6 rfl HO6.out HM6.out _ _ _ rfl rfl hkey _ [] (plainElem_int Try.underlying3 (WalkArith.wf_i64 (by omega))) ?_); intro w8 hown8 hgrow8)
          rw [HZ.out] at hown8
          have HC8 : Hid (CRP p.length b (N + 6 ^ (d + 1)) w w8) := ⟨_, _, hown8, HG6.out.put HP.out rfl (by omega), HN6.out, HU6.out.trans (grown_upd hgrow8)⟩
          clear hown8 hgrow8
          go_ret
          exact ⟨by rw [← HZ.out]; rfl, HC8.out⟩
    · -- known
      go_enter Try.func87, Try.ntmps87
      go_wp2_with (first
        | (go_at_call 105; refine (isRising_ok _ p _ HH.out (by omega)).mono ?_; rintro e w1 ⟨rfl, q1⟩; rw [HS.out])
        | (go_at_call 114; refine (impl_PermText_ok _ p _ (HH.out.ext q1.ext) HP.out h1 (by omega)).mono ?_; rintro e w2 ⟨rfl, he2⟩; have HOM2 := Lib.hid (HOM.out.ext (q1.ext.trans he2)); have HE2 := Lib.hid (q1.ext.trans he2))
        | (at_lookup; go_loud (refine wpList_lookup_own_ok_int _ rfl _ _ 64 rfl 9 3 .i64 keyed9 Try.underlying64 Try.underlying3 (zero_int _) b N D rfl HOM2.out _ _ rfl hkey ?_); intro c hat hwc; rw [← HHS.out]; have HAT := Lib.hid hat; clear hat hwc))
      have hc : c = cnt p := by
        have e1 := HGD.out.2 p HP.out rfl HHS.out.symm
        rw [HAT.out] at e1
        exact (Lit.int.inj (DataW.lit.inj e1)).2
      have HC2 : Hid (CRP p.length b (N + 6 ^ (d + 1)) w w2) := ⟨N, D, HOM2.out, HGD.out, Nat.le_add_right _ _, Ext.toUpd HE2.out _⟩
      go_ret
      exact ⟨by rw [hc]; rfl, HC2.out⟩
end Go.Proofs.Ytmnbdphfoonleaa
