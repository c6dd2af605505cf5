/- l6Split at intervals, the reference's. Conditions: a permutation of 2 to 8 numbers. -/
import Derived.Test.YtcifngcmdiokpaaSpl5
import Derived.Test.YtcifngcmdiokpaaSpl3
namespace Go.Proofs.Ytcifngcmdiokpaa
open Go.RowKit

theorem runB_one {p : List Int} {s : Nat} (h : s < p.length) : runB p s (s + 1) = true := by
  have hl : (seg p s (s + 1)).length = 1 := by rw [seg_len (by omega)]; omega
  unfold runB
  rw [show s + 1 - s = 1 by omega, mxT_one (by omega), mnT_one (by omega)]
  simp
set_option maxHeartbeats 8000000 in
theorem l6Split_iv (v : Value) (p : List Int) (w : World) (h : SI w v p) (hp : IsP p) (h8 : p.length ≤ 8) (h2 : 2 ≤ p.length) (hs0 : ¬ 1 < (spP p p.length).length) (hs1 : ¬ 1 < (skP p).length) :
    Calls Try.prog 90 #[v] w (SpPost p w) := by
  have h00 := h
  obtain ⟨a, cap, rfl, hc1, hc2, -, hri⟩ := h00
  have HH := Lib.hid h
  have HRI := Lib.hid hri
  have hsl : sumL p = spP p p.length := by unfold sumL; rw [hp.p8 h8]; rfl
  have HSL := Lib.hid hsl
  have HP := Lib.hid hp
  have HP8 := Lib.hid (hp.small h8)
  have hne : ((p.length : Int) == 1) = false := by rw [beq_eq_false_iff_ne]; omega
  have HSR : Hid (splitR p = patL ((cutL p).map (nth p))) := by show _ = _; unfold splitR; rw [decide_eq_false hs0, decide_eq_false hs1]; rfl
  have HSQ : Hid (splitQ p = (cutL p).map (partI p)) := by show _ = _; unfold splitQ; rw [decide_eq_false hs0, decide_eq_false hs1]; rfl
  clear h hp hri hsl
  go_enter Try.func90, Try.ntmps90
  obtain ⟨br, hbr⟩ : ∃ br, br = w.heap.size := ⟨_, rfl⟩
  have hR0 : Row 65 (w.alloc (.cells #[.slice none 0 0, .slice none 0 0] 65)) w.heap.size 2 [.slice none 0 0, .slice none 0 0] := Row.new 65 w [.slice none 0 0, .slice none 0 0] (by simp [maxLen])
  have hE0 : Ext w (w.alloc (.cells #[.slice none 0 0, .slice none 0 0] 65)) := Upd.alloc _ _ _
  rw [← hbr] at hR0
  have hz0 : (w.alloc (.cells #[.slice none 0 0, .slice none 0 0] 65)).heap.size = w.heap.size + 1 := by simp
  obtain ⟨w1, hw1⟩ : ∃ w1, w1 = w.alloc (.cells #[.slice none 0 0, .slice none 0 0] 65) := ⟨_, rfl⟩
  have HBR := Lib.hid hbr
  go_wp2_with fail
  rw [← hw1] at hR0 hE0 hz0 ⊢
  rw [← hbr]
  have HR0 := Lib.hid hR0
  have HE0 := Lib.hid hE0
  clear hw1 hR0 hE0 hbr
  refine (spec_SumParts_ok _ p _ (HH.out.ext HE0.out) (by omega)).mono ?_
  rintro e w2 ⟨vz, rfl, hoz, hez⟩
  rw [HSL.out] at hoz
  obtain ⟨az, cz, hvz⟩ : ∃ a c, vz = .slice a (spP p p.length).length c := by obtain ⟨a, c, e, _⟩ := hoz.sii; exact ⟨a, c, e⟩
  obtain ⟨lz, hlz⟩ : ∃ l, l = (spP p p.length).length := ⟨_, rfl⟩
  rw [← hlz] at hvz hs0
  subst hvz
  have hlzI : ¬ (1 : Int) < (lz : Int) := by omega
  have HR2 := Lib.hid (HR0.out.ext hez)
  have HE2 := Lib.hid (HE0.out.trans hez)
  clear hoz hez hlz hs0 hz0
  go_wp2_with fail
  refine (SkewParts_ok _ p _ (HH.out.ext HE2.out) HP.out h8).mono ?_
  rintro e w3 ⟨vy, rfl, hoy, hey⟩
  obtain ⟨ay, cy, hvy⟩ : ∃ a c, vy = .slice a (skP p).length c := by obtain ⟨a, c, e, _⟩ := hoy.sii; exact ⟨a, c, e⟩
  obtain ⟨ly, hly⟩ : ∃ l, l = (skP p).length := ⟨_, rfl⟩
  rw [← hly] at hvy hs1
  subst hvy
  have hlyI : ¬ (1 : Int) < (ly : Int) := by omega
  have HR3 := Lib.hid (HR2.out.ext hey)
  have HE3 := Lib.hid (HE2.out.trans hey)
  have hbr3 := HR3.out.lt
  clear hoy hey hly hs1 HR0 HE0 HR2 HE2
  go_wp2_with fail
  obtain ⟨bo, hbo⟩ : ∃ bo, bo = w3.heap.size := ⟨_, rfl⟩
  have hA1 : Ext w3 (w3.alloc (.cells #[.slice none 0 0, .slice none 0 0] 65)) := Upd.alloc _ _ _
  have hA2 : Ext w3 ((w3.alloc (.cells #[.slice none 0 0, .slice none 0 0] 65)).alloc (.cells #[] 3)) := hA1.alloc _
  have hro : Row 65 (w3.alloc (.cells #[.slice none 0 0, .slice none 0 0] 65)) w3.heap.size 2 [.slice none 0 0, .slice none 0 0] := Row.new 65 w3 _ (by simp [maxLen])
  have hro2 : Row 65 ((w3.alloc (.cells #[.slice none 0 0, .slice none 0 0] 65)).alloc (.cells #[] 3)) w3.heap.size 2 [.slice none 0 0, .slice none 0 0] := hro.ext (Upd.alloc _ _ _)
  have hrh : Row 3 ((w3.alloc (.cells #[.slice none 0 0, .slice none 0 0] 65)).alloc (.cells #[] 3)) (w3.heap.size + 1) 0 (vals []) := by
    have h := Row.new 3 (w3.alloc (.cells #[.slice none 0 0, .slice none 0 0] 65)) [] (by simp)
    rw [show (w3.alloc (.cells #[.slice none 0 0, .slice none 0 0] 65)).heap.size = w3.heap.size + 1 by simp] at h
    exact h
  obtain ⟨w4, hw4⟩ : ∃ w4, w4 = (w3.alloc (.cells #[.slice none 0 0, .slice none 0 0] 65)).alloc (.cells #[] 3) := ⟨_, rfl⟩
  rw [← hw4] at hA2 hro2 hrh ⊢
  rw [← hbo] at hro2 hrh ⊢
  have HRo := Lib.hid hro2
  have HRh := Lib.hid hrh
  have HRr := Lib.hid (HR3.out.ext hA2)
  have HE4 := Lib.hid (HE3.out.trans hA2)
  have hbrbo : br < bo := by omega
  have hwbr : w.heap.size ≤ br := by have := HBR.out; omega
  have HCUT0 : Hid ([] ++ cuts p p.length 0 = cutL p) := rfl
  clear hA1 hA2 hro hro2 hrh hw4 hbo HR3 HE3 hbr3
  go_loopw [6, 7] (fun hd i wr => ∃ (s f : Nat) (done : List Nat), s ≤ p.length ∧ i = .int .i64 ((s : Nat) : Int) ∧ (∃ bh ch m pv, hd = .slice (some ⟨bh, 0, none⟩) m ch ∧ Hid (m = done.length) ∧ Hid (Row 3 wr bh ch (vals (done.map (nth p)))) ∧ bo + 1 ≤ bh ∧ Hid (Row 65 wr bo 2 [.slice none 0 0, pv]) ∧ Hid (GX (bo + 1) wr pv (done.map (partI p)) bh) ∧ m ≤ s) ∧ Hid (done ++ cuts p f s = cutL p) ∧ Hid (p.length - s ≤ f) ∧ Hid (Row 65 wr br 2 [.slice none 0 0, .slice none 0 0]) ∧ Hid (Ext w wr)) (fun _ i _ => p.length - (intOf i).toNat)
  case atStart => exact ⟨0, p.length, [], Nat.zero_le _, rfl, ⟨bo + 1, 0, 0, _, rfl, Lib.hid rfl, HRh, Nat.le_refl _, HRo, GX.new _ _ _, Nat.le_refl _⟩, HCUT0, Lib.hid (Nat.sub_le _ _), HRr, HE4⟩
  case round =>
    obtain ⟨s, f, done, hs, rfl, ⟨bh, ch, m, pv, rfl, hm, hrh, hbh, hro, hgx, hms⟩, hcut, hf, hrr, he⟩ := hrel
    clear HRo HRh HRr HE4 HCUT0
    by_cases hlt : s < p.length
    · have hsI : (s : Int) < (p.length : Int) := by omega
      obtain ⟨g, rfl, hcs, hg⟩ := cuts_t hlt hf.out
      rw [hcs] at hcut
      have HG := Lib.hid hg
      clear hcs hg
      have HG' := HG
      have hn1 : IntKind.i64.wrap ((p.length : Int) - 1) = (p.length : Int) - 1 := IntWalk.i64_in _ (by omega)
      obtain ⟨n1, hnn⟩ : ∃ n1 : Nat, p.length = n1 + 1 := ⟨p.length - 1, by omega⟩
      have HNN := Lib.hid hnn
      have hn1b : (p.length : Int) - 1 = (n1 : Int) := by omega
      have HIE : Hid (ivE p s = ivD p s (n1 + 1)) := by show _ = _; unfold ivE; rw [hnn]
      have hn1s : s ≤ n1 := by omega
      have hn1n : n1 < p.length := by omega
      rw [hn1b] at hn1
      clear hnn
      go_wp2_with fail
      try rw [hn1b]
      clear hn1 hn1b
      obtain ⟨wq, hwq⟩ : ∃ wq, wq = wr := ⟨_, rfl⟩
      subst hwq
      go_loopw [8] (fun t wr => ∃ k : Nat, s ≤ k ∧ k < p.length ∧ t = .int .i64 ((k : Nat) : Int) ∧ Hid (ivE p s = ivD p s (k + 1)) ∧ Hid (Qt wq wr)) (fun t _ => (intOf t).toNat)
      case atStart => exact ⟨n1, hn1s, hn1n, rfl, HIE, Qt.refl _⟩
      case round =>
        obtain ⟨k, hk1, hk2, rfl, hq, hqt⟩ := hrel
        have g2 : IntKind.i64.wrap ((k : Int) - (s : Int)) = (k : Int) - (s : Int) := IntWalk.i64_in _ (by omega)
        have g2b : IntKind.i64.wrap ((k : Int) - (s : Int) + 1) = (k : Int) - (s : Int) + 1 := IntWalk.i64_in _ (by omega)
        have g2c : IntKind.i64.wrap ((k : Int) - 1) = (k : Int) - 1 := IntWalk.i64_in _ (by omega)
        by_cases hg3 : k + 1 - s = p.length
        · have g3 : ((k : Int) - (s : Int) + 1 == (p.length : Int)) = true := by rw [beq_iff_eq]; omega
          have HQ : Hid (ivE p s = ivD p s k) := by
            show _ = _
            rw [hq.out]; simp only [ivD, goodK, decide_eq_false (show ¬ k + 1 - s < p.length by omega), Bool.false_and, Bool.and_false, cond_false]
          have HQ2 : Hid (ivE p s = ivD p s (k - 1 + 1)) := by show _ = _; rw [Nat.sub_add_cancel (by omega)]; exact HQ.out
          have hks : s + 1 ≤ k := by omega
          clear hg3
          go_wp2_with fail
          go_roundw
          case rel => exact ⟨k - 1, by omega, by omega, by rw [Value.int.injEq]; exact ⟨rfl, by omega⟩, HQ2, hqt⟩
          case measure => simp [intOf] <;> omega
        · have g3 : ((k : Int) - (s : Int) + 1 == (p.length : Int)) = false := by rw [beq_eq_false_iff_ne]; omega
          have hI := l5Run_ok _ p s (k - s) wr (HH.out.ext (he.out.trans hqt.out.ext)) HP8.out (by omega) h8
          rw [show s + (k - s) = k by omega] at hI
          have HI := Lib.hid hI
          clear hI
          cases hb : runB p s (k + 1)
          · have hks : s < k := by
              rcases Nat.lt_or_ge s k with e | e
              · exact e
              · obtain rfl : k = s := by omega
                rw [runB_one hlt] at hb; exact absurd hb (by decide)
            have HQ : Hid (ivE p s = ivD p s k) := by
              show _ = _
              rw [hq.out]; simp only [ivD, goodK, hb, Bool.and_false, cond_false]
            have HB := Lib.hid hb
            have HQ2 : Hid (ivE p s = ivD p s (k - 1 + 1)) := by show _ = _; rw [Nat.sub_add_cancel (by omega)]; exact HQ.out
            clear hb hg3
            go_wp2_with fail
            refine HI.out.mono ?_
            rintro e w6 ⟨rfl, q6⟩
            rw [HB.out]
            have HQT := Lib.hid (hqt.out.trans q6)
            clear q6
            go_wp2_with fail
            go_roundw
            case rel => exact ⟨k - 1, by omega, by omega, by rw [Value.int.injEq]; exact ⟨rfl, by omega⟩, HQ2, HQT⟩
            case measure => simp [intOf] <;> omega
          · have HIV : Hid (k + 1 = ivE p s) := by
              show _ = _
              rw [hq.out]
              rcases Nat.lt_or_ge s k with e | e
              · simp only [ivD, goodK, hb, decide_eq_true (show s + 2 ≤ k + 1 by omega), decide_eq_true (show k + 1 - s < p.length by omega), Bool.and_true, cond_true]
              · obtain rfl : k = s := by omega
                exact (ivD_low p k (k + 1) (Nat.le_refl _)).symm
            have HB := Lib.hid hb
            clear hb hg3
            go_wp2_with fail
            refine HI.out.mono ?_
            rintro e w6 ⟨rfl, q6⟩
            rw [HB.out]
            have hqt6 := hqt.out.trans q6
            have HE6 := Lib.hid (he.out.trans hqt6.ext)
            have HRH := Lib.hid (hrh.out.ext hqt6.ext)
            have HRO := Lib.hid (hro.out.ext hqt6.ext)
            have HRR := Lib.hid (hrr.out.ext hqt6.ext)
            have HGX := Lib.hid (hgx.out.ext hqt6.ext)
            obtain ⟨bq, offq, rfl, hcq'⟩ := (HRI.out.ext HE6.out).get hlt
            have hcell := hcq' s hlt
            obtain ⟨x, hx⟩ : ∃ x, x = nth p s := ⟨_, rfl⟩
            have HX := Lib.hid hx
            rw [← hx] at hcell
            obtain ⟨sg, hsg⟩ : ∃ sg, sg = seg p s (k + 1) := ⟨_, rfl⟩
            have hsl : sg.length = k + 1 - s := by rw [hsg]; exact seg_len (by omega)
            have hseg : SI w6 (.slice (some ⟨bq, offq + s, none⟩) (k + 1 - s) (cap - s)) sg := by
              have := SI.seg (w := w6) (b := bq) (off := offq) (cap := cap) (xs := p) hcq' s (k + 1 - s) (by omega) hc1 hc2
              rw [hsg]; exact this
            have HPART : Hid (patL sg = partI p s) := by show _ = _; unfold partI; rw [hsg, HIV.out]
            have HPAT := Lib.hid (fun W (hW : Ext w6 W) => l2Pattern_ok _ sg W (hseg.ext hW) (by omega))
            have hpl := patL_len sg
            have hb6l := HRH.out.lt
            have HSL2 : Hid ((patL sg).length = k + 1 - s) := by show _ = _; rw [hpl, hsl]
            have d1 := HRO.out.cell (j := 1) rfl
            have hml2 : Hid ((done.map (partI p)).length = m) := by show _ = _; rw [List.length_map]; exact hm.out.symm
            have hmb2 : Hid ((done.map (partI p)).length ≤ 1000000) := by show _ ≤ _; rw [hml2.out]; omega
            have i1 : (s : Int) ≤ (k : Int) + 1 := by omega
            have i2 : (k : Int) + 1 ≤ (cap : Int) := by omega
            have i3 : (s : Int) ≤ (cap : Int) := by omega
            have i4 : ¬ cap = s := by omega
            have i5 : ((k : Int) + 1).toNat = k + 1 := by omega
            have i6 : 0 ≤ (k : Int) + 1 := by omega
            have i7 : IntKind.i64.wrap ((k : Int) + 1) = (k : Int) + 1 := IntWalk.i64_in _ (by omega)
            have hbo6 := HRO.out.lt
            rw [hsl] at HPAT
            clear hcq' hsg hsl hseg hpl hrh hro hrr hgx he hqt hq hx hqt6 q6 g2 g2b g2c
            go_wp2_with fail
            go_region_law (first
              | (go_simp; go_at_call 79; refine (HPAT.out _ (by first | exact (Ext.refl _).drew)).mono ?_; rintro e w7 ⟨b7, c7, rfl, hb7, hr7, he7⟩; have hE7 : Hid (Ext w6 w7) := ((Ext.refl w6).drew).trans he7; have d17 := hE7.out.cell d1; have q1 := fun (o : Obj) => Ext.cell (show Ext w7 (w7.alloc o) from (Ext.refl _).alloc _) d17; have HR7 := Lib.hid hr7; have hb7' : w6.heap.size ≤ b7 := hb7; have hz7 := hE7.out.size)
              | (go_loud (refine step_app1X (by rfl) (.tmp 56) (.tmp 63) (by rfl) (bo + 1) pv (done.map (partI p)) bh (.slice (some ⟨b7, 0, none⟩) (k + 1 - s) c7) (patL sg) (by rfl) ((HGX.out.ext hE7.out).ext ((Ext.refl _).alloc _)) (by simp; omega) _ (by rfl) (World.cell?_alloc_at _ _ _ _ rfl) (OI.row (HR7.out.ext ((Ext.refl _).alloc _)) (by omega) HSL2.out.symm) (by simp [Value.ownBlock]; omega) hmb2.out ?_); intro b8 c8 w8 hg8 hu8; have HU8 : Hid (Upd (fun k => pv.ownBlock = some k) w6 w8) := (Ext.toUpd (hE7.out.alloc _) _).trans hu8; have HRO8 := Lib.hid (HRO.out.upd HU8.out (fun e => by have := HGX.out.lo e; omega)); have d18 := HRO8.out.cell (j := 1) rfl; have f18 := HRO8.out.free 1 none))
            all_goals
              rw [List.length_map] at hg8
              have HGX8 := Lib.hid hg8
              have hz8 := HU8.out.size
              have s9 := Upd.setCell w8 ⟨bo, 1, none⟩ (.slice (some ⟨b8, 0, none⟩) (done.length + 1) c8)
              have HRO9 : Hid (Row 65 (w8.setCell ⟨bo, 1, none⟩ (.slice (some ⟨b8, 0, none⟩) (done.length + 1) c8)) bo 2 [.slice none 0 0, .slice (some ⟨b8, 0, none⟩) (done.length + 1) c8]) := HRO8.out.set 1 _
              have HRR9 := Lib.hid ((HRR.out.upd HU8.out (fun e => by have := HGX.out.lo e; omega)).upd s9 (fun e => by have e2 : br = bo := e; omega))
              have HRH9 := Lib.hid ((HRH.out.upd HU8.out (fun e => HGX.out.offInt HRH.out e)).upd s9 (fun e => by have e2 : bh = bo := e; omega))
              have HGX9 : Hid (GX (bo + 1) (w8.setCell ⟨bo, 1, none⟩ (.slice (some ⟨b8, 0, none⟩) (done.length + 1) c8)) (.slice (some ⟨b8, 0, none⟩) (done.length + 1) c8) ((done ++ [s]).map (partI p)) bh) := by
                show GX _ _ _ _ _
                have h := HGX8.out.below s9 (fun k e => by have e2 : k = bo := e; omega)
                rw [List.map_append, show [s].map (partI p) = [patL sg] from by rw [HPART.out]; rfl]
                exact h
              have HE9 := Lib.hid ((HE6.out.upd HU8.out (fun i e => by have := HGX.out.lo e; omega)).upd1 s9 (show w.heap.size ≤ bo by omega))
              have HCUT9 : Hid ((done ++ [s]) ++ cuts p g (ivE p s) = cutL p) := by show _ = _; rw [List.append_assoc]; exact hcut.out
              have HM9 : Hid (m + 1 = (done ++ [s]).length) := by show _ = _; rw [List.length_append, ← hm.out]; rfl
              rw [← HIV.out] at HCUT9 HG
              obtain ⟨W, hW⟩ : ∃ W, W = w8.setCell ⟨bo, 1, none⟩ (.slice (some ⟨b8, 0, none⟩) (done.length + 1) c8) := ⟨_, rfl⟩
              rw [← hW] at HRO9 HRR9 HRH9 HGX9 HE9 ⊢
              obtain ⟨bq', offq', eq', hcq9⟩ := (HRI.out.ext HE9.out).get hlt
              obtain ⟨rfl, rfl⟩ : bq = bq' ∧ offq = offq' := by simpa using eq'
              have hcell9 := hcq9 s hlt
              rw [← HX.out] at hcell9
              have hml : Hid (m = (done.map (nth p)).length) := by show _ = _; rw [List.length_map]; exact hm.out
              have hmb : Hid ((done.map (nth p)).length ≤ 1000000000) := by show _ ≤ _; rw [← hml.out]; omega
              have hwz9 := HE9.out.size
              have hbo9 := HRO9.out.lt
              clear hg8 hu8 s9 d18 f18 d17 d1 q1 hW hcq9 eq' hcell
              go_wp2_with (at_builtin; go_loud (refine wpl_app1 rfl (.tmp 66) (.tmp 71) rfl bh ch m _ x rfl HRH9.out hml.out rfl hmb.out ?_); intro b10 c10 w10 hr10 hb10 hu10)
              have HRH10 : Hid (Row 3 w10 b10 c10 (vals ((done ++ [s]).map (nth p)))) := by
                rw [HX.out] at hr10
                show Row _ _ _ _ _
                rw [List.map_append]; exact hr10
              have hb10' : b10 = bh ∨ W.heap.size ≤ b10 := by rcases hb10 with e | e <;> omega
              have hb10o : bo + 1 ≤ b10 := by rcases hb10' with e | e <;> omega
              have HGX10 := Lib.hid (HGX9.out.heads HRH9.out hu10 hb10')
              have HRO10 := Lib.hid (HRO9.out.upd hu10 (fun e => by omega))
              have HRR10 := Lib.hid (HRR9.out.upd hu10 (fun e => by omega))
              have HE10 := Lib.hid (HE9.out.upd1 hu10 (by omega))
              clear hr10 hb10 hu10 hcell9
              go_roundw
              case rel => exact ⟨k + 1, g, done ++ [s], by omega, by go_num, ⟨b10, c10, m + 1, _, rfl, HM9, HRH10, hb10o, HRO10, HGX10, by omega⟩, HCUT9, HG, HRR10, HE10⟩
              case measure => simp [intOf]; omega
    · obtain rfl : s = p.length := by omega
      have HD : Hid (done = cutL p) := by
        have h := hcut.out
        rw [cuts_f (Nat.lt_irrefl _), List.append_nil] at h; exact h
      have hml : (done.map (nth p)).length = m := by rw [List.length_map]; exact hm.out.symm
      obtain ⟨ap, cp, hpv⟩ := hgx.out.shape
      rw [List.length_map] at hpv
      subst hpv
      have hsi := hrh.out.si
      rw [hml] at hsi
      have HSI := Lib.hid hsi
      have HML := Lib.hid hml
      have hbo6 := hro.out.lt
      clear hsi hml
      go_wp2_with fail
      refine (l2Pattern_ok _ (done.map (nth p)) _ HSI.out (by rw [HML.out]; omega)).mono ?_
      rintro e w7 ⟨b7, c7, rfl, hb7, hr7, h7⟩
      have HR7 := Lib.hid hr7
      have hz7 := h7.size
      have hro7 := hro.out.ext h7
      have hrr7 := hrr.out.ext h7
      have HRO7 := Lib.hid hro7
      have HRR7 := Lib.hid hrr7
      have d0 := hro7.cell (j := 0) rfl
      have d1 := hro7.cell (j := 1) rfl
      have f0 := hro7.free 0 none
      have e0 := hrr7.cell (j := 0) rfl
      have e1 := hrr7.cell (j := 1) rfl
      have g0 := hrr7.free 0 none
      have g1 := hrr7.free 1 none
      have HGX7 := Lib.hid (hgx.out.ext h7)
      have HE7 := Lib.hid (he.out.trans h7)
      have hbb : bo ≠ br := by omega
      have hbb2 : br ≠ bo := by omega
      clear hr7 h7 hro7 hrr7
      go_wp2_with fail
      have t1 := Upd.setCell w7 ⟨bo, 0, none⟩ (.slice (some ⟨b7, 0, none⟩) done.length c7)
      have hrr8 : Row 65 (w7.setCell ⟨bo, 0, none⟩ (.slice (some ⟨b7, 0, none⟩) done.length c7)) br 2 [.slice none 0 0, .slice none 0 0] := HRR7.out.upd t1 (fun e => by have e2 : br = bo := e; omega)
      have t2 := Upd.setCell (w7.setCell ⟨bo, 0, none⟩ (.slice (some ⟨b7, 0, none⟩) done.length c7)) ⟨br, 0, none⟩ (.slice (some ⟨b7, 0, none⟩) done.length c7)
      have hrr9 := (hrr8.set 0 (.slice (some ⟨b7, 0, none⟩) done.length c7)).set 1 (.slice ap done.length cp)
      have t3 := Upd.setCell ((w7.setCell ⟨bo, 0, none⟩ (.slice (some ⟨b7, 0, none⟩) done.length c7)).setCell ⟨br, 0, none⟩ (.slice (some ⟨b7, 0, none⟩) done.length c7)) ⟨br, 1, none⟩ (.slice ap done.length cp)
      have T : Upd (fun k => k = bo ∨ k = br) w7 (((w7.setCell ⟨bo, 0, none⟩ (.slice (some ⟨b7, 0, none⟩) done.length c7)).setCell ⟨br, 0, none⟩ (.slice (some ⟨b7, 0, none⟩) done.length c7)).setCell ⟨br, 1, none⟩ (.slice ap done.length cp)) :=
        ((t1.mono (fun i _ e => .inl e)).comp t2 (fun _ _ h => h) (fun i _ e => .inr e)).comp t3 (fun _ _ h => h) (fun i _ e => .inr e)
      have HT := Lib.hid T
      have HR9 := Lib.hid hrr9
      clear t1 t2 t3 T hrr8 hrr9
      (try simp only [Exit.inBlock, Exit.then])
      refine bodyPost_ret (ret_infl rfl _ _ br rfl _ _ HR9.out) rfl ?_
      have hz9 := HT.out.size
      refine ⟨_, _, rfl, ?_, ?_, HE7.out.upd HT.out (fun i e => by rcases e with e | e <;> omega)⟩
      · rw [HSR.out, ← HD.out]
        have h := HR7.out.upd HT.out (fun e => by rcases e with e | e <;> omega)
        exact OI.row h (by omega) (by rw [patL_len, List.length_map])
      · rw [HSQ.out, ← HD.out]
        exact (HGX7.out.below HT.out (fun k e => by rcases e with e | e <;> omega)).gi.mono (by omega)
end Go.Proofs.Ytcifngcmdiokpaa
