/- split at intervals, the program's. Conditions: a permutation of 2 to 8 numbers. -/
import Derived.Test.YtcifngcmdiokpaaGx
namespace Go.Proofs.Ytcifngcmdiokpaa
open Go.RowKit

set_option maxHeartbeats 8000000 in
theorem split_iv (v : Value) (p : List Int) (w : World) (h : SI w v p) (hp : IsP p) (h8 : p.length ≤ 8) (h2 : 2 ≤ p.length) (hs0 : ¬ 1 < (spP p p.length).length) (hs1 : ¬ 1 < (skP p).length) :
    Calls Try.prog 82 #[v] w (SpPost p w) := by
  have h00 := h
  obtain ⟨a, cap, rfl, hc1, hc2, -, hri⟩ := h00
  have HH := Lib.hid h
  have HRI := Lib.hid hri
  have HP := Lib.hid hp
  have HP8 := Lib.hid (hp.small h8)
  have hne : ((p.length : Int) == 1) = false := by rw [beq_eq_false_iff_ne]; omega
  have HSR : Hid (splitR p = patL ((cutL p).map (nth p))) := by show _ = _; unfold splitR; rw [decide_eq_false hs0, decide_eq_false hs1]; rfl
  have HSQ : Hid (splitQ p = (cutL p).map (partI p)) := by show _ = _; unfold splitQ; rw [decide_eq_false hs0, decide_eq_false hs1]; rfl
  clear h hp hri
  go_enter Try.func82, Try.ntmps82
  obtain ⟨br, hbr⟩ : ∃ br, br = w.heap.size := ⟨_, rfl⟩
  have hR0 : Row 65 (w.alloc (.cells #[.slice none 0 0, .slice none 0 0] 65)) w.heap.size 2 [.slice none 0 0, .slice none 0 0] := Row.new 65 w [.slice none 0 0, .slice none 0 0] (by simp [maxLen])
  have hE0 : Ext w (w.alloc (.cells #[.slice none 0 0, .slice none 0 0] 65)) := Upd.alloc _ _ _
  rw [← hbr] at hR0
  have hz0 : (w.alloc (.cells #[.slice none 0 0, .slice none 0 0] 65)).heap.size = w.heap.size + 1 := by simp
  obtain ⟨w1, hw1⟩ : ∃ w1, w1 = w.alloc (.cells #[.slice none 0 0, .slice none 0 0] 65) := ⟨_, rfl⟩
  have HBR := Lib.hid hbr
  go_wp2_with fail
  rw [← hw1] at hR0 hE0 hz0 ⊢
  rw [← hbr]
  have HR0 := Lib.hid hR0
  have HE0 := Lib.hid hE0
  clear hw1 hR0 hE0 hbr
  refine (sumParts_ok _ p _ (HH.out.ext HE0.out) HP.out h8).mono ?_
  rintro e w2 ⟨vz, rfl, hoz, hez⟩
  obtain ⟨az, cz, hvz⟩ : ∃ a c, vz = .slice a (spP p p.length).length c := by obtain ⟨a, c, e, _⟩ := hoz.sii; exact ⟨a, c, e⟩
  obtain ⟨lz, hlz⟩ : ∃ l, l = (spP p p.length).length := ⟨_, rfl⟩
  rw [← hlz] at hvz hs0
  subst hvz
  have hlzI : ¬ (1 : Int) < (lz : Int) := by omega
  have HR2 := Lib.hid (HR0.out.ext hez)
  have HE2 := Lib.hid (HE0.out.trans hez)
  clear hoz hez hlz hs0 hz0
  go_wp2_with fail
  refine (skewParts_ok _ p _ (HH.out.ext HE2.out) HP.out h8).mono ?_
  rintro e w3 ⟨vy, rfl, hoy, hey⟩
  obtain ⟨ay, cy, hvy⟩ : ∃ a c, vy = .slice a (skP p).length c := by obtain ⟨a, c, e, _⟩ := hoy.sii; exact ⟨a, c, e⟩
  obtain ⟨ly, hly⟩ : ∃ l, l = (skP p).length := ⟨_, rfl⟩
  rw [← hly] at hvy hs1
  subst hvy
  have hlyI : ¬ (1 : Int) < (ly : Int) := by omega
  have HR3 := Lib.hid (HR2.out.ext hey)
  have HE3 := Lib.hid (HE2.out.trans hey)
  have hbr3 := HR3.out.lt
  clear hoy hey hly hs1 HR0 HE0 HR2 HE2
  go_wp2_with fail
  obtain ⟨bo, hbo⟩ : ∃ bo, bo = w3.heap.size := ⟨_, rfl⟩
  have hA1 : Ext w3 (w3.alloc (.cells #[.slice none 0 0, .slice none 0 0] 65)) := Upd.alloc _ _ _
  have hA2 : Ext w3 ((w3.alloc (.cells #[.slice none 0 0, .slice none 0 0] 65)).alloc (.cells #[] 3)) := hA1.alloc _
  have hro : Row 65 (w3.alloc (.cells #[.slice none 0 0, .slice none 0 0] 65)) w3.heap.size 2 [.slice none 0 0, .slice none 0 0] := Row.new 65 w3 _ (by simp [maxLen])
  have hro2 : Row 65 ((w3.alloc (.cells #[.slice none 0 0, .slice none 0 0] 65)).alloc (.cells #[] 3)) w3.heap.size 2 [.slice none 0 0, .slice none 0 0] := hro.ext (Upd.alloc _ _ _)
  have hrh : Row 3 ((w3.alloc (.cells #[.slice none 0 0, .slice none 0 0] 65)).alloc (.cells #[] 3)) (w3.heap.size + 1) 0 (vals []) := by
    have h := Row.new 3 (w3.alloc (.cells #[.slice none 0 0, .slice none 0 0] 65)) [] (by simp)
    rw [show (w3.alloc (.cells #[.slice none 0 0, .slice none 0 0] 65)).heap.size = w3.heap.size + 1 by simp] at h
    exact h
  obtain ⟨w4, hw4⟩ : ∃ w4, w4 = (w3.alloc (.cells #[.slice none 0 0, .slice none 0 0] 65)).alloc (.cells #[] 3) := ⟨_, rfl⟩
  rw [← hw4] at hA2 hro2 hrh ⊢
  rw [← hbo] at hro2 hrh ⊢
  have HRo := Lib.hid hro2
  have HRh := Lib.hid hrh
  have HRr := Lib.hid (HR3.out.ext hA2)
  have HE4 := Lib.hid (HE3.out.trans hA2)
  have hbrbo : br < bo := by omega
  have hwbr : w.heap.size ≤ br := by have := HBR.out; omega
  have HCUT0 : Hid ([] ++ cuts p p.length 0 = cutL p) := rfl
  clear hA1 hA2 hro hro2 hrh hw4 hbo HR3 HE3 hbr3
  go_loopw [6, 7] (fun hd i wr => ∃ (s f : Nat) (done : List Nat), s ≤ p.length ∧ i = .int .i64 ((s : Nat) : Int) ∧ (∃ bh ch m pv, hd = .slice (some ⟨bh, 0, none⟩) m ch ∧ Hid (m = done.length) ∧ Hid (Row 3 wr bh ch (vals (done.map (nth p)))) ∧ bo + 1 ≤ bh ∧ Hid (Row 65 wr bo 2 [.slice none 0 0, pv]) ∧ Hid (GX (bo + 1) wr pv (done.map (partI p)) bh) ∧ m ≤ s) ∧ Hid (done ++ cuts p f s = cutL p) ∧ Hid (p.length - s ≤ f) ∧ Hid (Row 65 wr br 2 [.slice none 0 0, .slice none 0 0]) ∧ Hid (Ext w wr)) (fun _ i _ => p.length - (intOf i).toNat)
  case atStart => exact ⟨0, p.length, [], Nat.zero_le _, rfl, ⟨bo + 1, 0, 0, _, rfl, Lib.hid rfl, HRh, Nat.le_refl _, HRo, GX.new _ _ _, Nat.le_refl _⟩, HCUT0, Lib.hid (Nat.sub_le _ _), HRr, HE4⟩
  case round =>
    obtain ⟨s, f, done, hs, rfl, ⟨bh, ch, m, pv, rfl, hm, hrh, hbh, hro, hgx, hms⟩, hcut, hf, hrr, he⟩ := hrel
    clear HRo HRh HRr HE4 HCUT0
    by_cases hlt : s < p.length
    · have hsI : (s : Int) < (p.length : Int) := by omega
      obtain ⟨g, rfl, hcs, hg⟩ := cuts_t hlt hf.out
      rw [hcs] at hcut
      have HG := Lib.hid hg
      have hlow := ivD_low p s (s + 1) (Nat.le_refl _)
      have HLOW := Lib.hid hlow.symm
      clear hcs hg hlow
      go_wp2_with fail
      obtain ⟨wq, hwq⟩ : ∃ wq, wq = wr := ⟨_, rfl⟩
      subst hwq
      go_loopw [8, 9] (fun t i wr => ∃ k q : Nat, s + 1 ≤ k ∧ k ≤ p.length ∧ i = .int .i64 ((k : Int) + 1) ∧ t = .int .i64 ((q : Nat) : Int) ∧ Hid (q = ivD p s k) ∧ s + 1 ≤ q ∧ q ≤ p.length ∧ Hid (Qt wq wr)) (fun _ i _ => p.length + 1 - (intOf i).toNat)
      case atStart => exact ⟨s + 1, s + 1, by omega, by omega, by rw [Value.int.injEq]; exact ⟨rfl, by push_cast; omega⟩, by go_num, HLOW, by omega, by omega, Qt.refl _⟩
      case round =>
        obtain ⟨k, q, hk1, hk2, rfl, rfl, hq, hq1, hq2, hqt⟩ := hrel
        by_cases hkn : k + 1 ≤ p.length
        · have g1 : (k : Int) + 1 ≤ (p.length : Int) := by omega
          have g2 : IntKind.i64.wrap ((k : Int) + 1 - (s : Int)) = (k : Int) + 1 - (s : Int) := IntWalk.i64_in _ (by omega)
          by_cases hg3 : k + 1 - s < p.length
          · have g3 : (k : Int) + 1 - (s : Int) < (p.length : Int) := by omega
            have hI := isInterval_ok _ p s (k + 1) wr (HH.out.ext (he.out.trans hqt.out.ext)) HP8.out (by omega) hkn h8
            rw [show ((k + 1 : Nat) : Int) = (k : Int) + 1 by push_cast; rfl] at hI
            have HI := Lib.hid hI
            clear hI
            cases hb : runB p s (k + 1)
            · have HQ : Hid (q = ivD p s (k + 1)) := by show _ = _; simp only [ivD, goodK, hb, Bool.and_false, cond_false]; exact hq.out
              have HB := Lib.hid hb
              clear hb
              go_wp2_with fail
              refine HI.out.mono ?_
              rintro e w6 ⟨rfl, q6⟩
              rw [HB.out]
              have HQT := Lib.hid (hqt.out.trans q6)
              clear q6
              go_wp2_with fail
              go_roundw
              case rel => exact ⟨k + 1, q, by omega, by omega, by rw [Value.int.injEq]; exact ⟨rfl, by push_cast; rfl⟩, rfl, HQ, hq1, hq2, HQT⟩
              case measure => simp [intOf]; omega
            · have HQ : Hid (k + 1 = ivD p s (k + 1)) := by show _ = _; simp only [ivD, goodK, hb, decide_eq_true (show s + 2 ≤ k + 1 by omega), decide_eq_true hg3, Bool.and_true, cond_true]
              have HB := Lib.hid hb
              clear hb
              go_wp2_with fail
              refine HI.out.mono ?_
              rintro e w6 ⟨rfl, q6⟩
              rw [HB.out]
              have HQT := Lib.hid (hqt.out.trans q6)
              clear q6
              go_wp2_with fail
              go_roundw
              case rel => exact ⟨k + 1, k + 1, by omega, by omega, by rw [Value.int.injEq]; exact ⟨rfl, by push_cast; rfl⟩, by go_num, HQ, by omega, by omega, HQT⟩
              case measure => simp [intOf]; omega
          · have g3 : ¬ (k : Int) + 1 - (s : Int) < (p.length : Int) := by omega
            have HQ : Hid (q = ivD p s (k + 1)) := by show _ = _; simp only [ivD, goodK, decide_eq_false hg3, Bool.false_and, Bool.and_false, cond_false]; exact hq.out
            go_wp2_with fail
            go_roundw
            case rel => exact ⟨k + 1, q, by omega, by omega, by rw [Value.int.injEq]; exact ⟨rfl, by push_cast; rfl⟩, rfl, HQ, hq1, hq2, hqt⟩
            case measure => simp [intOf]; omega
        · obtain rfl : k = p.length := by omega
          have g1 : ¬ (p.length : Int) + 1 ≤ (p.length : Int) := by omega
          have HIV : Hid (q = ivE p s) := hq.out
          have he' := Lib.hid (he.out.trans hqt.out.ext)
          have hrh' := Lib.hid (hrh.out.ext hqt.out.ext)
          have hro' := Lib.hid (hro.out.ext hqt.out.ext)
          have hrr' := Lib.hid (hrr.out.ext hqt.out.ext)
          have hgx' := Lib.hid (hgx.out.ext hqt.out.ext)
          obtain ⟨bq, offq, rfl, hcq⟩ := (HRI.out.ext he'.out).get hlt
          have hcell := hcq s hlt
          have HCQ := Lib.hid hcq
          obtain ⟨x, hx⟩ : ∃ x, x = nth p s := ⟨_, rfl⟩
          have HX := Lib.hid hx
          rw [← hx] at hcell
          have hml : Hid (m = (done.map (nth p)).length) := by show _ = _; rw [List.length_map]; exact hm.out
          have hmb : Hid ((done.map (nth p)).length ≤ 1000000000) := by show _ ≤ _; rw [← hml.out]; omega
          have hwz := he'.out.size
          clear hcq hx hrh hro hrr hgx he hqt hq
          go_wp2_with (at_builtin; go_loud (refine wpl_app1 rfl (.tmp 74) (.tmp 79) rfl bh ch m _ x rfl hrh'.out hml.out rfl hmb.out ?_); intro b6 c6 w6 hr6 hb6 hu6)
          have hz6 := hu6.size
          have HRH : Hid (Row 3 w6 b6 c6 (vals ((done ++ [s]).map (nth p)))) := by
            rw [HX.out] at hr6
            show Row _ _ _ _ _
            rw [List.map_append]; exact hr6
          have hb6' : b6 = bh ∨ wr.heap.size ≤ b6 := by rcases hb6 with e | e <;> omega
          have hb6o : bo + 1 ≤ b6 := by have := hro'.out.lt; rcases hb6' with e | e <;> omega
          have HGX := Lib.hid (hgx'.out.heads hrh'.out hu6 hb6')
          have HRO := Lib.hid (hro'.out.upd hu6 (fun e => by omega))
          have HRR := Lib.hid (hrr'.out.upd hu6 (fun e => by omega))
          have HE6 := Lib.hid (he'.out.upd1 hu6 (by omega))
          obtain ⟨bq', offq', eq', hcq'⟩ := (HRI.out.ext HE6.out).get hlt
          obtain ⟨rfl, rfl⟩ : bq = bq' ∧ offq = offq' := by simpa using eq'
          obtain ⟨sg, hsg⟩ : ∃ sg, sg = seg p s q := ⟨_, rfl⟩
          have hsl : sg.length = q - s := by rw [hsg]; exact seg_len hq2
          have hseg : SI w6 (.slice (some ⟨bq, offq + s, none⟩) (q - s) (cap - s)) sg := by
            have := SI.seg (w := w6) (b := bq) (off := offq) (cap := cap) (xs := p) hcq' s (q - s) (by omega) hc1 hc2
            rw [hsg]; exact this
          have HPART : Hid (patL sg = partI p s) := by show _ = _; unfold partI; rw [hsg, HIV.out]
          have HPAT := Lib.hid (fun W (hW : Ext w6 W) => pattern_ok _ sg W (hseg.ext hW) (by omega))
          have hpl := patL_len sg
          have hb6l := HRH.out.lt
          have HSL : Hid ((patL sg).length = q - s) := by show _ = _; rw [hpl, hsl]
          have d1 := HRO.out.cell (j := 1) rfl
          have hml2 : Hid ((done.map (partI p)).length = m) := by show _ = _; rw [List.length_map]; exact hm.out.symm
          have hmb2 : Hid ((done.map (partI p)).length ≤ 1000000) := by show _ ≤ _; rw [hml2.out]; omega
          have i1 : (s : Int) ≤ (q : Int) := by omega
          have i2 : (q : Int) ≤ (cap : Int) := by omega
          have i3 : (s : Int) ≤ (cap : Int) := by omega
          have i4 : ¬ cap = s := by omega
          have i5 : q ≤ cap := by omega
          have i6 : s ≤ q := by omega
          have i7 : (q : Int) ≤ (p.length : Int) := by omega
          have hbo6 := HRO.out.lt
          have HLEN : Hid (sg.length = q - s) := hsl
          rw [hsl] at HPAT
          clear hcq' eq' hsg hsl hseg hpl
          go_region_law (first
            | (go_simp; go_at_call 96; refine (HPAT.out _ (by first | exact (Ext.refl _).drew)).mono ?_; rintro e w7 ⟨b7, c7, rfl, hb7, hr7, he7⟩; have hE7 : Hid (Ext w6 w7) := ((Ext.refl w6).drew).trans he7; have d17 := hE7.out.cell d1; have q1 := fun (o : Obj) => Ext.cell (show Ext w7 (w7.alloc o) from (Ext.refl _).alloc _) d17; have HR7 := Lib.hid hr7; have hb7' : w6.heap.size ≤ b7 := hb7; have hz7 := hE7.out.size)
            | (go_loud (refine step_app1X (by rfl) (.tmp 82) (.tmp 88) (by rfl) (bo + 1) pv (done.map (partI p)) b6 (.slice (some ⟨b7, 0, none⟩) (q - s) c7) (patL sg) (by rfl) ((HGX.out.ext hE7.out).ext ((Ext.refl _).alloc _)) (by simp; omega) _ (by rfl) (World.cell?_alloc_at _ _ _ _ rfl) (OI.row (HR7.out.ext ((Ext.refl _).alloc _)) (by omega) HSL.out.symm) (by simp [Value.ownBlock]; omega) hmb2.out ?_); intro b8 c8 w8 hg8 hu8; have HU8 : Hid (Upd (fun k => pv.ownBlock = some k) w6 w8) := (Ext.toUpd (hE7.out.alloc _) _).trans hu8; have HRO8 := Lib.hid (HRO.out.upd HU8.out (fun e => by have := HGX.out.lo e; omega)); have d18 := HRO8.out.cell (j := 1) rfl; have f18 := HRO8.out.free 1 none))
          all_goals
            rw [List.length_map] at hg8
            have HGX8 := Lib.hid hg8
            have hz8 := HU8.out.size
            have s9 := Upd.setCell w8 ⟨bo, 1, none⟩ (.slice (some ⟨b8, 0, none⟩) (done.length + 1) c8)
            have HRO9 : Hid (Row 65 (w8.setCell ⟨bo, 1, none⟩ (.slice (some ⟨b8, 0, none⟩) (done.length + 1) c8)) bo 2 [.slice none 0 0, .slice (some ⟨b8, 0, none⟩) (done.length + 1) c8]) := HRO8.out.set 1 _
            have HRR9 := Lib.hid ((HRR.out.upd HU8.out (fun e => by have := HGX.out.lo e; omega)).upd s9 (fun e => by have e2 : br = bo := e; omega))
            have HRH9 := Lib.hid ((HRH.out.upd HU8.out (fun e => HGX.out.offInt HRH.out e)).upd s9 (fun e => by have e2 : b6 = bo := e; omega))
            have HGX9 : Hid (GX (bo + 1) (w8.setCell ⟨bo, 1, none⟩ (.slice (some ⟨b8, 0, none⟩) (done.length + 1) c8)) (.slice (some ⟨b8, 0, none⟩) (done.length + 1) c8) ((done ++ [s]).map (partI p)) b6) := by
              show GX _ _ _ _ _
              have h := HGX8.out.below s9 (fun k e => by have e2 : k = bo := e; omega)
              rw [List.map_append, show [s].map (partI p) = [patL sg] from by rw [HPART.out]; rfl]
              exact h
            have HE9 := Lib.hid ((HE6.out.upd HU8.out (fun i e => by have := HGX.out.lo e; omega)).upd1 s9 (show w.heap.size ≤ bo by omega))
            have HCUT9 : Hid ((done ++ [s]) ++ cuts p g (ivE p s) = cutL p) := by show _ = _; rw [List.append_assoc]; exact hcut.out
            have HM9 : Hid (m + 1 = (done ++ [s]).length) := by show _ = _; rw [List.length_append, ← hm.out]; rfl
            rw [← HIV.out] at HCUT9 HG
            clear hg8 hu8 s9 d18 f18 d17 d1 q1
            go_wp2_with fail
            go_roundw
            case rel => exact ⟨q, g, done ++ [s], by omega, by go_num, ⟨b6, c6, m + 1, _, rfl, HM9, HRH9, hb6o, HRO9, HGX9, by omega⟩, HCUT9, HG, HRR9, HE9⟩
            case measure => simp [intOf]; omega
    · obtain rfl : s = p.length := by omega
      have HD : Hid (done = cutL p) := by
        have h := hcut.out
        rw [cuts_f (Nat.lt_irrefl _), List.append_nil] at h; exact h
      have hml : (done.map (nth p)).length = m := by rw [List.length_map]; exact hm.out.symm
      obtain ⟨ap, cp, hpv⟩ := hgx.out.shape
      rw [List.length_map] at hpv
      subst hpv
      have hsi := hrh.out.si
      rw [hml] at hsi
      have HSI := Lib.hid hsi
      have HML := Lib.hid hml
      have hbo6 := hro.out.lt
      clear hsi hml
      go_wp2_with fail
      refine (pattern_ok _ (done.map (nth p)) _ HSI.out (by rw [HML.out]; omega)).mono ?_
      rintro e w7 ⟨b7, c7, rfl, hb7, hr7, h7⟩
      have HR7 := Lib.hid hr7
      have hz7 := h7.size
      have hro7 := hro.out.ext h7
      have hrr7 := hrr.out.ext h7
      have HRO7 := Lib.hid hro7
      have HRR7 := Lib.hid hrr7
      have d0 := hro7.cell (j := 0) rfl
      have d1 := hro7.cell (j := 1) rfl
      have f0 := hro7.free 0 none
      have e0 := hrr7.cell (j := 0) rfl
      have e1 := hrr7.cell (j := 1) rfl
      have g0 := hrr7.free 0 none
      have g1 := hrr7.free 1 none
      have HGX7 := Lib.hid (hgx.out.ext h7)
      have HE7 := Lib.hid (he.out.trans h7)
      have hbb : bo ≠ br := by omega
      have hbb2 : br ≠ bo := by omega
      clear hr7 h7 hro7 hrr7
      go_wp2_with fail
      have t1 := Upd.setCell w7 ⟨bo, 0, none⟩ (.slice (some ⟨b7, 0, none⟩) done.length c7)
      have hrr8 : Row 65 (w7.setCell ⟨bo, 0, none⟩ (.slice (some ⟨b7, 0, none⟩) done.length c7)) br 2 [.slice none 0 0, .slice none 0 0] := HRR7.out.upd t1 (fun e => by have e2 : br = bo := e; omega)
      have t2 := Upd.setCell (w7.setCell ⟨bo, 0, none⟩ (.slice (some ⟨b7, 0, none⟩) done.length c7)) ⟨br, 0, none⟩ (.slice (some ⟨b7, 0, none⟩) done.length c7)
      have hrr9 := (hrr8.set 0 (.slice (some ⟨b7, 0, none⟩) done.length c7)).set 1 (.slice ap done.length cp)
      have t3 := Upd.setCell ((w7.setCell ⟨bo, 0, none⟩ (.slice (some ⟨b7, 0, none⟩) done.length c7)).setCell ⟨br, 0, none⟩ (.slice (some ⟨b7, 0, none⟩) done.length c7)) ⟨br, 1, none⟩ (.slice ap done.length cp)
      have T : Upd (fun k => k = bo ∨ k = br) w7 (((w7.setCell ⟨bo, 0, none⟩ (.slice (some ⟨b7, 0, none⟩) done.length c7)).setCell ⟨br, 0, none⟩ (.slice (some ⟨b7, 0, none⟩) done.length c7)).setCell ⟨br, 1, none⟩ (.slice ap done.length cp)) :=
        ((t1.mono (fun i _ e => .inl e)).comp t2 (fun _ _ h => h) (fun i _ e => .inr e)).comp t3 (fun _ _ h => h) (fun i _ e => .inr e)
      have HT := Lib.hid T
      have HR9 := Lib.hid hrr9
      clear t1 t2 t3 T hrr8 hrr9
      (try simp only [Exit.inBlock, Exit.then])
      refine bodyPost_ret (ret_infl rfl _ _ br rfl _ _ HR9.out) rfl ?_
      have hz9 := HT.out.size
      refine ⟨_, _, rfl, ?_, ?_, HE7.out.upd HT.out (fun i e => by rcases e with e | e <;> omega)⟩
      · rw [HSR.out, ← HD.out]
        have h := HR7.out.upd HT.out (fun e => by rcases e with e | e <;> omega)
        exact OI.row h (by omega) (by rw [patL_len, List.length_map])
      · rw [HSQ.out, ← HD.out]
        exact (HGX7.out.below HT.out (fun k e => by rcases e with e | e <;> omega)).gi.mono (by omega)
end Go.Proofs.Ytcifngcmdiokpaa
