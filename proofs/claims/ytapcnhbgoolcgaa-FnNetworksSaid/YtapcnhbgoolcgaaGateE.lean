/- Contract of the draw of a network. Conditions: none. -/
import Derived.Test.YtapcnhbgoolcgaaGateC
import Derived.Deep.Cut
import Derived.Deep.CutRange
import Derived.Deep.RegionLaw
namespace Go.Proofs.Ytapcnhbgoolcgaa
open Go.RowKit

def NetPost (bc : Nat) (w : World) (e : Ending) (w' : World) : Prop :=
  ∃ (n : Nat) (v : Value) (gs : List (List Int)), e = .returned (.tuple #[.int .i64 (n : Int), v]) ∧ 1 ≤ n ∧ n ≤ 6 ∧ GI w.heap.size w' v gs ∧ gs.length ≤ 300 ∧ small gs ∧ Cur bc w' ∧ Upd (· = bc) w w'
def OnceR (bc l : Nat) (wd : World) (v : Value) (wx : World) : Prop := ∃ x : Bool, v = .bool x ∧ (x = true → 1 ≤ l) ∧ Cur bc wx ∧ Upd (· = bc) wd wx
theorem Cur.updD {bc : Nat} {D : Nat → Prop} {w w' : World} (h : Cur bc w) (hu : Upd D w w') (hD : ∀ i, i ≤ bc → ¬ D i) : Cur bc w' := by
  obtain ⟨t, a, n, cap, i, g, hr, h1, h2, h3⟩ := h
  exact ⟨t, a, n, cap, i, g, hr.upd hu (hD bc (Nat.le_refl _)), h1, h2, h3.upd hu (fun _ _ _ hne => hD _ (by omega))⟩
theorem GR.drop {B : Nat} {w : World} {b cap : Nat} {xss : List (List Int)} (h : GR B w b cap xss) (k : Nat) :
    ∃ us : List Value, us.length = (xss.drop k).length ∧ (∀ i, i < (xss.drop k).length → OI B w.heap.size w (nthV us i) (nthL (xss.drop k) i)) ∧
      (∀ j u, us[j]? = some u → w.cell? ((⟨b, k, none⟩ : Addr).add j) = some u) ∧ ∀ u ∈ us, u.oneCell' = true := by
  obtain ⟨vs, h1, h2, h3, h4⟩ := h
  have hd : ∀ i, nthV (vs.drop k) i = nthV vs (k + i) := fun i => by simp [nthV, List.getElem?_drop]
  refine ⟨vs.drop k, by simp [h2], fun i hi => ?_, fun j u hj => ?_, fun u hu => ?_⟩
  · rw [hd, nthL_drop]; exact (h4 (k + i) (by simp at hi; omega)).1
  · rw [Addr.add_lit]; exact h1.cell (by rw [List.getElem?_drop] at hj; exact hj)
  · have := List.mem_of_mem_drop hu
    obtain ⟨i, hi, rfl⟩ := List.getElem_of_mem this
    have e : vs[i] = nthV vs i := by simp [nthV, hi]
    rw [e]; exact (h4 i (by omega)).1.one
theorem small.snoc {xss : List (List Int)} {ys : List Int} (h : small xss) (hy : ys.length ≤ 10000000) : small (xss ++ [ys]) := by
  intro xs hx
  rcases List.mem_append.1 hx with e | e
  · exact h xs e
  · obtain rfl : xs = ys := by simpa using e
    exact hy
theorem bri_len {n : Nat} (h : n ≤ 8) : (brI (n : Int)).length ≤ 100 := by
  unfold brI
  split
  · exact Nat.le_trans (brTo_len _ _ (by omega)) (by omega)
  · simp
set_option maxHeartbeats 8000000 in
set_option maxRecDepth 30000 in
theorem l26Draw_ok (bc : Nat) (w : World) (h : Cur bc w) : Calls Try.prog 42 #[.pointer (some ⟨bc, 0, none⟩)] w (NetPost bc w) := by
  have hbc := h.lt
  go_enter Try.func42, Try.ntmps42
  go_wp2_with fail
  refine (l1Below_ok bc 6 _ h (by omega) (by omega)).mono ?_
  rintro e w1 ⟨x, hx, rfl, hc1, hu1⟩
  have hz1 := hu1.size
  obtain ⟨n, hn⟩ : ∃ n : Nat, n = x + 1 := ⟨_, rfl⟩
  have f1 : IntKind.i64.wrap (1 + (x : Int)) = (n : Int) := by rw [IntWalk.i64_in _ (by omega)]; omega
  have hn1 : 1 ≤ n := by omega
  have hn6 : n ≤ 6 := by omega
  clear h hn hx
  go_wp2_with fail
  refine (spec_BrickNetwork_ok _ _ (by unfold I64; omega)).mono ?_
  rintro e w2 ⟨vB, rfl, hB, he2⟩
  have hz2 := he2.size
  have hc2 := hc1.ext he2
  have hU2 : Upd (· = bc) w w2 := hu1.comp he2 (fun _ _ h => h) (fun i hi e => by cases e)
  have hG : ∃ gs, GI w.heap.size w2 vB gs ∧ gs.length ≤ 100 ∧ Hid (small gs) :=
    ⟨_, (hB.gi (Nat.le_refl _)).mono hz1, bri_len (by omega), (bound_BrickNetwork (n : Int)).2.1⟩
  obtain ⟨gB, hG, hGl, hGs⟩ := hG
  have HG := Lib.hid hG
  clear f1 hB he2 hc1 hu1 hG
  go_upto_if 16 with (go_at_call 52; refine (l1Once_ok bc 2 _ hc2 (by omega) (by omega)).mono ?_; rintro e w3 ⟨t, rfl, hc3, hu3⟩)
  have hz3 := hu3.size
  have hU3 := hU2.trans hu3
  have HG3 := Lib.hid (HG.out.upd hu3 (fun k hk e => by omega))
  clear HG hc2 hU2
  go_cut [5] from 6 to 46 (fun v wx => ∃ gs, GI w.heap.size wx v gs ∧ gs.length ≤ 100 ∧ Hid (small gs) ∧ Cur bc wx ∧ Upd (· = bc) w wx)
  case first =>
    cases t
    · go_wp2_with fail
      go_meet
      case rel => exact ⟨gB, HG3.out, hGl, hGs, hc3, hU3⟩
    · have he4 : Ext w3 (w3.alloc (.cells #[] 28)) := Upd.alloc _ _ _
      have hc4 := hc3.ext he4
      have hr4 := GR.new w.heap.size w3 (by omega)
      have hU4 : Upd (· = bc) w (w3.alloc (.cells #[] 28)) := hU3.comp he4 (fun _ _ h => h) (fun i hi e => by cases e)
      have hz4 := he4.size
      go_wp2_with fail
      refine (l1Below_ok bc 12 _ hc4 (by omega) (by omega)).mono ?_
      rintro e w5 ⟨c, hcl, rfl, hc5, hu5⟩
      have hU5 := hU4.trans hu5
      have hr5 := hr4.upd hu5 (fun k hk e => by omega)
      have hz5 := hu5.size
      clear he4 hr4 hU4 hc4 HG3 hc3 hU3
      go_wp2_with fail
      go_loopw [5, 7, 8] (fun o i _ wr => ∃ k : Nat, k ≤ c ∧ i = .int .i64 k ∧ (∃ b cp gs, o = .slice (some ⟨b, 0, none⟩) k cp ∧ Hid (k = gs.length) ∧ GR w.heap.size wr b cp gs ∧ Hid (small gs)) ∧ Cur bc wr ∧ Upd (· = bc) w wr) (fun _ i _ _ => c - (intOf i).toNat)
      case atStart => exact ⟨0, Nat.zero_le _, rfl, ⟨_, 0, [], rfl, Lib.hid rfl, hr5, fun xs h => by simp at h⟩, hc5, hU5⟩
      case round =>
        obtain ⟨k, hk, rfl, ⟨b, cp, gs, rfl, hgl, hr, hgs⟩, hc, hU⟩ := hrel
        have hzr := hU.size
        have HR := Lib.hid hr
        clear hr hr5
        by_cases hkc : k < c
        · by_cases hn2 : 1 < n
          · have g1 : IntKind.i64.wrap ((n : Int) - 1) = (n : Int) - 1 := IntWalk.i64_in _ (by omega)
            have hnI : (1 : Int) < (n : Int) := by omega
            go_wp2_with fail
            refine (l1Below_int bc _ _ hc (by omega) (by omega)).mono ?_
            rintro e w6 ⟨y, hy, rfl, hc6, hu6⟩
            obtain ⟨z, hz⟩ : ∃ z : Nat, z = y + 1 := ⟨_, rfl⟩
            have g2 : IntKind.i64.wrap (1 + (y : Int)) = (z : Int) := by rw [IntWalk.i64_in _ (by omega)]; omega
            have g3 : IntKind.i64.wrap ((z : Int) + 1) = (z : Int) + 1 := IntWalk.i64_in _ (by omega)
            have g4 : IntKind.i64.wrap ((n : Int) - (z : Int)) = (n : Int) - (z : Int) := IntWalk.i64_in _ (by omega)
            have hz1 : 1 ≤ z := by omega
            have hz2 : (z : Int) < (n : Int) := by omega
            have hzz := hu6.size
            have HR6 := Lib.hid (HR.out.upd hu6 (fun k hk e => by omega))
            have HU6 := Lib.hid (hU.trans hu6)
            clear hz hy hc g1 HR hU
            go_wp2_with fail
            refine (l1Below_int bc _ _ hc6 (by omega) (by omega)).mono ?_
            rintro e w7 ⟨q, hq, rfl, hc7, hu7⟩
            have hz7 := hu7.size
            have HR7 := Lib.hid (HR6.out.upd hu7 (fun k hk e => by omega))
            have HU7 := Lib.hid (HU6.out.trans hu7)
            obtain ⟨r, hr⟩ : ∃ r : Int, r = (z : Int) + 1 + (q : Int) := ⟨_, rfl⟩
            have g5 : IntKind.i64.wrap ((z : Int) + 1 + (q : Int)) = r := by rw [IntWalk.i64_in _ (by omega)]; omega
            clear HR6 HU6 hc6 hr g2
            go_wp2_with (at_builtin; go_loud (refine wpl_appLitGI rfl _ _ rfl w.heap.size (.slice (some ⟨b, 0, none⟩) k cp) _ _ gs [(z : Int), r] rfl (HR7.out.gi hgl.out) (by omega) (by simp) rfl rfl rfl (by rw [← hgl.out]; omega) ?_); intro b8 c8 w8 hr8 hu8)
            have hlo := HR7.out.lo
            have hu9 : Upd (· = b) w7 w8 := hu8.mono (fun i _ e => by simp [Value.ownBlock] at e; exact e.symm)
            go_roundw
            case rel => exact ⟨k + 1, by omega, by go_num, ⟨b8, c8, _, by rw [← hgl.out], Lib.hid (by simp [← hgl.out]), hr8, hgs.out.snoc (by simp)⟩, hc7.upd hu9 (by omega), HU7.out.comp hu9 (fun _ _ h => h) (fun i hi e => by omega)⟩
            case measure => simp [intOf]; omega
          · have hnI : ¬ (1 : Int) < (n : Int) := by omega
            have hkI : (k : Int) < (c : Int) := by omega
            clear hkc
            go_wp2_with fail
            go_meet
            case rel => exact ⟨gs, HR.out.gi hgl.out, by rw [← hgl.out]; omega, hgs, hc, hU⟩
        · have hkI : ¬ (k : Int) < (c : Int) := by omega
          clear hkc
          go_wp2_with fail
          go_meet
          case rel => exact ⟨gs, HR.out.gi hgl.out, by rw [← hgl.out]; omega, hgs, hc, hU⟩
  case rest =>
    obtain ⟨gs, hG, hGl, hGs, hc, hU⟩ := hcut
    obtain ⟨wd, hwd⟩ : ∃ wd, wd = wc := ⟨_, rfl⟩
    subst hwd
    have HG := Lib.hid hG
    have hzd := hU.size
    clear hG hc3 hU3 HG3 hu3 hz3
    obtain ⟨av, cv, hv, -⟩ := HG.out.sii.elim
    subst hv
    have hlI : (gs.length : Int) ≤ 100 := by omega
    go_upto_region 11 with fail
    go_cut [53] from 47 to 53 (fun v wx => OnceR bc gs.length wd v wx)
    case first =>
      by_cases hg0 : gs.length = 0
      · have hgI : ¬ (0 : Int) < (gs.length : Int) := by omega
        clear hg0
        go_wp2_with fail
        go_meet
        case rel => exact ⟨false, rfl, (fun e => by cases e), hc, Upd.refl _ _⟩
      · have hgI : (0 : Int) < (gs.length : Int) := by omega
        clear hg0
        go_wp2_with (go_at_call 52; refine (l1Once_ok bc 3 _ hc (by omega) (by omega)).mono ?_; rintro e w4 ⟨t4, rfl, hc4, hu4⟩)
        go_meet
        case rel => exact ⟨t4, rfl, fun _ => by omega, hc4, hu4⟩
    case rest =>
      obtain ⟨x, rfl, hx, hc4, hu4⟩ := hcut
      have hz4 := hu4.size
      have hU4 := hU.trans hu4
      have HG4 := Lib.hid (HG.out.upd hu4 (fun k hk e => by omega))
      clear HG hc hU hu4
      go_upto_if 53 with fail
      go_cut [5] from 54 to 66 (fun v wx => ∃ gs, GI w.heap.size wx v gs ∧ gs.length ≤ 200 ∧ Hid (small gs) ∧ Cur bc wx ∧ Upd (· = bc) w wx)
      case first =>
        cases x
        · go_wp2_with fail
          go_meet
          case rel => exact ⟨gs, HG4.out, by omega, hGs, hc4, hU4⟩
        · have hx1 := hx rfl
          clear hx
          have hG4 := HG4.out
          clear HG4
          rcases hG4 with ⟨_, e2⟩ | ⟨b, cp, e1, hr4⟩
          · rw [e2] at hx1; simp at hx1
          · injection e1 with e1 _ e2
            subst e1 e2
            have HR4 := Lib.hid hr4
            clear hr4
            go_wp2_with fail
            refine (l1Below_ok bc gs.length _ hc4 hx1 (by omega)).mono ?_
            rintro e w5 ⟨q, hq, rfl, hc5, hu5⟩
            have hz5 := hu5.size
            have hU5 := hU4.trans hu5
            have HR5 := Lib.hid (HR4.out.upd hu5 (fun k hk e => by omega))
            clear HR4 hU4 hc4 hu5
            go_upto_region 13 with fail
            have hcp := HR5.out.le
            have i1 : (q : Int) < (gs.length : Int) := by omega
            have i2 : (q : Int) + 1 ≤ (gs.length : Int) := by omega
            have i3 : (gs.length : Int) ≤ (cv : Int) := by omega
            have g1 : IntKind.i64.wrap ((q : Int) + 1) = (q : Int) + 1 := IntWalk.i64_in _ (by omega)
            have hs5 := Lib.hid (HR5.out.take (k := q) (by omega))
            have hDs : Hid (small (gs.take q)) := fun xs hx => hGs.out xs (List.mem_of_mem_take hx)
            have hDl : Hid ((gs.take q).length = q) := by show _ = _; rw [List.length_take]; omega
            obtain ⟨D, hD⟩ : ∃ D, D = gs.take q := ⟨_, rfl⟩
            rw [← hD] at hs5 hDs hDl
            have hD9 : D.length ≤ 100 := by have := hDl.out; omega
            clear hD
            have n1 : q ≤ cv := by omega
            have i5 : (q : Int) ≤ (q : Int) + 1 := by omega
            have i4 : (q : Int) ≤ (cv : Int) := by omega
            have i6 : (q : Int) + 1 ≤ (cv : Int) := by omega
            have n2 : q + 1 ≤ gs.length := by omega
            have n3 : q + 1 ≤ cv := by omega
            have t1 : ((q : Int) + 1).toNat = q + 1 := by omega
            have t2 : (0 : Int) ≤ (q : Int) + 1 := by omega
            by_cases hcq : cv = q + 1
            · obtain rfl : cv = q + 1 := hcq
              go_region_law (first
                | (go_simp; go_at_call 64; refine (l2Copy_ok _ D _ (hs5.out.ext (by first | exact (Ext.refl _).drewN _ | exact (Ext.refl _).drew | exact ((Ext.refl _).drew.drewN _))) (by omega) hDs.out).mono ?_; rintro e w7 ⟨b7, c7, rfl, hr7, he7⟩; have hb7 := hr7.lo; have hE7 : Hid (Ext w5 w7) := (by first | exact ((Ext.refl _).drewN _).trans he7 | exact (Ext.refl _).drew.trans he7 | exact ((Ext.refl _).drew.drewN _).trans he7); have hz7 := hE7.out.size; have hw7 : w5.heap.size ≤ b7 := (by first | exact hb7 | exact Nat.le_trans ((Ext.refl w5).drewN _).size hb7 | exact Nat.le_trans (Ext.refl w5).drew.size hb7 | exact Nat.le_trans ((Ext.refl w5).drew.drewN _).size hb7); have hG7 : GR w.heap.size w7 b7 c7 D := hr7.mono (by first | exact Nat.le_trans (show w.heap.size ≤ w5.heap.size by omega) ((Ext.refl w5).drewN _).size | exact Nat.le_trans (show w.heap.size ≤ w5.heap.size by omega) (Ext.refl w5).drew.size | exact Nat.le_trans (show w.heap.size ≤ w5.heap.size by omega) ((Ext.refl w5).drew.drewN _).size))
                | (go_loud (refine step_appGR (by rfl) (.tmp 61) (.tmp 65) (by rfl) w.heap.size b7 c7 D.length 0 0 D [] [] ⟨b, 0, none⟩ (by rfl) rfl (hG7.ext (by first | exact Ext.refl _ | exact (Ext.refl _).drewN _ | exact (Ext.refl _).drew | exact ((Ext.refl _).drew.drewN _))) (by rfl) rfl rfl (fun i hi => by simp at hi) (fun j u hj => by simp at hj) (fun u hu => by simp at hu) (by first | omega | exact Nat.le_trans (show w.heap.size ≤ w7.heap.size by omega) ((Ext.refl w7).drewN _).size | exact Nat.le_trans (show w.heap.size ≤ w7.heap.size by omega) (Ext.refl w7).drew.size | exact Nat.le_trans (show w.heap.size ≤ w7.heap.size by omega) ((Ext.refl w7).drew.drewN _).size) (by omega) (by simp) ?_); intro b8 c8 w8 hr8 hb8 hu8; have hu9 : Upd (· = b7) w7 w8 := (by first | exact (Ext.refl w7).comp hu8 (fun _ _ h => by cases h) (fun _ _ h => h) | exact ((Ext.refl w7).drewN _).comp hu8 (fun _ _ h => by cases h) (fun _ _ h => h) | exact (Ext.refl w7).drew.comp hu8 (fun _ _ h => by cases h) (fun _ _ h => h) | exact ((Ext.refl w7).drew.drewN _).comp hu8 (fun _ _ h => by cases h) (fun _ _ h => h))))
              all_goals
                have hC8 := (hc5.ext hE7.out).updD hu9 (fun i hi e => by omega)
                have hU8 : Upd (· = bc) w w8 := (hU5.comp hE7.out (D' := (· = bc)) (fun _ _ h => h) (fun i hi e => by cases e)).comp hu9 (fun _ _ h => h) (fun i hi e => by omega)
                have hR8 := Lib.hid hr8
                clear hr8 hu9 hu8 hb8 hr7 he7 hE7 hb7 hG7
                go_wp2_with fail
                go_meet
                case rel => exact ⟨D ++ [], hR8.out.gi (by simp), by simp; omega, by simpa using hDs, hC8, hU8⟩
            · obtain ⟨us, hul, huo, huc, hus⟩ := HR5.out.drop (q + 1)
              have hRl : Hid (gs.length - (q + 1) = (gs.drop (q + 1)).length) := by show _ = _; rw [List.length_drop]
              have hRs : Hid (small (gs.drop (q + 1))) := fun xs hx => hGs.out xs (List.mem_of_mem_drop hx)
              obtain ⟨R, hR⟩ : ∃ R, R = gs.drop (q + 1) := ⟨_, rfl⟩
              rw [← hR] at hul huo hRl hRs
              have HUL := Lib.hid hul
              have HUO := Lib.hid huo
              have HUC := Lib.hid huc
              have HUS := Lib.hid hus
              have hR9 : R.length ≤ 100 := by have := hRl.out; omega
              clear hul huo huc hus hR
              go_region_law (first
                | (go_simp; go_at_call 64; refine (l2Copy_ok _ D _ (hs5.out.ext (by first | exact (Ext.refl _).drewN _ | exact (Ext.refl _).drew | exact ((Ext.refl _).drew.drewN _))) (by omega) hDs.out).mono ?_; rintro e w7 ⟨b7, c7, rfl, hr7, he7⟩; have hb7 := hr7.lo; have hE7 : Hid (Ext w5 w7) := (by first | exact ((Ext.refl _).drewN _).trans he7 | exact (Ext.refl _).drew.trans he7 | exact ((Ext.refl _).drew.drewN _).trans he7); have hz7 := hE7.out.size; have hw7 : w5.heap.size ≤ b7 := (by first | exact hb7 | exact Nat.le_trans ((Ext.refl w5).drewN _).size hb7 | exact Nat.le_trans (Ext.refl w5).drew.size hb7 | exact Nat.le_trans ((Ext.refl w5).drew.drewN _).size hb7); have hG7 : GR w.heap.size w7 b7 c7 D := hr7.mono (by first | exact Nat.le_trans (show w.heap.size ≤ w5.heap.size by omega) ((Ext.refl w5).drewN _).size | exact Nat.le_trans (show w.heap.size ≤ w5.heap.size by omega) (Ext.refl w5).drew.size | exact Nat.le_trans (show w.heap.size ≤ w5.heap.size by omega) ((Ext.refl w5).drew.drewN _).size))
                | (go_loud (refine step_appGR (by rfl) (.tmp 61) (.tmp 65) (by rfl) w.heap.size b7 c7 D.length (gs.length - (q + 1)) (cv - (q + 1)) D R us ⟨b, q + 1, none⟩ (by rfl) rfl (hG7.ext (by first | exact Ext.refl _ | exact (Ext.refl _).drewN _ | exact (Ext.refl _).drew | exact ((Ext.refl _).drew.drewN _))) (by rfl) hRl.out HUL.out (fun i hi => ⟨((HUO.out i hi).ext (by first | exact hE7.out | exact (hE7.out).drewN _ | exact (hE7.out).drew | exact (hE7.out).drew.drewN _)).mono (Nat.le_refl _) (Upd.size (by first | exact hE7.out | exact (hE7.out).drewN _ | exact (hE7.out).drew | exact (hE7.out).drew.drewN _)), fun e => by have := ((HUO.out i hi).own e).2; omega⟩) (fun j u hj => Ext.cell (by first | exact hE7.out | exact (hE7.out).drewN _ | exact (hE7.out).drew | exact (hE7.out).drew.drewN _) (HUC.out j u hj)) HUS.out (by first | omega | exact Nat.le_trans (show w.heap.size ≤ w7.heap.size by omega) ((Ext.refl w7).drewN _).size | exact Nat.le_trans (show w.heap.size ≤ w7.heap.size by omega) (Ext.refl w7).drew.size | exact Nat.le_trans (show w.heap.size ≤ w7.heap.size by omega) ((Ext.refl w7).drew.drewN _).size) (by omega) (by omega) ?_); intro b8 c8 w8 hr8 hb8 hu8; have hu9 : Upd (· = b7) w7 w8 := (by first | exact (Ext.refl w7).comp hu8 (fun _ _ h => by cases h) (fun _ _ h => h) | exact ((Ext.refl w7).drewN _).comp hu8 (fun _ _ h => by cases h) (fun _ _ h => h) | exact (Ext.refl w7).drew.comp hu8 (fun _ _ h => by cases h) (fun _ _ h => h) | exact ((Ext.refl w7).drew.drewN _).comp hu8 (fun _ _ h => by cases h) (fun _ _ h => h))))
              all_goals
                have hC8 := (hc5.ext hE7.out).updD hu9 (fun i hi e => by omega)
                have hU8 : Upd (· = bc) w w8 := (hU5.comp hE7.out (D' := (· = bc)) (fun _ _ h => h) (fun i hi e => by cases e)).comp hu9 (fun _ _ h => h) (fun i hi e => by omega)
                have hR8 := Lib.hid hr8
                clear hr8 hu9 hu8 hb8 hr7 he7 hE7 hb7 hG7
                go_wp2_with fail
                go_meet
                case rel => exact ⟨D ++ R, hR8.out.gi (by rw [List.length_append, ← hRl.out]), by simp; omega, fun xs hx => (List.mem_append.1 hx).elim (hDs.out xs) (hRs.out xs), hC8, hU8⟩
      case rest =>
        obtain ⟨gs5, hG5, hGl5, hGs5, hc5, hU5⟩ := hcut
        obtain ⟨we, hwe⟩ : ∃ we, we = wc := ⟨_, rfl⟩
        subst hwe
        have hz5 := hU5.size
        obtain ⟨av5, cv5, hv, -⟩ := hG5.sii.elim
        subst hv
        have HG5 := Lib.hid hG5
        clear hG5 HG4 hc4 hU4 hx
        have hlI5 : (gs5.length : Int) ≤ 200 := by omega
        go_wp2_with fail
        refine (l1Once_ok bc 14 _ hc5 (by omega) (by omega)).mono ?_
        rintro e w6 ⟨t, rfl, hc6, hu6⟩
        have hz6 := hu6.size
        have HU6 := Lib.hid (hU5.trans hu6)
        have HG6 := Lib.hid (HG5.out.upd hu6 (fun k hk e => by omega))
        clear hc5 hU5 HG5
        cases t
        · go_wp2_with fail
          go_ret2
          exact ⟨n, _, gs5, rfl, hn1, hn6, HG6.out, by omega, hGs5.out, hc6, HU6.out⟩
        · go_wp2_with fail
          refine (l1Below_ok bc 3 _ hc6 (by omega) (by omega)).mono ?_
          rintro e w7 ⟨y, hy, rfl, hc7, hu7⟩
          have hz7 := hu7.size
          have HU7 := Lib.hid (HU6.out.trans hu7)
          have HG7 := Lib.hid (HG6.out.upd hu7 (fun k hk e => by omega))
          clear HG6 HU6 hc6
          go_wp2_with fail
          refine (l1Below_ok bc 9 _ hc7 (by omega) (by omega)).mono ?_
          rintro e w8 ⟨z, hz, rfl, hc8, hu8⟩
          have hz8 := hu8.size
          have HU8 := Lib.hid (HU7.out.trans hu8)
          have HG8 := Lib.hid (HG7.out.upd hu8 (fun k hk e => by omega))
          clear HG7 HU7 hc7
          go_wp2_with (at_builtin; go_loud (refine wpl_appLitGI rfl _ _ rfl w.heap.size (.slice av5 gs5.length cv5) _ _ gs5 [(y : Int), (z : Int)] rfl HG8.out (by omega) (by simp) rfl rfl rfl (by omega) ?_); intro b9 c9 w9 hr9 hu9)
          go_ret2
          have hO : ∀ i, i < w.heap.size → (Value.slice av5 gs5.length cv5).ownBlock = some i → i = bc := fun i hi e => by have := (HG8.out.own e).1; omega
          have hC : Cur bc w9 := hc8.updD hu9 (fun i hi e => by have := (HG8.out.own e).1; omega)
          exact ⟨n, _, gs5 ++ [[(y : Int), (z : Int)]], rfl, hn1, hn6, hr9.gi (by simp), by simp; omega, hGs5.out.snoc (by simp), hC, HU8.out.comp hu9 (fun _ _ h => h) hO⟩
end Go.Proofs.Ytapcnhbgoolcgaa
