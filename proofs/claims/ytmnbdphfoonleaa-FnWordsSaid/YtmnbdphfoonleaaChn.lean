/- Contracts of IsStrongChain, the program's and the reference's. Conditions: lengths below a bound. -/
import Derived.Test.YtmnbdphfoonleaaCov
import Derived.Test.YtmnbdphfoonleaaFunc
import Derived.Deep.RegionHeld3
namespace Go.Proofs.Ytmnbdphfoonleaa
open Go.RowKit

theorem SI.shp {w : World} {v : Value} {xs : List Int} (h : SI w v xs) : ∃ p c, v = .slice p xs.length c := by
  obtain ⟨a, c, h1, _⟩ := h; exact ⟨a, c, h1⟩
/-! ### chains, step by step -/
def chTo (L : List (List Int)) (k : Nat) : Bool := (List.range k).all (chOne L)
theorem chTo_succ (L : List (List Int)) (k : Nat) : chTo L (k + 1) = (chTo L k && chOne L k) := by simp [chTo, List.range_succ]
theorem chTo_all (L : List (List Int)) : chTo L L.length = chB L := rfl
theorem ch_no {L : List (List Int)} {k : Nat} (hk : k < L.length) (h : chOne L k = false) : chB L = false := by
  rw [Bool.eq_false_iff]
  intro h2
  unfold chB at h2
  rw [List.all_eq_true] at h2
  have := h2 k (List.mem_range.2 hk)
  rw [h] at this; exact absurd this (by simp)
theorem chOne_bad {L : List (List Int)} {k : Nat} (h : isP8 (nthL L k) = false) : chOne L k = false := by unfold chOne; rw [h]; rfl
theorem chOne_0 {L : List (List Int)} (h : isP8 (nthL L 0) = true) : chOne L 0 = true := by unfold chOne; rw [h]; rfl
theorem chOne_s {L : List (List Int)} {k : Nat} (h : isP8 (nthL L (k + 1)) = true) : chOne L (k + 1) = anyL (fun q => decide (nthL L (k + 1) = q)) (cvL (nthL L k)) := by
  unfold chOne; rw [h, decide_eq_false (by omega), Nat.add_sub_cancel]; rfl
theorem cvL_small (p : List Int) : small (cvL p) ∧ (cvL p).length ≤ 100 := by
  unfold cvL
  cases h : isP8 p
  · exact ⟨fun x hx => by simp at hx, by simp⟩
  · have h8 := (isP8_iff.1 h).1
    simp only [cond_true]
    refine ⟨fun q hq => ?_, ?_⟩
    · rw [cvAll_each ((putAll_mem _ _).1 hq)]; omega
    · have h1 := putAll_len (cvAll p)
      have h2 := cvTo_len p p.length
      have : p.length * p.length ≤ 8 * 8 := Nat.mul_le_mul h8 h8
      unfold cvAll at *
      omega
set_option maxHeartbeats 1000000 in
theorem l12In_ok (v v2 : Value) (L : List (List Int)) (p : List Int) (w : World) (h : SII w v L) (h2 : SI w v2 p) (hl : L.length ≤ 1000000) (hs : small L) :
    Calls Try.prog 98 #[v, v2] w fun e w' => e = .returned (.bool (anyL (fun q => decide (p = q)) L)) ∧ Qt w w' := by
  obtain ⟨a, cap, rfl, hri⟩ := h.elim
  have HS := Lib.hid hs
  clear h hs
  go_enter Try.func98, Try.ntmps98
  go_wp2_with fail
  go_loopw [5] (fun i wr => ∃ k : Nat, k ≤ L.length ∧ i = .int .i64 k ∧ Hid (∀ j, j < k → p ≠ nthL L j) ∧ Qt w wr) (fun i _ => L.length - (intOf i).toNat)
  case atStart => exact ⟨0, Nat.zero_le _, rfl, Lib.hid (fun j hj => by omega), Qt.refl _⟩
  case round =>
    obtain ⟨k, hk, rfl, hm, hq⟩ := hrel
    by_cases hlt : k < L.length
    · obtain ⟨b, off, rfl, u, hc, hu⟩ := hri k hlt
      replace hc := Ext.cell hq.ext hc
      have hu2 := Lib.hid (hu.ext hq.ext)
      have hp2 := Lib.hid (h2.ext hq.ext)
      have hsm := HS.out.nth hlt
      clear hri hu
      by_cases he : nthL L k = p
      · have HE := Lib.hid he
        have HA : Hid (anyL (fun q => decide (p = q)) L = true) := by
          show _ = _; unfold anyL; rw [List.any_eq_true]; exact ⟨_, nthL_mem hlt, decide_eq_true he.symm⟩
        clear he
        go_wp2_with (go_at_call 99; refine (l2Same_ok _ _ (nthL L k) p _ hu2.out hp2.out (by omega)).mono ?_; rintro e w1 ⟨rfl, q1⟩; rw [decide_eq_true HE.out])
        go_ret
        exact ⟨by rw [HA.out]; rfl, hq.trans q1⟩
      · have HE := Lib.hid he
        clear he
        go_wp2_with (go_at_call 99; refine (l2Same_ok _ _ (nthL L k) p _ hu2.out hp2.out (by omega)).mono ?_; rintro e w1 ⟨rfl, q1⟩; rw [decide_eq_false HE.out])
        go_roundw
        case rel => exact ⟨k + 1, by omega, by go_num, Lib.hid (fun j hj e => by
          rcases Nat.lt_or_ge j k with h | h
          · exact hm.out j h e
          · obtain rfl : j = k := by omega
            exact HE.out e.symm), hq.trans q1⟩
        case measure => simp [intOf]; omega
    · obtain rfl : k = L.length := by omega
      have HA : Hid (anyL (fun q => decide (p = q)) L = false) := by
        show _ = _
        unfold anyL; rw [List.any_eq_false]
        intro q hq
        obtain ⟨j, hj, rfl⟩ := mem_nthL hq
        simpa using hm.out j hj
      go_wp2_with fail
      go_ret
      exact ⟨by rw [HA.out]; rfl, hq⟩
set_option maxHeartbeats 4000000 in
theorem spec_IsStrongChain_ok (v : Value) (L : List (List Int)) (w : World) (h : SII w v L) (hl : L.length ≤ 1000000000) (hs : small L) :
    Calls Try.prog 51 #[v] w fun e w' => e = .returned (.bool (chB L)) ∧ Ext w w' := by
  obtain ⟨a, cap, rfl, hri⟩ := h.elim
  have HRI := Lib.hid hri
  have HS := Lib.hid hs
  clear hri hs
  go_enter Try.func51, Try.ntmps51
  go_wp2_with fail
  go_loopw [3] (fun i wr => ∃ k : Nat, k ≤ L.length ∧ i = .int .i64 k ∧ Hid (chTo L k = true) ∧ Ext w wr) (fun i _ => L.length - (intOf i).toNat)
  case atStart => exact ⟨0, Nat.zero_le _, rfl, Lib.hid rfl, Ext.refl _⟩
  case round =>
    obtain ⟨k, hk, rfl, hch, he⟩ := hrel
    by_cases hlt : k < L.length
    · obtain ⟨b, off, rfl, u, hc, hu⟩ := HRI.out k hlt
      replace hc := he.cell hc
      replace hu := hu.ext he
      obtain ⟨pu, cu, rfl⟩ := hu.shp
      have HU := Lib.hid hu
      have hsm := HS.out.nth hlt
      clear hu
      cases hp : isP8 (nthL L k)
      · have HR := Lib.hid (ch_no hlt (chOne_bad hp))
        have HE := fun m => spec_IsPerm_qt _ (nthL L k) (wr.drewN m) (HU.out.ext (Upd.drewN _ _ _)) (by omega)
        rw [hp] at HE
        have HE' := Lib.hid HE
        have hltI : (k : Int) < (L.length : Int) := by omega
        clear HE hp hlt
        go_wp2_with fail
        go_quiet ((go_at_call 82; exact Calls.quiet_of (HE'.out _)))
        go_wp2_with fail
        go_ret
        exact ⟨by rw [HR.out]; rfl, he.drewN _⟩
      · rcases Nat.eq_zero_or_pos k with hk0 | hk0
        · have HR : Hid (chTo L (k + 1) = true) := by show _ = _; subst hk0; rw [chTo_succ, hch.out, chOne_0 hp]; rfl
          have HE := fun m => spec_IsPerm_qt _ (nthL L k) (wr.drewN m) (HU.out.ext (Upd.drewN _ _ _)) (by omega)
          rw [hp] at HE
          have HE' := Lib.hid HE
          have hltI : (k : Int) < (L.length : Int) := by omega
          have hk0I : ¬ (0 : Int) < (k : Int) := by omega
          have hk0d : decide (0 < k) = false := decide_eq_false (by omega)
          clear HE hp hk0
          go_wp2_with fail
          go_quiet ((go_at_call 82; exact Calls.quiet_of (HE'.out _)))
          go_wp2_with fail
          go_roundw
          case rel => exact ⟨k + 1, by omega, by go_num, HR, he.drewN _⟩
          case measure => simp [intOf]; omega
        · obtain ⟨k, rfl⟩ : ∃ j, k = j + 1 := ⟨k - 1, by omega⟩
          clear hk0
          obtain ⟨b', off', e', u', hc', hu'⟩ := HRI.out k (by omega)
          injection e' with e'
          injection e' with e1 e2 _
          subst e1 e2
          replace hc' := he.cell hc'
          replace hu' := hu'.ext he
          obtain ⟨pu', cu', rfl⟩ := hu'.shp
          have HU' := Lib.hid hu'
          have hsm' := HS.out.nth (k := k) (by omega)
          have HC := chOne_s hp
          obtain ⟨P, hP⟩ : ∃ P, P = nthL L (k + 1) := ⟨_, rfl⟩
          obtain ⟨Q, hQ⟩ : ∃ Q, Q = nthL L k := ⟨_, rfl⟩
          rw [← hP] at HU hsm hc hp HC
          rw [← hQ] at HU' hsm' hc' HC
          obtain ⟨x, hx⟩ : ∃ x, x = anyL (fun q => decide (P = q)) (cvL Q) := ⟨_, rfl⟩
          rw [← hx] at HC
          have HX := Lib.hid hx
          have HP := Lib.hid hp
          have HCC := Lib.hid HC
          have hcs := cvL_small Q
          have HCS := Lib.hid hcs.1
          have hcl := hcs.2
          have HLT : Hid (k + 1 < L.length) := hlt
          have w1 : IntKind.i64.wrap ((k : Int) + 1 - 1) = (k : Int) := by rw [IntWalk.i64_in _ (by omega)]; omega
          have w1b : IntKind.i64.wrap (k : Int) = (k : Int) := IntWalk.i64_in _ (by omega)
          have w2 : ((k : Int) + 1).toNat = k + 1 := by omega
          have w3 : 0 ≤ (k : Int) + 1 := by omega
          have w4 : (k : Int) + 1 < (L.length : Int) := by omega
          have w5 : (k : Int) < (L.length : Int) := by omega
          clear hu' hP hQ hx hp hcs HC hlt
          go_wp2_with fail
          go_region_held3 (fun w' => w'.cell? ⟨b, off + k, none⟩ = some (.slice pu' Q.length cu') ∧ w'.cell? ⟨b, off + (k + 1), none⟩ = some (.slice pu P.length cu))
            (first | go_keep | (exact ⟨Ext.cell h73.ext (Ext.cell h72 (Ext.cell h71.ext (Ext.cell (show Ext wr wr.drew from Upd.drew _ _) hc'))), Ext.cell h73.ext (Ext.cell h72 (Ext.cell h71.ext (Ext.cell (show Ext wr wr.drew from Upd.drew _ _) hc)))⟩) | (exact ⟨Ext.cell h72 (Ext.cell h71.ext (Ext.cell (show Ext wr wr.drew from Upd.drew _ _) hc')), Ext.cell h72 (Ext.cell h71.ext (Ext.cell (show Ext wr wr.drew from Upd.drew _ _) hc))⟩) | (exact ⟨Ext.cell h71.ext (Ext.cell (show Ext wr wr.drew from Upd.drew _ _) hc'), Ext.cell h71.ext (Ext.cell (show Ext wr wr.drew from Upd.drew _ _) hc)⟩))
            ((first
              | (go_at_call 82; refine (spec_IsPerm_qt _ P _ (HU.out.ext (Upd.drew _ _)) (by omega)).mono ?_; rintro e w71 ⟨rfl, h71⟩; rw [HP.out])
              | (go_at_call 47; refine (spec_StrongCovers_rr _ Q _ ((HU'.out.ext (Upd.drew _ _)).ext h71.ext) (by omega)).mono ?_; rintro e w72 ⟨b72, c72, rfl, hr72, h72⟩)
              | (go_at_call 98; refine (l12In_ok _ _ (cvL Q) P _ (hr72.sii rfl) (((HU.out.ext (Upd.drew _ _)).ext h71.ext).ext h72) (by omega) HCS.out).mono ?_; rintro e w73 ⟨rfl, h73⟩; rw [← HX.out])))
          all_goals
            have hE := Lib.hid ((((he.drew.trans h71.ext).trans h72).trans h73.ext))
            clear w1 w1b
            cases x
            · have HR := Lib.hid (ch_no HLT.out HCC.out)
              go_wp2_with fail
              go_ret
              exact ⟨by rw [HR.out]; rfl, hE.out⟩
            · have HR : Hid (chTo L (k + 1 + 1) = true) := by show _ = _; rw [chTo_succ, hch.out, HCC.out]; rfl
              have hlt := HLT.out
              go_wp2_with fail
              go_roundw
              case rel => exact ⟨k + 1 + 1, by omega, by rw [Value.int.injEq]; exact ⟨rfl, by push_cast; rfl⟩, HR, hE.out⟩
              case measure => simp [intOf]; omega
    · obtain rfl : k = L.length := by omega
      have HR := Lib.hid ((chTo_all L).symm.trans hch.out)
      go_wp2_with fail
      go_ret
      exact ⟨by rw [HR.out]; rfl, he⟩
set_option maxHeartbeats 1000000 in
theorem chain1_ok (u : Value) (q p : List Int) (bx : Nat) (vp : Value) (w : World) (hx : w.cell? ⟨bx, 0, none⟩ = some vp) (hp : SI w vp p) (hu : SI w u q) (hl : p.length ≤ 1000000000) :
    Calls Try.prog 96 #[u, .pointer (some ⟨bx, 0, none⟩)] w fun e w' => e = .returned (.bool (decide (p = q))) ∧ Ext w w' := by
  go_enter Try.func96, Try.ntmps96
  go_wp2_with fail
  refine (slicesEqual_ok _ _ p q _ hp hu hl).mono ?_
  rintro e w1 ⟨rfl, q1⟩
  go_wp2_with fail
  go_ret
  exact ⟨rfl, q1.ext⟩
set_option maxHeartbeats 4000000 in
theorem impl_IsStrongChain_ok (v : Value) (L : List (List Int)) (w : World) (h : SII w v L) (hl : L.length ≤ 1000000000) (hs : small L) :
    Calls Try.prog 50 #[v] w fun e w' => e = .returned (.bool (chB L)) ∧ Ext w w' := by
  obtain ⟨a, cap, rfl, hri⟩ := h.elim
  have HRI := Lib.hid hri
  have HS := Lib.hid hs
  have hen : Enters 96 := enters_of Try.func96 rfl rfl
  have HEN := Lib.hid hen
  clear hri hs hen
  go_enter Try.func50, Try.ntmps50
  go_wp2_with fail
  go_loopw [3, 4, 7] (fun _ _ i wr => ∃ k : Nat, k ≤ L.length ∧ i = .int .i64 k ∧ Hid (chTo L k = true) ∧ Ext w wr) (fun _ _ i _ => L.length - (intOf i).toNat)
  case atStart => exact ⟨0, Nat.zero_le _, rfl, Lib.hid rfl, Ext.refl _⟩
  case round =>
    obtain ⟨k, hk, rfl, hch, he⟩ := hrel
    by_cases hlt : k < L.length
    · obtain ⟨b, off, rfl, u, hc, hu⟩ := HRI.out k hlt
      replace hc := he.cell hc
      replace hu := hu.ext he
      obtain ⟨pu, cu, rfl⟩ := hu.shp
      have HU := Lib.hid hu
      have hsm := HS.out.nth hlt
      obtain ⟨P, hP⟩ : ∃ P, P = nthL L k := ⟨_, rfl⟩
      rw [← hP] at HU hsm hc
      have heb : Ext wr (wr.alloc (.cells #[.slice pu P.length cu] 24)) := Upd.alloc _ _ _
      have hcx : (wr.alloc (.cells #[.slice pu P.length cu] 24)).cell? ⟨wr.heap.size, 0, none⟩ = some (.slice pu P.length cu) := World.cell?_alloc_at _ _ _ _ rfl
      have HB := Lib.hid (HU.out.ext heb)
      have HEB := Lib.hid (he.trans heb)
      clear hu
      cases hp : isP8 P
      · have HR := Lib.hid (ch_no hlt (chOne_bad (by rw [← hP]; exact hp)))
        have HP := Lib.hid hp
        clear hp hP
        go_wp2_with (go_at_call 72; refine (impl_IsPerm_ok _ P _ HB.out).mono ?_; rintro e w1 ⟨rfl, h1⟩; rw [HP.out])
        go_ret
        exact ⟨by rw [HR.out]; rfl, HEB.out.trans h1⟩
      · rcases Nat.eq_zero_or_pos k with hk0 | hk0
        · have HR : Hid (chTo L (k + 1) = true) := by show _ = _; subst hk0; rw [chTo_succ, hch.out, chOne_0 (by rw [← hP]; exact hp)]; rfl
          have HP := Lib.hid hp
          have hk0I : ¬ (0 : Int) < (k : Int) := by omega
          clear hp hP hk0
          go_wp2_with (go_at_call 72; refine (impl_IsPerm_ok _ P _ HB.out).mono ?_; rintro e w1 ⟨rfl, h1⟩; rw [HP.out])
          go_roundw
          case rel => exact ⟨k + 1, by omega, by go_num, HR, HEB.out.trans h1⟩
          case measure => simp [intOf]; omega
        · obtain ⟨k, rfl⟩ : ∃ j, k = j + 1 := ⟨k - 1, by omega⟩
          clear hk0
          obtain ⟨b', off', e', u', hc', hu'⟩ := HRI.out k (by omega)
          injection e' with e'
          injection e' with e1 e2 _
          subst e1 e2
          have hp2 := hp
          rw [hP] at hp2
          have HC := chOne_s hp2
          rw [← hP] at HC
          replace hc' := HEB.out.cell hc'
          replace hu' := hu'.ext HEB.out
          obtain ⟨pu', cu', rfl⟩ := hu'.shp
          obtain ⟨Q, hQ⟩ : ∃ Q, Q = nthL L k := ⟨_, rfl⟩
          rw [← hQ] at hu' hc' HC
          obtain ⟨x, hx⟩ : ∃ x, x = anyL (fun q => decide (P = q)) (cvL Q) := ⟨_, rfl⟩
          rw [← hx] at HC
          have HX := Lib.hid hx
          have HP := Lib.hid hp
          have HCC := Lib.hid HC
          have HU' := Lib.hid hu'
          have hcs := cvL_small Q
          have hcl := hcs.2
          have HLT : Hid (k + 1 < L.length) := hlt
          clear hu' hP hQ hx hp hcs HC hp2
          go_wp2_with (go_at_call 72; refine (impl_IsPerm_ok _ P _ HB.out).mono ?_; rintro e w71 ⟨rfl, h71⟩; rw [HP.out]; have hc71 := Ext.cell h71 hc'; have hcx71 := Ext.cell h71 hcx)
          have HU71 := Lib.hid (HU'.out.ext h71)
          have HB71 := Lib.hid (HB.out.ext h71)
          refine (impl_StrongCovers_rr _ Q _ HU71.out).mono ?_
          rintro e w72 hcv
          have hcov : ∃ v72, e = .returned v72 ∧ OII w71.heap.size w72.heap.size w72 v72 (cvL Q) ∧ Ext w71 w72 := by
            rcases hcv with ⟨hq, rfl, he⟩ | ⟨hq, b7, c7, rfl, hr, he⟩
            · exact ⟨_, rfl, by unfold cvL; rw [hq]; exact OII.nil _ _ _, he⟩
            · exact ⟨_, rfl, by unfold cvL; rw [hq]; exact hr.oii rfl, he⟩
          clear hcv
          obtain ⟨v72, rfl, hr72, h72⟩ := hcov
          have hcx72 := Ext.cell h72 hcx71
          have HB72 := Lib.hid (HB71.out.ext h72)
          have HR72 := Lib.hid hr72
          clear hr72
          go_wp2_with fail
          refine (containsFuncL_ok _ (cvL Q) 96 #[.pointer (some ⟨wr.heap.size, 0, none⟩)] (fun q => decide (P = q)) _ HR72.out.sii (by omega) HEN.out (fun i hi u w1 hw hu => chain1_ok u _ P wr.heap.size _ w1 (hw.cell hcx72) (HB72.out.ext hw) hu (by omega))).mono ?_
          rintro e w73 ⟨rfl, h73⟩
          rw [← HX.out]
          have hE := Lib.hid (((HEB.out.trans h71).trans h72).trans h73)
          cases x
          · have HR := Lib.hid (ch_no HLT.out HCC.out)
            go_wp2_with fail
            go_ret
            exact ⟨by rw [HR.out]; rfl, hE.out⟩
          · have HR : Hid (chTo L (k + 1 + 1) = true) := by show _ = _; rw [chTo_succ, hch.out, HCC.out]; rfl
            have hlt := HLT.out
            go_wp2_with fail
            go_roundw
            case rel => exact ⟨k + 1 + 1, by omega, by rw [Value.int.injEq]; exact ⟨rfl, by push_cast; rfl⟩, HR, hE.out⟩
            case measure => simp [intOf]; omega
    · obtain rfl : k = L.length := by omega
      have HR := Lib.hid ((chTo_all L).symm.trans hch.out)
      go_wp2_with fail
      go_ret
      exact ⟨by rw [HR.out]; rfl, he⟩
end Go.Proofs.Ytmnbdphfoonleaa
