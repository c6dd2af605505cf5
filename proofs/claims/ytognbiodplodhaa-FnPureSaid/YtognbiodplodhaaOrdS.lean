/- The specification's OrderPerms. Conditions: a list of rows that are not nil, at most 100 of at most 100 numbers. -/
import Derived.Test.YtognbiodplodhaaPut
import Derived.Test.YtognbiodplodhaaGreat
namespace Go.Proofs.Ytognbiodplodhaa
open Go.RowKit

def allP8 (L : List (List Int)) : Bool := L.all isP8
def ordL (L : List (List Int)) : List (List Int) := bif allP8 L then putAll L else []
/-- a list of rows, none of them nil. -/
def NL (w : World) (v : Value) (L : List (List Int)) : Prop :=
  ∃ b cap, v = .slice (some ⟨b, 0, none⟩) L.length cap ∧ SII w v L ∧ ∀ i, i < L.length → ∃ ad c, w.cell? ⟨b, i, none⟩ = some (.slice (some ad) (nthL L i).length c) ∧ SI w (.slice (some ad) (nthL L i).length c) (nthL L i)
theorem NL.ext {w w' : World} {v : Value} {L : List (List Int)} (h : NL w v L) (hu : Ext w w') : NL w' v L := by
  obtain ⟨b, cap, h1, h2, h3⟩ := h
  refine ⟨b, cap, h1, h2.ext hu, fun i hi => ?_⟩
  obtain ⟨ad, c, k1, k2⟩ := h3 i hi
  exact ⟨ad, c, hu.cell k1, k2.ext hu⟩
theorem allP8_take {L : List (List Int)} {k : Nat} (hk : k < L.length) : allP8 (L.take (k + 1)) = (allP8 (L.take k) && isP8 (nthL L k)) := by
  unfold allP8
  rw [List.take_succ_eq_append_getElem hk, List.all_append, nthL_get hk]; simp
set_option maxHeartbeats 2000000 in
theorem l3All_ok (v : Value) (L : List (List Int)) (w : World) (h : SII w v L) (hl : L.length ≤ 1000000) (hs : small L) :
    Calls Try.prog 72 #[v] w fun e w' => e = .returned (.bool (allP8 L)) ∧ Qt w w' := by
  obtain ⟨a, cap, rfl, hri⟩ := h.elim
  have HRI := Lib.hid hri
  have HS := Lib.hid hs
  clear h hri hs
  go_enter Try.func72, Try.ntmps72
  go_wp2_with fail
  go_loopw [3] (fun i wr => ∃ k : Nat, k ≤ L.length ∧ i = .int .i64 k ∧ Hid (allP8 (L.take k) = true) ∧ Hid (Qt w wr)) (fun i _ => L.length - (intOf i).toNat)
  case atStart => exact ⟨0, Nat.zero_le _, rfl, Lib.hid rfl, Qt.refl _⟩
  case round =>
    obtain ⟨k, hk, rfl, ha, hq⟩ := hrel
    by_cases hlt : k < L.length
    · obtain ⟨b, off, rfl, u, hc, hu⟩ := HRI.out k hlt
      replace hc := hq.out.ext.cell hc
      have HU := Lib.hid (hu.ext hq.out.ext)
      have HT := Lib.hid (allP8_take hlt)
      have hsm := HS.out.nth hlt
      have HSM := Lib.hid hsm
      cases hp : isP8 (nthL L k)
      · have HP := Lib.hid hp
        have HF : Hid (allP8 L = false) := by
          show _ = _
          cases hall : allP8 L
          · rfl
          · unfold allP8 at hall
            rw [List.all_eq_true] at hall
            rw [hall _ (nthL_mem hlt)] at hp; exact absurd hp (by decide)
        clear hp hu hsm
        go_wp2_with fail
        refine (spec_IsPerm_qt _ (nthL L k) _ HU.out (by have := HSM.out; omega)).mono ?_
        rintro e w1 ⟨rfl, q1⟩
        rw [HP.out]
        have HQ := Lib.hid (hq.out.trans q1)
        clear q1
        go_wp2_with fail
        go_ret
        exact ⟨by rw [HF.out]; rfl, HQ.out⟩
      · have HP := Lib.hid hp
        have HA : Hid (allP8 (L.take (k + 1)) = true) := by show _ = _; rw [HT.out, ha.out, hp]; rfl
        clear hp hu hsm
        go_wp2_with fail
        refine (spec_IsPerm_qt _ (nthL L k) _ HU.out (by have := HSM.out; omega)).mono ?_
        rintro e w1 ⟨rfl, q1⟩
        rw [HP.out]
        have HQ := Lib.hid (hq.out.trans q1)
        clear q1
        go_wp2_with fail
        go_roundw
        case rel => exact ⟨k + 1, by omega, by go_num, HA, HQ⟩
        case measure => simp [intOf]; omega
    · obtain rfl : k = L.length := by omega
      rw [take_all (Nat.le_refl _)] at ha
      go_wp2_with fail
      go_ret
      exact ⟨by rw [ha.out]; rfl, hq.out⟩
set_option maxHeartbeats 4000000 in
theorem spec_OrderPerms_ok (v : Value) (L : List (List Int)) (w : World) (h : NL w v L) (hl : L.length ≤ 100) (hs : ∀ x ∈ L, x.length ≤ 100) :
    Calls Try.prog 46 #[v] w fun e w' => ∃ v', e = .returned v' ∧ OII w.heap.size w'.heap.size w' v' (ordL L) ∧ Ext w w' := by
  have HNL := Lib.hid h
  obtain ⟨bL, cL, rfl, hsii, hrows⟩ := h
  have HSII := Lib.hid hsii
  have HROWS := Lib.hid hrows
  have HS := Lib.hid hs
  have hr0 : Hid (RR w.heap.size (w.alloc (.cells #[] 24)).heap.size (w.alloc (.cells #[] 24)) w.heap.size 0 []) := (RR.new w).mono (by simp)
  have hE0 : Hid (Ext w (w.alloc (.cells #[] 24))) := Upd.alloc _ _ _
  clear hsii hrows hs
  cases hall : allP8 L
  · have HA := Lib.hid hall
    have HO : Hid (ordL L = []) := by show _ = _; unfold ordL; rw [hall]; rfl
    have hne : 0 < L.length := by
      rcases Nat.eq_zero_or_pos L.length with e | e
      · rw [List.eq_nil_of_length_eq_zero e] at hall; exact absurd hall (by decide)
      · exact e
    clear hall
    go_enter Try.func46, Try.ntmps46
    go_wp2_with fail
    go_loopw [3, 4] (fun o i wr => o = .slice (some ⟨w.heap.size, 0, none⟩) 0 0 ∧ i = .int .i64 0 ∧ Hid (RR w.heap.size wr.heap.size wr w.heap.size 0 []) ∧ Hid (Ext w wr)) (fun _ _ _ => 0)
    case atStart => exact ⟨rfl, rfl, hr0, hE0⟩
    case round =>
      obtain ⟨rfl, rfl, hr, he⟩ := hrel
      have hneI : (0 : Int) < (L.length : Int) := by omega
      go_wp2_with fail
      refine (l3All_ok _ L _ (HSII.out.ext he.out) (by omega) (fun x hx => by have := HS.out x hx; omega)).mono ?_
      rintro e w1 ⟨rfl, q1⟩
      rw [HA.out]
      have HR1 := Lib.hid ((hr.out.ext q1.ext).mono q1.ext.size)
      have HE1 := Lib.hid (he.out.trans q1.ext)
      clear q1
      go_wp2_with fail
      go_ret
      exact ⟨_, rfl, by rw [HO.out]; exact HR1.out.oii rfl, HE1.out⟩
  · have HA := Lib.hid hall
    have HO : Hid (ordL L = putAll L) := by show _ = _; unfold ordL; rw [hall]; rfl
    clear hall
    go_enter Try.func46, Try.ntmps46
    go_wp2_with fail
    go_loopw [3, 4] (fun o i wr => ∃ k : Nat, k ≤ L.length ∧ i = .int .i64 k ∧ (∃ b c m, o = .slice (some ⟨b, 0, none⟩) m c ∧ Hid (m = (putAll (L.take k)).length) ∧ Hid (RR w.heap.size wr.heap.size wr b c (putAll (L.take k)))) ∧ Hid (Ext w wr)) (fun _ i _ => L.length - (intOf i).toNat)
    case atStart => exact ⟨0, Nat.zero_le _, rfl, ⟨_, 0, 0, rfl, Lib.hid rfl, hr0⟩, hE0⟩
    case round =>
      obtain ⟨k, hk, rfl, ⟨b, c, m, rfl, hm, hr⟩, he⟩ := hrel
      clear hr0 hE0
      by_cases hlt : k < L.length
      · obtain ⟨ad, cr, hc, hsi⟩ := HROWS.out k hlt
        have hltI : (k : Int) < (L.length : Int) := by omega
        have HC := Lib.hid hc
        have HSI := Lib.hid hsi
        have HT : Hid (L.take (k + 1) = L.take k ++ [nthL L k]) := take_nthL hlt
        obtain ⟨x, hx⟩ : ∃ x, x = nthL L k := ⟨_, rfl⟩
        have hx100 : x.length ≤ 100 := by rw [hx]; exact HS.out _ (nthL_mem hlt)
        rw [← hx] at HC HSI HT
        clear hc hsi hx
        go_wp2_with fail
        refine (l3All_ok _ L _ (HSII.out.ext he.out) (by omega) (fun x hx => by have := HS.out x hx; omega)).mono ?_
        rintro e w1 ⟨rfl, q1⟩
        rw [HA.out]
        have HR1 := Lib.hid ((hr.out.ext q1.ext).mono q1.ext.size)
        have HE1 := Lib.hid (he.out.trans q1.ext)
        have hc := HE1.out.cell HC.out
        have hpl := putAll_len (L.take k)
        have hpl9 : (putAll (L.take k)).length ≤ 100 := by rw [List.length_take] at hpl; omega
        have hput := l3Put_ok w.heap.size w1.heap.size b c (putAll (L.take k)) ad cr x w1 HR1.out HR1.out.lo (Nat.le_refl _) (HSI.out.ext HE1.out) (by omega) (by omega) (fun y hy => by have := HS.out y (List.mem_of_mem_take ((putAll_mem _ y).1 hy)); omega)
        rw [← hm.out] at hput
        have HPUT := Lib.hid hput
        have hlo := HR1.out.lo
        clear q1 hput hpl hpl9
        go_wp2_with fail
        refine HPUT.out.mono ?_
        rintro e w8 ⟨b8, c8, rfl, hr8, hb8, hu8⟩
        rw [← putAll_snoc, ← HT.out] at hr8 ⊢
        have HR8 := Lib.hid hr8
        have HE8 := Lib.hid (HE1.out.upd1 hu8 hlo)
        clear hr8 hu8 hb8
        go_wp2_with fail
        go_roundw
        case rel => exact ⟨k + 1, by omega, by go_num, ⟨b8, c8, _, rfl, Lib.hid rfl, HR8⟩, HE8⟩
        case measure => simp [intOf]; omega
      · obtain rfl : k = L.length := by omega
        rw [take_all (Nat.le_refl _)] at hr hm
        go_wp2_with fail
        go_ret
        exact ⟨_, rfl, by rw [HO.out]; exact hr.out.oii hm.out, he.out⟩
end Go.Proofs.Ytognbiodplodhaa
