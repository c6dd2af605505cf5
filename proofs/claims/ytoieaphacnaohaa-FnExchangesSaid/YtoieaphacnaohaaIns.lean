/- Contracts of InsertionSteps, the program's and the reference's: both tell the number of inversions. Conditions: a length below a bound. -/
import Derived.Test.YtoieaphacnaohaaInv
import Derived.Test.YtoieaphacnaohaaCopy
namespace Go.Proofs.Ytoieaphacnaohaa
open Go.RowKit

def SrtTo (ys : List Int) (m : Nat) : Prop := ∀ a b, a < b → b < m → nth ys a ≤ nth ys b
def SrtH (ys : List Int) (i m : Nat) : Prop := (∀ a b, a < b → b < m → a ≠ i → b ≠ i → nth ys a ≤ nth ys b) ∧ ∀ b, i < b → b < m → nth ys i ≤ nth ys b
theorem SrtTo.hole {ys : List Int} {k : Nat} (h : SrtTo ys k) : SrtH ys k (k + 1) := ⟨fun a b h1 h2 h3 h4 => h a b h1 (by omega), fun b h1 h2 => by omega⟩
theorem SrtH.zero {ys : List Int} {m : Nat} (h : SrtH ys 0 m) : SrtTo ys m := fun a b h1 h2 => by
  by_cases e : a = 0
  · subst e; exact h.2 b h1 h2
  · exact h.1 a b h1 h2 e (by omega)
theorem SrtH.stop {ys : List Int} {i m : Nat} (h : SrtH ys i m) (hi : 0 < i) (hm : i < m) (hle : nth ys (i - 1) ≤ nth ys i) : SrtTo ys m := fun a b h1 h2 => by
  by_cases e : a = i
  · subst e; exact h.2 b h1 h2
  · by_cases e2 : b = i
    · subst e2
      by_cases e3 : a = b - 1
      · subst e3; exact hle
      · have := h.1 a (b - 1) (by omega) (by omega) e (by omega); omega
    · exact h.1 a b h1 h2 e e2
def swp (ys : List Int) (i : Nat) : List Int := (ys.set i (nth ys (i - 1))).set (i - 1) (nth ys i)
theorem nth_set' (xs : List Int) (i j : Nat) (x : Int) (h : j < xs.length) : nth (xs.set i x) j = if i = j then x else nth xs j := by
  rw [nth_get (by simpa using h), nth_get h, List.getElem_set]
theorem swp_len (ys : List Int) (i : Nat) : (swp ys i).length = ys.length := by simp [swp]
theorem swp_nth (ys : List Int) (i j : Nat) (h : j < ys.length) : nth (swp ys i) j = if i - 1 = j then nth ys i else if i = j then nth ys (i - 1) else nth ys j := by
  unfold swp
  rw [nth_set' _ _ _ _ (by simpa using h), nth_set' _ _ _ _ h]
theorem swp_lo {ys : List Int} {i : Nat} (hi : 0 < i) (h : i < ys.length) : nth (swp ys i) (i - 1) = nth ys i := by rw [swp_nth ys i _ (by omega), if_pos rfl]
theorem swp_hi {ys : List Int} {i : Nat} (hi : 0 < i) (h : i < ys.length) : nth (swp ys i) i = nth ys (i - 1) := by rw [swp_nth ys i _ h, if_neg (by omega), if_pos rfl]
theorem swp_ot {ys : List Int} {i j : Nat} (h : j < ys.length) (h1 : j ≠ i - 1) (h2 : j ≠ i) : nth (swp ys i) j = nth ys j := by rw [swp_nth ys i _ h, if_neg (by omega), if_neg (by omega)]
theorem SrtH.step {ys : List Int} {i m : Nat} (h : SrtH ys i m) (hi : 0 < i) (hm : i < m) (hml : m ≤ ys.length) (hgt : nth ys i < nth ys (i - 1)) : SrtH (swp ys i) (i - 1) m := by
  constructor
  · intro a b h1 h2 h3 h4
    by_cases e : a = i
    · subst e
      rw [swp_hi hi (by omega), swp_ot (by omega) h4 (by omega)]
      exact h.1 (a - 1) b (by omega) h2 (by omega) (by omega)
    · rw [swp_ot (by omega) h3 e]
      by_cases e2 : b = i
      · subst e2
        rw [swp_hi hi (by omega)]
        exact h.1 a (b - 1) (by omega) (by omega) (by omega) (by omega)
      · rw [swp_ot (by omega) h4 e2]; exact h.1 a b h1 h2 e e2
  · intro b h1 h2
    rw [swp_lo hi (by omega)]
    by_cases e : b = i
    · subst e; rw [swp_hi hi (by omega)]; omega
    · rw [swp_ot (by omega) (by omega) e]; exact h.2 b (by omega) h2
theorem swp_inv {ys : List Int} {i : Nat} (hi : 0 < i) (hl : i < ys.length) (hgt : nth ys i < nth ys (i - 1)) : inv ys = inv (swp ys i) + 1 := by
  have h := inv_set ys (i - 1) (by omega) (by rw [Nat.sub_add_cancel hi]; exact hgt)
  rw [Nat.sub_add_cancel hi] at h
  rw [h]
  unfold swp
  rw [List.set_comm _ _ (by omega)]
theorem SrtTo.srt {ys : List Int} (h : SrtTo ys ys.length) : Srt ys := fun i hi => h i (i + 1) (by omega) hi

set_option maxHeartbeats 2000000 in
theorem spec_InsertionSteps_ok (v : Value) (xs : List Int) (w : World) (h : SI w v xs) (hl : xs.length ≤ 1048576) (_hb : I64s xs) :
    Calls Try.prog 27 #[v] w fun e w' => e = .returned (.int .i64 (invI xs)) ∧ Ext w w' := by
  have h0 := h
  obtain ⟨a, cap, rfl, hri⟩ := h0.elim
  cases hp : isP8 xs
  · have hP := Lib.hid hp
    have e0 : Hid (invI xs = -1) := by show _ = _; simp [invI, hp]
    clear hp
    go_enter Try.func27, Try.ntmps27
    go_wp2_with (go_at_call 30; refine (spec_IsPerm_qt _ xs _ h (by omega)).mono ?_; rintro e w1 ⟨rfl, hq⟩; rw [hP.out])
    go_ret
    exact ⟨by rw [e0.out]; rfl, hq.ext⟩
  · have hP := Lib.hid hp
    have h8 : xs.length ≤ 8 := (isP8_iff.1 hp).1
    have hib := inv_bound xs (by omega)
    have e0 : Hid (invI xs = (inv xs : Int)) := by show _ = _; simp [invI, hp]
    clear hp
    go_enter Try.func27, Try.ntmps27
    go_wp2_with (first | (go_at_call 30; refine (spec_IsPerm_qt _ xs _ h (by omega)).mono ?_; rintro e w1 ⟨rfl, hq1⟩; rw [hP.out]) | (at_builtin; refine wpl_appSI rfl _ _ rfl w1.heap.size 0 0 [] xs rfl (Row.new 3 w1 [] (by simp)) rfl _ rfl ((h.ext hq1.ext).ext (Upd.alloc _ _ _)) (by simp) (by omega) ?_; intro b c w2 hr hs hu))
    rw [List.nil_append] at hr
    have hz1 := hq1.ext.size
    have he1 : Ext w (w1.alloc (.cells #[] 3)) := hq1.ext.trans (Upd.alloc _ _ _)
    have he2 : Ext w w2 := he1.upd1 hu (by omega)
    have hbb : w.heap.size ≤ b := by
      rcases hs with e | e
      · omega
      · simp at e; omega
    clear hri h hu hs
    go_loopw [3, 5] (fun c' i wr => ∃ k : Nat, k ≤ xs.length ∧ i = .int .i64 k ∧ (∃ n : Nat, c' = .int .i64 n ∧ ∃ ys : List Int, ys.length = xs.length ∧ Row 3 wr b c (vals ys) ∧ n + inv ys = inv xs ∧ SrtTo ys k) ∧ Ext w wr) (fun _ i _ => xs.length - (intOf i).toNat)
    case atStart => exact ⟨0, by omega, rfl, ⟨0, rfl, xs, rfl, hr, by omega, fun a b h1 h2 => by omega⟩, he2⟩
    case round =>
      obtain ⟨k, hk, rfl, ⟨n, rfl, ys, hyl, hr1, hni, hso⟩, he⟩ := hrel
      have HY := Lib.hid hyl
      have HNI := Lib.hid hni
      have HSO := Lib.hid hso
      have hnb : n ≤ 1000000 := by omega
      clear hr hyl hni hso
      by_cases hlt : k < xs.length
      · go_wp2_with fail
        go_loopw [3, 6] (fun c' i wz => ∃ j : Nat, j ≤ k ∧ i = .int .i64 j ∧ (∃ n : Nat, c' = .int .i64 n ∧ ∃ ys : List Int, ys.length = xs.length ∧ Row 3 wz b c (vals ys) ∧ n + inv ys = inv xs ∧ SrtH ys j (k + 1)) ∧ Ext w wz) (fun _ i _ => (intOf i).toNat)
        case atStart => exact ⟨k, by omega, rfl, ⟨n, rfl, ys, HY.out, hr1, HNI.out, HSO.out.hole⟩, he⟩
        case round =>
          obtain ⟨j, hj, rfl, ⟨m, rfl, zs, hzl, hr2, hni, hso⟩, he3⟩ := hrel
          have HZ := Lib.hid hzl
          have HNI2 := Lib.hid hni
          have HSO2 := Lib.hid hso
          have hmb : m ≤ 1000000 := by omega
          clear hr1 he hzl hni hso
          by_cases hj0 : 0 < j
          · have hcj := hr2.icell (j := j) (by rw [HZ.out]; omega)
            have hcp := hr2.icell (j := j - 1) (by rw [HZ.out]; omega)
            have w1 : IntKind.i64.wrap ((j : Int) - 1) = (j : Int) - 1 := IntWalk.i64_in _ (by omega)
            have w2 : 0 ≤ (j : Int) - 1 := by omega
            have w3 : ((j : Int) - 1).toNat = j - 1 := by omega
            have w4 : (j : Int) - 1 < (xs.length : Int) := by omega
            have w5 : (j : Int) < (xs.length : Int) := by omega
            have w6 : decide ((0 : Int) < (j : Int)) = true := decide_eq_true (by omega)
            by_cases hgt : nth zs j < nth zs (j - 1)
            · have f1 := hr2.free j none
              have f2 := hr2.free (j - 1) none
              have hset := (hr2.set j (.int .i64 (nth zs (j - 1)))).set (j - 1) (.int .i64 (nth zs j))
              rw [vals_set, vals_set] at hset
              have HS := Lib.hid hset
              have HU := (Upd.setCell wr ⟨b, j, none⟩ (.int .i64 (nth zs (j - 1)))).trans (Upd.setCell _ ⟨b, j - 1, none⟩ (.int .i64 (nth zs j)))
              have HST := Lib.hid (HSO2.out.step hj0 (by omega) (by rw [HZ.out]; omega) hgt)
              have HIN := Lib.hid (swp_inv hj0 (by rw [HZ.out]; omega) hgt)
              clear hr2 hset
              go_wp2
              go_quiet (fail)
              go_wp2
              go_roundw
              case rel =>
                refine ⟨j - 1, by omega, by rw [Value.int.injEq]; exact ⟨rfl, by omega⟩, ⟨m + 1, by go_num, swp zs j, by rw [swp_len, HZ.out], ?_, by have := HIN.out; have := HNI2.out; omega, HST.out⟩, ?_⟩
                · first | exact HS.out.ext (Upd.drewN _ _ _) | exact HS.out
                · first | exact (he3.upd1 HU hbb).drewN _ | exact he3.upd1 HU hbb
              case measure => simp [intOf]; omega
            · have HST := Lib.hid (HSO2.out.stop hj0 (by omega) (by omega))
              go_wp2
              go_quiet (fail)
              clear w1 w3
              go_wp2
              go_roundw
              case rel => exact ⟨k + 1, by omega, by go_num, ⟨m, rfl, zs, HZ.out, hr2.ext (Upd.drewN _ _ _), HNI2.out, HST.out⟩, he3.drewN _⟩
              case measure => simp [intOf]; omega
          · obtain rfl : j = 0 := by omega
            have HST := Lib.hid HSO2.out.zero
            go_wp2
            go_quiet (fail)
            go_wp2
            go_roundw
            case rel => exact ⟨k + 1, by omega, by go_num, ⟨m, rfl, zs, HZ.out, hr2.ext (Upd.drewN _ _ _), HNI2.out, HST.out⟩, he3.drewN _⟩
            case measure => simp [intOf]; omega
      · obtain rfl : k = xs.length := by omega
        have hfin : n = inv xs := by
          have h1 := HSO.out
          rw [← HY.out] at h1
          have h2 := inv_srt (srt_pairwise h1.srt)
          have h3 := HNI.out
          omega
        have HFIN := Lib.hid hfin
        clear hfin
        go_wp2
        go_ret
        exact ⟨by rw [e0.out, ← HFIN.out]; rfl, he⟩
set_option maxHeartbeats 400000 in
theorem impl_InsertionSteps_ok (v : Value) (xs : List Int) (w : World) (h : SI w v xs) (hl : xs.length ≤ 1048576) (_hb : I64s xs) :
    Calls Try.prog 26 #[v] w fun e w' => e = .returned (.int .i64 (invI xs)) ∧ Ext w w' := by
  go_enter Try.func26, Try.ntmps26
  go_wp2_with fail
  refine (impl_CountInversions_ok _ xs _ h (by omega)).mono ?_
  rintro e w1 ⟨rfl, he⟩
  go_wp2_with fail
  go_ret
  exact ⟨rfl, he⟩
end Go.Proofs.Ytoieaphacnaohaa
