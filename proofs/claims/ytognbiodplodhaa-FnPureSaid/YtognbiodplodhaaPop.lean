/- Contracts of the functions that find the longest descending parts and turn them round, the program's and the reference's. Conditions: a permutation of at most 1000 numbers. -/
import Derived.Test.YtognbiodplodhaaPopM
import Derived.Test.YtognbiodplodhaaHarnSS
import Derived.Deep.RegionWith
namespace Go.Proofs.Ytognbiodplodhaa
open Go.RowKit

theorem IsP.cut {xs : List Int} (h : IsP xs) {i : Nat} (hi : i + 1 < xs.length) : cutB xs i = decide (nth xs i < nth xs (i + 1)) := by
  have h2 : nth xs i ≠ nth xs (i + 1) := fun e => by have := h.inj (by omega) hi e; omega
  by_cases e : nth xs i < nth xs (i + 1)
  · rw [cutB_up (by omega), decide_eq_true e]
  · rw [cutB_down hi (by omega), decide_eq_false e]

set_option maxHeartbeats 1000000 in
theorem falls_ok (v : Value) (xs : List Int) (w : World) (h : SI w v xs) (hp : IsP xs) (hl : xs.length ≤ 1000) :
    Calls Try.prog 53 #[v] w fun e w' => ∃ v', e = .returned v' ∧ OII w.heap.size w'.heap.size w' v' (fallsL xs) ∧ Ext w w' := by
  have h0 := h
  obtain ⟨a, cap, rfl, hri⟩ := h0.elim
  have HP := Lib.hid hp
  clear hp
  go_enter Try.func53, Try.ntmps53
  go_wp2_with fail
  have hr0 := RR.new w
  have he0 : Ext w (w.alloc (.cells #[] 24)) := Upd.alloc _ _ _
  go_loopw [3, 4, 9] (fun p f i wr => ∃ k : Nat, k ≤ xs.length ∧ i = .int .i64 k ∧ f = .int .i64 (scF xs k : Nat) ∧ (∃ b c n, p = .slice (some ⟨b, 0, none⟩) n c ∧ n = (scL xs k).length ∧ RR w.heap.size wr.heap.size wr b c (scL xs k)) ∧ Ext w wr) (fun _ _ i _ => xs.length - (intOf i).toNat)
  case atStart => exact ⟨0, Nat.zero_le _, rfl, rfl, ⟨_, 0, 0, rfl, rfl, hr0.mono (by simp)⟩, he0⟩
  case round =>
    obtain ⟨k, hk, rfl, rfl, ⟨b, c, n, rfl, hn, hr⟩, he⟩ := hrel
    have HN := Lib.hid hn
    have hfl := scF_le xs k
    have hll := scL_len xs k
    clear hr0 he0 hn
    by_cases hlt : k < xs.length
    · obtain ⟨bb, off, rfl, hc⟩ := (hri.ext he).get hlt
      have c0 := hc k hlt
      have w1 : IntKind.i64.wrap ((k : Int) + 1) = (k : Int) + 1 := IntWalk.i64_in _ (by omega)
      have hki : (k : Int) < (xs.length : Int) := by omega
      by_cases hlast : k + 1 = xs.length
      · have hkl : (k : Int) + 1 = (xs.length : Int) := by omega
        have hc0 := Lib.hid (cutB_last (xs := xs) (i := k) (by omega))
        go_wp2_with fail
        go_quiet (fail)
        clear w1 hkl
        go_wp2_with (at_builtin; refine wpl_appLit rfl _ _ rfl w.heap.size b c n _ _ (scL xs k) [(scF xs k : Int) + 1, (k : Int) + 1] rfl (hr.ext (Upd.drewN _ _ _)) HN.out (he.drewN _).size (by simp) rfl rfl rfl (by omega) ?_; intro b3 c3 w3 hr3 hu3)
        go_roundw
        case rel => exact ⟨k + 1, by omega, by go_num, by rw [scF_t hc0.out]; go_num, ⟨b3, c3, n + 1, rfl, by rw [scL_t hc0.out]; simp [HN.out], by rw [scL_t hc0.out]; exact hr3⟩, (he.drewN _).upd1 hu3 hr.lo⟩
        case measure => simp [intOf]; omega
      · have hkl : ¬ (k : Int) + 1 = (xs.length : Int) := by omega
        have hkl2 : (k : Int) + 1 < (xs.length : Int) := by omega
        have w2 : 0 ≤ (k : Int) + 1 := by omega
        have w3 : ((k : Int) + 1).toNat = k + 1 := by omega
        have c1 := hc (k + 1) (by omega)
        by_cases hup : nth xs k < nth xs (k + 1)
        · have hc0 := Lib.hid (cutB_up (xs := xs) (i := k) (by omega))
          go_wp2_with fail
          go_quiet (fail)
          clear w1 w3 hkl hkl2 w2 c1
          go_wp2_with (at_builtin; refine wpl_appLit rfl _ _ rfl w.heap.size b c n _ _ (scL xs k) [(scF xs k : Int) + 1, (k : Int) + 1] rfl (hr.ext (Upd.drewN _ _ _)) HN.out (he.drewN _).size (by simp) rfl rfl rfl (by omega) ?_; intro b3 c3 w3 hr3 hu3)
          go_roundw
          case rel => exact ⟨k + 1, by omega, by go_num, by rw [scF_t hc0.out]; go_num, ⟨b3, c3, n + 1, rfl, by rw [scL_t hc0.out]; simp [HN.out], by rw [scL_t hc0.out]; exact hr3⟩, (he.drewN _).upd1 hu3 hr.lo⟩
          case measure => simp [intOf]; omega
        · have hc0 : Hid (cutB xs k = false) := by show _ = _; rw [HP.out.cut (by omega), decide_eq_false hup]
          go_wp2_with fail
          go_quiet (fail)
          have e1 : ((k : Int) + 1 == (xs.length : Int)) = false := by simpa using hkl
          have e2 : decide (nth xs k < nth xs (k + 1)) = false := decide_eq_false (by omega)
          simp only [e1, e2, Bool.or_false]
          clear w1 w3 hkl hkl2 w2 c1 e1 e2
          go_wp2_with fail
          go_roundw
          case rel => exact ⟨k + 1, by omega, by go_num, by rw [scF_f hc0.out], ⟨b, c, n, rfl, by rw [scL_f hc0.out]; exact HN.out, by rw [scL_f hc0.out]; exact hr.ext (Upd.drewN _ _ _)⟩, he.drewN _⟩
          case measure => simp [intOf]; omega
    · have hfin : Hid (fallsL xs = scL xs k) := by show _ = _; unfold fallsL; congr 1; omega
      go_wp2_with fail
      go_ret
      rw [hfin.out]
      exact ⟨_, rfl, hr.oii HN.out, he⟩
theorem seg_bound {xs : List Int} {t : Nat} (ht : t < (fallsL xs).length) : ∃ j, j < xs.length ∧ cutB xs j = true ∧ (scL xs j).length = t ∧ nthL (fallsL xs) t = [(scF xs j : Int) + 1, (j : Int) + 1] := scL_get xs xs.length t ht
theorem scA_len (xs : List Int) (i : Nat) (hi : i ≤ xs.length) : (scA xs i).length = xs.length := (scA_perm xs i hi).length_eq
theorem scA_same {xs : List Int} {i j : Nat} (h : (scL xs i).length = (scL xs j).length) : scA xs i = scA xs j := by
  have h1 := sc_same h
  unfold scA; rw [h1.1, h1.2]
set_option maxHeartbeats 1000000 in
theorem popPass_ok (v : Value) (xs : List Int) (w : World) (hp : IsP xs) (hl : xs.length ≤ 8) (h : SI w v xs) :
    Calls Try.prog 50 #[v] w fun e w' => ∃ v', e = .returned v' ∧ OI w.heap.size w'.heap.size w' v' (popL xs) ∧ Ext w w' := by
  have HP := Lib.hid hp
  clear hp
  go_enter Try.func50, Try.ntmps50
  go_wp2_with fail
  refine (slicesClone_ok _ xs _ h (by omega)).mono ?_
  rintro e w2 ⟨v2, rfl, ho, he2⟩
  go_wp2_with fail
  refine (falls_ok _ xs _ (h.ext he2) HP.out (by omega)).mono ?_
  rintro e w3 ⟨v3, rfl, ho3, he3⟩
  have hs3 := ho3.sii
  obtain ⟨p3, c3, rfl, -⟩ := hs3.elim
  have hb3 : (fallsL xs).length ≤ 8 := by have := scL_len xs xs.length; unfold fallsL; omega
  rcases ho with ⟨rfl, hx⟩ | ⟨b, c, rfl, hbb, hbz, hr⟩
  · subst hx
    clear hs3
    have hz : (fallsL []).length = 0 := rfl
    have HO := Lib.hid ho3
    clear ho3
    rw [hz]
    clear hz
    go_wp2_with fail
    go_loopw [11] (fun t wr => t = .int .i64 0 ∧ w3 = wr) (fun _ _ => 0)
    case atStart => exact ⟨rfl, rfl⟩
    case round =>
      obtain ⟨rfl, rfl⟩ := hrel
      go_wp2_with fail
      go_ret
      exact ⟨_, rfl, OI.nil _ _ _, he2.trans he3⟩
  · go_wp2_with fail
    go_loopw [11] (fun t wr => ∃ k : Nat, k ≤ (fallsL xs).length ∧ t = .int .i64 k ∧ (∃ i, i ≤ xs.length ∧ (scL xs i).length = k ∧ Row 3 wr b c (vals (scA xs i))) ∧ Ext w wr ∧ Upd (· = b) w3 wr) (fun t _ => (fallsL xs).length - (intOf t).toNat)
    case atStart => exact ⟨0, Nat.zero_le _, rfl, ⟨0, Nat.zero_le _, rfl, by rw [scA_zero]; exact hr.ext he3⟩, he2.trans he3, Upd.refl _ _⟩
    case round =>
      obtain ⟨k, hk, rfl, ⟨i, hi, hik, hr1⟩, he, hu⟩ := hrel
      have HIK := Lib.hid hik
      clear hik
      by_cases hlt : k < (fallsL xs).length
      · obtain ⟨j, hj, hcut, hjk, hval⟩ := seg_bound hlt
        have hsw := (ho3.upd hu (fun q h1 h2 => by omega)).sii
        obtain ⟨_, _, h1, h2⟩ := hsw.elim
        injection h1 with e1 e2 e3
        subst e1 e3
        obtain ⟨b3, o3, rfl, u, hcu, hsu⟩ := h2 k hlt
        rw [hval] at hsu
        obtain ⟨pu, cu, rfl, hru⟩ := SI.elim hsu
        obtain ⟨bu, ou, rfl, hcc⟩ := hru.get (k := 0) (by simp)
        have c0 : wr.cell? ⟨bu, ou, none⟩ = some (.int .i64 ((scF xs j : Int) + 1)) := hcc 0 (by simp)
        have c1 : wr.cell? ⟨bu, ou + 1, none⟩ = some (.int .i64 ((j : Int) + 1)) := hcc 1 (by simp)
        have HV := Lib.hid hval
        have HJ := Lib.hid hjk
        have HC := Lib.hid hcut
        have hfj := scF_le xs j
        have hAe : scA xs i = scA xs j := scA_same (by rw [HIK.out, hjk])
        rw [hAe] at hr1
        have hrl := hr1.le
        have w1 : IntKind.i64.wrap ((scF xs j : Int) + 1 - 1) = (scF xs j : Int) := by rw [IntWalk.i64_in _ (by omega)]; omega
        clear e2 hval hjk hcut h2 hsu hru hcc hsw hAe
        have hki : (k : Int) < ((fallsL xs).length : Int) := by omega
        go_wp2_with fail
        have hfn : scF xs j + (j + 1 - scF xs j) ≤ (scA xs j).length := by rw [scA_len xs j (by omega)]; omega
        have hrv := Lib.hid (scA_rev hj HC.out)
        have HR := Lib.hid hr1
        have HFN := Lib.hid hfn
        have hsl : ((scF xs j : Int) + 1 - 1).toNat = scF xs j := by omega
        clear hr1 hfn
        have hcl : xs.length ≤ c := by have h1 := HR.out.le; rw [List.length_map, scA_len xs j (by omega)] at h1; exact h1
        have s1 : (0 : Int) ≤ (scF xs j : Int) := by omega
        have s2 : (0 : Int) ≤ (j : Int) + 1 := by omega
        have s3 : ((j : Int) + 1).toNat = j + 1 := by omega
        have s4 : (scF xs j : Int) ≤ (j : Int) + 1 := by omega
        have s5 : (j : Int) + 1 ≤ (c : Int) := by omega
        have s6 : ¬ (c = scF xs j) := by omega
        have s7 : (scF xs j : Int) ≤ (c : Int) := by omega
        have w9 : IntKind.i64.wrap (scF xs j : Int) = (scF xs j : Int) := IntWalk.i64_in _ (by omega)
        have w0 : (scF xs j : Int) + 1 - 1 = (scF xs j : Int) := by omega
        go_region_with (go_at_call 77; refine (slicesReverse_ok b (scF xs j) _ _ c (scA xs j) _ (HR.out.ext (Upd.drew _ _)) HFN.out (by rw [scA_len xs j (by omega)]; omega)).mono ?_; rintro e w4 ⟨rfl, hr4, hu4⟩)
        all_goals (
          rw [hrv.out] at hr4
          have hE : Ext w w4 := (he.trans (Upd.drew wr _)).upd1 hu4 hbb
          have hU : Upd (· = b) w3 w4 := (hu.trans (Upd.drew wr _)).trans hu4
          clear hsl s1 s2 s3 s4 s5 s6 s7 w9 w0 w1 c0 c1 hu4
          go_wp2_with fail
          go_roundw
          case rel => exact ⟨k + 1, by omega, by go_num, ⟨j + 1, by omega, by rw [scL_t HC.out]; simp [HJ.out], hr4⟩, hE, hU⟩
          case measure => simp [intOf]; omega)
      · have hfin : Hid (popL xs = scA xs i) := by
          show _ = _
          rw [← scA_end]; exact scA_same (by rw [HIK.out]; show (fallsL xs).length = k; omega)
        have hlA := Lib.hid (scA_len xs i hi)
        go_wp2_with fail
        go_ret
        rw [hfin.out]
        exact ⟨_, rfl, OI.row hr1 hbb hlA.out.symm, he⟩
theorem SI.seg {w : World} {b off cap : Nat} {xs : List Int} (hc : ∀ i, i < xs.length → w.cell? ⟨b, off + i, none⟩ = some (.int .i64 (nth xs i))) (k n : Nat) (hk : k + n ≤ xs.length) (h1 : xs.length ≤ cap) (h2 : cap ≤ maxLen) :
    SI w (.slice (some ⟨b, off + k, none⟩) n (cap - k)) ((xs.drop k).take n) := by
  have hl : ((xs.drop k).take n).length = n := by simp; omega
  refine ⟨_, cap - k, by rw [hl], by omega, by omega, by simp, .inr ⟨b, off + k, rfl, fun i hi => ?_⟩⟩
  rw [hl] at hi
  rw [nth_seg hi, Nat.add_assoc]
  exact hc (k + i) (by omega)
theorem scD (xs : List Int) (i : Nat) (h : cutB xs i = false) : scF xs (i + 1) = scF xs i ∧ scO xs (i + 1) = scO xs i := ⟨scF_f h, scO_f h⟩
set_option maxHeartbeats 1000000 in
theorem l22Pass_ok (v : Value) (xs : List Int) (w : World) (hl : xs.length ≤ 8) (h : SI w v xs) :
    Calls Try.prog 56 #[v] w fun e w' => ∃ v', e = .returned v' ∧ OI w.heap.size w'.heap.size w' v' (popL xs) ∧ Ext w w' := by
  obtain ⟨a, cap, rfl, hc1, hc2, -, hri⟩ := h
  have hmx := hc2
  unfold maxLen at hmx
  have hr0 := Row.new 3 w [] (by simp)
  have he0 : Ext w (w.alloc (.cells #[] 3)) := Upd.alloc _ _ _
  go_enter Try.func56, Try.ntmps56
  go_wp2_with fail
  go_loopw [3, 4] (fun o f wr => ∃ k : Nat, k ≤ xs.length ∧ f = .int .i64 k ∧ Hid (scF xs k = k) ∧ (∃ b c n, o = .slice (some ⟨b, 0, none⟩) n c ∧ n = (scO xs k).length ∧ w.heap.size ≤ b ∧ Row 3 wr b c (vals (scO xs k))) ∧ Ext w wr) (fun _ f _ => xs.length - (intOf f).toNat)
  case atStart => exact ⟨0, Nat.zero_le _, rfl, Lib.hid rfl, ⟨_, 0, 0, rfl, rfl, Nat.le_refl _, hr0⟩, he0⟩
  case round =>
    obtain ⟨k, hk, rfl, hF, ⟨b, c, n, rfl, hn, hb, hr⟩, he⟩ := hrel
    have HN := Lib.hid hn
    have hol := scO_len xs k hk
    have hnk : n = k := by rw [hn, hol, hF.out]
    subst hnk
    clear hr0 he0 hn hol
    by_cases hlt : n < xs.length
    · obtain ⟨bb, off, rfl, hc⟩ := (hri.ext he).get hlt
      have hki : (n : Int) < (xs.length : Int) := by omega
      go_wp2_with fail
      obtain ⟨wp, hwp⟩ : ∃ wp, wp = wr := ⟨_, rfl⟩
      subst hwp
      go_loopw [5] (fun t wr => ∃ j : Nat, n ≤ j ∧ j < xs.length ∧ t = .int .i64 j ∧ Hid (scF xs j = n) ∧ Hid (scO xs j = scO xs n) ∧ Qt wp wr) (fun t _ => xs.length - (intOf t).toNat)
      case atStart => exact ⟨n, Nat.le_refl _, hlt, rfl, hF, Lib.hid rfl, Qt.refl _⟩
      case round =>
        obtain ⟨j, hj1, hj2, rfl, hFj, hOj, hq⟩ := hrel
        have c0 := hq.ext.cell (hc j hj2) id
        have w1 : IntKind.i64.wrap ((j : Int) + 1) = (j : Int) + 1 := IntWalk.i64_in _ (by omega)
        have w2 : 0 ≤ (j : Int) + 1 := by omega
        have w3 : ((j : Int) + 1).toNat = j + 1 := by omega
        by_cases hlast : j + 1 < xs.length
        · have c1 := hq.ext.cell (hc (j + 1) hlast) id
          have hji : (j : Int) + 1 < (xs.length : Int) := by omega
          by_cases hdn : nth xs (j + 1) < nth xs j
          · have hct := Lib.hid (cutB_down hlast hdn)
            go_wp2_with fail
            go_quiet (fail)
            clear w1 w3
            go_wp2_with fail
            go_roundw
            case rel => exact ⟨j + 1, by omega, by omega, by go_num, Lib.hid (by rw [scF_f hct.out, hFj.out]), Lib.hid (by rw [scO_f hct.out, hOj.out]), hq.drewN _⟩
            case measure => simp [intOf]; omega
          · have hct := Lib.hid (cutB_up hdn)
            go_wp2_with fail
            go_quiet (fail)
            clear c1
            have sI := SI.seg (w := wr) (fun i hi => hq.ext.cell (hc i hi) id) n (j + 1 - n) (by omega) hc1 hc2
            have HSI := Lib.hid sI
            have s4 : (n : Int) ≤ (j : Int) + 1 := by omega
            have s5 : (j : Int) + 1 ≤ (cap : Int) := by omega
            have s6 : ¬ (cap = n) := by omega
            have s7 : (n : Int) ≤ (cap : Int) := by omega
            have s8 : (0 : Int) ≤ (n : Int) := by omega
            have hlr : ((xs.drop n).take (j + 1 - n)).length ≤ 10 := by simp; omega
            have hlo : (scO xs n).length ≤ 10 := by have := HN.out; omega
            have HR := Lib.hid (hr.ext hq.ext)
            have he' : Ext w wr := he.trans hq.ext
            have hrl : Hid (((xs.drop n).take (j + 1 - n)).reverse.length = j + 1 - n) := by show _ = _; simp; omega
            clear sI c0 hr hc
            go_wp2_with (first | (go_at_call 59; refine (l3Reverse_ok _ ((xs.drop n).take (j + 1 - n)) _ (HSI.out.ext (Upd.drewN _ _ _)) (by omega)).mono ?_; rintro e w5 ⟨v5, rfl, ho5, he5⟩) | (at_builtin; refine wpl_appSI rfl _ _ rfl b c n (scO xs n) ((xs.drop n).take (j + 1 - n)).reverse rfl ((HR.out.ext (Upd.drewN _ _ _)).ext he5) HN.out _ rfl ho5.si (by omega) (by rw [hrl.out]; omega) ?_; intro b6 c6 w6 hr6 hb6 hu6))
            go_roundw
            case rel =>
              have hE : Ext w w6 := ((he'.drewN _).trans he5).upd1 hu6 hb
              have hb6' : w.heap.size ≤ b6 := by
                rcases hb6 with e | e
                · omega
                · have := ((he'.drewN nq).trans he5).size; omega
              have hO : scO xs n ++ ((xs.drop n).take (j + 1 - n)).reverse = scO xs (j + 1) := by rw [scO_t hct.out, hFj.out, hOj.out]
              exact ⟨j + 1, by omega, by go_num, Lib.hid (scF_t hct.out), ⟨b6, c6, j + 1, by congr 1; omega, by rw [scO_len xs _ (by omega), scF_t hct.out], hb6', by rw [← hO]; exact hr6⟩, hE⟩
            case measure => simp [intOf]; omega
        · have hji : ¬ (j : Int) + 1 < (xs.length : Int) := by omega
          have hjd : decide ((j : Int) + 1 < (xs.length : Int)) = false := decide_eq_false hji
          have hct := Lib.hid (cutB_last (xs := xs) (i := j) (by omega))
          go_wp2_with fail
          go_quiet (fail)
          have sI := SI.seg (w := wr) (fun i hi => hq.ext.cell (hc i hi) id) n (j + 1 - n) (by omega) hc1 hc2
          have HSI := Lib.hid sI
          have s4 : (n : Int) ≤ (j : Int) + 1 := by omega
          have s5 : (j : Int) + 1 ≤ (cap : Int) := by omega
          have s6 : ¬ (cap = n) := by omega
          have s7 : (n : Int) ≤ (cap : Int) := by omega
          have s8 : (0 : Int) ≤ (n : Int) := by omega
          have hlr : ((xs.drop n).take (j + 1 - n)).length ≤ 10 := by simp; omega
          have hlo : (scO xs n).length ≤ 10 := by have := HN.out; omega
          have HR := Lib.hid (hr.ext hq.ext)
          have he' : Ext w wr := he.trans hq.ext
          have hrl : Hid (((xs.drop n).take (j + 1 - n)).reverse.length = j + 1 - n) := by show _ = _; simp; omega
          clear sI c0 hr hc
          go_wp2_with (first | (go_at_call 59; refine (l3Reverse_ok _ ((xs.drop n).take (j + 1 - n)) _ (HSI.out.ext (Upd.drewN _ _ _)) (by omega)).mono ?_; rintro e w5 ⟨v5, rfl, ho5, he5⟩) | (at_builtin; refine wpl_appSI rfl _ _ rfl b c n (scO xs n) ((xs.drop n).take (j + 1 - n)).reverse rfl ((HR.out.ext (Upd.drewN _ _ _)).ext he5) HN.out _ rfl ho5.si (by omega) (by rw [hrl.out]; omega) ?_; intro b6 c6 w6 hr6 hb6 hu6))
          go_roundw
          case rel =>
            have hE : Ext w w6 := ((he'.drewN _).trans he5).upd1 hu6 hb
            have hb6' : w.heap.size ≤ b6 := by
              rcases hb6 with e | e
              · omega
              · have := ((he'.drewN nq).trans he5).size; omega
            have hO : scO xs n ++ ((xs.drop n).take (j + 1 - n)).reverse = scO xs (j + 1) := by rw [scO_t hct.out, hFj.out, hOj.out]
            exact ⟨j + 1, by omega, by go_num, Lib.hid (scF_t hct.out), ⟨b6, c6, j + 1, by congr 1; omega, by rw [scO_len xs _ (by omega), scF_t hct.out], hb6', by rw [← hO]; exact hr6⟩, hE⟩
          case measure => simp [intOf]; omega
    · have hfin : Hid (popL xs = scO xs n) := by show _ = _; unfold popL; congr 1; omega
      go_wp2_with fail
      go_ret
      rw [hfin.out]
      exact ⟨_, rfl, OI.row hr hb HN.out, he⟩
end Go.Proofs.Ytognbiodplodhaa
