/- Contracts of RankCounts, the program's and the reference's. Conditions: lengths below a bound. -/
import Derived.Test.YtmnbdphfoonleaaBel
import Derived.Test.YtmnbdphfoonleaaChk
namespace Go.Proofs.Ytmnbdphfoonleaa
open Go.RowKit

theorem OII.get2 {B H : Nat} {w : World} {a : Option Addr} {n c : Nat} {xss : List (List Int)} (h : OII B H w (.slice a n c) xss) {k : Nat} (hk : k < xss.length) :
    ∃ b off, a = some ⟨b, off, none⟩ ∧ B ≤ b ∧ b < H ∧ ∃ u, w.cell? ⟨b, off + k, none⟩ = some u ∧ OI B H w u (nthL xss k) := by
  rcases h with ⟨_, rfl⟩ | ⟨b, cap, vs, h1, h2, h3, h4, h5, _⟩
  · simp at hk
  · injection h1 with e1 e2 e3
    exact ⟨b, 0, e1, h2, h3, nthV vs k, by rw [Nat.zero_add]; exact h4.cell (nthV_get (by rw [h5.len]; exact hk)), h5.el k hk⟩
theorem OII.shape {B H : Nat} {w : World} {v : Value} {xss : List (List Int)} (h : OII B H w v xss) : ∃ p c, v = .slice p xss.length c := by
  rcases h with ⟨rfl, rfl⟩ | ⟨b, cap, vs, rfl, _⟩
  · exact ⟨none, 0, rfl⟩
  · exact ⟨_, cap, rfl⟩
theorem perms_complete {p : List Int} (hp : IsP p) : p ∈ permsL p.length := by
  have h : ∀ k, k ≤ p.length → p.take k ∈ layer p.length k := by
    intro k
    induction k with
    | zero => intro _; simp [layer]
    | succ k ih =>
      intro hk
      have hkl : k < p.length := by omega
      simp only [layer, List.mem_flatMap]
      refine ⟨p.take k, ih (by omega), ?_⟩
      simp only [extTo, List.mem_flatMap]
      have hb := IsP.bd hp hkl
      refine ⟨nth p k, ?_, ?_⟩
      · simp only [idL, List.mem_map, List.mem_range]
        exact ⟨(nth p k - 1).toNat, by omega, by omega⟩
      · have hno : hasB (p.take k) (nth p k) = false := hasB_false (fun hm => not_isP_twice hkl hm hp)
        unfold one
        rw [hno, take_nth hkl]; simp
  have := h p.length (Nat.le_refl _)
  rw [take_all (Nat.le_refl _), layer_perms] at this
  exact this
theorem sbelB_self (p : List Int) : sbelB p p = true := by
  unfold sbelB sbelTo rowB
  simp
theorem bel_mem {p q : List Int} (h : q ∈ belL p) : belOK p = true ∧ q ∈ permsL p.length ∧ sbelB q p = true := by
  unfold belL at h
  cases hok : belOK p
  · rw [hok] at h; simp at h
  · rw [hok] at h
    simp only [cond_true, belTo, List.mem_map] at h
    obtain ⟨i, hi, rfl⟩ := h
    have hlt := belI_lt hi
    simp only [belI, List.mem_filter] at hi
    exact ⟨rfl, nthL_mem hlt, hi.2⟩
theorem bel_inv {p q : List Int} (h : q ∈ belL p) : inv q < inv p ∨ q = p := by
  obtain ⟨h1, h2, h3⟩ := bel_mem h
  obtain ⟨h4, h5⟩ := belOK_true h1
  have hp := perms_complete (isP8_iff.1 h4).2
  have hc := chk_all p.length h5
  unfold chkR at hc
  have := List.all_eq_true.1 (List.all_eq_true.1 hc p hp) q h2
  rw [h3] at this
  simpa using this
theorem bel_self {p : List Int} (h : belOK p = true) : p ∈ belL p := by
  obtain ⟨h4, h5⟩ := belOK_true h
  have hp := perms_complete (isP8_iff.1 h4).2
  obtain ⟨k, hk, e⟩ := List.getElem_of_mem hp
  unfold belL
  rw [h]
  simp only [cond_true, belTo, List.mem_map]
  refine ⟨k, ?_, by rw [nthL_get hk]; exact e⟩
  simp only [belI, List.mem_filter, List.mem_range]
  exact ⟨hk, by rw [nthL_get hk, e]; exact sbelB_self p⟩
def rcTo (L : List (List Int)) (m : Nat) : Nat → List Int
  | 0 => List.replicate (m + 1) 0
  | k + 1 => (rcTo L m k).set (inv (nthL L k)) (nth (rcTo L m k) (inv (nthL L k)) + 1)
theorem rcTo_len (L : List (List Int)) (m k : Nat) : (rcTo L m k).length = m + 1 := by
  induction k with
  | zero => simp [rcTo]
  | succ k ih => simp [rcTo, ih]
theorem rcTo_bd (L : List (List Int)) (m k : Nat) : ∀ x ∈ rcTo L m k, 0 ≤ x ∧ x ≤ k := by
  induction k with
  | zero => intro x h; simp [rcTo] at h; omega
  | succ k ih =>
    intro x h
    simp only [rcTo] at h
    rcases List.mem_or_eq_of_mem_set h with h | h
    · have := ih x h; omega
    · subst h
      by_cases hlt : inv (nthL L k) < (rcTo L m k).length
      · have := ih _ (nth_mem hlt); omega
      · rw [List.set_eq_of_length_le (by omega)] at *
        have : nth (rcTo L m k) (inv (nthL L k)) = 0 := by unfold nth; simp; rw [List.getElem?_eq_none (by omega)]; rfl
        omega
def rcL (p : List Int) : List Int := bif belOK p then rcTo (belL p) (inv p) (belL p).length else []
theorem bound_RankCounts (p : List Int) (_h : p.length ≤ 1048576) : (rcL p).length ≤ 1048576 := by
  unfold rcL
  cases h : belOK p
  · simp
  · have h5 := (belOK_true h).2
    have := inv_bound p (by omega)
    simp only [cond_true, rcTo_len]; omega
theorem belL_small {p : List Int} (h : belOK p = true) : (belL p).length ≤ 1000 := by
  have h5 := (belOK_true h).2
  unfold belL
  rw [h]
  simp only [cond_true]
  have h1 := belI_len (permsL p.length) p (permsL p.length).length
  have h2 := perms_small p.length (by omega)
  rw [belTo_len]; omega

set_option maxHeartbeats 2000000 in
theorem impl_RankCounts_ok (v : Value) (p : List Int) (w : World) (h : SI w v p) (hl : p.length ≤ 1048576) (_hb : I64s p) :
    Calls Try.prog 42 #[v] w fun e w' => ∃ v', e = .returned v' ∧ OI w.heap.size w'.heap.size w' v' (rcL p) ∧ Ext w w' := by
  obtain ⟨a, cap, rfl, -⟩ := h.elim
  cases hok : belOK p
  · have e0 : Hid (rcL p = []) := by show _ = _; simp [rcL, hok]
    have HOK := Lib.hid hok
    have hnn := fun (w : World) (n c n' c' : Nat) => Lib.run_eql_slice_nil (P := Try.prog) w 30 24 none n c n' c' Try.underlying30
    clear hok
    go_enter Try.func42, Try.ntmps42
    go_wp2_with (go_at_call 41; refine (impl_BelowOf_post _ p _ h).mono ?_; rintro e w1 ⟨v1, rfl, -, he1, -, hv1⟩; obtain rfl := hv1 HOK.out; clear hv1)
    go_ret
    rw [e0.out]
    exact ⟨_, rfl, OI.nil _ _ _, he1⟩
  · have e0 : Hid (rcL p = rcTo (belL p) (inv p) (belL p).length) := by show _ = _; simp [rcL, hok]
    have HOK := Lib.hid hok
    have h5 := (belOK_true hok).2
    have hib := inv_bound p (by omega)
    have hsm := belL_small hok
    obtain ⟨L, hL⟩ : ∃ L, L = belL p := ⟨_, rfl⟩
    have hLi : Hid (∀ q ∈ L, inv q ≤ inv p ∧ q.length ≤ 5) := by
      show ∀ q ∈ L, _
      intro q hq
      rw [hL] at hq
      have h1 := bel_inv hq
      have h2 := perms_each (bel_mem hq).2.1
      exact ⟨h1.elim (fun h => by omega) (fun h => by rw [h]; exact Nat.le_refl _), by omega⟩
    rw [← hL] at e0 hsm
    have HL := Lib.hid hL
    obtain ⟨M, hM⟩ : ∃ M, M = inv p := ⟨_, rfl⟩
    rw [← hM] at e0 hib hLi
    have HM := Lib.hid hM
    clear hok hL hM
    go_enter Try.func42, Try.ntmps42
    go_wp2_with fail
    refine (impl_BelowOf_post _ p _ h).mono ?_
    rintro e w1 ⟨v1, rfl, ho1, he1, hv1, -⟩
    obtain ⟨b1, c1, hv1'⟩ := hv1 HOK.out
    rw [← HL.out] at hv1' ho1
    subst hv1'
    have hnn := fun (w : World) (n c n' c' : Nat) => Lib.run_eql_slice_nil (P := Try.prog) w 30 24 (some ⟨b1, 0, none⟩) n c n' c' Try.underlying30
    have HO1 := Lib.hid ho1
    clear hv1 ho1
    go_wp2_with fail
    refine (impl_inversions_ok _ p _ (h.ext he1) (by omega)).mono ?_
    rintro e w2 ⟨rfl, hq2⟩
    rw [← HM.out]
    have hz1 := he1.size
    have hz2 := hq2.ext.size
    have HO2 := Lib.hid (HO1.out.ext hq2.ext)
    go_wp2_with (at_make; refine wpl_make_int rfl _ _ rfl (M + 1) _ _ _ _ rfl rfl (by simp) (by simp) (by omega) ?_; intro w3 hr0 he3 hs3)
    have HO3 := Lib.hid (HO2.out.ext he3)
    have he03 := (he1.trans hq2.ext).trans he3
    have hz12 : w1.heap.size ≤ w2.heap.size := hz2
    go_loopw [17] (fun i wr => ∃ k : Nat, k ≤ L.length ∧ i = .int .i64 k ∧ Row 3 wr w2.heap.size (M + 1) (vals (rcTo L M k)) ∧ Upd (· = w2.heap.size) w3 wr) (fun i _ => L.length - (intOf i).toNat)
    case atStart => exact ⟨0, Nat.zero_le _, rfl, hr0, Upd.refl _ _⟩
    case round =>
      obtain ⟨k, hk, rfl, hr, hu⟩ := hrel
      clear hr0 HO1 HO2
      have hE : Ext w wr := he03.upd1 hu (by omega)
      by_cases hlt : k < L.length
      · obtain ⟨bq, off, e1, -, -, u, hc, hou⟩ := (HO3.out.upd hu (fun i h1 h2 e => by omega)).get2 hlt
        obtain ⟨rfl, rfl⟩ : b1 = bq ∧ 0 = off := by simpa using e1
        have hqi := hLi.out _ (nthL_mem hlt)
        have hst : rcTo L M (k + 1) = (rcTo L M k).set (inv (nthL L k)) (nth (rcTo L M k) (inv (nthL L k)) + 1) := rfl
        obtain ⟨q, hq⟩ : ∃ q, q = nthL L k := ⟨_, rfl⟩
        rw [← hq] at hou hqi hst
        obtain ⟨j, hj⟩ : ∃ j, j = inv q := ⟨_, rfl⟩
        rw [← hj] at hqi hst
        obtain ⟨pu, cu, rfl⟩ := hou.shape
        have hsu := hou.si
        have hjl : j < (rcTo L M k).length := by rw [rcTo_len]; omega
        have hcell := hr.icell hjl
        have hxb := rcTo_bd L M k _ (nth_mem hjl)
        obtain ⟨x, hx⟩ : ∃ x, x = nth (rcTo L M k) j := ⟨_, rfl⟩
        rw [← hx] at hcell hxb hst
        have hf := hr.free j none
        have HST := Lib.hid hst
        have HJ := Lib.hid hj
        have hset := fun m => ((hr.ext (Upd.drewN wr m _)).set j (.int .i64 (x + 1)))
        simp only [vals_set, ← hst] at hset
        have HS := Lib.hid hset
        have HU := Lib.hid (fun m => (hu.trans (Upd.drewN wr m _)).trans (Upd.setCell _ ⟨w2.heap.size, j, none⟩ (.int .i64 (x + 1))))
        have hjm : (j : Int) < (M : Int) + 1 := by omega
        rw [Nat.zero_add] at hc
        clear e1 hq hj hst hr hset hx hjl hou hu
        go_wp2_with (go_at_call 73; refine (impl_inversions_ok _ q _ hsu (by omega)).mono ?_; rintro e w5 ⟨rfl, hq5⟩; rw [← HJ.out]; obtain ⟨m5, rfl⟩ := hq5)
        go_roundw
        case rel => exact ⟨k + 1, by omega, by go_num, HS.out _, HU.out _⟩
        case measure => simp [intOf]; omega
      · obtain rfl : k = L.length := by omega
        have hrl := Lib.hid (rcTo_len L M L.length)
        go_wp2_with fail
        go_ret
        rw [e0.out]
        exact ⟨_, rfl, OI.row hr (by omega) hrl.out.symm, hE⟩
set_option maxHeartbeats 2000000 in
theorem spec_RankCounts_ok (v : Value) (p : List Int) (w : World) (h : SI w v p) (hl : p.length ≤ 1048576) (hb : I64s p) :
    Calls Try.prog 49 #[v] w fun e w' => ∃ v', e = .returned v' ∧ OI w.heap.size w'.heap.size w' v' (rcL p) ∧ Ext w w' := by
  obtain ⟨a, cap, rfl, -⟩ := h.elim
  cases hok : belOK p
  · have e0 : Hid (rcL p = []) := by show _ = _; simp [rcL, hok]
    have e1 : Hid (belL p = []) := by show _ = _; simp [belL, hok]
    clear hok
    have HB := Lib.hid hb
    clear hb
    go_enter Try.func49, Try.ntmps49
    go_wp2_with fail
    refine (spec_BelowOf_ok _ p _ h hl HB.out).mono ?_
    rintro e w1 ⟨v1, rfl, ho1, he1⟩
    rw [e1.out] at ho1
    obtain ⟨pv, cv, rfl⟩ := ho1.shape
    have hz1 := he1.size
    clear ho1
    go_wp2_with fail
    go_ret
    rw [e0.out]
    have hr := Row.new 3 w1 [] (by simp)
    exact ⟨_, rfl, OI.row hr hz1 rfl, he1.alloc _⟩
  · have e0 : Hid (rcL p = rcTo (belL p) (inv p) (belL p).length) := by show _ = _; simp [rcL, hok]
    have h5 := (belOK_true hok).2
    have hp8 := (belOK_true hok).1
    have hib := inv_bound p (by omega)
    have hsm := belL_small hok
    have hpos := List.length_pos_of_mem (bel_self hok)
    have eI : Hid (invI p = (inv p : Int)) := by show _ = _; simp [invI, hp8]
    obtain ⟨L, hL⟩ : ∃ L, L = belL p := ⟨_, rfl⟩
    have hLi : Hid (∀ q ∈ L, inv q ≤ inv p ∧ q.length ≤ 5 ∧ invI q = (inv q : Int)) := by
      show ∀ q ∈ L, _
      intro q hq
      rw [hL] at hq
      have h1 := bel_inv hq
      have hm := bel_mem hq
      have h2 := perms_each hm.2.1
      have h3 : isP8 q = true := isP8_iff.2 ⟨by omega, perms_isPP hm.2.1⟩
      exact ⟨h1.elim (fun h => by omega) (fun h => by rw [h]; exact Nat.le_refl _), by omega, by simp [invI, h3]⟩
    rw [← hL] at e0 hsm hpos
    have HL := Lib.hid hL
    obtain ⟨M, hM⟩ : ∃ M, M = inv p := ⟨_, rfl⟩
    rw [← hM] at e0 hib hLi eI
    have HM := Lib.hid hM
    have HB := Lib.hid hb
    clear hok hL hM hb
    go_enter Try.func49, Try.ntmps49
    go_wp2_with fail
    refine (spec_BelowOf_ok _ p _ h hl HB.out).mono ?_
    rintro e w1 ⟨v1, rfl, ho1, he1⟩
    rw [← HL.out] at ho1
    obtain ⟨pv, cv, rfl⟩ := ho1.shape
    have HO1 := Lib.hid ho1
    have hposI : (0 : Int) < (L.length : Int) := by omega
    clear ho1
    go_wp2_with fail
    refine (spec_CountInversions_ok _ p _ (h.ext he1) (by omega)).mono ?_
    rintro e w2 ⟨rfl, hq2⟩
    rw [eI.out]
    have hz1 := he1.size
    have hz2 := hq2.ext.size
    have HO2 := Lib.hid (HO1.out.ext hq2.ext)
    go_wp2_with (at_make; refine wpl_make_int rfl _ _ rfl (M + 1) _ _ _ _ rfl rfl (by simp) (by simp) (by omega) ?_; intro w3 hr0 he3 hs3)
    have HO3 := Lib.hid (HO2.out.ext he3)
    have he03 := (he1.trans hq2.ext).trans he3
    have hz12 : w1.heap.size ≤ w2.heap.size := hz2
    go_loopw [5] (fun i wr => ∃ k : Nat, k ≤ L.length ∧ i = .int .i64 k ∧ Row 3 wr w2.heap.size (M + 1) (vals (rcTo L M k)) ∧ Upd (· = w2.heap.size) w3 wr) (fun i _ => L.length - (intOf i).toNat)
    case atStart => exact ⟨0, Nat.zero_le _, rfl, hr0, Upd.refl _ _⟩
    case round =>
      obtain ⟨k, hk, rfl, hr, hu⟩ := hrel
      clear hr0 HO1 HO2
      have hE : Ext w wr := he03.upd1 hu (by omega)
      by_cases hlt : k < L.length
      · obtain ⟨bq, off, e1, -, -, u, hc, hou⟩ := (HO3.out.upd hu (fun i h1 h2 e => by omega)).get2 hlt
        obtain rfl := e1
        have hqi := hLi.out _ (nthL_mem hlt)
        have hst : rcTo L M (k + 1) = (rcTo L M k).set (inv (nthL L k)) (nth (rcTo L M k) (inv (nthL L k)) + 1) := rfl
        obtain ⟨q, hq⟩ : ∃ q, q = nthL L k := ⟨_, rfl⟩
        rw [← hq] at hou hqi hst
        obtain ⟨j, hj⟩ : ∃ j, j = inv q := ⟨_, rfl⟩
        rw [← hj] at hqi hst
        obtain ⟨pu, cu, rfl⟩ := hou.shape
        have hsu := hou.si
        have hjl : j < (rcTo L M k).length := by rw [rcTo_len]; omega
        have hcell := hr.icell hjl
        have hxb := rcTo_bd L M k _ (nth_mem hjl)
        obtain ⟨x, hx⟩ : ∃ x, x = nth (rcTo L M k) j := ⟨_, rfl⟩
        rw [← hx] at hcell hxb hst
        have hf := hr.free j none
        have HST := Lib.hid hst
        have HJ := Lib.hid hqi.2.2
        obtain ⟨hqi1, hqi2, -⟩ := hqi
        have hset := fun m => ((hr.ext (Upd.drewN wr m _)).set j (.int .i64 (x + 1)))
        simp only [vals_set, ← hst] at hset
        have HS := Lib.hid hset
        have HU := Lib.hid (fun m => (hu.trans (Upd.drewN wr m _)).trans (Upd.setCell _ ⟨w2.heap.size, j, none⟩ (.int .i64 (x + 1))))
        have hjm : (j : Int) < (M : Int) + 1 := by omega
        clear hq hj hst hr hset hx hjl hou hu
        go_wp2_with fail
        refine (spec_CountInversions_ok _ q _ hsu (by omega)).mono ?_
        rintro e w5 ⟨rfl, hq5⟩
        rw [HJ.out]
        obtain ⟨m5, rfl⟩ := hq5
        go_wp2_with fail
        go_roundw
        case rel => exact ⟨k + 1, by omega, by go_num, HS.out _, HU.out _⟩
        case measure => simp [intOf]; omega
      · obtain rfl : k = L.length := by omega
        have hrl := Lib.hid (rcTo_len L M L.length)
        go_wp2_with fail
        go_ret
        rw [e0.out]
        exact ⟨_, rfl, OI.row hr (by omega) hrl.out.symm, hE⟩
end Go.Proofs.Ytmnbdphfoonleaa
