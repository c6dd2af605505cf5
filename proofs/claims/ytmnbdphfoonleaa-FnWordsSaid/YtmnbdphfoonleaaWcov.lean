/- Contracts of WeakCovers, the program's and the reference's. Conditions: lengths below a bound. -/
import Derived.Test.YtmnbdphfoonleaaRow3
import Derived.Test.YtmnbdphfoonleaaCopy
import Derived.Test.YtmnbdphfoonleaaBase2
namespace Go.Proofs.Ytmnbdphfoonleaa
open Go.RowKit

def nsw (xs : List Int) (i : Nat) : List Int := (xs.set i (nth xs (i + 1))).set (i + 1) (nth xs i)
def wcOne (xs : List Int) (i : Nat) : List (List Int) := bif decide (nth xs i < nth xs (i + 1)) then [nsw xs i] else []
def wcTo (xs : List Int) (k : Nat) : List (List Int) := (List.range k).flatMap (wcOne xs)
def wcL (xs : List Int) : List (List Int) := bif isP8 xs then wcTo xs (xs.length - 1) else []
theorem wcTo_succ (xs : List Int) (k : Nat) : wcTo xs (k + 1) = wcTo xs k ++ wcOne xs k := by simp [wcTo, List.range_succ]
theorem wcOne_t {xs : List Int} {i : Nat} (h : nth xs i < nth xs (i + 1)) : wcOne xs i = [nsw xs i] := by unfold wcOne; rw [decide_eq_true h]; rfl
theorem wcOne_f {xs : List Int} {i : Nat} (h : ¬ nth xs i < nth xs (i + 1)) : wcOne xs i = [] := by unfold wcOne; rw [decide_eq_false h]; rfl
theorem nsw_len (xs : List Int) (i : Nat) : (nsw xs i).length = xs.length := by simp [nsw]
theorem wcTo_len (xs : List Int) (k : Nat) : (wcTo xs k).length ≤ k := by
  induction k with
  | zero => simp [wcTo]
  | succ k ih =>
    rw [wcTo_succ, List.length_append]
    by_cases h : nth xs k < nth xs (k + 1)
    · rw [wcOne_t h]; simp; omega
    · rw [wcOne_f h]; simp; omega
theorem wcTo_each (xs : List Int) (k : Nat) : ∀ ys ∈ wcTo xs k, ys.length = xs.length := by
  intro ys hy
  simp only [wcTo, List.mem_flatMap] at hy
  obtain ⟨i, _, hy⟩ := hy
  by_cases h : nth xs i < nth xs (i + 1)
  · rw [wcOne_t h] at hy; simp at hy; subst hy; exact nsw_len _ _
  · rw [wcOne_f h] at hy; simp at hy
theorem bound_WeakCovers (xs : List Int) (_h : xs.length ≤ 1048576) : Bd (wcL xs) := by
  unfold wcL
  cases h : isP8 xs
  · exact Bd.nil
  · have h8 : xs.length ≤ 8 := (isP8_iff.1 h).1
    have h1 := wcTo_len xs (xs.length - 1)
    exact Bd.of 8 8 (by simp; omega) (fun ys hy => by have := wcTo_each xs _ ys hy; omega) (by omega) (by omega)

set_option maxHeartbeats 2000000 in
theorem impl_WeakCovers_ok (v : Value) (xs : List Int) (w : World) (h : SI w v xs) (hl : xs.length ≤ 1048576) (_hb : I64s xs) :
    Calls Try.prog 25 #[v] w fun e w' => ∃ v', e = .returned v' ∧ OII w.heap.size w'.heap.size w' v' (wcL xs) ∧ Ext w w' := by
  have h00 := h
  obtain ⟨a, cap, rfl, hri⟩ := h00.elim
  cases hp : isP8 xs
  · have hP := Lib.hid hp
    have e0 : Hid (wcL xs = []) := by show _ = _; simp [wcL, hp]
    clear hp
    go_enter Try.func25, Try.ntmps25
    go_wp2_with (go_at_call 72; refine (impl_IsPerm_ok _ xs _ h).mono ?_; rintro e w1 ⟨rfl, he⟩; rw [hP.out])
    go_ret
    rw [e0.out]
    exact ⟨_, rfl, OII.nil _ _ _, he⟩
  · have hP := Lib.hid hp
    have h8 : xs.length ≤ 8 := (isP8_iff.1 hp).1
    have e0 : Hid (wcL xs = wcTo xs (xs.length - 1)) := by show _ = _; simp [wcL, hp]
    clear hp
    go_enter Try.func25, Try.ntmps25
    go_wp2_with (go_at_call 72; refine (impl_IsPerm_ok _ xs _ h).mono ?_; rintro e w1 ⟨rfl, he1⟩; rw [hP.out])
    have hr0 := (RR.new w1).monoB he1.size
    have hex0 : Ext w (w1.alloc (.cells #[] 24)) := he1.alloc _
    go_loopw [3, 4] (fun o i wr => ∃ k : Nat, k ≤ xs.length - 1 ∧ i = .int .i64 ((k : Int) + 1) ∧ (∃ b c n, o = .slice (some ⟨b, 0, none⟩) n c ∧ Hid (n = (wcTo xs k).length) ∧ RR w.heap.size wr.heap.size wr b c (wcTo xs k)) ∧ Ext w wr) (fun _ i _ => xs.length + 1 - (intOf i).toNat)
    case atStart => exact ⟨0, Nat.zero_le _, rfl, ⟨_, 0, 0, rfl, Lib.hid rfl, hr0.mono (by simp)⟩, hex0⟩
    case round =>
      obtain ⟨k, hk, rfl, ⟨b, c, n, rfl, hn, hr⟩, he⟩ := hrel
      clear hr0 hex0 he1
      by_cases hlt : k + 1 < xs.length
      · obtain ⟨b1, off1, rfl, hc⟩ := (hri.ext he).get hlt
        have c0 := hc k (by omega)
        have c1 := hc (k + 1) hlt
        have hki : (k : Int) + 1 < (xs.length : Int) := by omega
        have w1 : IntKind.i64.wrap ((k : Int) + 1 - 1) = (k : Int) := by rw [IntWalk.i64_in _ (by omega)]; omega
        have w2 : 0 ≤ (k : Int) + 1 := by omega
        have w3 : ((k : Int) + 1).toNat = k + 1 := by omega
        have w4 : (k : Int) < (xs.length : Int) := by omega
        have w6 : (k : Int) + 1 - 1 = (k : Int) := by omega
        have hll := wcTo_len xs k
        have hs := h.ext he
        have hn8 : n ≤ 8 := by have := hn.out; omega
        clear hc hri
        by_cases hup : nth xs k < nth xs (k + 1)
        · have hst : Hid (wcTo xs (k + 1) = wcTo xs k ++ [nsw xs k]) := by show _ = _; rw [wcTo_succ, wcOne_t hup]
          go_wp2_with fail
          go_quiet (fail)
          clear w1 w3 w6 c0 c1
          go_wp2_with fail
          refine (slicesClone_ok _ xs _ (hs.ext (Upd.drewN _ _ _)) (by omega)).mono ?_
          rintro e w5 ⟨v5, rfl, ho5, he5⟩
          rcases ho5 with ⟨rfl, hx⟩ | ⟨b5, c5, rfl, hb5, hb5z, hr5⟩
          · rw [hx] at hlt; simp at hlt
          simp at hb5
          have hz5 := he5.size
          simp at hz5
          have d0 := hr5.icell (j := k) (by omega)
          have d1 := hr5.icell (j := k + 1) hlt
          have f0 := hr5.free k none
          have f1 := hr5.free (k + 1) none
          have hset := fun m => ((hr5.ext (Upd.drewN w5 m _)).set k (.int .i64 (nth xs (k + 1)))).set (k + 1) (.int .i64 (nth xs k))
          simp only [vals_set] at hset
          have HS := Lib.hid hset
          have hR5 := (hr.ext (show Ext wr (wr.drewN nq) from Upd.drewN _ _ _)).ext he5
          have hU := Lib.hid (fun m => ((Upd.drewN w5 m (· = b5)).trans (Upd.setCell _ ⟨b5, k, none⟩ (.int .i64 (nth xs (k + 1))))).trans (Upd.setCell _ ⟨b5, k + 1, none⟩ (.int .i64 (nth xs k))))
          have hRz := Lib.hid (fun m => (hR5.upd (hU.out m) (fun i h1 h2 e => by omega)))
          have hEz := Lib.hid (fun m => ((he.drewN nq).trans he5).upd1 (hU.out m) (by have := he.size; omega))
          have hwz := he.size
          have hcl := hr5.le
          simp at hcl
          have w1 : IntKind.i64.wrap ((k : Int) + 1 - 1) = (k : Int) := by rw [IntWalk.i64_in _ (by omega)]; omega
          have w3 : ((k : Int) + 1).toNat = k + 1 := by omega
          have w6 : (k : Int) + 1 - 1 = (k : Int) := by omega
          clear hr hr5 hset hR5 hs
          go_wp2_with fail
          go_region
          clear w1 w3 w6
          have HW : Hid (∀ i, i = b5 → i < w5.heap.size) := by show ∀ i, _; intro i e; omega
          go_wp2_with (at_builtin; refine wpl_appRRk rfl _ _ rfl w.heap.size wr.heap.size b c n (wcTo xs k) (some ⟨b5, 0, none⟩) _ c5 (nsw xs k) rfl ((hRz.out 0).ext (Upd.drew _ _)) hn.out (.inr ⟨b5, c5, by rw [nsw_len], by omega, by simpa using hb5z, (HS.out 0).ext (Upd.drew _ _)⟩) (fun q hq => by simp [Value.ownBlock] at hq; omega) (by simp; omega) _ rfl (by simp) (by have := hn.out; omega) ?_; intro b6 c6 w6 hr6 hb6 hu6)
          go_roundw
          case rel => exact ⟨k + 1, by omega, by go_num, ⟨b6, c6, n + 1, rfl, Lib.hid (by rw [hst.out]; simp [hn.out]), by rw [hst.out]; exact hr6⟩, ((hEz.out 0).trans (Upd.drew _ _)).upd1 hu6 (hRz.out 0).lo⟩
          case measure => simp [intOf]; omega
        · have hst : Hid (wcTo xs (k + 1) = wcTo xs k) := by show _ = _; rw [wcTo_succ, wcOne_f hup, List.append_nil]
          go_wp2_with fail
          go_quiet (fail)
          clear w1 w3 w6 c0 c1
          go_wp2_with fail
          go_roundw
          case rel => exact ⟨k + 1, by omega, by go_num, ⟨b, c, n, rfl, Lib.hid (by rw [hst.out]; exact hn.out), by rw [hst.out]; exact hr.ext (Upd.drewN _ _ _)⟩, he.drewN _⟩
          case measure => simp [intOf]; omega
      · have hki : ¬ (k : Int) + 1 < (xs.length : Int) := by omega
        have hfin : Hid (wcTo xs (xs.length - 1) = wcTo xs k) := by
          show _ = _; rw [show xs.length - 1 = k by omega]
        go_wp2_with fail
        go_ret
        rw [e0.out, hfin.out]
        exact ⟨_, rfl, hr.oii hn.out, he⟩
set_option maxHeartbeats 2000000 in
theorem spec_WeakCovers_ok (v : Value) (xs : List Int) (w : World) (h : SI w v xs) (hl : xs.length ≤ 1048576) (_hb : I64s xs) :
    Calls Try.prog 31 #[v] w fun e w' => ∃ v', e = .returned v' ∧ OII w.heap.size w'.heap.size w' v' (wcL xs) ∧ Ext w w' := by
  have h00 := h
  obtain ⟨a, cap, rfl, hri⟩ := h00.elim
  have hr0 := RR.new w
  have he0 : Ext w (w.alloc (.cells #[] 24)) := Upd.alloc _ _ _
  cases hp : isP8 xs
  · have hP := Lib.hid hp
    have e0 : Hid (wcL xs = []) := by show _ = _; simp [wcL, hp]
    clear hp
    go_enter Try.func31, Try.ntmps31
    go_wp2_with fail
    go_loopw [3, 4] (fun o i wr => i = .int .i64 0 ∧ o = .slice (some ⟨w.heap.size, 0, none⟩) 0 0 ∧ w.alloc (.cells #[] 24) = wr) (fun _ _ _ => 0)
    case atStart => exact ⟨rfl, rfl, rfl⟩
    case round =>
      obtain ⟨rfl, rfl, rfl⟩ := hrel
      by_cases hz : (1 : Int) < (xs.length : Int)
      · go_wp2_with (go_at_call 82; refine (spec_IsPerm_qt _ xs _ (h.ext he0) (by omega)).mono ?_; rintro e w1 ⟨rfl, hq⟩; rw [hP.out])
        go_ret
        rw [e0.out]
        exact ⟨_, rfl, ((hr0.ext hq.ext).mono (by have := hq.ext.size; simp at this ⊢; omega)).oii rfl, he0.trans hq.ext⟩
      · go_wp2_with fail
        go_ret
        rw [e0.out]
        exact ⟨_, rfl, (hr0.mono (by simp)).oii rfl, he0⟩
  · have hP := Lib.hid hp
    have h8 : xs.length ≤ 8 := (isP8_iff.1 hp).1
    have e0 : Hid (wcL xs = wcTo xs (xs.length - 1)) := by show _ = _; simp [wcL, hp]
    clear hp
    go_enter Try.func31, Try.ntmps31
    go_wp2_with fail
    go_loopw [3, 4] (fun o i wr => ∃ k : Nat, k ≤ xs.length - 1 ∧ i = .int .i64 k ∧ (∃ b c n, o = .slice (some ⟨b, 0, none⟩) n c ∧ Hid (n = (wcTo xs k).length) ∧ RR w.heap.size wr.heap.size wr b c (wcTo xs k)) ∧ Ext w wr) (fun _ i _ => xs.length + 1 - (intOf i).toNat)
    case atStart => exact ⟨0, Nat.zero_le _, rfl, ⟨_, 0, 0, rfl, Lib.hid rfl, hr0.mono (by simp)⟩, he0⟩
    case round =>
      obtain ⟨k, hk, rfl, ⟨b, c, n, rfl, hn, hr⟩, he⟩ := hrel
      clear hr0 he0
      by_cases hlt : k + 1 < xs.length
      · have hki : (k : Int) + 1 < (xs.length : Int) := by omega
        go_wp2_with (go_at_call 82; refine (spec_IsPerm_qt _ xs _ (h.ext he) (by omega)).mono ?_; rintro e wp ⟨rfl, hq⟩; rw [hP.out])
        have he1 : Ext w wp := he.trans hq.ext
        replace hr := (hr.ext hq.ext).mono hq.ext.size
        obtain ⟨b1, off1, rfl, hc0⟩ := hri.get hlt
        have hbw : b1 < w.heap.size := by have := World.block_lt_of_cell? _ _ (hc0 (k + 1) hlt); simpa using this
        have c0 := he1.cell (hc0 k (by omega))
        have c1 := he1.cell (hc0 (k + 1) hlt)
        have C0 := Lib.hid c0
        have C1 := Lib.hid c1
        have w1 : IntKind.i64.wrap ((k : Int) + 1) = (k : Int) + 1 := IntWalk.i64_in _ (by omega)
        have w2 : 0 ≤ (k : Int) + 1 := by omega
        have w3 : ((k : Int) + 1).toNat = k + 1 := by omega
        have w4 : (k : Int) < (xs.length : Int) := by omega
        have hll := wcTo_len xs k
        have hs := h.ext he1
        have hn8 : n ≤ 8 := by have := hn.out; omega
        have hwz := he1.size
        clear hc0 hri he hq
        by_cases hup : nth xs k < nth xs (k + 1)
        · have hst : Hid (wcTo xs (k + 1) = wcTo xs k ++ [nsw xs k]) := by show _ = _; rw [wcTo_succ, wcOne_t hup]
          go_wp2_with fail
          go_quiet (fail)
          clear w1 w3 c0 c1
          have hsd := Lib.hid (fun m => hs.ext (show Ext wp (wp.drewN m) from Upd.drewN _ _ _))
          have HR := Lib.hid (fun m => hr.ext (show Ext wp (wp.drewN m) from Upd.drewN _ _ _))
          have HE := Lib.hid (fun m => he1.drewN m)
          have C0 := Lib.hid (fun m => (show Ext wp (wp.drewN m) from Upd.drewN _ _ _).cell C0.out)
          have C1 := Lib.hid (fun m => (show Ext wp (wp.drewN m) from Upd.drewN _ _ _).cell C1.out)
          clear hr hs he1
          go_wp2_with (first | (at_builtin; refine wpl_appSI rfl _ _ rfl wp.heap.size 0 0 [] xs rfl (Row.new 3 (wp.drewN nq) [] (by simp)) rfl _ rfl ((hsd.out _).ext (Upd.alloc _ _ _)) (by simp) (by omega) ?_; intro b5 c5 w5 hr5 hb5 hu5; rw [List.nil_append] at hr5; obtain ⟨hb5', ho5, he5⟩ := copied_own3 (w1 := wp.drewN nq) hr5 hb5 hu5; have hz5 := he5.size; simp at hz5 hb5'; have d0 := hr5.icell (j := k) (by omega); have d1 := hr5.icell (j := k + 1) hlt; have f0 := hr5.free k none; have f1 := hr5.free (k + 1) none; have e0c := he5.cell (C0.out nq); have e1c := he5.cell (C1.out nq); have hb5z := hr5.lt; have hset := (hr5.set k (.int .i64 (nth xs (k + 1)))).set (k + 1) (.int .i64 (nth xs k)); simp only [vals_set] at hset; have HS := Lib.hid hset; have hU := (Upd.setCell w5 ⟨b5, k, none⟩ (.int .i64 (nth xs (k + 1)))).trans (Upd.setCell _ ⟨b5, k + 1, none⟩ (.int .i64 (nth xs k))); have hRz := Lib.hid (((HR.out nq).ext he5).upd hU (fun i h1 h2 e => by simp at e; omega)); have hEz := Lib.hid (((HE.out nq).trans he5).upd1 hU (by simp; omega)); have hbb1 : b1 < b5 := (by omega); clear hset hu5 hr5 hb5 ho5 he5 hU) | (at_builtin; refine wpl_appRRk rfl _ _ rfl w.heap.size wp.heap.size b c n (wcTo xs k) (some ⟨b5, 0, none⟩) _ c5 (nsw xs k) rfl hRz.out hn.out (.inr ⟨b5, c5, by rw [nsw_len], by omega, by simpa using hb5z, HS.out⟩) (fun q hq => by simp [Value.ownBlock] at hq; omega) (by simp; omega) _ rfl (by simp) (by have := hn.out; omega) ?_; intro b6 c6 w6 hr6 hb6 hu6))
          go_roundw
          case rel => exact ⟨k + 1, by omega, by go_num, ⟨b6, c6, n + 1, rfl, Lib.hid (by rw [hst.out]; simp [hn.out]), by rw [hst.out]; exact hr6⟩, hEz.out.upd1 hu6 hRz.out.lo⟩
          case measure => simp [intOf]; omega
        · have hst : Hid (wcTo xs (k + 1) = wcTo xs k) := by show _ = _; rw [wcTo_succ, wcOne_f hup, List.append_nil]
          go_wp2_with fail
          go_quiet (fail)
          clear w1 w3 c0 c1
          go_wp2_with fail
          go_roundw
          case rel => exact ⟨k + 1, by omega, by go_num, ⟨b, c, n, rfl, Lib.hid (by rw [hst.out]; exact hn.out), by rw [hst.out]; exact hr.ext (Upd.drewN _ _ _)⟩, he1.drewN _⟩
          case measure => simp [intOf]; omega
      · have hki : ¬ (k : Int) + 1 < (xs.length : Int) := by omega
        have hfin : Hid (wcTo xs (xs.length - 1) = wcTo xs k) := by
          show _ = _; rw [show xs.length - 1 = k by omega]
        go_wp2_with fail
        go_ret
        rw [e0.out, hfin.out]
        exact ⟨_, rfl, hr.oii hn.out, he⟩
end Go.Proofs.Ytmnbdphfoonleaa
