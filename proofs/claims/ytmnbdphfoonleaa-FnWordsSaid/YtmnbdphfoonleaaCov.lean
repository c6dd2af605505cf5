/- Contracts of StrongCovers, the program's and the reference's. Conditions: lengths below a bound. -/
import Derived.Test.YtmnbdphfoonleaaCovP
import Derived.Test.YtmnbdphfoonleaaPut
import Derived.Test.YtmnbdphfoonleaaOrd
namespace Go.Proofs.Ytmnbdphfoonleaa
open Go.RowKit

/-! ### the covers found so far -/
def cvD (p : List Int) (k m : Nat) : List (List Int) := cvTo p k ++ cvRow p k m
theorem cvD_zero (p : List Int) (k : Nat) : cvD p k 0 = cvTo p k := by simp [cvD, cvRow]
theorem cvD_t {p : List Int} {k m : Nat} (h : cvHit p m k = true) : cvD p k (m + 1) = cvD p k m ++ [xsw p m k] := by unfold cvD; rw [cvRow_succ, cvOne_t h, List.append_assoc]
theorem cvD_f {p : List Int} {k m : Nat} (h : cvHit p m k = false) : cvD p k (m + 1) = cvD p k m := by unfold cvD; rw [cvRow_succ, cvOne_f h, List.append_nil]
theorem cvD_end (p : List Int) (k : Nat) : cvD p k k = cvTo p (k + 1) := (cvTo_succ p k).symm
theorem cvD_len (p : List Int) (k m : Nat) (hk : k ≤ 8) (hm : m ≤ 8) : (cvD p k m).length ≤ 100 := by
  unfold cvD
  rw [List.length_append]
  have h1 := cvTo_len p k
  have h2 := cvRow_len p k m
  have : k * k ≤ 8 * 8 := Nat.mul_le_mul hk hk
  omega
theorem cvTo_mem {p q : List Int} {k : Nat} (h : q ∈ cvTo p k) : ∃ i j, i < j ∧ j < k ∧ q = xsw p i j := by
  unfold cvTo cvRow at h
  simp only [List.mem_flatMap, List.mem_range] at h
  obtain ⟨j, hj, i, hi, hq⟩ := h
  cases hh : cvHit p i j
  · rw [cvOne_f hh] at hq; simp at hq
  · rw [cvOne_t hh] at hq; exact ⟨i, j, hi, hj, by simpa using hq⟩
theorem cvRow_mem {p q : List Int} {k m : Nat} (h : q ∈ cvRow p k m) : ∃ i, i < m ∧ q = xsw p i k := by
  unfold cvRow at h
  simp only [List.mem_flatMap, List.mem_range] at h
  obtain ⟨i, hi, hq⟩ := h
  cases hh : cvHit p i k
  · rw [cvOne_f hh] at hq; simp at hq
  · rw [cvOne_t hh] at hq; exact ⟨i, hi, by simpa using hq⟩
theorem cvD_each {p q : List Int} {k m : Nat} (h : q ∈ cvD p k m) : q.length = p.length := by
  rcases List.mem_append.1 h with h | h
  · obtain ⟨i, j, _, _, rfl⟩ := cvTo_mem h; exact xsw_len _ _ _
  · obtain ⟨i, _, rfl⟩ := cvRow_mem h; exact xsw_len _ _ _
theorem nth_inj {xs : List Int} (h : xs.Nodup) {i j : Nat} (hi : i < xs.length) (hj : j < xs.length) (e : nth xs i = nth xs j) : i = j := by
  rw [nth_get hi, nth_get hj] at e
  rcases Nat.lt_trichotomy i j with h1 | h1 | h1
  · exact absurd e ((List.pairwise_iff_getElem.1 h) i j hi hj h1)
  · exact h1
  · exact absurd e.symm ((List.pairwise_iff_getElem.1 h) j i hj hi h1)
theorem xsw_inj {p : List Int} (hp : IsP p) {i k i' k' : Nat} (h1 : i < k) (h2 : k < p.length) (h3 : i' < k') (h4 : k' < p.length) (e : xsw p i k = xsw p i' k') : i = i' ∧ k = k' := by
  have key : ∀ {i k i' k' : Nat}, i < k → k < p.length → i' < k' → k' < k → xsw p i k = xsw p i' k' → False := by
    intro i k i' k' h1 h2 h3 h4 e
    have := congrArg (fun l => nth l k) e
    simp only [xsw_nth h2] at this
    rw [if_pos trivial, if_neg (by omega), if_neg (by omega)] at this
    have := nth_inj hp.2 (by omega) h2 this
    omega
  rcases Nat.lt_trichotomy k k' with h | h | h
  · exact (key h3 h4 h1 h e.symm).elim
  · subst h
    have := congrArg (fun l => nth l k) e
    simp only [xsw_nth h2] at this
    rw [if_pos trivial, if_pos trivial] at this
    exact ⟨nth_inj hp.2 (by omega) (by omega) this, rfl⟩
  · exact (key h1 h2 h3 h e).elim
theorem cvRow_nodup {p : List Int} (hp : IsP p) {k : Nat} (hk : k < p.length) : ∀ m, m ≤ k → (cvRow p k m).Nodup := by
  intro m
  induction m with
  | zero => intro _; simp [cvRow]
  | succ m ih =>
    intro hm
    rw [cvRow_succ]
    cases h : cvHit p m k
    · rw [cvOne_f h, List.append_nil]; exact ih (by omega)
    · rw [cvOne_t h, List.nodup_append]
      refine ⟨ih (by omega), by simp, ?_⟩
      intro x hx y hy
      obtain ⟨i, hi, rfl⟩ := cvRow_mem hx
      obtain rfl : y = xsw p m k := by simpa using hy
      intro e
      have := xsw_inj hp (by omega) hk (by omega) hk e
      omega
theorem cvTo_nodup {p : List Int} (hp : IsP p) : ∀ k, k ≤ p.length → (cvTo p k).Nodup := by
  intro k
  induction k with
  | zero => intro _; simp [cvTo]
  | succ k ih =>
    intro hk
    rw [cvTo_succ, List.nodup_append]
    refine ⟨ih (by omega), cvRow_nodup hp (by omega) k (Nat.le_refl _), ?_⟩
    intro x hx y hy
    obtain ⟨i, j, hij, hj, rfl⟩ := cvTo_mem hx
    obtain ⟨i', hi', rfl⟩ := cvRow_mem hy
    intro e
    have := xsw_inj hp hij (by omega) hi' (by omega) e
    omega
theorem xsw_comm (p : List Int) {i k : Nat} (h : i ≠ k) : (p.set k (nth p i)).set i (nth p k) = xsw p i k := by unfold xsw; exact List.set_comm _ _ (fun e => h e.symm)

set_option maxHeartbeats 4000000 in
theorem impl_StrongCovers_rr (v : Value) (p : List Int) (w : World) (h : SI w v p) :
    Calls Try.prog 39 #[v] w fun e w' => (isP8 p = false ∧ e = .returned (.slice none 0 0) ∧ Ext w w') ∨ (isP8 p = true ∧ ∃ b c, e = .returned (.slice (some ⟨b, 0, none⟩) (putAll (cvAll p)).length c) ∧ RR w.heap.size w'.heap.size w' b c (putAll (cvAll p)) ∧ Ext w w') := by
  have h00 := h
  obtain ⟨a, cap, rfl, hri⟩ := h00.elim
  cases hp : isP8 p
  · have hP := Lib.hid hp
    clear hp
    go_enter Try.func39, Try.ntmps39
    go_wp2_with (go_at_call 72; refine (impl_IsPerm_ok _ p _ h).mono ?_; rintro e w1 ⟨rfl, he⟩; rw [hP.out])
    go_ret
    exact .inl ⟨trivial, rfl, he⟩
  · have hP := Lib.hid hp
    have h8 : p.length ≤ 8 := (isP8_iff.1 hp).1
    have HIP : Hid (IsP p) := (isP8_iff.1 hp).2
    have hib := inv_bound p (by omega)
    clear hp
    obtain ⟨n, hnv⟩ : ∃ n, n = inv p := ⟨_, rfl⟩
    have HNV := Lib.hid hnv
    rw [← hnv] at hib
    clear hnv
    go_enter Try.func39, Try.ntmps39
    go_wp2_with (go_at_call 72; refine (impl_IsPerm_ok _ p _ h).mono ?_; rintro e w1 ⟨rfl, he1⟩; rw [hP.out])
    have hr0 := Lib.hid (((RR.new w1).monoB he1.size).mono (show w1.heap.size + 1 ≤ (w1.alloc (.cells #[] 24)).heap.size by simp))
    have hex0 := Lib.hid (he1.alloc (.cells #[] 24))
    go_loopw [3, 4, 5, 6, 13] (fun o _ _ _ i wr => ∃ k : Nat, k ≤ p.length ∧ i = .int .i64 k ∧ (∃ b c m, o = .slice (some ⟨b, 0, none⟩) m c ∧ Hid (m = (cvD p k 0).length) ∧ Hid (RR w.heap.size wr.heap.size wr b c (cvD p k 0))) ∧ Hid (Ext w wr)) (fun _ _ _ _ i _ => p.length - (intOf i).toNat)
    case atStart => exact ⟨0, Nat.zero_le _, rfl, ⟨_, 0, 0, rfl, Lib.hid rfl, hr0⟩, hex0⟩
    case round =>
      obtain ⟨K, hK, rfl, ⟨b, c, m, rfl, hm, hr⟩, he⟩ := hrel
      clear hr0 hex0 he1
      by_cases hKl : K < p.length
      · go_wp2_with fail
        obtain ⟨wp, hwp⟩ : ∃ wp, wp = wr := ⟨_, rfl⟩
        subst hwp
        go_loopw [3, 5, 6, 17] (fun o _ _ i wr => ∃ k : Nat, k ≤ K ∧ i = .int .i64 k ∧ (∃ b c m, o = .slice (some ⟨b, 0, none⟩) m c ∧ Hid (m = (cvD p K k).length) ∧ Hid (RR w.heap.size wr.heap.size wr b c (cvD p K k))) ∧ Hid (Ext w wr)) (fun _ _ _ i _ => K - (intOf i).toNat)
        case atStart => exact ⟨0, Nat.zero_le _, rfl, ⟨b, c, m, rfl, hm, hr⟩, he⟩
        case round =>
          obtain ⟨I, hI, rfl, ⟨b, c, m, rfl, hm, hr⟩, he⟩ := hrel
          by_cases hIK : I < K
          · have hln := cvD_len p K I (by omega) (by omega)
            have hm9 : m ≤ 100 := by have := hm.out; omega
            have hs := Lib.hid (h.ext he.out)
            have hwz := he.out.size
            go_wp2_with fail
            refine (slicesClone_ok _ p _ hs.out (by omega)).mono ?_
            rintro e w5 ⟨v5, rfl, ho5, he5⟩
            rcases ho5 with ⟨rfl, hx⟩ | ⟨b5, c5, rfl, hb5, hb5z, hr5⟩
            · rw [hx] at hKl; simp at hKl
            have hz5 := he5.size
            have d0 := hr5.icell (j := K) hKl
            have d1 := hr5.icell (j := I) (by omega)
            have f0 := hr5.free K none
            have f1 := hr5.free I none
            have hne : I ≠ K := by omega
            have hset := fun m => ((hr5.ext (Upd.drewN w5 m _)).set K (.int .i64 (nth p I))).set I (.int .i64 (nth p K))
            simp only [vals_set, xsw_comm p hne] at hset
            have HST := Lib.hid hset
            have hU := Lib.hid (fun m => ((Upd.drewN w5 m (· = b5)).trans (Upd.setCell _ ⟨b5, K, none⟩ (.int .i64 (nth p I)))).trans (Upd.setCell _ ⟨b5, I, none⟩ (.int .i64 (nth p K))))
            have hR5 := Lib.hid (hr.out.ext he5)
            have hE5 := Lib.hid (he.out.trans he5)
            have hcl := hr5.le
            simp at hcl
            clear hr5 hset hr he
            go_wp2_with fail
            go_region
            have hRw := Lib.hid ((HST.out 0).ext (Upd.drew _ _))
            have hUw := Lib.hid ((hU.out 0).trans (Upd.drew _ _))
            have hsq := hRw.out.si
            rw [xsw_len] at hsq
            have HSQ := Lib.hid hsq
            obtain ⟨q, hq⟩ : ∃ q, q = inv (xsw p I K) := ⟨_, rfl⟩
            have hqb := inv_bound (xsw p I K) (by rw [xsw_len]; omega)
            rw [← hq] at hqb
            have HQ := Lib.hid hq
            clear hsq hq d0 d1 f0 f1
            go_wp2_with fail
            refine (impl_inversions_ok _ (xsw p I K) _ HSQ.out (by rw [xsw_len]; omega)).mono ?_
            rintro e w6 ⟨rfl, q6⟩
            rw [← HQ.out]
            have hU6 := Lib.hid (hUw.out.trans (Ext.toUpd q6.ext _))
            have hR6 := Lib.hid ((hR5.out.upd hU6.out (fun i h1 h2 e => by omega)))
            have hE6 := Lib.hid (hE5.out.upd1 hU6.out (by omega))
            have hQ6 := Lib.hid (hRw.out.ext q6.ext)
            have hs6 := Lib.hid (h.ext hE6.out)
            clear HSQ hRw hUw
            go_wp2_with fail
            refine (impl_inversions_ok _ p _ hs6.out (by omega)).mono ?_
            rintro e w7 ⟨rfl, q7⟩
            rw [← HNV.out]
            have hR7 := Lib.hid (hR6.out.ext q7.ext)
            have hE7 := Lib.hid (hE6.out.trans q7.ext)
            have hQ7 := Lib.hid (hQ6.out.ext q7.ext)
            have hz7 := (hU6.out.size)
            have hz8 := q7.ext.size
            clear hR6 hE6 hQ6 hs6 hR5 hE5 hU HST hU6
            by_cases hit : q = n + 1
            · have HT := Lib.hid (cvD_t (p := p) (k := K) (m := I) (by unfold cvHit; rw [← HQ.out, ← HNV.out]; exact decide_eq_true hit))
              have hbq : ((q : Int) == ((n : Int) + 1)) = true := by rw [beq_iff_eq]; omega
              clear hit
              go_wp2_with (at_builtin; go_loud (refine wpl_appRRk rfl _ _ rfl w.heap.size wr.heap.size b c m (cvD p K I) (some ⟨b5, 0, none⟩) _ c5 (xsw p I K) rfl hR7.out hm.out (OI.row hQ7.out (by omega) (xsw_len p I K).symm) (fun j hj => by simp [Value.ownBlock] at hj; omega) (by omega) _ rfl (by simp) (by have := hm.out; omega) ?_); intro b8 c8 w8 hr8 hb8 hu8)
              have hlo := hR7.out.lo
              have hE8 := Lib.hid (hE7.out.upd1 hu8 hlo)
              rw [← HT.out] at hr8
              have hR8 := Lib.hid hr8
              have hm8 : Hid (m + 1 = (cvD p K (I + 1)).length) := by show _ = _; rw [HT.out, List.length_append, ← hm.out]; rfl
              clear hr8 hu8 hb8
              go_roundw
              case rel => exact ⟨I + 1, by omega, by go_num, ⟨b8, c8, m + 1, rfl, hm8, hR8⟩, hE8⟩
              case measure => simp [intOf]; omega
            · have HT := Lib.hid (cvD_f (p := p) (k := K) (m := I) (by unfold cvHit; rw [← HQ.out, ← HNV.out]; exact decide_eq_false hit))
              have hbq : ((q : Int) == ((n : Int) + 1)) = false := by rw [beq_eq_false_iff_ne]; omega
              have hz9 : wr.heap.size ≤ w7.heap.size := by omega
              clear hit
              go_wp2_with fail
              go_roundw
              case rel => exact ⟨I + 1, by omega, by go_num, ⟨b, c, m, rfl, by rw [HT.out]; exact hm, by rw [HT.out]; exact hR7.out.mono hz9⟩, hE7⟩
              case measure => simp [intOf]; omega
          · obtain rfl : I = K := by omega
            have HT := Lib.hid ((cvD_end p I).trans (cvD_zero p (I + 1)).symm)
            go_wp2_with fail
            go_roundw
            case rel => exact ⟨I + 1, by omega, by go_num, ⟨b, c, m, rfl, by rw [← HT.out]; exact hm, by rw [← HT.out]; exact hr⟩, he⟩
            case measure => simp [intOf]; omega
      · obtain rfl : K = p.length := by omega
        have hD : cvD p p.length 0 = cvAll p := cvD_zero p p.length
        rw [hD] at hr hm
        have hsii := Lib.hid (hr.out.sii hm.out)
        have hl := cvD_len p p.length 0 h8 (by omega)
        rw [hD] at hl
        clear hD
        go_wp2_with fail
        refine (ordered_ok _ (cvAll p) _ hsii.out (by omega) (fun q hq => by rw [cvAll_each hq]; omega) (cvTo_nodup HIP.out _ (Nat.le_refl _))).mono ?_
        rintro e w6 ⟨b6, c6, rfl, hr6, he6⟩
        have hR6 := Lib.hid hr6
        go_wp2_with fail
        go_ret
        exact .inr ⟨trivial, b6, c6, rfl, hR6.out.monoB he.out.size, he.out.trans he6⟩
theorem impl_StrongCovers_ok (v : Value) (p : List Int) (w : World) (h : SI w v p) (_hl : p.length ≤ 1048576) (_hb : I64s p) :
    Calls Try.prog 39 #[v] w fun e w' => ∃ v', e = .returned v' ∧ OII w.heap.size w'.heap.size w' v' (cvL p) ∧ Ext w w' := by
  refine (impl_StrongCovers_rr v p w h).mono ?_
  rintro e w' (⟨hp, rfl, he⟩ | ⟨hp, b, c, rfl, hr, he⟩)
  · exact ⟨_, rfl, by unfold cvL; rw [hp]; exact OII.nil _ _ _, he⟩
  · exact ⟨_, rfl, by unfold cvL; rw [hp]; exact hr.oii rfl, he⟩
set_option maxHeartbeats 4000000 in
theorem spec_StrongCovers_rr (v : Value) (p : List Int) (w : World) (h : SI w v p) (hl : p.length ≤ 1000000000) :
    Calls Try.prog 47 #[v] w fun e w' => ∃ b c, e = .returned (.slice (some ⟨b, 0, none⟩) (cvL p).length c) ∧ RR w.heap.size w'.heap.size w' b c (cvL p) ∧ Ext w w' := by
  have h00 := h
  obtain ⟨a, cap, rfl, hri⟩ := h00.elim
  have he0 : Ext w (w.alloc (.cells #[] 24)) := Upd.alloc _ _ _
  have hr0 := Lib.hid ((RR.new w).mono (show w.heap.size + 1 ≤ (w.alloc (.cells #[] 24)).heap.size by simp))
  cases hp : isP8 p
  · have e1 : Hid (invI p = -1) := by show _ = _; simp [invI, hp]
    have e0 : Hid (cvL p = []) := by show _ = _; simp [cvL, hp]
    clear hp
    go_enter Try.func47, Try.ntmps47
    go_wp2_with fail
    refine (spec_CountInversions_ok _ p _ (h.ext he0) (by omega)).mono ?_
    rintro e w1 ⟨rfl, q1⟩
    rw [e1.out]
    have hr1 := Lib.hid ((hr0.out.ext q1.ext).mono q1.ext.size)
    have hE1 := Lib.hid (he0.trans q1.ext)
    go_wp2_with fail
    refine wp_loop_rounds 1 ?_
    rw [rounds_succ]
    by_cases hp0 : 0 < p.length
    · go_wp2_with fail
      go_ret
      exact ⟨_, _, by rw [e0.out]; rfl, by rw [e0.out]; exact hr1.out, hE1.out⟩
    · go_wp2_with fail
      go_ret
      exact ⟨_, _, by rw [e0.out]; rfl, by rw [e0.out]; exact hr1.out, hE1.out⟩
  · have h8 : p.length ≤ 8 := (isP8_iff.1 hp).1
    have HIP : Hid (IsP p) := (isP8_iff.1 hp).2
    have hib := inv_bound p (by omega)
    have e1 : Hid (invI p = (inv p : Int)) := by show _ = _; simp [invI, hp]
    have e0 : Hid (cvL p = putAll (cvAll p)) := by show _ = _; simp [cvL, hp]
    clear hp
    obtain ⟨n, hnv⟩ : ∃ n, n = inv p := ⟨_, rfl⟩
    have HNV := Lib.hid hnv
    rw [← hnv] at hib
    clear hnv
    go_enter Try.func47, Try.ntmps47
    go_wp2_with fail
    refine (spec_CountInversions_ok _ p _ (h.ext he0) (by omega)).mono ?_
    rintro e w1 ⟨rfl, q1⟩
    rw [e1.out, ← HNV.out]
    have hr1 := Lib.hid ((hr0.out.ext q1.ext).mono q1.ext.size)
    have hE1 := Lib.hid (he0.trans q1.ext)
    have hn0 : (0 : Int) ≤ (n : Int) := by omega
    clear hr0 he0 q1
    go_wp2_with fail
    go_loopw [3, 5, 6, 7] (fun o i _ _ wr => ∃ k : Nat, k ≤ p.length ∧ i = .int .i64 k ∧ (∃ b c m, o = .slice (some ⟨b, 0, none⟩) m c ∧ Hid (m = (putAll (cvD p k 0)).length) ∧ Hid (RR w.heap.size wr.heap.size wr b c (putAll (cvD p k 0)))) ∧ Hid (Ext w wr)) (fun _ i _ _ _ => p.length - (intOf i).toNat)
    case atStart => exact ⟨0, Nat.zero_le _, rfl, ⟨_, 0, 0, rfl, Lib.hid rfl, hr1⟩, hE1⟩
    case round =>
      obtain ⟨K, hK, rfl, ⟨b, c, m, rfl, hm, hr⟩, he⟩ := hrel
      clear hr1 hE1
      by_cases hKl : K < p.length
      · go_wp2_with fail
        obtain ⟨wp, hwp⟩ : ∃ wp, wp = wr := ⟨_, rfl⟩
        subst hwp
        go_loopw [3, 6, 7] (fun o i _ wr => ∃ k : Nat, k ≤ K ∧ i = .int .i64 k ∧ (∃ b c m, o = .slice (some ⟨b, 0, none⟩) m c ∧ Hid (m = (putAll (cvD p K k)).length) ∧ Hid (RR w.heap.size wr.heap.size wr b c (putAll (cvD p K k)))) ∧ Hid (Ext w wr)) (fun _ i _ _ => K - (intOf i).toNat)
        case atStart => exact ⟨0, Nat.zero_le _, rfl, ⟨b, c, m, rfl, hm, hr⟩, he⟩
        case round =>
          obtain ⟨I, hI, rfl, ⟨b, c, m, rfl, hm, hr⟩, he⟩ := hrel
          by_cases hIK : I < K
          · have hln := cvD_len p K I (by omega) (by omega)
            have hlp := putAll_len (cvD p K I)
            have hs := Lib.hid (h.ext he.out)
            have hwz := he.out.size
            have hHl := hr.out
            obtain ⟨b1, off1, rfl, hc0⟩ := hri.get hKl
            have hbw : b1 < w.heap.size := by have := World.block_lt_of_cell? _ _ (hc0 K hKl); simpa using this
            have C0 := Lib.hid (he.out.cell (hc0 K hKl))
            have C1 := Lib.hid (he.out.cell (hc0 I (by omega)))
            have hne : I ≠ K := by omega
            clear hc0 hHl
            go_wp2_with (at_builtin; go_loud (refine wpl_appSI rfl _ _ rfl wr.heap.size 0 0 [] p rfl (Row.new 3 wr [] (by simp)) rfl _ rfl (hs.out.ext (Upd.alloc _ _ _)) (by simp) (by omega) ?_; intro b5 c5 w5 hr5 hb5 hu5; rw [List.nil_append] at hr5; obtain ⟨hb5', ho5, he5⟩ := copied_own3 (w1 := wr) hr5 hb5 hu5; have hz5 := he5.size; have d0 := hr5.icell (j := K) hKl; have d1 := hr5.icell (j := I) (by omega); have f0 := hr5.free K none; have f1 := hr5.free I none; have e0c := he5.cell C0.out; have e1c := he5.cell C1.out; have hb5z := hr5.lt; have hset := (hr5.set I (.int .i64 (nth p K))).set K (.int .i64 (nth p I)); simp only [vals_set] at hset; have HST := Lib.hid hset; have hU := Lib.hid ((Upd.setCell w5 ⟨b5, I, none⟩ (.int .i64 (nth p K))).trans (Upd.setCell _ ⟨b5, K, none⟩ (.int .i64 (nth p I)))); have hR5 := Lib.hid (hr.out.ext he5); have hE5 := Lib.hid (he.out.trans he5); have hcl := hr5.le; simp at hcl; have hbb1 : b1 < b5 := (by omega); clear hset hu5 hr5 hb5 ho5 he5))
            have hRw : Hid (Row 3 _ b5 c5 (vals (xsw p I K))) := HST.out
            have hsq := hRw.out.si
            rw [xsw_len] at hsq
            have HSQ := Lib.hid hsq
            have hqp : isP8 (xsw p I K) = true := isP8_iff.2 ⟨by rw [xsw_len]; omega, xsw_isP HIP.out hIK hKl⟩
            obtain ⟨q, hq⟩ : ∃ q, q = inv (xsw p I K) := ⟨_, rfl⟩
            have hqi : Hid (invI (xsw p I K) = (q : Int)) := by show _ = _; unfold invI; rw [hqp, hq]; rfl
            have HQ := Lib.hid hq
            clear hsq hq hqp
            refine (spec_CountInversions_ok _ (xsw p I K) _ HSQ.out (by rw [xsw_len]; omega)).mono ?_
            rintro e w7 ⟨rfl, q7⟩
            rw [hqi.out]
            have hU7 := Lib.hid (hU.out.trans (Ext.toUpd q7.ext _))
            have hR7 := Lib.hid ((hR5.out.upd hU7.out (fun i h1 h2 e => by omega)))
            have hE7 := Lib.hid (hE5.out.upd1 hU7.out (by omega))
            have hQ7 := Lib.hid (HSQ.out.ext q7.ext)
            have hz7 := hU7.out.size
            clear HSQ hRw HST hU hR5 hE5 d0 d1 f0 f1 e0c e1c
            by_cases hit : q = n + 1
            · have HT := Lib.hid (cvD_t (p := p) (k := K) (m := I) (by unfold cvHit; rw [← HQ.out, ← HNV.out]; exact decide_eq_true hit))
              have hbq : ((q : Int) == ((n : Int) + 1)) = true := by rw [beq_iff_eq]; omega
              have hput := l3Put_ok w.heap.size wr.heap.size b c (putAll (cvD p K I)) ⟨b5, 0, none⟩ c5 (xsw p I K) w7 hR7.out hR7.out.lo (by omega) (by rw [xsw_len]; exact hQ7.out) (by omega) (by rw [xsw_len]; omega) (fun x hx => by rw [cvD_each ((putAll_mem _ x).1 hx)]; omega)
              rw [xsw_len, ← hm.out] at hput
              have HPUT := Lib.hid hput
              have hlo := hR7.out.lo
              clear hit hput
              go_wp2_with fail
              refine HPUT.out.mono ?_
              rintro e w8 ⟨b8, c8, rfl, hr8, hb8, hu8⟩
              rw [← putAll_snoc, ← HT.out] at hr8 ⊢
              have hE8 := Lib.hid (hE7.out.upd1 hu8 hlo)
              have hR8 := Lib.hid hr8
              clear hr8 hu8 hb8 hbq
              go_wp2_with fail
              go_roundw
              case rel => exact ⟨I + 1, by omega, by go_num, ⟨b8, c8, _, rfl, Lib.hid rfl, hR8⟩, hE8⟩
              case measure => simp [intOf]; omega
            · have HT := Lib.hid (cvD_f (p := p) (k := K) (m := I) (by unfold cvHit; rw [← HQ.out, ← HNV.out]; exact decide_eq_false hit))
              have hbq : ((q : Int) == ((n : Int) + 1)) = false := by rw [beq_eq_false_iff_ne]; omega
              have hz9 : wr.heap.size ≤ w7.heap.size := by omega
              clear hit
              go_wp2_with fail
              go_roundw
              case rel => exact ⟨I + 1, by omega, by go_num, ⟨b, c, m, rfl, by rw [HT.out]; exact hm, by rw [HT.out]; exact hR7.out.mono hz9⟩, hE7⟩
              case measure => simp [intOf]; omega
          · obtain rfl : I = K := by omega
            have HT := Lib.hid ((cvD_end p I).trans (cvD_zero p (I + 1)).symm)
            go_wp2_with fail
            go_roundw
            case rel => exact ⟨I + 1, by omega, by go_num, ⟨b, c, m, rfl, by rw [← HT.out]; exact hm, by rw [← HT.out]; exact hr⟩, he⟩
            case measure => simp [intOf]; omega
      · obtain rfl : K = p.length := by omega
        have hD : cvD p p.length 0 = cvAll p := cvD_zero p p.length
        rw [hD] at hr hm
        have HM := hm
        clear hD hm
        go_wp2_with fail
        go_ret
        exact ⟨b, c, by rw [e0.out, ← HM.out]; rfl, by rw [e0.out]; exact hr.out, he.out⟩
theorem spec_StrongCovers_ok (v : Value) (p : List Int) (w : World) (h : SI w v p) (hl : p.length ≤ 1048576) (_hb : I64s p) :
    Calls Try.prog 47 #[v] w fun e w' => ∃ v', e = .returned v' ∧ OII w.heap.size w'.heap.size w' v' (cvL p) ∧ Ext w w' := by
  refine (spec_StrongCovers_rr v p w h (by omega)).mono ?_
  rintro e w' ⟨b, c, rfl, hr, he⟩
  exact ⟨_, rfl, hr.oii rfl, he⟩
end Go.Proofs.Ytmnbdphfoonleaa
