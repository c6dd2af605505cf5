/- Contracts of BelowOf, the program's and the reference's. Conditions: lengths below a bound. -/
import Derived.Test.YtmnbdphfoonleaaStr
import Derived.Test.YtmnbdphfoonleaaPerm2
import Derived.Test.YtmnbdphfoonleaaPermP
namespace Go.Proofs.Ytmnbdphfoonleaa
open Go.RowKit

/-- some of the rows, in their order. -/
theorem Els.pick {B H : Nat} {w : World} {vs : List Value} {L : List (List Int)} (h : Els B H w vs L) (idx : List Nat) (hpw : idx.Pairwise (· < ·)) (hlt : ∀ i ∈ idx, i < L.length) : Els B H w (idx.map (nthV vs)) (idx.map (nthL L)) := by
  have hv : ∀ i (hi : i < idx.length), nthV (idx.map (nthV vs)) i = nthV vs idx[i] := fun i hi => by
    simp [nthV, hi]
  have hl : ∀ i (hi : i < idx.length), nthL (idx.map (nthL L)) i = nthL L idx[i] := fun i hi => by
    simp [nthL, hi]
  refine ⟨by simp, fun i hi => ?_, fun i j c hij hj hc => ?_⟩
  · have hi' : i < idx.length := by simpa using hi
    rw [hv i hi', hl i hi']
    exact h.el _ (hlt _ (List.getElem_mem hi'))
  · have hj' : j < idx.length := by simpa using hj
    rw [hv i (by omega)] at hc
    rw [hv j hj']
    exact h.apart _ _ c (List.pairwise_iff_getElem.1 hpw i j (by omega) hj' hij) (hlt _ (List.getElem_mem hj')) hc
def belI (L : List (List Int)) (p : List Int) (k : Nat) : List Nat := (List.range k).filter fun i => sbelB (nthL L i) p
def belTo (L : List (List Int)) (p : List Int) (k : Nat) : List (List Int) := (belI L p k).map (nthL L)
theorem belI_pw (L : List (List Int)) (p : List Int) (k : Nat) : (belI L p k).Pairwise (· < ·) := List.Pairwise.filter _ List.pairwise_lt_range
theorem belI_lt {L : List (List Int)} {p : List Int} {k i : Nat} (h : i ∈ belI L p k) : i < k := by
  simp only [belI, List.mem_filter, List.mem_range] at h; exact h.1
theorem belI_t {L : List (List Int)} {p : List Int} {k : Nat} (h : sbelB (nthL L k) p = true) : belI L p (k + 1) = belI L p k ++ [k] := by simp [belI, List.range_succ, List.filter_append, h]
theorem belI_f {L : List (List Int)} {p : List Int} {k : Nat} (h : sbelB (nthL L k) p = false) : belI L p (k + 1) = belI L p k := by simp [belI, List.range_succ, List.filter_append, h]
theorem belI_len (L : List (List Int)) (p : List Int) (k : Nat) : (belI L p k).length ≤ k := by
  have := List.length_filter_le (fun i => sbelB (nthL L i) p) (List.range k)
  simpa [belI] using this
theorem belTo_len (L : List (List Int)) (p : List Int) (k : Nat) : (belTo L p k).length = (belI L p k).length := by simp [belTo]
def belOK (p : List Int) : Bool := isP8 p && decide (p.length ≤ 5)
def belL (p : List Int) : List (List Int) := bif belOK p then belTo (permsL p.length) p (permsL p.length).length else []
theorem belOK_true {p : List Int} (h : belOK p = true) : isP8 p = true ∧ p.length ≤ 5 := by simpa [belOK] using h
theorem belTo_each {L : List (List Int)} {p : List Int} {k : Nat} (hk : k ≤ L.length) {q : List Int} (h : q ∈ belTo L p k) : q ∈ L := by
  simp only [belTo, List.mem_map] at h
  obtain ⟨i, hi, rfl⟩ := h
  exact nthL_mem (by have := belI_lt hi; omega)
theorem bound_BelowOf (p : List Int) (_h : p.length ≤ 1048576) : Bd (belL p) := by
  unfold belL
  cases h : belOK p
  · exact Bd.nil
  · have h5 := (belOK_true h).2
    have h1 := belI_len (permsL p.length) p (permsL p.length).length
    have h2 := perms_small p.length (by omega)
    refine Bd.of 1000 5 ?_ (fun q hq => ?_) (by omega) (by omega)
    · simp only [cond_true]; rw [belTo_len]; omega
    · simp only [cond_true] at hq
      have := perms_each (belTo_each (Nat.le_refl _) hq); omega

def BelPost (p : List Int) (w : World) (e : Ending) (w' : World) : Prop :=
  ∃ v', e = .returned v' ∧ OII w.heap.size w'.heap.size w' v' (belL p) ∧ Ext w w' ∧ (belOK p = true → ∃ b c, v' = .slice (some ⟨b, 0, none⟩) (belL p).length c) ∧ (belOK p = false → v' = .slice none 0 0)
set_option maxHeartbeats 2000000 in
theorem impl_BelowOf_post (v : Value) (p : List Int) (w : World) (h : SI w v p) :
    Calls Try.prog 41 #[v] w (BelPost p w) := by
  obtain ⟨a, cap, rfl, -⟩ := h.elim
  cases hp : isP8 p
  · have hP := Lib.hid hp
    have e0 : Hid (belOK p = false) := by show _ = _; simp [belOK, hp]
    have e1 : Hid (belL p = []) := by show _ = _; simp [belL, e0.out]
    clear hp
    go_enter Try.func41, Try.ntmps41
    go_wp2_with (go_at_call 72; refine (impl_IsPerm_ok _ p _ h).mono ?_; rintro e w1 ⟨rfl, he⟩; rw [hP.out])
    go_ret
    exact ⟨_, rfl, by rw [e1.out]; exact OII.nil _ _ _, he, fun hh => by rw [e0.out] at hh; simp at hh, fun _ => rfl⟩
  · have hP := Lib.hid hp
    by_cases h5 : 5 < p.length
    · have e0 : Hid (belOK p = false) := by show _ = _; simp [belOK]; omega
      have e1 : Hid (belL p = []) := by show _ = _; simp [belL, e0.out]
      clear hp
      go_enter Try.func41, Try.ntmps41
      go_wp2_with (go_at_call 72; refine (impl_IsPerm_ok _ p _ h).mono ?_; rintro e w1 ⟨rfl, he⟩; rw [hP.out])
      go_ret
      exact ⟨_, rfl, by rw [e1.out]; exact OII.nil _ _ _, he, fun hh => by rw [e0.out] at hh; simp at hh, fun _ => rfl⟩
    · have e0 : Hid (belOK p = true) := by show _ = _; simp [belOK, hp]; omega
      have e1 : Hid (belL p = belTo (permsL p.length) p (permsL p.length).length) := by show _ = _; simp [belL, e0.out]
      obtain ⟨P, hPP⟩ : ∃ P, P = (permsL p.length).length := ⟨_, rfl⟩
      have hps : P ≤ 1000 := by rw [hPP]; exact perms_small _ (by omega)
      rw [← hPP] at e1
      have HPL := Lib.hid hPP
      clear hp hPP
      go_enter Try.func41, Try.ntmps41
      go_wp2_with fail
      refine (impl_IsPerm_ok _ p _ h).mono ?_
      rintro e w1 ⟨rfl, he1⟩
      rw [hP.out]
      have hr0 := Row.new 24 w1 [] (by simp)
      have hz1 := he1.size
      go_wp2_with fail
      refine (perms_ok p.length _ (by omega)).mono ?_
      rintro e w2 ⟨v2, rfl, ho2, he2⟩
      have hz2 := he2.size
      simp at hz2
      have he02 : Ext w w2 := (he1.alloc _).trans he2
      replace hr0 := hr0.ext he2
      have hsz0 : (w1.alloc (.cells #[] 24)).heap.size = w1.heap.size + 1 := by simp
      rw [hsz0] at ho2
      rcases ho2 with ⟨rfl, hx⟩ | ⟨ba, ca, vs, rfl, hba, hba2, hRa, hEa, -⟩
      · exfalso
        have : P = 0 := by rw [HPL.out, hx]; rfl
        have h3 : ∀ n, n ≤ 6 → (permsL n).length ≠ 0 := by decide +kernel
        exact h3 p.length (by omega) (by rw [← HPL.out]; exact this)
      · rw [← HPL.out]
        clear he1 he2
        go_wp2_with fail
        go_loopw [3, 19] (fun o i wr => ∃ k : Nat, k ≤ P ∧ i = .int .i64 k ∧ Row 24 wr ba ca vs ∧ Els (w1.heap.size + 1) w2.heap.size wr vs (permsL p.length) ∧ (∃ b c m, o = .slice (some ⟨b, 0, none⟩) m c ∧ Hid (m = (belI (permsL p.length) p k).length) ∧ (b = w1.heap.size ∨ w2.heap.size ≤ b) ∧ Row 24 wr b c ((belI (permsL p.length) p k).map (nthV vs))) ∧ Ext w wr ∧ w2.heap.size ≤ wr.heap.size) (fun _ i _ => P - (intOf i).toNat)
        case atStart => exact ⟨0, Nat.zero_le _, rfl, hRa, hEa, ⟨_, 0, 0, rfl, Lib.hid rfl, .inl rfl, hr0⟩, he02, Nat.le_refl _⟩
        case round =>
          obtain ⟨k, hk, rfl, hra, hea, ⟨b, c, m, rfl, hm, hbb, hr⟩, he, hzr⟩ := hrel
          clear hr0 hRa hEa he02
          by_cases hlt : k < P
          · have hkl : k < (permsL p.length).length := by rw [← HPL.out]; exact hlt
            have hmem := nthL_mem hkl
            have hql := perms_each hmem
            have hel := hea.el k hkl
            have hcell := hra.cell (nthV_get (vs := vs) (k := k) (by rw [hea.len]; exact hkl))
            obtain ⟨u, hu⟩ : ∃ u, u = nthV vs k := ⟨_, rfl⟩
            obtain ⟨q, hq⟩ : ∃ q, q = nthL (permsL p.length) k := ⟨_, rfl⟩
            rw [← hu] at hel hcell
            rw [← hq] at hel hql
            obtain ⟨pu, cu, rfl⟩ := hel.shape
            have hbI := belI_len (permsL p.length) p k
            have HU := Lib.hid hu
            have HQ := Lib.hid hq
            have HQL := Lib.hid hql
            have hsi := hel.si
            have hs2 := h.ext he
            have hlen8 : q.length ≤ 8 := by omega
            clear hkl hmem hu hq hql hel
            cases hb : sbelB q p
            · have HB := Lib.hid hb
              have hst : Hid (belI (permsL p.length) p (k + 1) = belI (permsL p.length) p k) := by show _ = _; exact belI_f (by rw [← HQ.out]; exact hb)
              clear hb
              go_wp2_with fail
              refine (strongBelow_ok _ _ q p _ hsi hs2 hlen8 HQL.out.symm).mono ?_
              rintro e w4 ⟨rfl, hq4⟩
              rw [HB.out]
              go_wp2_with fail
              go_roundw
              case rel => exact ⟨k + 1, by omega, by go_num, hra.ext hq4.ext, hea.ext hq4.ext, ⟨b, c, m, rfl, Lib.hid (by rw [hst.out]; exact hm.out), hbb, by rw [hst.out]; exact hr.ext hq4.ext⟩, he.trans hq4.ext, by have := hq4.ext.size; omega⟩
              case measure => simp [intOf]; omega
            · have HB := Lib.hid hb
              have hst : Hid (belI (permsL p.length) p (k + 1) = belI (permsL p.length) p k ++ [k]) := by show _ = _; exact belI_t (by rw [← HQ.out]; exact hb)
              clear hb
              go_wp2_with fail
              refine (strongBelow_ok _ _ q p _ hsi hs2 hlen8 HQL.out.symm).mono ?_
              rintro e w4 ⟨rfl, hq4⟩
              rw [HB.out]
              have hra4 := hra.ext hq4.ext
              have hea4 := hea.ext hq4.ext
              have hE4 := he.trans hq4.ext
              have hz4 := hq4.ext.size
              have HR4 := Lib.hid (hr.ext hq4.ext)
              have hml : Hid (m = ((belI (permsL p.length) p k).map (nthV vs)).length) := by show _ = _; rw [List.length_map]; exact hm.out
              clear hr hra hea he
              go_wp2_with (at_builtin; refine wpl_appv rfl _ _ rfl b c m ((belI (permsL p.length) p k).map (nthV vs)) pu _ cu rfl HR4.out hml.out rfl (by rw [List.length_map]; omega) ?_; intro b6 c6 w6 hr6 hb6 hu6)
              have hbne : ∀ i, w1.heap.size + 1 ≤ i → i < w2.heap.size → ¬ i = b := fun i h1 h2 e => by omega
              have hzu := hu6.size
              go_roundw
              case rel => exact ⟨k + 1, by omega, by go_num, hra4.upd hu6 (hbne ba hba hba2), hea4.upd hu6 (fun i c' hi hc' e => by have := (hea4.el i hi).own hc'; exact hbne c' this.1 this.2 e), ⟨b6, c6, m + 1, rfl, Lib.hid (by rw [hst.out]; simp [hm.out]), by omega, by rw [hst.out, List.map_append]; simp only [List.map_cons, List.map_nil]; rw [← HU.out]; exact hr6⟩, hE4.upd1 hu6 (by omega), by omega⟩
              case measure => simp [intOf]; omega
          · obtain rfl : k = P := by omega
            have hzw := hr.lt
            have hbn := Lib.hid (belTo_len (permsL p.length) p k)
            go_wp2_with fail
            go_ret
            refine ⟨_, rfl, ?_, he, fun _ => ⟨b, c, by rw [e1.out, hbn.out, ← hm.out]; rfl⟩, fun hh => by rw [e0.out] at hh; simp at hh⟩
            rw [e1.out]
            refine .inr ⟨b, c, _, by rw [hbn.out, ← hm.out]; rfl, by omega, hzw, hr, (hea.pick _ (belI_pw _ _ _) (fun i hi => by have := belI_lt hi; have := HPL.out; omega)).mono (by omega) hzr, fun i hi hc => ?_⟩
            have := ((hea.pick _ (belI_pw _ _ _) (fun i hi => by have := belI_lt hi; have := HPL.out; omega)).el i hi).own hc
            omega
theorem impl_BelowOf_ok (v : Value) (p : List Int) (w : World) (h : SI w v p) (_hl : p.length ≤ 1048576) (_hb : I64s p) :
    Calls Try.prog 41 #[v] w fun e w' => ∃ v', e = .returned v' ∧ OII w.heap.size w'.heap.size w' v' (belL p) ∧ Ext w w' :=
  (impl_BelowOf_post v p w h).mono fun _ _ ⟨v', h1, h2, h3, _⟩ => ⟨v', h1, h2, h3⟩
set_option maxHeartbeats 2000000 in
theorem spec_BelowOf_ok (v : Value) (p : List Int) (w : World) (h : SI w v p) (hl : p.length ≤ 1048576) (_hb : I64s p) :
    Calls Try.prog 48 #[v] w fun e w' => ∃ v', e = .returned v' ∧ OII w.heap.size w'.heap.size w' v' (belL p) ∧ Ext w w' := by
  obtain ⟨a, cap, rfl, -⟩ := h.elim
  have hr00 := RR.new w
  have he0 : Ext w (w.alloc (.cells #[] 24)) := Upd.alloc _ _ _
  have h1 := h.ext he0
  cases hp : isP8 p
  · have hP := Lib.hid hp
    have e0 : Hid (belOK p = false) := by show _ = _; simp [belOK, hp]
    have e1 : Hid (belL p = []) := by show _ = _; simp [belL, e0.out]
    clear hp
    go_enter Try.func48, Try.ntmps48
    go_wp2_with (go_at_call 82; refine (spec_IsPerm_qt _ p _ h1 (by omega)).mono ?_; rintro e w1 ⟨rfl, hq⟩; rw [hP.out])
    go_ret
    rw [e1.out]
    exact ⟨_, rfl, ((hr00.ext hq.ext).mono (by have := hq.ext.size; simp at this ⊢; omega)).oii rfl, he0.trans hq.ext⟩
  · have hP := Lib.hid hp
    by_cases h5 : 5 < p.length
    · have e0 : Hid (belOK p = false) := by show _ = _; simp [belOK]; omega
      have e1 : Hid (belL p = []) := by show _ = _; simp [belL, e0.out]
      clear hp
      go_enter Try.func48, Try.ntmps48
      go_wp2_with (go_at_call 82; refine (spec_IsPerm_qt _ p _ h1 (by omega)).mono ?_; rintro e w1 ⟨rfl, hq⟩; rw [hP.out])
      go_ret
      rw [e1.out]
      exact ⟨_, rfl, ((hr00.ext hq.ext).mono (by have := hq.ext.size; simp at this ⊢; omega)).oii rfl, he0.trans hq.ext⟩
    · have e0 : Hid (belOK p = true) := by show _ = _; simp [belOK, hp]; omega
      have e1 : Hid (belL p = belTo (permsL p.length) p (permsL p.length).length) := by show _ = _; simp [belL, e0.out]
      obtain ⟨P, hPP⟩ : ∃ P, P = (permsL p.length).length := ⟨_, rfl⟩
      have hps : P ≤ 1000 := by rw [hPP]; exact perms_small _ (by omega)
      rw [← hPP] at e1
      have HPL := Lib.hid hPP
      have hib : Hid (I64s p) := by
        have := (isP8_iff.1 hp).2
        show I64s p
        exact fun x hx => by have := this.1 x hx; unfold I64; omega
      have hpt := Lib.hid hp
      have hr0 := Row.new 24 w [] (by simp)
      clear hp hPP
      go_enter Try.func48, Try.ntmps48
      go_wp2_with fail
      refine (spec_IsPerm_qt _ p _ h1 (by omega)).mono ?_
      rintro e w1 ⟨rfl, hq1⟩
      rw [hP.out]
      have he1 : Ext w w1 := he0.trans hq1.ext
      have hz1 : w.heap.size < w1.heap.size := by have := hq1.ext.size; simp at this; omega
      replace hr0 := hr0.ext hq1.ext
      clear hr00 he0 h1 hq1
      go_wp2_with fail
      refine (permsOf_ok p.length _ (by omega)).mono ?_
      rintro e w2 ⟨v2, rfl, ho2, he2⟩
      have hz2 := he2.size
      have he02 : Ext w w2 := he1.trans he2
      replace hr0 := hr0.ext he2
      rcases ho2 with ⟨rfl, hx⟩ | ⟨ba, ca, vs, rfl, hba, hba2, hRa, hEa, -⟩
      · exfalso
        have : P = 0 := by rw [HPL.out, hx]; rfl
        have h3 : ∀ n, n ≤ 6 → (permsL n).length ≠ 0 := by decide +kernel
        exact h3 p.length (by omega) (by rw [← HPL.out]; exact this)
      · rw [← HPL.out]
        clear he1 he2
        go_wp2_with fail
        go_loopw [3, 5] (fun o i wr => ∃ k : Nat, k ≤ P ∧ i = .int .i64 k ∧ Row 24 wr ba ca vs ∧ Els w1.heap.size w2.heap.size wr vs (permsL p.length) ∧ (∃ b c m, o = .slice (some ⟨b, 0, none⟩) m c ∧ Hid (m = (belI (permsL p.length) p k).length) ∧ (b = w.heap.size ∨ w2.heap.size ≤ b) ∧ Row 24 wr b c ((belI (permsL p.length) p k).map (nthV vs))) ∧ Ext w wr ∧ w2.heap.size ≤ wr.heap.size) (fun _ i _ => P - (intOf i).toNat)
        case atStart => exact ⟨0, Nat.zero_le _, rfl, hRa, hEa, ⟨_, 0, 0, rfl, Lib.hid rfl, .inl rfl, hr0⟩, he02, Nat.le_refl _⟩
        case round =>
          obtain ⟨k, hk, rfl, hra, hea, ⟨b, c, m, rfl, hm, hbb, hr⟩, he, hzr⟩ := hrel
          clear hr0 hRa hEa he02
          by_cases hlt : k < P
          · have hkl : k < (permsL p.length).length := by rw [← HPL.out]; exact hlt
            have hmem := nthL_mem hkl
            have hql := perms_each hmem
            have hel := hea.el k hkl
            have hcell := hra.cell (nthV_get (vs := vs) (k := k) (by rw [hea.len]; exact hkl))
            obtain ⟨u, hu⟩ : ∃ u, u = nthV vs k := ⟨_, rfl⟩
            obtain ⟨q, hq⟩ : ∃ q, q = nthL (permsL p.length) k := ⟨_, rfl⟩
            rw [← hu] at hel hcell
            rw [← hq] at hel hql
            obtain ⟨pu, cu, rfl⟩ := hel.shape
            have hbI := belI_len (permsL p.length) p k
            have HU := Lib.hid hu
            have HQ := Lib.hid hq
            have HQL := Lib.hid hql
            have hsi := hel.si
            have hs2 := h.ext he
            have hlen8 : q.length ≤ 8 := by omega
            have hqp := perms_isPP hmem
            rw [← hq] at hqp
            have HIQ : Hid (I64s q) := by show I64s q; exact fun x hx => by have := hqp.1 x hx; unfold I64; omega
            have hsb : Hid (strB q p = sbelB q p) := by show _ = _; unfold strB; rw [isP8_true hlen8 hqp, hpt.out, decide_eq_true hql]; rfl
            clear hkl hmem hu hq hql hel hqp
            cases hb : sbelB q p
            · have HB := Lib.hid hb
              have hst : Hid (belI (permsL p.length) p (k + 1) = belI (permsL p.length) p k) := by show _ = _; exact belI_f (by rw [← HQ.out]; exact hb)
              clear hb
              go_wp2_with fail
              refine (spec_StrongBelow_ok _ q _ p _ hsi (by omega) HIQ.out hs2 (by omega) hib.out).mono ?_
              rintro e w4 ⟨rfl, hq4⟩
              rw [hsb.out, HB.out]
              go_wp2_with fail
              go_roundw
              case rel => exact ⟨k + 1, by omega, by go_num, hra.ext hq4, hea.ext hq4, ⟨b, c, m, rfl, Lib.hid (by rw [hst.out]; exact hm.out), hbb, by rw [hst.out]; exact hr.ext hq4⟩, he.trans hq4, by have := hq4.size; omega⟩
              case measure => simp [intOf]; omega
            · have HB := Lib.hid hb
              have hst : Hid (belI (permsL p.length) p (k + 1) = belI (permsL p.length) p k ++ [k]) := by show _ = _; exact belI_t (by rw [← HQ.out]; exact hb)
              clear hb
              go_wp2_with fail
              refine (spec_StrongBelow_ok _ q _ p _ hsi (by omega) HIQ.out hs2 (by omega) hib.out).mono ?_
              rintro e w4 ⟨rfl, hq4⟩
              rw [hsb.out, HB.out]
              have hra4 := hra.ext hq4
              have hea4 := hea.ext hq4
              have hE4 := he.trans hq4
              have hz4 := hq4.size
              replace hcell := hq4.cell hcell
              have HR4 := Lib.hid (hr.ext hq4)
              have hml : Hid (m = ((belI (permsL p.length) p k).map (nthV vs)).length) := by show _ = _; rw [List.length_map]; exact hm.out
              clear hr hra hea he
              go_wp2_with (at_builtin; refine wpl_appv rfl _ _ rfl b c m ((belI (permsL p.length) p k).map (nthV vs)) pu _ cu rfl HR4.out hml.out rfl (by rw [List.length_map]; omega) ?_; intro b6 c6 w6 hr6 hb6 hu6)
              have hbne : ∀ i, w1.heap.size ≤ i → i < w2.heap.size → ¬ i = b := fun i h1 h2 e => by omega
              have hzu := hu6.size
              go_roundw
              case rel => exact ⟨k + 1, by omega, by go_num, hra4.upd hu6 (hbne ba hba hba2), hea4.upd hu6 (fun i c' hi hc' e => by have := (hea4.el i hi).own hc'; exact hbne c' this.1 this.2 e), ⟨b6, c6, m + 1, rfl, Lib.hid (by rw [hst.out]; simp [hm.out]), by omega, by rw [hst.out, List.map_append]; simp only [List.map_cons, List.map_nil]; rw [← HU.out]; exact hr6⟩, hE4.upd1 hu6 (by omega), by omega⟩
              case measure => simp [intOf]; omega
          · obtain rfl : k = P := by omega
            have hzw := hr.lt
            have hbn := Lib.hid (belTo_len (permsL p.length) p k)
            go_wp2_with fail
            go_ret
            refine ⟨_, rfl, ?_, he⟩
            rw [e1.out]
            refine .inr ⟨b, c, _, by rw [hbn.out, ← hm.out]; rfl, by omega, hzw, hr, (hea.pick _ (belI_pw _ _ _) (fun i hi => by have := belI_lt hi; have := HPL.out; omega)).mono (by omega) hzr, fun i hi hc => ?_⟩
            have := ((hea.pick _ (belI_pw _ _ _) (fun i hi => by have := belI_lt hi; have := HPL.out; omega)).el i hi).own hc
            omega
end Go.Proofs.Ytmnbdphfoonleaa
