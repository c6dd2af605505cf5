/- Contracts of the draw of a layered permutation. Conditions: small lengths. -/
import Derived.Test.YtognbiodplodhaaJoinW
namespace Go.Proofs.Ytognbiodplodhaa
open Go.RowKit

def fitB4 (p q : List Int) : Bool := isP8 p && isP8 q && decide (p.length + q.length ≤ 8)
set_option maxHeartbeats 1000000 in
theorem l4Fit_ok (v v2 : Value) (p q : List Int) (w : World) (h : SI w v p) (h2 : SI w v2 q) (hl : p.length ≤ 1000000000) (hl2 : q.length ≤ 1000000000) :
    Calls Try.prog 94 #[v, v2] w fun e w' => e = .returned (.bool (fitB4 p q)) ∧ Qt w w' := by
  obtain ⟨a, cap, rfl, -⟩ := h.elim
  obtain ⟨a2, cap2, rfl, -⟩ := h2.elim
  cases h1 : isP8 p
  · have H1 := Lib.hid h1
    have e0 : Hid (fitB4 p q = false) := by show _ = _; simp [fitB4, h1]
    clear h1
    go_enter Try.func94, Try.ntmps94
    go_wp2_with fail
    refine (spec_IsPerm_qt _ p _ h hl).mono ?_
    rintro e w1 ⟨rfl, hq1⟩
    rw [H1.out]
    go_wp2_with fail
    go_ret
    exact ⟨by rw [e0.out]; rfl, hq1⟩
  · have H1 := Lib.hid h1
    cases h3 : isP8 q
    · have H3 := Lib.hid h3
      have e0 : Hid (fitB4 p q = false) := by show _ = _; simp [fitB4, h3]
      clear h1 h3
      go_enter Try.func94, Try.ntmps94
      go_wp2_with fail
      refine (spec_IsPerm_qt _ p _ h hl).mono ?_
      rintro e w1 ⟨rfl, hq1⟩
      rw [H1.out]
      go_wp2_with fail
      refine (spec_IsPerm_qt _ q _ (h2.ext hq1.ext) hl2).mono ?_
      rintro e w2 ⟨rfl, hq2⟩
      rw [H3.out]
      go_wp2_with fail
      go_ret
      exact ⟨by rw [e0.out]; rfl, hq1.trans hq2⟩
    · have H3 := Lib.hid h3
      have e0 : Hid (fitB4 p q = decide (p.length + q.length ≤ 8)) := by show _ = _; simp [fitB4, h1, h3]
      clear h1 h3
      by_cases h8 : p.length + q.length ≤ 8
      · have h8I : (p.length : Int) + (q.length : Int) ≤ 8 := by omega
        have hd := Lib.hid (decide_eq_true h8)
        go_enter Try.func94, Try.ntmps94
        go_wp2_with fail
        refine (spec_IsPerm_qt _ p _ h hl).mono ?_
        rintro e w1 ⟨rfl, hq1⟩
        rw [H1.out]
        go_wp2_with fail
        refine (spec_IsPerm_qt _ q _ (h2.ext hq1.ext) hl2).mono ?_
        rintro e w2 ⟨rfl, hq2⟩
        rw [H3.out]
        go_wp2_with fail
        go_ret
        exact ⟨by rw [e0.out, hd.out]; first | (simp; done) | (simp; omega), hq1.trans hq2⟩
      · have h8I : ¬ (p.length : Int) + (q.length : Int) ≤ 8 := by omega
        have hd := Lib.hid (decide_eq_false h8)
        go_enter Try.func94, Try.ntmps94
        go_wp2_with fail
        refine (spec_IsPerm_qt _ p _ h hl).mono ?_
        rintro e w1 ⟨rfl, hq1⟩
        rw [H1.out]
        go_wp2_with fail
        refine (spec_IsPerm_qt _ q _ (h2.ext hq1.ext) hl2).mono ?_
        rintro e w2 ⟨rfl, hq2⟩
        rw [H3.out]
        go_wp2_with fail
        go_ret
        exact ⟨by rw [e0.out, hd.out]; first | (simp; done) | (simp; omega), hq1.trans hq2⟩
def SmL (L : List Int) : Prop := L.length ≤ 8 ∧ ∀ x ∈ L, 0 ≤ x ∧ x ≤ 8
theorem joinF_small {p q : List Int} (h : fitB4 p q = true) : SmL (joinF p q) := by
  unfold fitB4 at h
  simp only [Bool.and_eq_true, decide_eq_true_eq] at h
  obtain ⟨⟨h1, h2⟩, h3⟩ := h
  refine ⟨by simp [joinF]; omega, fun x hx => ?_⟩
  unfold joinF at hx
  rcases List.mem_append.1 hx with hx | hx
  · have := (isP8_iff.1 h1).2.1 x hx; omega
  · simp only [List.mem_map] at hx
    obtain ⟨y, hy, rfl⟩ := hx
    have := (isP8_iff.1 h2).2.1 y hy; omega
theorem fit_len {p q : List Int} (h : fitB4 p q = true) : p.length ≤ 8 ∧ q.length ≤ 8 ∧ (∀ x ∈ p, -100 ≤ x ∧ x ≤ 100) ∧ ∀ x ∈ q, -100 ≤ x ∧ x ≤ 100 := by
  unfold fitB4 at h
  simp only [Bool.and_eq_true, decide_eq_true_eq] at h
  obtain ⟨⟨h1, h2⟩, h3⟩ := h
  refine ⟨by omega, by omega, fun x hx => ?_, fun x hx => ?_⟩
  · have := (isP8_iff.1 h1).2.1 x hx; omega
  · have := (isP8_iff.1 h2).2.1 x hx; omega
set_option maxHeartbeats 2000000 in
theorem JoinParts_ok (v : Value) (xss : List (List Int)) (w : World) (h : SII w v xss) (hl : xss.length ≤ 1000000) (hs : small xss) :
    Calls Try.prog 79 #[v, .bool false] w fun e w' => ∃ v' L ok, e = .returned (.tuple #[v', .bool ok]) ∧ OI w.heap.size w'.heap.size w' v' L ∧ SmL L ∧ Ext w w' := by
  obtain ⟨a, cap, rfl, hri⟩ := h.elim
  have hr0 := Row.new 3 w [] (by simp)
  have he0 : Ext w (w.alloc (.cells #[] 3)) := Upd.alloc _ _ _
  have hsm0 : SmL [] := ⟨by simp, fun x hx => by simp at hx⟩
  have HSM := Lib.hid hs
  clear h hs
  go_enter Try.func79, Try.ntmps79
  go_wp2_with fail
  go_loopw [6, 7] (fun o i wr => ∃ k : Nat, k ≤ xss.length ∧ i = .int .i64 k ∧ (∃ b c n L, o = .slice (some ⟨b, 0, none⟩) n c ∧ Hid (n = L.length) ∧ w.heap.size ≤ b ∧ Row 3 wr b c (vals L) ∧ Hid (SmL L)) ∧ Ext w wr) (fun _ i _ => xss.length - (intOf i).toNat)
  case atStart => exact ⟨0, Nat.zero_le _, rfl, ⟨_, 0, 0, [], rfl, Lib.hid rfl, Nat.le_refl _, hr0, Lib.hid hsm0⟩, he0⟩
  case round =>
    obtain ⟨k, hk, rfl, ⟨b, c, n, L, rfl, hn, hb, hr, hsm⟩, he⟩ := hrel
    clear hr0 he0
    by_cases hlt : k < xss.length
    · obtain ⟨b1, off1, rfl, u, hc, hu⟩ := hri k hlt
      have hc2 := Ext.cell he hc
      have hu2 := hu.ext he
      have hq9 := HSM.out.nth hlt
      obtain ⟨q, hq⟩ : ∃ q, q = nthL xss k := ⟨_, rfl⟩
      rw [← hq] at hu2 hq9
      obtain ⟨pu, cu, rfl, -⟩ := hu2.elim
      have HU := Lib.hid hu2
      have hsi : SI wr (.slice (some ⟨b, 0, none⟩) n c) L := by rw [hn.out]; exact hr.si
      have HSI := Lib.hid hsi
      have HR := Lib.hid hr
      have hl8 := hsm.out.1
      have hkI : (k : Int) < (xss.length : Int) := by omega
      clear hc hu hu2 hq hsi hr
      cases hf : fitB4 L q
      · have HF := Lib.hid hf
        clear hf
        go_wp2_with fail
        refine (l4Fit_ok _ _ L q _ HSI.out HU.out (by omega) (by omega)).mono ?_
        rintro e w2 ⟨rfl, hq2⟩
        rw [HF.out]
        go_wp2_with fail
        go_ret2
        have he2 : Ext w w2 := he.trans hq2.ext
        exact ⟨_, [], _, rfl, OI.row (Row.new _ w2 [] (by simp)) he2.size rfl, hsm0, he2.alloc _⟩
      · have HF := Lib.hid hf
        have hfl := fit_len hf
        have HJ := Lib.hid (joinF_small hf)
        clear hf
        go_wp2_with fail
        refine (l4Fit_ok _ _ L q _ HSI.out HU.out (by omega) (by omega)).mono ?_
        rintro e w2 ⟨rfl, hq2⟩
        rw [HF.out]
        have hc3 := hq2.ext.cell hc2 id
        go_wp2_with fail
        refine (l4Join_ok _ _ L q _ (HSI.out.ext hq2.ext) (HU.out.ext hq2.ext) hfl.1 hfl.2.1 hfl.2.2.1 hfl.2.2.2).mono ?_
        rintro e w3 ⟨b3, c3, rfl, hb3, hr3, he3⟩
        have he2 : Ext w w2 := he.trans hq2.ext
        have hz := he2.size
        have HR3 := Lib.hid hr3
        clear hr3
        go_wp2_with fail
        go_roundw
        case rel => exact ⟨k + 1, by omega, by go_num, ⟨b3, c3, _, joinF L q, rfl, Lib.hid rfl, by omega, HR3.out, HJ⟩, he2.trans he3⟩
        case measure => simp [intOf]; omega
    · obtain rfl : k = xss.length := by omega
      go_wp2_with fail
      go_ret2
      exact ⟨_, L, _, rfl, OI.row hr hb hn.out, hsm.out, he⟩
set_option maxHeartbeats 4000000 in
theorem DrawIsLayered_ok (a : Option Addr) (n cap : Nat) (w : World) (hn : n ≤ 1048576) (hb : BY w.heap.size w a n) : Calls Try.prog 51 #[.slice a n cap] w (DrB w) := by
  have HB := Lib.hid hb
  clear hb
  go_enter Try.func51, Try.ntmps51
  go_wp2_with fail
  refine (l1New_ok a n cap _ hn HB.out).mono ?_
  rintro e w1 ⟨bc, rfl, hbc, hc, he⟩
  have hz := he.size
  go_wp2_with fail
  refine (l1Once_ok bc 2 _ hc (by omega) (by omega)).mono ?_
  rintro e w2 ⟨x, rfl, hc2, hu2⟩
  have hE2 : Ext w w2 := Upd.comp he hu2 (fun _ _ h => h) (fun i hi e => by omega)
  have hz2 := hE2.size
  have hbcz := hc2.lt
  cases x
  · go_wp2_with fail
    refine (l2Bent_ok bc _ hc2).mono ?_
    rintro e w3 ⟨b, c, m, L, rfl, hm, hm9, hL, hlo, hr, hc3, hu3⟩
    go_wp2_with fail
    go_ret
    exact ⟨_, L, rfl, OI.row hr (by omega) (by first | rfl | exact hm), by omega, hL, Upd.comp hE2 hu3 (fun _ _ h => h) (fun i hi e => by omega)⟩
  · have hr0 := RR.new w2
    have hE3 : Ext w2 (w2.alloc (.cells #[] 24)) := Upd.alloc _ _ _
    have hc3 := hc2.ext hE3
    have hsz : w2.heap.size ≤ (w2.alloc (.cells #[] 24)).heap.size := hE3.size
    go_wp2_with fail
    go_loopw [4, 5] (fun o i wr => ∃ k : Nat, k ≤ 3 ∧ i = .int .i64 k ∧ (∃ b c m L, o = .slice (some ⟨b, 0, none⟩) m c ∧ Hid (m = L.length) ∧ m = k ∧ RR w2.heap.size wr.heap.size wr b c L ∧ Hid (∀ l ∈ L, l.length ≤ 8)) ∧ Cur bc wr ∧ Upd (· = bc) w2 wr) (fun _ i _ => 3 - (intOf i).toNat)
    case atStart => exact ⟨0, by omega, rfl, ⟨_, 0, 0, [], rfl, Lib.hid rfl, rfl, hr0.mono (by simp), Lib.hid (fun l h => by simp at h)⟩, hc3, Upd.alloc _ _ _⟩
    case round =>
      obtain ⟨k, hk, rfl, ⟨b, c, m, L, rfl, hm, rfl, hr, hL⟩, hcu, hu⟩ := hrel
      clear hr0 hE3 hc3 hsz
      have hz3 := hu.size
      by_cases hlt : m < 3
      · have hltI : (m : Int) < 3 := by omega
        go_wp2_with fail
        refine (l1Below_ok bc 3 _ hcu (by omega) (by omega)).mono ?_
        rintro e w4 ⟨x, hx, rfl, hc4, hu4⟩
        have hz4 := hu4.size
        have hr4 := (hr.upd hu4 (fun i h1 h2 e => by omega)).mono hz4
        have hU4 := hu.trans hu4
        go_wp2_with fail
        refine (identityPerm_ok x _ (by omega)).mono ?_
        rintro e w5 ⟨b5, c5, rfl, hb5, hr5, he5⟩
        have hs5 : SI w5 (.slice (some ⟨b5, 0, none⟩) x c5) (idL x) := by have := hr5.si; rwa [idL_len] at this
        have hz5 := he5.size
        clear hr5
        go_wp2_with fail
        refine (l3Reverse_ok _ (idL x) _ hs5 (by rw [idL_len]; omega)).mono ?_
        rintro e w6 ⟨v6, rfl, ho6, he6⟩
        obtain ⟨R, hR⟩ : ∃ R, R = (idL x).reverse := ⟨_, rfl⟩
        have hrl : R.length = x := by rw [hR, List.length_reverse, idL_len]
        rw [← hR] at ho6
        obtain ⟨p6, c6, rfl⟩ := ho6.shape
        have hz6 := he6.size
        have HRL := Lib.hid hrl
        have HR6 := Lib.hid (((hr4.ext he5).mono hz5).ext he6)
        have HC6 := Lib.hid ((hc4.ext he5).ext he6)
        have HU6 := Lib.hid ((hU4.trans (Ext.toUpd he5 _)).trans (Ext.toUpd he6 _))
        have HO6 := Lib.hid ho6
        have hbl : w2.heap.size ≤ b := hr4.lo
        clear hr hr4 hcu hc4 hu hu4 hU4 hs5 ho6 hrl hR
        go_wp2_with (at_builtin; refine wpl_appRR rfl _ _ rfl w2.heap.size w5.heap.size b c m L _ _ _ R rfl HR6.out hm.out (HO6.out.mono (by omega) (Nat.le_refl _)) (fun i hi => (HO6.out.own hi).1) hz6 rfl (by rw [← hm.out]; omega) ?_; intro b7 c7 w7 hr7 hb7 hu7)
        go_roundw
        case rel => exact ⟨m + 1, by omega, by go_num, ⟨b7, c7, m + 1, _, rfl, Lib.hid (by rw [hm.out]; simp), rfl, hr7, Lib.hid (fun l hl => by
          rcases List.mem_append.1 hl with e | e
          · exact hL.out l e
          · simp at e; subst e; rw [HRL.out]; omega)⟩, HC6.out.upd hu7 (by omega), HU6.out.comp hu7 (fun _ _ h => h) (fun i hi e => by omega)⟩
        case measure => simp [intOf]; omega
      · obtain rfl : m = 3 := by omega
        have hsii := hr.sii hm.out
        go_wp2_with fail
        refine (JoinParts_ok _ L _ hsii (by rw [← hm.out]; omega) (fun l hl => by have := hL.out l hl; omega)).mono ?_
        rintro e w4 ⟨v4, M, ok, rfl, ho4, hsm, he4⟩
        go_wp2_with fail
        go_ret
        refine ⟨_, M, rfl, ho4.mono (by omega) (Nat.le_refl _), by have := hsm.1; omega, fun x hx => by have := hsm.2 x hx; omega, ?_⟩
        exact (Upd.comp hE2 hu (fun _ _ h => h) (fun i hi e => by omega) : Ext w wr).trans he4
set_option maxHeartbeats 400000 in
theorem DrawIsPopSorted_ok (a : Option Addr) (n cap : Nat) (w : World) (hn : n ≤ 1048576) (hb : BY w.heap.size w a n) : Calls Try.prog 13 #[.slice a n cap] w (DrB w) := by
  have HD := Lib.hid (DrawIsLayered_ok a n cap w hn hb)
  clear hb
  go_enter Try.func13, Try.ntmps13
  go_wp2_with fail
  refine HD.out.mono ?_
  rintro e w1 ⟨v, L, rfl, h⟩
  go_wp2_with fail
  go_ret
  exact ⟨v, L, rfl, h⟩
end Go.Proofs.Ytognbiodplodhaa
