/- Contracts of the draws of FnStrong and FnWords: short permutations, pairs in the strong order. Conditions: a code of at most 2^20 bytes. -/
import Derived.Test.YtmnbdphfoonleaaGreat
import Derived.Test.YtmnbdphfoonleaaCov
import Derived.Test.YtmnbdphfoonleaaRwz
import Derived.Test.YtmnbdphfoonleaaGateD
import Derived.Deep.Cut
import Derived.Deep.CutRange
namespace Go.Proofs.Ytmnbdphfoonleaa
open Go.RowKit

theorem OI.offc {B H : Nat} {w w' : World} {v : Value} {xs : List Int} {bc : Nat} (h : OI B H w v xs) (hu : Upd (· = bc) w w') (hb : bc < B) : OI B H w' v xs := h.upd hu (fun b _ h1 _ e => by omega)
theorem xsw_all {P : Int → Prop} {p : List Int} (h : ∀ x ∈ p, P x) {i k : Nat} (hi : i < p.length) (hk : k < p.length) : ∀ x ∈ xsw p i k, P x := by
  intro x hx
  unfold xsw at hx
  rcases List.mem_or_eq_of_mem_set hx with hx | rfl
  · rcases List.mem_or_eq_of_mem_set hx with hx | rfl
    · exact h x hx
    · exact h _ (nth_mem hk)
  · exact h _ (nth_mem hi)
theorem cvL_each {P : Int → Prop} {p q : List Int} (hq : q ∈ cvL p) (h : ∀ x ∈ p, P x) : q.length = p.length ∧ ∀ x ∈ q, P x := by
  unfold cvL at hq
  cases hp : isP8 p
  · rw [hp] at hq; simp at hq
  · rw [hp] at hq
    simp only [cond_true] at hq
    obtain ⟨i, k, hik, hk, _, rfl⟩ := cvAll_mem.1 ((putAll_mem _ _).1 hq)
    exact ⟨xsw_len _ _ _, xsw_all h (by omega) hk⟩
theorem cvL_cnt (p : List Int) : (cvL p).length ≤ 100 := by
  unfold cvL
  cases h : isP8 p
  · simp
  · have h8 := (isP8_iff.1 h).1
    simp only [cond_true]
    have h1 := putAll_len (cvAll p)
    have h2 := cvTo_len p p.length
    have : p.length * p.length ≤ 8 * 8 := Nat.mul_le_mul h8 h8
    unfold cvAll at *
    omega
theorem rw_four : ∀ n, n ≤ 4 → (permsL n).all (fun p => decide ((rwL p).length ≤ 256)) = true := by decide +kernel
theorem rdL_four (p : List Int) (h : p.length ≤ 4) : (rdL p).length ≤ 256 := by
  cases hp : rdOK p
  · rw [rd_f hp]; simp
  · have h1 := rdOK_true hp
    have h2 := putAll_len (rwL p)
    have h3 := rw_four p.length h
    rw [List.all_eq_true] at h3
    have h4 := of_decide_eq_true (h3 p (perms_complete (isP8_iff.1 h1.1).2))
    rw [rd_t hp]; omega
/-- what a draw of two lists hands out. -/
def DrB2 (w : World) (e : Ending) (w' : World) : Prop := ∃ v A u B, e = .returned (.tuple #[v, u]) ∧ OI w.heap.size w'.heap.size w' v A ∧ A.length ≤ 9 ∧ (∀ x ∈ A, -1 ≤ x ∧ x ≤ 10) ∧ OI w.heap.size w'.heap.size w' u B ∧ B.length ≤ 9 ∧ (∀ x ∈ B, -1 ≤ x ∧ x ≤ 10) ∧ Ext w w'
set_option maxHeartbeats 1000000 in
theorem l27Short_ok (bc : Nat) (w : World) (h : Cur bc w) :
    Calls Try.prog 71 #[.pointer (some ⟨bc, 0, none⟩)] w (BentPost 9 (-1) 10 bc w) := by
  have hbc := h.lt
  go_enter Try.func71, Try.ntmps71
  go_wp2_with fail
  refine (l1Once_ok bc 10 _ h (by omega) (by omega)).mono ?_
  rintro e w1 ⟨t, rfl, hc1, hu1⟩
  have hz1 := hu1.size
  cases t
  · go_wp2_with fail
    refine (l1Below_ok bc 5 _ hc1 (by omega) (by omega)).mono ?_
    rintro e w2 ⟨x, hx, rfl, hc2, hu2⟩
    have hz2 := hu2.size
    obtain ⟨n, hn⟩ : ∃ n : Nat, n = x + 1 := ⟨_, rfl⟩
    have f1 : IntKind.i64.wrap (1 + (x : Int)) = (n : Int) := by rw [IntWalk.i64_in _ (by omega)]; omega
    have hn5 : n ≤ 5 := by omega
    have hU2 := Lib.hid (hu1.trans hu2)
    clear hn hx
    go_wp2_with fail
    refine (l2Draw_ok bc n _ hc2 (by omega)).mono ?_
    rintro e w3 ⟨b, c, m, L, rfl, hm, hl, hL, hlo, hr, hc3, hu3⟩
    have HM := Lib.hid hm
    have HL := Lib.hid hl
    clear hm hl
    go_wp2_with fail
    go_ret
    exact ⟨b, c, m, L, rfl, HM.out, by have := HM.out; have := HL.out; omega, fun x hx => by have := hL x hx; omega, by omega, hr, hc3, hU2.out.trans hu3⟩
  · go_wp2_with fail
    refine (l2Bent_ok bc _ hc1).mono ?_
    rintro e w3 ⟨b, c, m, L, rfl, hm, hl, hL, hlo, hr, hc3, hu3⟩
    have HM := Lib.hid hm
    clear hm
    go_wp2_with fail
    go_ret
    exact ⟨b, c, m, L, rfl, HM.out, hl, hL, by omega, hr, hc3, hu1.trans hu3⟩
set_option maxHeartbeats 1000000 in
theorem DrawBelowOf_ok (a : Option Addr) (n cap : Nat) (w : World) (hn : n ≤ 1048576) (hb : BY w.heap.size w a n) : Calls Try.prog 40 #[.slice a n cap] w (DrB w) := by
  have HB := Lib.hid hb
  clear hb
  go_enter Try.func40, Try.ntmps40
  go_wp2_with fail
  refine (l1New_ok a n cap _ hn HB.out).mono ?_
  rintro e w1 ⟨bc, rfl, hbc, hc, he⟩
  have hz := he.size
  go_wp2_with fail
  refine (l27Short_ok bc _ hc).mono ?_
  rintro e w2 ⟨b, c, m, L, rfl, hm, hm9, hL, hlo, hr, hc2, hu⟩
  go_wp2_with fail
  go_ret
  exact ⟨_, L, rfl, OI.row hr (by omega) (by first | rfl | exact hm), by omega, hL, Upd.comp he hu (fun _ _ h => h) (fun i hi e => by omega)⟩
set_option maxHeartbeats 1000000 in
theorem DrawReducedWords_ok (a : Option Addr) (n cap : Nat) (w : World) (hn : n ≤ 1048576) (hb : BY w.heap.size w a n) : Calls Try.prog 21 #[.slice a n cap] w (DrB w) := by
  have HB := Lib.hid hb
  clear hb
  go_enter Try.func21, Try.ntmps21
  go_wp2_with fail
  refine (l1New_ok a n cap _ hn HB.out).mono ?_
  rintro e w1 ⟨bc, rfl, hbc, hc, he⟩
  have hz := he.size
  go_wp2_with fail
  refine (l27Short_ok bc _ hc).mono ?_
  rintro e w2 ⟨b, c, m, L, rfl, hm, hm9, hL, hlo, hr, hc2, hu⟩
  go_wp2_with fail
  go_ret
  exact ⟨_, L, rfl, OI.row hr (by omega) (by first | rfl | exact hm), by omega, hL, Upd.comp he hu (fun _ _ h => h) (fun i hi e => by omega)⟩
set_option maxHeartbeats 4000000 in
theorem DrawStrongBelow_ok (a : Option Addr) (n cap : Nat) (w : World) (hn : n ≤ 1048576) (hb : BY w.heap.size w a n) : Calls Try.prog 37 #[.slice a n cap] w (DrB2 w) := by
  have HB := Lib.hid hb
  clear hb
  go_enter Try.func37, Try.ntmps37
  go_wp2_with fail
  refine (l1New_ok a n cap _ hn HB.out).mono ?_
  rintro e w1 ⟨bc, rfl, hbc, hc, he⟩
  have hz := he.size
  go_wp2_with fail
  refine (l2Bent_ok bc _ hc).mono ?_
  rintro e w2 ⟨b, c, m, L, rfl, hm, hm9, hL, hlo, hr, hc2, hu⟩
  have hz2 := hu.size
  have hbl := hr.lt
  have hbcl := hc.lt
  have HM := Lib.hid hm
  have HL := Lib.hid hL
  have HE2 : Hid (Ext w w2) := he.upd1 hu hbc
  have HP2 := Lib.hid (OI.row (B := bc + 1) hr (by omega) hm)
  have HR := Lib.hid hr
  have hm9' : L.length ≤ 9 := by omega
  clear hr hm hL hc he hu
  go_wp2_with (at_builtin; go_loud (refine wpl_appSI rfl _ _ rfl w2.heap.size 0 0 [] L rfl (Row.new 3 w2 [] (by simp)) rfl _ rfl (HP2.out.si.ext (Upd.alloc _ _ _)) (by simp) (by omega) ?_; intro b5 c5 w5 hr5 hb5 hu5; rw [List.nil_append] at hr5; obtain ⟨hb5', ho5, he5⟩ := copied_own3 (w1 := w2) hr5 hb5 hu5; have hz5 := he5.size; have HE5 := Lib.hid (HE2.out.trans he5); have HP5 := Lib.hid (HP2.out.ext he5); have HQ5 : Hid (OI (bc + 1) w5.heap.size w5 (.slice (some ⟨b5, 0, none⟩) L.length c5) L) := ho5.mono (by omega) (Nat.le_refl _); have hc5 := hc2.ext he5; clear hr5 hb5 hu5 ho5 he5 hc2))
  go_loopw [6, 7, 8] (fun q i _ wr => ∃ k : Nat, k ≤ 3 ∧ i = .int .i64 k ∧ (∃ pq cq Q, q = .slice pq Q.length cq ∧ Hid (OI (bc + 1) wr.heap.size wr (.slice pq Q.length cq) Q) ∧ Q.length ≤ 9 ∧ Hid (∀ x ∈ Q, -1 ≤ x ∧ x ≤ 10)) ∧ Cur bc wr ∧ Hid (Upd (· = bc) w5 wr)) (fun _ i _ _ => 3 - (intOf i).toNat)
  case atStart => exact ⟨0, by omega, rfl, ⟨_, _, L, by first | rfl | (rw [Value.slice.injEq]; exact ⟨rfl, by omega, rfl⟩), HQ5, by omega, HL⟩, hc5, Upd.refl _ _⟩
  case round =>
    obtain ⟨k, hk, rfl, ⟨pq, cq, Q, rfl, hQ, hQ9, hQb⟩, hc, hU⟩ := hrel
    have hwz := hU.out.size
    clear HQ5 hc5
    by_cases hk3 : k < 3
    · have hk3I : (k : Int) < 3 := by omega
      clear hk3
      go_wp2_with fail
      refine (spec_StrongCovers_rr _ Q _ hQ.out.si (by omega)).mono ?_
      rintro e w6 ⟨b6, c6, rfl, hr6, he6⟩
      have hz6 := he6.size
      have hcl := cvL_cnt Q
      have hc6 := hc.ext he6
      have HR6 := Lib.hid hr6
      have HQ6 := Lib.hid ((hQ.out.ext he6).mono (Nat.le_refl _) hz6)
      have HU6 := Lib.hid (hU.out.trans (Ext.toUpd he6 _))
      have hbc6 := hc.lt
      clear hr6 hQ hU hc
      by_cases h0 : (cvL Q).length = 0
      · have h0I : ¬ (0 : Int) < ((cvL Q).length : Int) := by omega
        clear h0
        go_wp2_with fail
        go_roundw
        case rel => exact ⟨k + 1, by omega, by go_num, ⟨pq, cq, Q, rfl, HQ6, hQ9, hQb⟩, hc6, HU6⟩
        case measure => simp [intOf]; omega
      · have h0I : (0 : Int) < ((cvL Q).length : Int) := by omega
        go_wp2_with fail
        refine (l1Once_ok bc 2 _ hc6 (by omega) (by omega)).mono ?_
        rintro e w7 ⟨t, rfl, hc7, hu7⟩
        have hz7 := hu7.size
        have HR7 := Lib.hid (HR6.out.upd hu7 (fun k h1 h2 e => by omega))
        have HQ7 := Lib.hid ((HQ6.out.offc hu7 (by omega)).mono (Nat.le_refl _) hz7)
        have HU7 := Lib.hid (HU6.out.trans hu7)
        clear HR6 HQ6 HU6 hc6
        cases t
        · go_wp2_with fail
          go_roundw
          case rel => exact ⟨k + 1, by omega, by go_num, ⟨pq, cq, Q, rfl, HQ7, hQ9, hQb⟩, hc7, HU7⟩
          case measure => simp [intOf]; omega
        · go_wp2_with fail
          refine (l1Below_ok bc (cvL Q).length _ hc7 (by omega) (by omega)).mono ?_
          rintro e w8 ⟨x, hx, rfl, hc8, hu8⟩
          have hz8 := hu8.size
          obtain ⟨u, hcu, hou⟩ := (HR7.out.upd hu8 (fun k h1 h2 e => by omega)).get hx
          obtain ⟨pu, cu, rfl⟩ := hou.shape
          have HX := cvL_each (P := fun x => -1 ≤ x ∧ x ≤ 10) (nthL_mem hx) hQb.out
          have hx9 : (nthL (cvL Q) x).length ≤ 9 := by rw [HX.1]; exact hQ9
          have HXB := Lib.hid HX.2
          have HOU := Lib.hid (hou.mono (B' := bc + 1) (H' := w8.heap.size) (by omega) (by omega))
          have HU8 := Lib.hid (HU7.out.trans hu8)
          have hxI : (x : Int) < ((cvL Q).length : Int) := by omega
          clear HX hou HQ7 HR7 HU7 hc7 hu8
          go_wp2_with fail
          go_roundw
          case rel => exact ⟨k + 1, by omega, by go_num, ⟨pu, cu, nthL (cvL Q) x, rfl, HOU, hx9, HXB⟩, hc8, HU8⟩
          case measure => simp [intOf]; omega
    · have hk3I : ¬ (k : Int) < 3 := by omega
      clear hk3
      have HP := Lib.hid ((HP5.out.offc hU.out (by omega)).mono (Nat.le_refl _) (show _ ≤ wr.heap.size by omega))
      have hbcl2 := hc.lt
      go_wp2_with fail
      refine (l1Once_ok bc 3 _ hc (by omega) (by omega)).mono ?_
      rintro e w7 ⟨t, rfl, hc7, hu7⟩
      have hz7 := hu7.size
      have HP7 := Lib.hid ((HP.out.offc hu7 (by omega)).mono (Nat.le_refl _) hz7)
      have HQ7 := Lib.hid ((hQ.out.offc hu7 (by omega)).mono (Nat.le_refl _) hz7)
      have HE7 := Lib.hid (HE5.out.upd1 (hU.out.trans hu7) hbc)
      clear HP hQ hU hc
      cases t
      · go_wp2_with fail
        go_ret2
        exact ⟨_, L, _, Q, rfl, HP7.out.mono (by omega) (Nat.le_refl _), hm9', HL.out, HQ7.out.mono (by omega) (Nat.le_refl _), hQ9, hQb.out, HE7.out⟩
      · obtain ⟨m', hm'⟩ : ∃ m', m' = L.length := ⟨_, rfl⟩
        go_wp2_with fail
        refine (l2Draw_ok bc _ _ hc7 (by omega)).mono ?_
        rintro e w8 ⟨b8, c8, m8, L8, rfl, hm8, hl8, hL8, hlo8, hr8, hc8, hu8⟩
        have hz8 := hu8.size
        have HP8 := Lib.hid ((HP7.out.offc hu8 (by omega)).mono (B' := w.heap.size) (by omega) hz8)
        have HE8 := Lib.hid (HE7.out.upd1 hu8 hbc)
        have HO8 := Lib.hid (OI.row (B := w.heap.size) hr8 (by omega) hm8)
        have hl89 : L8.length ≤ 9 := by omega
        have HL8 : Hid (∀ x ∈ L8, -1 ≤ x ∧ x ≤ 10) := fun x hx => by have := hL8 x hx; omega
        clear hm' hm8 hl8 hr8 hu8 HP7 HQ7 HE7 hc7
        go_wp2_with fail
        go_ret2
        exact ⟨_, L, _, L8, rfl, HP8.out, hm9', HL.out, HO8.out, hl89, HL8.out, HE8.out⟩
theorem OI.apart {B H : Nat} {w : World} {u : Value} {ys : List Int} {b c : Nat} {us : List Value} (h : OI B H w u ys) (k : Row 24 w b c us) : u.ownBlock ≠ some b := by
  rcases h with ⟨rfl, _⟩ | ⟨b1, c1, rfl, _, _, hr⟩
  · simp [Value.ownBlock]
  · simp only [Value.ownBlock, ne_eq, Option.some.injEq]
    exact hr.apart k (by decide)
/-- what the draw of a chain hands out. -/
def ChPost (w : World) (e : Ending) (w' : World) : Prop := ∃ v L, e = .returned v ∧ GI w.heap.size w' v L ∧ L.length ≤ 6 ∧ small L ∧ Ext w w'
set_option maxHeartbeats 8000000 in
theorem DrawIsStrongChain_ok (a : Option Addr) (n cap : Nat) (w : World) (hn : n ≤ 1048576) (hb : BY w.heap.size w a n) : Calls Try.prog 43 #[.slice a n cap] w (ChPost w) := by
  have HB := Lib.hid hb
  clear hb
  go_enter Try.func43, Try.ntmps43
  go_wp2_with fail
  refine (l1New_ok a n cap _ hn HB.out).mono ?_
  rintro e w1 ⟨bc, rfl, hbc, hc, he⟩
  have hz := he.size
  have hbcl := hc.lt
  go_wp2_with fail
  refine (l1Below_ok bc 6 _ hc (by omega) (by omega)).mono ?_
  rintro e w2 ⟨x, hx, rfl, hc2, hu2⟩
  have hz2 := hu2.size
  go_wp2_with fail
  refine (l2Draw_ok bc x _ hc2 (by omega)).mono ?_
  rintro e w3 ⟨b, c, m, L, rfl, hm, hl, hL, hlo, hr, hc3, hu3⟩
  have hz3 := hu3.size
  have hl9 : L.length ≤ 9 := by omega
  have HP3 := Lib.hid (OI.row (B := bc + 1) hr (by omega) hm)
  have HE3 := Lib.hid (he.upd1 (hu2.trans hu3) hbc)
  have hA : Ext w3 (w3.alloc (.cells #[.slice (some ⟨b, 0, none⟩) m c] 24)) := Upd.alloc _ _ _
  have HG3 : Hid (GR (bc + 1) (w3.alloc (.cells #[.slice (some ⟨b, 0, none⟩) m c] 24)) w3.heap.size 1 [L]) := by
    have hrow := Row.new 24 w3 [.slice (some ⟨b, 0, none⟩) m c] (by simp; unfold maxLen; omega)
    refine ⟨_, hrow, rfl, by omega, fun i hi => ?_⟩
    obtain rfl : i = 0 := by simpa using hi
    exact ⟨(HP3.out.ext hA).mono (Nat.le_refl _) hA.size, fun e => by have := (HP3.out.own e).2; omega⟩
  have HP4 := Lib.hid ((HP3.out.ext hA).mono (Nat.le_refl _) hA.size)
  have hc4 := hc3.ext hA
  have HE4 := Lib.hid (HE3.out.trans hA)
  have HM := Lib.hid hm
  have HSM : Hid (small [L]) := fun q hq => by simp at hq; subst hq; omega
  clear hm hl hr hu2 hu3 hc hc2 hc3 hL hA
  go_wp2_with fail
  obtain ⟨w5, hw5⟩ : ∃ w5, w5 = w3.alloc (.cells #[.slice (some ⟨b, 0, none⟩) m c] 24) := ⟨_, rfl⟩
  rw [← hw5] at HP4 HG3 HE4 hc4 ⊢
  have hz5 : w3.heap.size ≤ w5.heap.size := by rw [hw5]; simp
  clear hw5
  go_loopw [4, 5, 6, 7] (fun q o i _ wr => ∃ k : Nat, k ≤ 4 ∧ i = .int .i64 k ∧ (∃ pq cq lq Q, q = .slice pq lq cq ∧ Hid (lq = Q.length) ∧ Hid (OI (bc + 1) wr.heap.size wr (.slice pq lq cq) Q) ∧ lq ≤ 9) ∧ (∃ bo co mo D, o = .slice (some ⟨bo, 0, none⟩) mo co ∧ Hid (mo = D.length) ∧ Hid (GR (bc + 1) wr bo co D) ∧ mo ≤ k + 1 ∧ Hid (small D)) ∧ Cur bc wr ∧ Hid (Ext w wr)) (fun _ _ i _ _ => 4 - (intOf i).toNat)
  case atStart => exact ⟨0, by omega, rfl, ⟨_, _, m, L, rfl, HM, HP4, by have := HM.out; omega⟩, ⟨_, 1, 1, [L], rfl, Lib.hid rfl, HG3, by omega, HSM⟩, hc4, HE4⟩
  case round =>
    obtain ⟨k, hk, rfl, ⟨pq, cq, lq, Q, rfl, hlq, hQ, hQ9⟩, ⟨bo, co, mo, D, rfl, hmo, hD, hmk, hDs⟩, hc, hE⟩ := hrel
    have hwz := hE.out.size
    have hbl := hc.lt
    clear HP4 HG3 HE4 hc4
    by_cases hk3 : k < 4
    · have hk3I : (k : Int) < 4 := by omega
      clear hk3
      go_wp2_with fail
      refine (spec_StrongCovers_rr _ Q _ hQ.out.si (by rw [← hlq.out]; omega)).mono ?_
      rintro e w6 ⟨b6, c6, rfl, hr6, he6⟩
      have hz6 := he6.size
      have hcl := cvL_cnt Q
      have hc6 := hc.ext he6
      have HR6 := Lib.hid hr6
      have HQ6 := Lib.hid ((hQ.out.ext he6).mono (Nat.le_refl _) hz6)
      have HD6 := Lib.hid (hD.out.ext he6)
      have HE6 := Lib.hid (hE.out.trans he6)
      clear hr6 hQ hE hc hD
      by_cases h0 : (cvL Q).length = 0
      · have h0I : ¬ (0 : Int) < ((cvL Q).length : Int) := by omega
        clear h0
        go_wp2_with fail
        go_roundw
        case rel => exact ⟨k + 1, by omega, by go_num, ⟨pq, cq, lq, Q, rfl, hlq, HQ6, hQ9⟩, ⟨bo, co, mo, D, rfl, hmo, HD6, by omega, hDs⟩, hc6, HE6⟩
        case measure => simp [intOf]; omega
      · have h0I : (0 : Int) < ((cvL Q).length : Int) := by omega
        go_wp2_with fail
        refine (l1Once_ok bc 2 _ hc6 (by omega) (by omega)).mono ?_
        rintro e w7 ⟨t, rfl, hc7, hu7⟩
        have hz7 := hu7.size
        have HR7 := Lib.hid (HR6.out.upd hu7 (fun k h1 h2 e => by omega))
        have HQ7 := Lib.hid ((HQ6.out.offc hu7 (by omega)).mono (Nat.le_refl _) hz7)
        have HD7 := Lib.hid (HD6.out.upd hu7 (fun k hk e => by omega))
        have HE7 := Lib.hid (HE6.out.upd1 hu7 hbc)
        clear HR6 HQ6 HE6 hc6 HD6
        cases t
        · go_wp2_with fail
          go_roundw
          case rel => exact ⟨k + 1, by omega, by go_num, ⟨pq, cq, lq, Q, rfl, hlq, HQ7, hQ9⟩, ⟨bo, co, mo, D, rfl, hmo, HD7, by omega, hDs⟩, hc7, HE7⟩
          case measure => simp [intOf]; omega
        · go_wp2_with fail
          refine (l1Below_ok bc (cvL Q).length _ hc7 (by omega) (by omega)).mono ?_
          rintro e w8 ⟨x, hx, rfl, hc8, hu8⟩
          have hz8 := hu8.size
          obtain ⟨u, hcu, hou⟩ := (HR7.out.upd hu8 (fun k h1 h2 e => by omega)).get hx
          obtain ⟨pu, cu, rfl⟩ := hou.shape
          have HX := cvL_each (P := fun _ => True) (nthL_mem hx) (fun _ _ => trivial)
          have HXL : Hid ((nthL (cvL Q) x).length = lq) := by show _ = _; rw [HX.1]; exact hlq.out.symm
          have HOU := Lib.hid (hou.mono (B' := bc + 1) (H' := w8.heap.size) (by omega) (by omega))
          have HD8 := Lib.hid (HD7.out.upd hu8 (fun k hk e => by omega))
          have HE8 := Lib.hid (HE7.out.upd1 hu8 hbc)
          have hxI : (x : Int) < ((cvL Q).length : Int) := by omega
          rw [HXL.out] at hcu HOU
          have hbo := HD8.out.lt
          have hblo := HD8.out.lo
          have hbc8 := hc8.lt
          have HAP : Hid ((Value.slice pu lq cu).ownBlock ≠ some bo) := by
            obtain ⟨us, r1, _⟩ := HD8.out
            exact HOU.out.apart r1
          clear HX hou HQ7 HR7 HE7 hc7 hu8 HD7
          go_wp2_with (at_builtin; go_loud (refine wpl_app1GR rfl _ _ rfl (bc + 1) bo co mo D (.slice pu lq cu) (nthL (cvL Q) x) rfl hmo.out HD8.out _ rfl rfl HOU.out HAP.out (by omega) (by rw [← hmo.out]; omega) ?_); intro b9 c9 w9 hr9 hu9)
          have hz9 := hu9.size
          have HD9 := Lib.hid hr9
          have HO9 := Lib.hid ((HOU.out.upd hu9 (fun j hj _ _ e => HAP.out (by rw [hj, e]))).mono (Nat.le_refl _) hz9)
          have hc9 := hc8.upd hu9 (by omega)
          have HE9 := Lib.hid (HE8.out.upd1 hu9 (by omega))
          have HM9 : Hid (mo + 1 = (D ++ [nthL (cvL Q) x]).length) := by show _ = _; rw [List.length_append, ← hmo.out]; rfl
          have HS9 : Hid (small (D ++ [nthL (cvL Q) x])) := fun q hq => (List.mem_append.1 hq).elim (hDs.out q) (fun e => by simp at e; rw [e, HXL.out]; omega)
          clear hr9 hu9 hc8 HE8 HD8 HOU
          go_roundw
          case rel => exact ⟨k + 1, by omega, by go_num, ⟨pu, cu, lq, nthL (cvL Q) x, rfl, Lib.hid HXL.out.symm, HO9, hQ9⟩, ⟨b9, c9, mo + 1, _, rfl, HM9, HD9, by omega, HS9⟩, hc9, HE9⟩
          case measure => simp [intOf]; omega
    · have hk3I : ¬ (k : Int) < 4 := by omega
      clear hk3
      go_wp2_with fail
      refine (l1Once_ok bc 5 _ hc (by omega) (by omega)).mono ?_
      rintro e w7 ⟨t, rfl, hc7, hu7⟩
      have hz7 := hu7.size
      have HD7 := Lib.hid (hD.out.upd hu7 (fun k hk e => by omega))
      have HE7 := Lib.hid (hE.out.upd1 hu7 hbc)
      clear hD hQ hE hc hu7
      cases t
      · go_wp2_with fail
        go_ret
        exact ⟨_, D, rfl, (HD7.out.mono (by omega)).gi hmo.out, by rw [← hmo.out]; omega, hDs.out, HE7.out⟩
      · go_wp2_with fail
        refine (l2Bent_ok bc _ hc7).mono ?_
        rintro e w8 ⟨b8, c8, m8, L8, rfl, hm8, hl8, hL8, hlo8, hr8, hc8, hu8⟩
        have hz8 := hu8.size
        have hbc7 := hc7.lt
        have HD8 := Lib.hid (HD7.out.upd hu8 (fun k hk e => by omega))
        have HE8 := Lib.hid (HE7.out.upd1 hu8 hbc)
        have HO8 := Lib.hid (OI.row (B := bc + 1) hr8 (by omega) hm8)
        have hblo := HD8.out.lo
        have HAP : Hid ((Value.slice (some ⟨b8, 0, none⟩) m8 c8).ownBlock ≠ some bo) := by
          obtain ⟨us, r1, _⟩ := HD8.out
          exact HO8.out.apart r1
        have HM8 := Lib.hid hm8
        clear hm8 hr8 hu8 HD7 HE7 hc7
        go_wp2_with (at_builtin; go_loud (refine wpl_app1GR rfl _ _ rfl (bc + 1) bo co mo D (.slice (some ⟨b8, 0, none⟩) m8 c8) L8 rfl hmo.out HD8.out _ rfl rfl HO8.out HAP.out (by omega) (by rw [← hmo.out]; omega) ?_); intro b9 c9 w9 hr9 hu9)
        have HD9 := Lib.hid hr9
        have HE9 := Lib.hid (HE8.out.upd1 hu9 (by omega))
        have HM9 : Hid (mo + 1 = (D ++ [L8]).length) := by show _ = _; rw [List.length_append, ← hmo.out]; rfl
        have HS9 : Hid (small (D ++ [L8])) := fun q hq => (List.mem_append.1 hq).elim (hDs.out q) (fun e => by simp at e; rw [e, ← HM8.out]; omega)
        clear hr9 hu9
        go_ret
        exact ⟨_, _, rfl, (HD9.out.mono (by omega)).gi HM9.out, by rw [← HM9.out]; omega, HS9.out, HE9.out⟩
end Go.Proofs.Ytmnbdphfoonleaa
