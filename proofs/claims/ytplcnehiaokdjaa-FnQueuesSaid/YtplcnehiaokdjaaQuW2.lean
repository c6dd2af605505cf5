/- Contracts of the draws of FnQueues and of Catalan's numbers. Conditions: small numbers. -/
import Derived.Test.YtplcnehiaokdjaaQuW
import Derived.Test.YtplcnehiaokdjaaRunPl
namespace Go.Proofs.Ytplcnehiaokdjaa
open Go.RowKit

def chTo (m : Int) : Nat → Int
  | 0 => 1
  | i + 1 => (chTo m i * (m - i)).tdiv ((i : Int) + 1)
def catI (k : Nat) : Int := (chTo (2 * k) k).tdiv ((k : Int) + 1)
theorem ch_bd : ∀ k : Nat, k ≤ 5 → ∀ i : Nat, i ≤ k → 0 ≤ chTo (2 * (k : Int)) i ∧ chTo (2 * (k : Int)) i ≤ 1000 := by decide +kernel
theorem cat_few : ∀ k : Nat, k ≤ 5 → fqI (k : Int) 2 = catI k := by decide +kernel
set_option maxHeartbeats 2000000 in
theorem Choose_ok (k : Nat) (hk : k ≤ 5) (w : World) :
    Calls Try.prog 57 #[.int .i64 (2 * (k : Int)), .int .i64 (k : Int)] w fun e w' => e = .returned (.int .i64 (chTo (2 * (k : Int)) k)) ∧ Qt w w' := by
  have h1 := inB_true (x := 2 * (k : Int)) (lo := 0) (hi := 40) (by omega)
  have h2 := inB_true (x := (k : Int)) (lo := 0) (hi := 2 * (k : Int)) (by omega)
  have HB := Lib.hid (ch_bd k hk)
  obtain ⟨m, hm⟩ : ∃ m, m = 2 * (k : Int) := ⟨_, rfl⟩
  rw [← hm] at h1 h2 HB ⊢
  have hm10 : (k : Int) ≤ m ∧ m ≤ 10 := by omega
  clear hm
  go_enter Try.func57, Try.ntmps57
  go_wp2_with fail
  refine (l1In_ok _ _ _ _).mono ?_
  rintro e w1 ⟨rfl, hq1⟩
  rw [h1]
  go_wp2_with fail
  refine (l1In_ok _ _ _ _).mono ?_
  rintro e w2 ⟨rfl, hq2⟩
  rw [h2]
  clear h1 h2
  go_wp2_with fail
  go_loopw [5, 6] (fun o i wr => ∃ j : Nat, j ≤ k ∧ i = .int .i64 j ∧ (∃ z : Int, o = .int .i64 z ∧ Hid (z = chTo m j) ∧ 0 ≤ z ∧ z ≤ 1000) ∧ Qt w wr) (fun _ i _ => k - (intOf i).toNat)
  case atStart => exact ⟨0, Nat.zero_le _, rfl, ⟨1, rfl, Lib.hid rfl, by omega, by omega⟩, hq1.trans hq2⟩
  case round =>
    obtain ⟨j, hj, rfl, ⟨z, rfl, hz, hz1, hz2⟩, hq⟩ := hrel
    by_cases hlt : j < k
    · have hb := HB.out (j + 1) (by omega)
      have hst : chTo m (j + 1) = (z * (m - j)).tdiv ((j : Int) + 1) := by rw [hz.out]; rfl
      obtain ⟨d, hd⟩ : ∃ d, d = m - (j : Int) := ⟨_, rfl⟩
      have hd1 : 0 ≤ d ∧ d ≤ 10 := by omega
      obtain ⟨y, hy⟩ : ∃ y, y = z * d := ⟨_, rfl⟩
      have hy1 : 0 ≤ y ∧ y ≤ 10000 := by
        rw [hy]
        exact ⟨Int.mul_nonneg hz1 hd1.1, by have := Int.mul_le_mul hz2 hd1.2 hd1.1 (by omega); omega⟩
      obtain ⟨z2, hz2'⟩ : ∃ z2, z2 = y.tdiv ((j : Int) + 1) := ⟨_, rfl⟩
      rw [← hd, ← hy, ← hz2'] at hst
      rw [hst] at hb
      have w1 : wrap64 d = d := IntWalk.wrap64_in _ (by omega)
      have w2 : wrap64 y = y := IntWalk.wrap64_in _ (by omega)
      have w3 : wrap64 z2 = z2 := IntWalk.wrap64_in _ (by omega)
      have hv : Hid (wrap64 ((wrap64 (z * (m - (j : Int)))).tdiv ((j : Int) + 1)) = z2) := by show _ = _; rw [← hd, ← hy, w2, ← hz2', w3]
      have HST := Lib.hid hst
      clear hst w1 w2 w3 hz2' hy hd
      go_wp2_with fail
      go_roundw
      case rel => exact ⟨j + 1, by omega, by go_num, ⟨_, rfl, Lib.hid (by rw [hv.out]; exact HST.out.symm), by rw [hv.out]; exact hb.1, by rw [hv.out]; exact hb.2⟩, hq⟩
      case measure => simp [intOf]; omega
    · obtain rfl : j = k := by omega
      go_wp2_with fail
      go_ret
      exact ⟨by rw [← hz.out]; rfl, hq⟩
def DrPlan (w : World) (e : Ending) (w' : World) : Prop := ∃ v L v2 M, e = .returned (.tuple #[v, v2]) ∧ OI w.heap.size w'.heap.size w' v L ∧ L.length ≤ 9 ∧ (∀ x ∈ L, -1 ≤ x ∧ x ≤ 10) ∧ OI w.heap.size w'.heap.size w' v2 M ∧ M.length ≤ 9 ∧ (∀ x ∈ M, -1 ≤ x ∧ x ≤ 10) ∧ Ext w w'
theorem qpL_small {L : List Int} (h : L.length ≤ 9) : (qpL L).length ≤ 9 ∧ ∀ x ∈ qpL L, -1 ≤ x ∧ x ≤ 10 := by
  unfold qpL
  cases isP8 L
  · simp
  · simp only [cond_true]
    exact ⟨by rw [planL_len]; exact h, fun x hx => by have := planL_bd L x hx; omega⟩
set_option maxHeartbeats 4000000 in
theorem l23Case_ok (a : Option Addr) (n cap : Nat) (w : World) (hn : n ≤ 1048576) (hb : BY w.heap.size w a n) : Calls Try.prog 41 #[.slice a n cap] w (DrPlan w) := by
  have HB := Lib.hid hb
  clear hb
  go_enter Try.func41, Try.ntmps41
  go_wp2_with fail
  refine (l1New_ok a n cap _ hn HB.out).mono ?_
  rintro e w1 ⟨bc, rfl, hbc, hc, he⟩
  have hz := he.size
  have hbcl := hc.lt
  go_wp2_with fail
  refine (l2Bent_ok bc _ hc).mono ?_
  rintro e w2 ⟨b, c, m, L, rfl, hm, hm9, hL, hlo, hr, hc2, hu2⟩
  have hE2 : Ext w w2 := Upd.comp he hu2 (fun _ _ h => h) (fun i hi e => by omega)
  have hz2 := hu2.size
  have HM := Lib.hid hm
  have hrl := hr.lt
  have HR := Lib.hid hr
  have hLl : L.length ≤ 9 := by omega
  have HLB := Lib.hid hL
  clear hr hm hL
  go_wp2_with fail
  refine (l1Once_ok bc 2 _ hc2 (by omega) (by omega)).mono ?_
  rintro e w3 ⟨x, rfl, hc3, hu3⟩
  have hE3 : Ext w w3 := Upd.comp hE2 hu3 (fun _ _ h => h) (fun i hi e => by omega)
  have hz3 := hu3.size
  have hr3 := HR.out.upd hu3 (fun e => by omega)
  have ho3 : OI w.heap.size w3.heap.size w3 (.slice (some ⟨b, 0, none⟩) m c) L := OI.row hr3 (by omega) HM.out
  have hbc3 := hc3.lt
  have HO3 := Lib.hid ho3
  clear hr3 ho3
  cases x
  · have hr0 := Row.new 3 w3 [] (by simp)
    have hE4 : Ext w3 (w3.alloc (.cells #[] 3)) := Upd.alloc _ _ _
    have hc4 := hc3.ext hE4
    go_wp2_with fail
    go_loopw [6, 7] (fun o i wr => ∃ k : Nat, k ≤ m ∧ i = .int .i64 k ∧ (∃ b c M, o = .slice (some ⟨b, 0, none⟩) k c ∧ Hid (k = M.length) ∧ w3.heap.size ≤ b ∧ Row 3 wr b c (vals M) ∧ Hid (∀ y ∈ M, -1 ≤ y ∧ y ≤ 10)) ∧ Cur bc wr ∧ Upd (· = bc) w3 wr) (fun _ i _ => m - (intOf i).toNat)
    case atStart => exact ⟨0, Nat.zero_le _, rfl, ⟨_, 0, [], rfl, Lib.hid rfl, Nat.le_refl _, hr0, Lib.hid (fun y h => by simp at h)⟩, hc4, Upd.alloc _ _ _⟩
    case round =>
      obtain ⟨k, hk, rfl, ⟨b5, c5, M, rfl, hkl, hb5, hr5, hMB⟩, hcu, hu⟩ := hrel
      clear hr0 hE4 hc4
      have hzu := hu.size
      by_cases hlt : k < m
      · have hltI : (k : Int) < (m : Int) := by omega
        go_wp2_with fail
        refine (l1Below_ok bc 4 _ hcu (by omega) (by omega)).mono ?_
        rintro e w6 ⟨y, hy, rfl, hc6, hu6⟩
        have HR6 := Lib.hid (hr5.upd hu6 (fun e => by omega))
        have hz6 := hu6.size
        have hbl5 := hr5.lt
        have HU6 := Lib.hid (hu.trans hu6)
        clear hr5
        go_wp2_with (at_builtin; refine wpl_app1 rfl _ _ rfl b5 c5 k M (y : Int) rfl HR6.out hkl.out rfl (by rw [← hkl.out]; omega) ?_; intro b7 c7 w7 h3 h4 h5)
        go_roundw
        case rel => exact ⟨k + 1, by omega, by go_num, ⟨b7, c7, _, rfl, Lib.hid (by rw [List.length_append, ← hkl.out]; rfl), by rcases h4 with e | e <;> omega, h3, Lib.hid (fun z hz => by
          rcases List.mem_append.1 hz with e | e
          · exact hMB.out z e
          · simp at e; omega)⟩, hc6.upd h5 (by omega), HU6.out.comp h5 (fun _ _ h => h) (fun i hi e => by omega)⟩
        case measure => simp [intOf]; omega
      · obtain rfl : k = m := by omega
        have hEr : Ext w wr := Upd.comp hE3 hu (fun _ _ h => h) (fun i hi e => by omega)
        have HOr := Lib.hid ((HO3.out.mono (Nat.le_refl _) (Nat.le_refl _)).upd hu (fun b' hb' h1 h2 e => by simp [Value.ownBlock] at hb'; omega))
        have hMl : M.length ≤ 9 := by rw [← hkl.out]; omega
        by_cases h0 : 0 < k
        · have h0I : (0 : Int) < (k : Int) := by omega
          go_wp2_with fail
          refine (l1Once_ok bc 10 _ hcu (by omega) (by omega)).mono ?_
          rintro e w6 ⟨x, rfl, hc6, hu6⟩
          have hE6 : Ext w w6 := Upd.comp hEr hu6 (fun _ _ h => h) (fun i hi e => by omega)
          have hr6 := hr5.upd hu6 (fun e => by omega)
          have hO6 := HOr.out.upd hu6 (fun b' hb' h1 h2 e => by simp [Value.ownBlock] at hb'; omega)
          have hz6 := hu6.size
          have hbl6 := hr6.lt
          cases x
          · go_wp2_with fail
            go_ret2
            exact ⟨_, L, _, M, rfl, hO6.mono (Nat.le_refl _) (by omega), hLl, HLB.out, OI.row hr6 (by omega) hkl.out, hMl, hMB.out, hE6⟩
          · have hrp := Row.new 3 w6 (vals [-1, 7, 8]) (by simp; unfold maxLen; omega)
            have he7 : Ext w6 (w6.alloc (.cells (vals [-1, 7, 8]).toArray 3)) := Upd.alloc _ _ _
            have hs7 : SI _ (.slice (some ⟨w6.heap.size, 0, none⟩) 3 3) [-1, 7, 8] := hrp.si
            have hbc6 := hc6.lt
            have ho7 : Off bc (.slice (some ⟨w6.heap.size, 0, none⟩) 3 3) [-1, 7, 8] := .inr (fun b' off s n c e => by injection e with e1; injection e1 with e1; injection e1 with e1; omega)
            have hc7 := hc6.ext he7
            have HP := Lib.hid (l1PickInt_ok bc _ [-1, 7, 8] _ hc7 hs7 ho7 (by decide) (by decide))
            have HE7 := Lib.hid he7
            clear hrp hs7 ho7 hc7 he7
            go_wp2_with fail
            refine HP.out.mono ?_
            rintro e w8 ⟨q, hq, rfl, hc8, hu8⟩
            have hqb : -1 ≤ nth [-1, 7, 8] q ∧ nth [-1, 7, 8] q ≤ 10 := by
              have : ∀ q, q < ([-1, 7, 8] : List Int).length → -1 ≤ nth [-1, 7, 8] q ∧ nth [-1, 7, 8] q ≤ 10 := by decide
              exact this q hq
            obtain ⟨y, hy⟩ : ∃ y, y = nth [-1, 7, 8] q := ⟨_, rfl⟩
            rw [← hy] at hqb ⊢
            have hU8 := (HE7.out.toUpd (· = bc)).trans hu8
            have hr8 := hr6.upd hU8 (fun e => by omega)
            have hcell := hr8.icell (j := 0) (by rw [← hkl.out]; exact h0)
            have hfr := hr8.free 0 none
            have HS := Lib.hid (hr8.set 0 (.int .i64 y))
            have hO8 := (hO6.mono (Nat.le_refl _) (Nat.le_refl _)).upd hU8 (fun b' hb' h1 h2 e => by simp [Value.ownBlock] at hb'; omega)
            have hO9 := hO8.upd (Upd.setCell w8 ⟨b5, 0, none⟩ (.int .i64 y)) (fun b' hb' h1 h2 e => by have e' : b' = b5 := e; simp [Value.ownBlock] at hb'; omega)
            have hE8 : Ext w w8 := Upd.comp hE6 hU8 (fun _ _ h => h) (fun i hi e => by omega)
            have HE9 := Lib.hid (hE8.setCell (p := ⟨b5, 0, none⟩) (by show w.heap.size ≤ b5; omega) (.int .i64 y))
            have HO9 := Lib.hid hO9
            have hz8 := hU8.size
            clear hy hO6 hO8 hO9 hr6 hr8
            go_wp2_with fail
            go_ret2
            have hs := HS.out
            rw [vals_set] at hs
            exact ⟨_, L, _, M.set 0 y, rfl, HO9.out.mono (Nat.le_refl _) (by simp; omega), hLl, HLB.out, OI.row hs (by omega) (by rw [List.length_set]; exact hkl.out), by rw [List.length_set]; exact hMl, fun z hz => by
              rcases List.mem_or_eq_of_mem_set hz with e | e
              · exact hMB.out z e
              · omega, HE9.out⟩
        · have h0I : ¬ (0 : Int) < (k : Int) := by omega
          go_wp2_with fail
          go_ret2
          exact ⟨_, L, _, M, rfl, HOr.out.mono (Nat.le_refl _) (by omega), hLl, HLB.out, OI.row hr5 (by omega) hkl.out, hMl, hMB.out, hEr⟩
  · go_wp2_with fail
    refine (spec_QueuePlan_ok _ L _ HO3.out.si (by omega) (fun x hx => by have := HLB.out x hx; unfold I64; omega)).mono ?_
    rintro e w4 ⟨v4, rfl, ho4, he4⟩
    have hq := qpL_small hLl
    go_wp2_with fail
    go_ret2
    exact ⟨_, L, _, qpL L, rfl, (HO3.out.ext he4).mono (Nat.le_refl _) he4.size, hLl, HLB.out, ho4.mono (by omega) (Nat.le_refl _), hq.1, hq.2, hE3.trans he4⟩
set_option maxHeartbeats 1000000 in
theorem Catalan_ok (k : Nat) (hk : k ≤ 5) (w : World) :
    Calls Try.prog 28 #[.int .i64 (k : Int)] w fun e w' => e = .returned (.int .i64 (catI k)) ∧ Qt w w' := by
  have h1 := inB_true (x := (k : Int)) (lo := 0) (hi := 20) (by omega)
  have hb := ch_bd k hk k (Nat.le_refl _)
  have HC := Lib.hid (Choose_ok k hk)
  obtain ⟨c, hc⟩ : ∃ c, c = chTo (2 * (k : Int)) k := ⟨_, rfl⟩
  rw [← hc] at hb
  have hd : 0 ≤ c.tdiv ((k : Int) + 1) ∧ c.tdiv ((k : Int) + 1) ≤ c := ⟨Int.tdiv_nonneg hb.1 (by omega), Int.tdiv_le_self _ hb.1⟩
  have hcat : Hid (catI k = c.tdiv ((k : Int) + 1)) := by show _ = _; unfold catI; rw [← hc]
  have HCC := Lib.hid hc
  have hw : Hid (wrap64 (c.tdiv ((k : Int) + 1)) = c.tdiv ((k : Int) + 1)) := IntWalk.wrap64_in _ (by omega)
  clear hc
  go_enter Try.func28, Try.ntmps28
  go_wp2_with fail
  refine (l1In_ok _ _ _ _).mono ?_
  rintro e w1 ⟨rfl, hq1⟩
  rw [h1]
  clear h1
  go_wp2_with fail
  refine (HC.out _).mono ?_
  rintro e w2 ⟨rfl, hq2⟩
  rw [← HCC.out]
  go_wp2_with fail
  go_ret
  exact ⟨by rw [hcat.out]; first | rfl | (show Ending.returned (.int .i64 _) = _; rw [hw.out]), hq1.trans hq2⟩
set_option maxHeartbeats 400000 in
theorem DrawRunPlan_ok (a : Option Addr) (n cap : Nat) (w : World) (hn : n ≤ 1048576) (hb : BY w.heap.size w a n) : Calls Try.prog 14 #[.slice a n cap] w (DrPlan w) := by
  have HD := Lib.hid (l23Case_ok a n cap w hn hb)
  clear hb
  go_enter Try.func14, Try.ntmps14
  go_wp2_with fail
  refine HD.out.mono ?_
  rintro e w1 ⟨v, L, v2, M, rfl, h⟩
  go_wp2_with fail
  go_ret2
  exact ⟨v, L, v2, M, rfl, h⟩
set_option maxHeartbeats 2000000 in
theorem DrawFewestQueues_ok (a : Option Addr) (n cap : Nat) (w : World) (hn : n ≤ 1048576) (hb : BY w.heap.size w a n) : Calls Try.prog 17 #[.slice a n cap] w fun e w' => ∃ x y : Int, e = .returned (.tuple #[.int .i64 x, .int .i64 y]) ∧ (-1 ≤ x ∧ x ≤ 6 ∧ -1 ≤ y ∧ y ≤ 5) ∧ Ext w w' := by
  have HB := Lib.hid hb
  clear hb
  go_enter Try.func17, Try.ntmps17
  go_wp2_with fail
  refine (l1New_ok a n cap _ hn HB.out).mono ?_
  rintro e w1 ⟨bc, rfl, hbc, hc, he⟩
  have hz := he.size
  have hbcl := hc.lt
  go_wp2_with fail
  refine (l1Below_ok bc 7 _ hc (by omega) (by omega)).mono ?_
  rintro e w2 ⟨x, hx, rfl, hc2, hu2⟩
  have f1 : wrap64 ((x : Int) - 1) = (x : Int) - 1 := IntWalk.wrap64_in _ (by omega)
  go_wp2_with fail
  refine (l1Below_ok bc 5 _ hc2 (by omega) (by omega)).mono ?_
  rintro e w3 ⟨y, hy, rfl, hc3, hu3⟩
  go_wp2_with fail
  refine (l1Once_ok bc 12 _ hc3 (by omega) (by omega)).mono ?_
  rintro e w4 ⟨q, rfl, hc4, hu4⟩
  have hE : Ext w w4 := Upd.comp he ((hu2.trans hu3).trans hu4) (fun _ _ h => h) (fun i hi e => by omega)
  cases q
  · go_wp2_with fail
    refine (l1Bit_f _).mono ?_
    rintro e w5 ⟨rfl, hq5⟩
    go_wp2_with fail
    go_ret2
    exact ⟨_, _, rfl, by omega, hE.trans hq5.ext⟩
  · go_wp2_with fail
    refine (l1Bit_t _).mono ?_
    rintro e w5 ⟨rfl, hq5⟩
    go_wp2_with fail
    go_ret2
    exact ⟨_, _, rfl, by omega, hE.trans hq5.ext⟩
end Go.Proofs.Ytplcnehiaokdjaa
