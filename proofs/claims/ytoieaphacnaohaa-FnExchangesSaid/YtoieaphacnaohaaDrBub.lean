/- Contract of the draw of a nearly sorted permutation. Conditions: small lengths. -/
import Derived.Test.YtoieaphacnaohaaCycW
namespace Go.Proofs.Ytoieaphacnaohaa
open Go.RowKit

set_option maxHeartbeats 4000000 in
theorem DrawIsBubbleSorted_ok (a : Option Addr) (n cap : Nat) (w : World) (hn : n ≤ 1048576) (hb : BY w.heap.size w a n) : Calls Try.prog 20 #[.slice a n cap] w (DrB w) := by
  have HB := Lib.hid hb
  clear hb
  go_enter Try.func20, Try.ntmps20
  go_wp2_with fail
  refine (l1New_ok a n cap _ hn HB.out).mono ?_
  rintro e w1 ⟨bc, rfl, hbc, hc, he⟩
  have hz := he.size
  have hbl := hc.lt
  go_wp2_with fail
  refine (l1Once_ok bc 2 _ hc (by omega) (by omega)).mono ?_
  rintro e w2 ⟨x, rfl, hc2, hu2⟩
  have hE2 : Ext w w2 := Upd.comp he hu2 (fun _ _ h => h) (fun i hi e => by omega)
  have hz2 := hu2.size
  have hbcz := hc2.lt
  cases x
  · go_wp2_with fail
    refine (l2Bent_ok bc _ hc2).mono ?_
    rintro e w3 ⟨b, c, m, L, rfl, hm, hm9, hL, hlo, hr, hc3, hu3⟩
    go_wp2_with fail
    go_ret
    exact ⟨_, L, rfl, OI.row hr (by omega) (by first | rfl | exact hm), by omega, hL, Upd.comp hE2 hu3 (fun _ _ h => h) (fun i hi e => by omega)⟩
  · go_wp2_with fail
    refine (l1Below_ok bc 8 _ hc2 (by omega) (by omega)).mono ?_
    rintro e w3 ⟨m, hm, rfl, hc3, hu3⟩
    have hz3 := hu3.size
    go_wp2_with fail
    refine (identityPerm_ok m _ (by omega)).mono ?_
    rintro e w4 ⟨b, c, rfl, hb4, hr4, he4⟩
    have hz4 := he4.size
    have hE4 : Ext w w4 := (Upd.comp hE2 hu3 (fun _ _ h => h) (fun i hi e => by omega) : Ext w w3).trans he4
    have hc4 := hc3.ext he4
    have hbc4 := hc3.lt
    have hB0 : ∀ x ∈ idL m, -1 ≤ x ∧ x ≤ 10 := fun x hx => by
      have := (idL_isP m).1 x hx
      rw [idL_len] at this; omega
    have hl0 := idL_len m
    obtain ⟨L0, hL0⟩ : ∃ L0, L0 = idL m := ⟨_, rfl⟩
    rw [← hL0] at hr4 hB0 hl0
    have HB0 := Lib.hid hB0
    have HL0 := Lib.hid hl0
    clear hL0 hB0 hl0
    go_wp2_with fail
    go_loopw [5] (fun i wr => ∃ k : Nat, k ≤ m ∧ i = .int .i64 k ∧ (∃ M, Row 3 wr b c (vals M) ∧ Hid (M.length = m) ∧ Hid (∀ x ∈ M, -1 ≤ x ∧ x ≤ 10)) ∧ Cur bc wr ∧ Upd (fun j => j = bc ∨ j = b) w4 wr) (fun i _ => m - (intOf i).toNat)
    case atStart => exact ⟨0, Nat.zero_le _, rfl, ⟨L0, hr4, HL0, HB0⟩, hc4, Upd.refl _ _⟩
    case round =>
      obtain ⟨k, hk, rfl, ⟨M, hr, hMl, hMB⟩, hcu, hu⟩ := hrel
      clear hr4 hc4
      have hzu := hu.size
      by_cases hlt : k + 1 < m
      · have hltI : (k : Int) + 1 < (m : Int) := by omega
        go_wp2_with fail
        refine (l1Once_ok bc 2 _ hcu (by omega) (by omega)).mono ?_
        rintro e w6 ⟨x, rfl, hc6, hu6⟩
        have hr6 := hr.upd hu6 (fun e => by omega)
        have hU6 : Upd (fun j => j = bc ∨ j = b) w4 w6 := hu.comp hu6 (fun _ _ h => h) (fun i hi e => .inl e)
        cases x
        · have HR6 := Lib.hid hr6
          clear hr hr6
          go_wp2_with fail
          go_roundw
          case rel => exact ⟨k + 1, by omega, by go_num, ⟨M, HR6.out, hMl, hMB⟩, hc6, hU6⟩
          case measure => simp [intOf]; omega
        · have c0 := hr6.icell (j := k) (by rw [hMl.out]; omega)
          have c1 := hr6.icell (j := k + 1) (by rw [hMl.out]; omega)
          have f0 := hr6.free k none
          have f1 := hr6.free (k + 1) none
          have b0 := hMB.out _ (nth_mem (show k < M.length by rw [hMl.out]; omega))
          have b1 := hMB.out _ (nth_mem (show k + 1 < M.length by rw [hMl.out]; omega))
          obtain ⟨x, hx⟩ : ∃ x, x = nth M k := ⟨_, rfl⟩
          obtain ⟨y, hy⟩ : ∃ y, y = nth M (k + 1) := ⟨_, rfl⟩
          rw [← hx] at c0 b0
          rw [← hy] at c1 b1
          have HS := Lib.hid ((hr6.set k (.int .i64 y)).set (k + 1) (.int .i64 x))
          have HU := Lib.hid ((hU6.comp (Upd.setCell w6 ⟨b, k, none⟩ (.int .i64 y)) (fun _ _ h => h) (fun i hi e => .inr e)).comp (Upd.setCell _ ⟨b, k + 1, none⟩ (.int .i64 x)) (fun _ _ h => h) (fun i hi e => .inr e))
          have HC := Lib.hid ((hc6.upd (Upd.setCell w6 ⟨b, k, none⟩ (.int .i64 y)) (by show bc < b; omega)).upd (Upd.setCell _ ⟨b, k + 1, none⟩ (.int .i64 x)) (by show bc < b; omega))
          have w2 : ((k : Int) + 1).toNat = k + 1 := by omega
          have w3 : 0 ≤ (k : Int) + 1 := by omega
          have w4 : (k : Int) < (m : Int) := by omega
          clear hx hy hr hr6 hU6 hc6 hu6
          go_wp2_with fail
          go_roundw
          case rel =>
            refine ⟨k + 1, by omega, by go_num, ⟨(M.set k y).set (k + 1) x, ?_, Lib.hid (by simp [hMl.out]), Lib.hid (fun z hz => ?_)⟩, HC.out, HU.out⟩
            · have := HS.out; rw [vals_set, vals_set] at this; exact this
            · rcases List.mem_or_eq_of_mem_set hz with e | e
              · rcases List.mem_or_eq_of_mem_set e with e | e
                · exact hMB.out z e
                · omega
              · omega
          case measure => simp [intOf]; omega
      · have hnI : ¬ (k : Int) + 1 < (m : Int) := by omega
        have hEr : Ext w wr := Upd.comp hE4 hu (fun _ _ h => h) (fun i hi e => by omega)
        go_wp2_with fail
        go_ret
        exact ⟨_, M, rfl, OI.row hr (by omega) hMl.out.symm, by rw [hMl.out]; omega, hMB.out, hEr⟩
end Go.Proofs.Ytoieaphacnaohaa
