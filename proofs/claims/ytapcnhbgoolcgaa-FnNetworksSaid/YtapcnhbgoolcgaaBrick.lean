/- Contracts of BrickNetwork, the program's and the reference's. Conditions: the argument is an int. -/
import Derived.Test.YtapcnhbgoolcgaaBd
namespace Go.Proofs.Ytapcnhbgoolcgaa
open Go.RowKit

def brRow (a j : Nat) : List (List Int) := (List.range j).map fun (i : Nat) => [((a + 2 * i : Nat) : Int), ((a + 2 * i : Nat) : Int) + 1]
def brCnt (n k : Nat) : Nat := (n - (1 + k % 2) + 1) / 2
def brTo (n k : Nat) : List (List Int) := (List.range k).flatMap fun r => brRow (1 + r % 2) (brCnt n r)
def brI (x : Int) : List (List Int) := if 1 ≤ x ∧ x ≤ 8 then brTo x.toNat x.toNat else []
theorem brRow_succ (a j : Nat) : brRow a (j + 1) = brRow a j ++ [[((a + 2 * j : Nat) : Int), ((a + 2 * j : Nat) : Int) + 1]] := by simp [brRow, List.range_succ]
theorem brTo_succ (n k : Nat) : brTo n (k + 1) = brTo n k ++ brRow (1 + k % 2) (brCnt n k) := by simp [brTo, List.range_succ]
theorem brTo_len (n k : Nat) (h : n ≤ 8) : (brTo n k).length ≤ 4 * k := by
  induction k with
  | zero => simp [brTo]
  | succ k ih => rw [brTo_succ, List.length_append]; simp [brRow]; unfold brCnt; omega
theorem brTo_two (n k : Nat) : ∀ xs ∈ brTo n k, xs.length ≤ 2 := by
  intro xs hx
  simp only [brTo, List.mem_flatMap, brRow, List.mem_map] at hx
  obtain ⟨_, _, _, _, rfl⟩ := hx
  simp
theorem bound_BrickNetwork (x : Int) : Bd (brI x) := by
  unfold brI
  split
  · exact Bd.of (4 * x.toNat) 2 (brTo_len _ _ (by omega)) (brTo_two _ _) (by omega) (by omega)
  · exact Bd.nil

set_option maxHeartbeats 1000000 in
theorem impl_BrickNetwork_ok (x : Int) (w : World) (_hb : I64 x) :
    Calls Try.prog 19 #[.int .i64 x] w fun e w' => ∃ v', e = .returned v' ∧ OII w.heap.size w'.heap.size w' v' (brI x) ∧ Ext w w' := by
  by_cases h1 : x < 1
  · have e0 : Hid (brI x = []) := by show _ = _; unfold brI; rw [if_neg (by omega)]
    go_enter Try.func19, Try.ntmps19
    go_wp2_with fail
    go_ret
    rw [e0.out]
    exact ⟨_, rfl, OII.nil _ _ _, Ext.refl _⟩
  by_cases h2 : 8 < x
  · have e0 : Hid (brI x = []) := by show _ = _; unfold brI; rw [if_neg (by omega)]
    go_enter Try.func19, Try.ntmps19
    go_wp2_with fail
    go_ret
    rw [e0.out]
    exact ⟨_, rfl, OII.nil _ _ _, Ext.refl _⟩
  obtain ⟨n, rfl⟩ : ∃ n : Nat, x = (n : Int) := ⟨x.toNat, by omega⟩
  have e0 : Hid (brI (n : Int) = brTo n n) := by show _ = _; unfold brI; rw [if_pos (by omega)]; simp
  have hr0 := RR.new w
  have he0 : Ext w (w.alloc (.cells #[] 28)) := Upd.alloc _ _ _
  go_enter Try.func19, Try.ntmps19
  go_wp2_with fail
  go_loopw [3, 14] (fun o i wr => ∃ k : Nat, k ≤ n ∧ i = .int .i64 k ∧ (∃ b c m, o = .slice (some ⟨b, 0, none⟩) m c ∧ m = (brTo n k).length ∧ RR w.heap.size wr.heap.size wr b c (brTo n k)) ∧ Ext w wr) (fun _ i _ => n - (intOf i).toNat)
  case atStart => exact ⟨0, Nat.zero_le _, rfl, ⟨_, 0, 0, rfl, rfl, hr0.mono (by simp)⟩, he0⟩
  case round =>
    obtain ⟨k, hk, rfl, ⟨b, c, m, rfl, hm, hr⟩, he⟩ := hrel
    have HM := Lib.hid hm
    clear hr0 he0 hm
    by_cases hlt : k < n
    · have hlen := brTo_len n k (by omega)
      go_wp2_with fail
      go_loopw [3, 5] (fun o a wz => ∃ j : Nat, ∃ q : Int, j ≤ brCnt n k ∧ a = .int .i64 q ∧ Hid (q = ((1 + k % 2 + 2 * j : Nat) : Int)) ∧ 1 ≤ q ∧ q ≤ 9 ∧ (∃ b c m, o = .slice (some ⟨b, 0, none⟩) m c ∧ m = (brTo n k ++ brRow (1 + k % 2) j).length ∧ RR w.heap.size wz.heap.size wz b c (brTo n k ++ brRow (1 + k % 2) j)) ∧ Ext w wz) (fun _ a _ => 10 - (intOf a).toNat)
      case atStart => exact ⟨0, _, Nat.zero_le _, rfl, Lib.hid (by simp), by omega, by omega, ⟨b, c, m, rfl, by simp [brRow, HM.out], by simpa [brRow] using hr⟩, he⟩
      case round =>
        obtain ⟨j, q, hj, rfl, hq, hq1, hq2, ⟨b2, c2, m2, rfl, hm2, hr2⟩, he2⟩ := hrel
        have HM2 := Lib.hid hm2
        have hl2 : (brTo n k ++ brRow (1 + k % 2) j).length ≤ 1000 := by simp [brRow]; unfold brCnt at hj; omega
        clear hr he hm2
        by_cases hqn : q < (n : Int)
        · go_wp2_with (at_builtin; refine wpl_appLit rfl _ _ rfl w.heap.size b2 c2 m2 _ _ (brTo n k ++ brRow (1 + k % 2) j) [q, q + 1] rfl hr2 HM2.out he2.size (by simp) rfl rfl rfl (by omega) ?_; intro b3 c3 w3 hr3 hu3)
          go_roundw
          case rel =>
            have hqe := hq.out
            have hE : (brTo n k ++ brRow (1 + k % 2) j) ++ [[q, q + 1]] = brTo n k ++ brRow (1 + k % 2) (j + 1) := by rw [brRow_succ, List.append_assoc, hqe]
            exact ⟨j + 1, q + 2, by unfold brCnt at hj ⊢; omega, rfl, Lib.hid (by omega), by omega, by omega, ⟨b3, c3, m2 + 1, rfl, by rw [← hE]; simp [HM2.out]; omega, by rw [← hE]; exact hr3⟩, he2.upd1 hu3 hr2.lo⟩
          case measure => simp [intOf]; omega
        · go_wp2_with fail
          go_roundw
          case rel =>
            have hqe := hq.out
            have hje : j = brCnt n k := by unfold brCnt at hj ⊢; omega
            have hE : brTo n k ++ brRow (1 + k % 2) j = brTo n (k + 1) := by rw [brTo_succ, hje]
            exact ⟨k + 1, by omega, by go_num, ⟨b2, c2, m2, rfl, by rw [← hE]; exact HM2.out, by rw [← hE]; exact hr2⟩, he2⟩
          case measure => simp [intOf]; omega
    · have hfin : Hid (brTo n n = brTo n k) := by show _ = _; congr 1; omega
      go_wp2_with fail
      go_ret
      rw [e0.out, hfin.out]
      exact ⟨_, rfl, hr.oii HM.out, he⟩
set_option maxHeartbeats 1000000 in
theorem spec_BrickNetwork_ok (x : Int) (w : World) (_hb : I64 x) :
    Calls Try.prog 25 #[.int .i64 x] w fun e w' => ∃ v', e = .returned v' ∧ OII w.heap.size w'.heap.size w' v' (brI x) ∧ Ext w w' := by
  have hr0 := RR.new w
  have he0 : Ext w (w.alloc (.cells #[] 28)) := Upd.alloc _ _ _
  by_cases h12 : ¬ (1 ≤ x ∧ x ≤ 8)
  · have e0 : Hid (brI x = []) := by show _ = _; unfold brI; rw [if_neg (by omega)]
    have h3 : x < 1 ∨ 8 < x := by omega
    clear h12
    rcases h3 with h3 | h3
    all_goals
      go_enter Try.func25, Try.ntmps25
      go_wp2_with fail
      go_loopw [3, 4] (fun o i wr => i = .int .i64 1 ∧ o = .slice (some ⟨w.heap.size, 0, none⟩) 0 0 ∧ w.alloc (.cells #[] 28) = wr) (fun _ _ _ => 0)
      case atStart => exact ⟨rfl, rfl, rfl⟩
      case round =>
        obtain ⟨rfl, rfl, rfl⟩ := hrel
        go_wp2_with fail
        go_ret
        rw [e0.out]
        exact ⟨_, rfl, (hr0.mono (by simp)).oii rfl, he0⟩
  have h12' : 1 ≤ x ∧ x ≤ 8 := by omega
  clear h12
  obtain ⟨h1, h2⟩ := h12'
  obtain ⟨n, rfl⟩ : ∃ n : Nat, x = (n : Int) := ⟨x.toNat, by omega⟩
  have e0 : Hid (brI (n : Int) = brTo n n) := by show _ = _; unfold brI; rw [if_pos (by omega)]; simp
  go_enter Try.func25, Try.ntmps25
  go_wp2_with fail
  go_loopw [3, 4] (fun o i wr => ∃ k : Nat, k ≤ n ∧ i = .int .i64 ((k : Int) + 1) ∧ (∃ b c m, o = .slice (some ⟨b, 0, none⟩) m c ∧ m = (brTo n k).length ∧ RR w.heap.size wr.heap.size wr b c (brTo n k)) ∧ Ext w wr) (fun _ i _ => n + 1 - (intOf i).toNat)
  case atStart => exact ⟨0, Nat.zero_le _, rfl, ⟨_, 0, 0, rfl, rfl, hr0.mono (by simp)⟩, he0⟩
  case round =>
    obtain ⟨k, hk, rfl, ⟨b, c, m, rfl, hm, hr⟩, he⟩ := hrel
    have HM := Lib.hid hm
    clear hr0 he0 hm
    by_cases hlt : k < n
    · have hlen := brTo_len n k (by omega)
      go_wp2_with fail
      go_loopw [3, 5] (fun o a wz => ∃ j : Nat, ∃ q : Int, j ≤ brCnt n k ∧ a = .int .i64 q ∧ Hid (q = ((1 + k % 2 + 2 * j : Nat) : Int)) ∧ 1 ≤ q ∧ q ≤ 9 ∧ (∃ b c m, o = .slice (some ⟨b, 0, none⟩) m c ∧ m = (brTo n k ++ brRow (1 + k % 2) j).length ∧ RR w.heap.size wz.heap.size wz b c (brTo n k ++ brRow (1 + k % 2) j)) ∧ Ext w wz) (fun _ a _ => 10 - (intOf a).toNat)
      case atStart => exact ⟨0, _, Nat.zero_le _, rfl, Lib.hid (by omega), by omega, by omega, ⟨b, c, m, rfl, by simp [brRow, HM.out], by simpa [brRow] using hr⟩, he⟩
      case round =>
        obtain ⟨j, q, hj, rfl, hq, hq1, hq2, ⟨b2, c2, m2, rfl, hm2, hr2⟩, he2⟩ := hrel
        have HM2 := Lib.hid hm2
        have hl2 : (brTo n k ++ brRow (1 + k % 2) j).length ≤ 1000 := by simp [brRow]; unfold brCnt at hj; omega
        clear hr he hm2
        by_cases hqn : q + 1 ≤ (n : Int)
        · go_wp2_with (at_builtin; refine wpl_appLit rfl _ _ rfl w.heap.size b2 c2 m2 _ _ (brTo n k ++ brRow (1 + k % 2) j) [q, q + 1] rfl hr2 HM2.out he2.size (by simp) rfl rfl rfl (by omega) ?_; intro b3 c3 w3 hr3 hu3)
          go_roundw
          case rel =>
            have hqe := hq.out
            have hE : (brTo n k ++ brRow (1 + k % 2) j) ++ [[q, q + 1]] = brTo n k ++ brRow (1 + k % 2) (j + 1) := by rw [brRow_succ, List.append_assoc, hqe]
            exact ⟨j + 1, q + 2, by unfold brCnt at hj ⊢; omega, rfl, Lib.hid (by omega), by omega, by omega, ⟨b3, c3, m2 + 1, rfl, by rw [← hE]; simp [HM2.out]; omega, by rw [← hE]; exact hr3⟩, he2.upd1 hu3 hr2.lo⟩
          case measure => simp [intOf]; omega
        · go_wp2_with fail
          go_roundw
          case rel =>
            have hqe := hq.out
            have hje : j = brCnt n k := by unfold brCnt at hj ⊢; omega
            have hE : brTo n k ++ brRow (1 + k % 2) j = brTo n (k + 1) := by rw [brTo_succ, hje]
            exact ⟨k + 1, by omega, by go_num, ⟨b2, c2, m2, rfl, by rw [← hE]; exact HM2.out, by rw [← hE]; exact hr2⟩, he2⟩
          case measure => simp [intOf]; omega
    · have hfin : Hid (brTo n n = brTo n k) := by show _ = _; congr 1; omega
      go_wp2_with fail
      go_ret
      rw [e0.out, hfin.out]
      exact ⟨_, rfl, hr.oii HM.out, he⟩
end Go.Proofs.Ytapcnhbgoolcgaa
