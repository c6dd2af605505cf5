/- All lists of zeros and ones of a length: contracts of the program's and the reference's. Conditions: a length from 1 to 8. -/
import Derived.Test.YtapcnhbgoolcgaaBd
namespace Go.Proofs.Ytapcnhbgoolcgaa
open Go.RowKit

theorem i64_and1 (n : Int) : bits .and .i64 n 1 = n % 2 := by
  have h1 : (BitVec.ofInt 64 1).toNat = 2 ^ 1 - 1 := by decide
  have key : (BitVec.ofInt 64 n &&& BitVec.ofInt 64 1).toNat = (n % ((2 ^ 64 : Nat) : Int)).toNat % 2 ^ 1 := by
    rw [BitVec.toNat_and, BitVec.toNat_ofInt, h1, Nat.and_two_pow_sub_one_eq_mod]
  show IntKind.i64.wrap ((BitVec.ofInt 64 n &&& BitVec.ofInt 64 1).toNat : Nat) = n % 2
  rw [key, IntKind.wrap_i64]
  omega
theorem shl_one (n : Nat) (h : n ≤ 60) : wrap64 ((2 : Int) ^ n) = ((2 ^ n : Nat) : Int) := by
  have h1 : (2 : Nat) ^ n ≤ 2 ^ 60 := Nat.pow_le_pow_right (by omega) h
  have h2 : ((2 ^ n : Nat) : Int) = (2 : Int) ^ n := by simp
  rw [← h2]
  generalize (2 : Nat) ^ n = P at *
  exact IntWalk.wrap64_in (P : Int) (by omega)

def bitI (k j : Nat) : Int := (k : Int) / 2 ^ j % 2
def bitRow (n k : Nat) : List Int := (List.range n).map (bitI k)
def bitsTo (n k : Nat) : List (List Int) := (List.range k).map (bitRow n)
def bitsL (n : Nat) : List (List Int) := bitsTo n (2 ^ n)
theorem bitRow_succ (j k : Nat) : bitRow (j + 1) k = bitRow j k ++ [bitI k j] := by simp [bitRow, List.range_succ]
theorem bitRow_len (j k : Nat) : (bitRow j k).length = j := by simp [bitRow]
theorem bitsTo_succ (n k : Nat) : bitsTo n (k + 1) = bitsTo n k ++ [bitRow n k] := by simp [bitsTo, List.range_succ]
theorem bitsTo_len (n k : Nat) : (bitsTo n k).length = k := by simp [bitsTo]
theorem bitsL_len (n : Nat) : (bitsL n).length = 2 ^ n := bitsTo_len _ _
theorem bitsL_nth {n k : Nat} (h : k < 2 ^ n) : nthL (bitsL n) k = bitRow n k := by simp [nthL, bitsL, bitsTo, h]

set_option maxHeartbeats 1000000 in
theorem bitLists_ok (n : Nat) (w : World) (h1 : n ≤ 8) :
    Calls Try.prog 49 #[.int .i64 n] w fun e w' => ∃ v', e = .returned v' ∧ OII w.heap.size w'.heap.size w' v' (bitsL n) ∧ Ext w w' := by
  have hr0 := RR.new w
  have he0 : Ext w (w.alloc (.cells #[] 28)) := Upd.alloc _ _ _
  have hp := shl_one n (by omega)
  obtain ⟨P, hP⟩ : ∃ P, P = 2 ^ n := ⟨_, rfl⟩
  have hP2 : P ≤ 256 := by rw [hP]; exact Nat.pow_le_pow_right (n := 2) (by omega) h1
  rw [← hP] at hp
  have HP := Lib.hid hP
  clear hP
  go_enter Try.func49, Try.ntmps49
  go_wp2_with fail
  rw [hp]
  clear hp
  go_loopw [3, 10] (fun o i wr => ∃ k : Nat, k ≤ P ∧ i = .int .i64 k ∧ (∃ b c m, o = .slice (some ⟨b, 0, none⟩) m c ∧ Hid (m = k) ∧ RR w.heap.size wr.heap.size wr b c (bitsTo n k)) ∧ Ext w wr) (fun _ i _ => P - (intOf i).toNat)
  case atStart => exact ⟨0, by omega, rfl, ⟨_, 0, 0, rfl, Lib.hid rfl, hr0.mono (by simp)⟩, he0⟩
  case round =>
    obtain ⟨k, hk, rfl, ⟨b, c, m, rfl, hm, hr⟩, he⟩ := hrel
    clear hr0 he0
    obtain ⟨wp, hwp⟩ : ∃ wp, wp = wr := ⟨_, rfl⟩
    subst hwp
    by_cases hlt : k < P
    · have hn0 := Row.new 3 wp [] (by simp)
      go_wp2_with fail
      go_loopw [5, 15] (fun o i wr => ∃ j : Nat, j ≤ n ∧ i = .int .i64 j ∧ (∃ b2 c2, o = .slice (some ⟨b2, 0, none⟩) j c2 ∧ wp.heap.size ≤ b2 ∧ Row 3 wr b2 c2 (vals (bitRow j k))) ∧ Ext wp wr) (fun _ i _ => n - (intOf i).toNat)
      case atStart => exact ⟨0, by omega, rfl, ⟨_, 0, rfl, Nat.le_refl _, hn0⟩, (Ext.refl wp).alloc _⟩
      case round =>
        obtain ⟨j, hj, rfl, ⟨b2, c2, rfl, hb2, hr2⟩, he2⟩ := hrel
        clear hn0
        by_cases hjn : j < n
        · go_wp2_with (at_builtin; refine wpl_app1 rfl _ _ rfl b2 c2 j (bitRow j k) _ rfl hr2 (bitRow_len j k).symm rfl (by rw [bitRow_len]; omega) ?_; intro b3 c3 w3 h3 h4 h5)
          rw [i64_and1] at h3
          go_roundw
          case rel => exact ⟨j + 1, by omega, by go_num, ⟨b3, c3, rfl, by have := he2.size; omega, by rw [bitRow_succ]; exact h3⟩, he2.upd1 h5 hb2⟩
          case measure => simp [intOf]; omega
        · obtain rfl : j = n := by omega
          have hz2 := he2.size
          have hzw := he.size
          have ho : OI wp.heap.size wr.heap.size wr (.slice (some ⟨b2, 0, none⟩) j c2) (bitRow j k) := OI.row hr2 hb2 (bitRow_len j k).symm
          have HR := Lib.hid (hr.ext he2)
          have HO := Lib.hid ho
          have hwz : w.heap.size ≤ wp.heap.size := hzw
          clear hr hr2 ho
          go_wp2_with (at_builtin; refine wpl_appRR rfl _ _ rfl w.heap.size wp.heap.size b c m (bitsTo j k) (some ⟨b2, 0, none⟩) _ c2 (bitRow j k) rfl HR.out (by rw [bitsTo_len]; exact hm.out) (HO.out.mono hwz (Nat.le_refl _)) (fun q hq => (HO.out.own hq).1) (by omega) rfl (by rw [bitsTo_len]; omega) ?_; intro b6 c6 w6 hr6 hb6 hu6)
          go_roundw
          case rel => exact ⟨k + 1, by omega, by go_num, ⟨b6, c6, m + 1, rfl, Lib.hid (by rw [hm.out]), by rw [bitsTo_succ]; exact hr6⟩, (he.trans he2).upd1 hu6 HR.out.lo⟩
          case measure => simp [intOf]; omega
    · have hfin : Hid (bitsL n = bitsTo n k) := by show _ = _; unfold bitsL; rw [← HP.out]; congr 1; omega
      have hm2 : Hid (m = (bitsTo n k).length) := by show _ = _; rw [bitsTo_len]; exact hm.out
      go_wp2_with fail
      go_ret
      rw [hfin.out]
      exact ⟨_, rfl, hr.oii hm2.out, he⟩
set_option maxHeartbeats 1000000 in
theorem l26Bits_ok (n : Nat) (w : World) (h1 : n ≤ 8) :
    Calls Try.prog 60 #[.int .i64 n] w fun e w' => ∃ v', e = .returned v' ∧ OII w.heap.size w'.heap.size w' v' (bitsL n) ∧ Ext w w' := by
  have hr0 := RR.new w
  have he0 : Ext w (w.alloc (.cells #[] 28)) := Upd.alloc _ _ _
  have hp := shl_one n (by omega)
  obtain ⟨P, hP⟩ : ∃ P, P = 2 ^ n := ⟨_, rfl⟩
  have hP2 : P ≤ 256 := by rw [hP]; exact Nat.pow_le_pow_right (n := 2) (by omega) h1
  rw [← hP] at hp
  have HP := Lib.hid hP
  have HPP := Lib.hid hp
  clear hP hp
  go_enter Try.func60, Try.ntmps60
  go_wp2_with fail
  go_loopw [3, 4] (fun o i wr => ∃ k : Nat, k ≤ P ∧ i = .int .i64 k ∧ (∃ b c m, o = .slice (some ⟨b, 0, none⟩) m c ∧ Hid (m = k) ∧ RR w.heap.size wr.heap.size wr b c (bitsTo n k)) ∧ Ext w wr) (fun _ i _ => P - (intOf i).toNat)
  case atStart => exact ⟨0, by omega, rfl, ⟨_, 0, 0, rfl, Lib.hid rfl, hr0.mono (by simp)⟩, he0⟩
  case round =>
    obtain ⟨k, hk, rfl, ⟨b, c, m, rfl, hm, hr⟩, he⟩ := hrel
    clear hr0 he0
    obtain ⟨wp, hwp⟩ : ∃ wp, wp = wr := ⟨_, rfl⟩
    subst hwp
    by_cases hlt : k < P
    · have hp : (k : Int) < wrap64 ((2 : Int) ^ n) := by rw [HPP.out]; omega
      have hn0 := Row.new 3 wp [] (by simp)
      go_wp2_with fail
      clear hp
      go_loopw [5, 6] (fun o i wr => ∃ j : Nat, j ≤ n ∧ i = .int .i64 j ∧ (∃ b2 c2, o = .slice (some ⟨b2, 0, none⟩) j c2 ∧ wp.heap.size ≤ b2 ∧ Row 3 wr b2 c2 (vals (bitRow j k))) ∧ Ext wp wr) (fun _ i _ => n - (intOf i).toNat)
      case atStart => exact ⟨0, by omega, rfl, ⟨_, 0, rfl, Nat.le_refl _, hn0⟩, (Ext.refl wp).alloc _⟩
      case round =>
        obtain ⟨j, hj, rfl, ⟨b2, c2, rfl, hb2, hr2⟩, he2⟩ := hrel
        clear hn0
        by_cases hjn : j < n
        · go_wp2_with (at_builtin; refine wpl_app1 rfl _ _ rfl b2 c2 j (bitRow j k) _ rfl hr2 (bitRow_len j k).symm rfl (by rw [bitRow_len]; omega) ?_; intro b3 c3 w3 h3 h4 h5)
          rw [i64_and1] at h3
          go_roundw
          case rel => exact ⟨j + 1, by omega, by go_num, ⟨b3, c3, rfl, by have := he2.size; omega, by rw [bitRow_succ]; exact h3⟩, he2.upd1 h5 hb2⟩
          case measure => simp [intOf]; omega
        · obtain rfl : j = n := by omega
          have hz2 := he2.size
          have hzw := he.size
          have ho : OI wp.heap.size wr.heap.size wr (.slice (some ⟨b2, 0, none⟩) j c2) (bitRow j k) := OI.row hr2 hb2 (bitRow_len j k).symm
          have HR := Lib.hid (hr.ext he2)
          have HO := Lib.hid ho
          have hwz : w.heap.size ≤ wp.heap.size := hzw
          clear hr hr2 ho
          go_wp2_with (at_builtin; refine wpl_appRR rfl _ _ rfl w.heap.size wp.heap.size b c m (bitsTo j k) (some ⟨b2, 0, none⟩) _ c2 (bitRow j k) rfl HR.out (by rw [bitsTo_len]; exact hm.out) (HO.out.mono hwz (Nat.le_refl _)) (fun q hq => (HO.out.own hq).1) (by omega) rfl (by rw [bitsTo_len]; omega) ?_; intro b6 c6 w6 hr6 hb6 hu6)
          go_roundw
          case rel => exact ⟨k + 1, by omega, by go_num, ⟨b6, c6, m + 1, rfl, Lib.hid (by rw [hm.out]), by rw [bitsTo_succ]; exact hr6⟩, (he.trans he2).upd1 hu6 HR.out.lo⟩
          case measure => simp [intOf]; omega
    · have hfin : Hid (bitsL n = bitsTo n k) := by show _ = _; unfold bitsL; rw [← HP.out]; congr 1; omega
      have hm2 : Hid (m = (bitsTo n k).length) := by show _ = _; rw [bitsTo_len]; exact hm.out
      have hp : ¬ (k : Int) < wrap64 ((2 : Int) ^ n) := by rw [HPP.out]; omega
      go_wp2_with fail
      clear hp
      go_ret
      rw [hfin.out]
      exact ⟨_, rfl, hr.oii hm2.out, he⟩
end Go.Proofs.Ytapcnhbgoolcgaa
