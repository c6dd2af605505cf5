/- Contracts of SubwordBelow, the program's and the reference's. Conditions: lengths below a bound. -/
import Derived.Test.YtmnbdphfoonleaaRed
import Derived.Test.YtmnbdphfoonleaaBase2
namespace Go.Proofs.Ytmnbdphfoonleaa
open Go.RowKit

theorem i64_and1 (n : Int) : bits .and .i64 n 1 = n % 2 := by
  have h1 : (BitVec.ofInt 64 1).toNat = 2 ^ 1 - 1 := by decide
  have key : (BitVec.ofInt 64 n &&& BitVec.ofInt 64 1).toNat = (n % ((2 ^ 64 : Nat) : Int)).toNat % 2 ^ 1 := by
    rw [BitVec.toNat_and, BitVec.toNat_ofInt, h1, Nat.and_two_pow_sub_one_eq_mod]
  show IntKind.i64.wrap ((BitVec.ofInt 64 n &&& BitVec.ofInt 64 1).toNat : Nat) = n % 2
  rw [key, IntKind.wrap_i64]
  omega
theorem shl_one (n : Nat) (h : n ≤ 60) : wrap64 ((2 : Int) ^ n) = ((2 ^ n : Nat) : Int) := by
  have h1 : (2 : Nat) ^ n ≤ 2 ^ 60 := Nat.pow_le_pow_right (by omega) h
  have h2 : ((2 ^ n : Nat) : Int) = (2 : Int) ^ n := by simp
  rw [← h2]
  generalize (2 : Nat) ^ n = P at *
  exact IntWalk.wrap64_in (P : Int) (by omega)

def bitB (s k : Nat) : Bool := bits .and .i64 ((s : Int) / 2 ^ k) 1 == 1
def partTo (word : List Int) (s k : Nat) : List Int := ((List.range k).filter (bitB s)).map (nth word)
theorem partTo_t {word : List Int} {s k : Nat} (h : bitB s k = true) : partTo word s (k + 1) = partTo word s k ++ [nth word k] := by simp [partTo, List.range_succ, List.filter_append, h]
theorem partTo_f {word : List Int} {s k : Nat} (h : bitB s k = false) : partTo word s (k + 1) = partTo word s k := by simp [partTo, List.range_succ, List.filter_append, h]
theorem partTo_len (word : List Int) (s k : Nat) : (partTo word s k).length ≤ k := by
  unfold partTo; rw [List.length_map]
  have := List.length_filter_le (bitB s) (List.range k)
  simpa using this
theorem partTo_mem {word : List Int} {s k : Nat} (hk : k ≤ word.length) {x : Int} (h : x ∈ partTo word s k) : x ∈ word := by
  simp only [partTo, List.mem_map, List.mem_filter, List.mem_range] at h
  obtain ⟨i, ⟨hi, _⟩, rfl⟩ := h
  exact nth_mem (by omega)
def swTo (n : Nat) (word p : List Int) (m : Nat) : Bool := (List.range m).any fun s => decide (wRun n (partTo word s word.length) = p)
def subB (n : Int) (word p : List Int) : Bool := decide (word.length ≤ 12) && (irB n word && (isP8 p && (decide ((p.length : Int) = n) && swTo n.toNat word p (2 ^ word.length))))
theorem swTo_succ (n : Nat) (word p : List Int) (m : Nat) : swTo n word p (m + 1) = (swTo n word p m || decide (wRun n (partTo word m word.length) = p)) := by simp [swTo, List.range_succ]
theorem swTo_hit {n : Nat} {word p : List Int} {s m : Nat} (hs : s < m) (h : wRun n (partTo word s word.length) = p) : swTo n word p m = true := by
  unfold swTo; exact List.any_eq_true.2 ⟨s, List.mem_range.2 hs, decide_eq_true h⟩

set_option maxHeartbeats 2000000 in
theorem impl_SubwordBelow_ok (n : Int) (v : Value) (word : List Int) (v2 : Value) (p : List Int) (w : World) (hn : I64 n) (h : SI w v word) (hl : word.length ≤ 1048576) (hb : I64s word) (h2 : SI w v2 p) (hl2 : p.length ≤ 1048576) (_hb2 : I64s p) :
    Calls Try.prog 52 #[.int .i64 n, v, v2] w fun e w' => e = .returned (.bool (subB n word p)) ∧ Ext w w' := by
  obtain ⟨a, cap, rfl, hri⟩ := h.elim
  obtain ⟨a2, cap2, rfl, -⟩ := h2.elim
  by_cases h12 : 12 < word.length
  · have e0 : Hid (subB n word p = false) := by show _ = _; unfold subB; rw [decide_eq_false (by omega)]; rfl
    go_enter Try.func52, Try.ntmps52
    go_wp2_with fail
    go_ret
    exact ⟨by rw [e0.out]; rfl, Ext.refl _⟩
  have hd12 : Hid (decide (word.length ≤ 12) = true) := by show _ = _; exact decide_eq_true (by omega)
  cases hir : irB n word
  · have HI := Lib.hid hir
    have e0 : Hid (subB n word p = false) := by show _ = _; unfold subB; rw [hir]; simp
    clear hir
    go_enter Try.func52, Try.ntmps52
    go_wp2_with (go_at_call 32; refine (impl_IsReduced_ok n _ word _ hn h hl hb).mono ?_; rintro e w1 ⟨rfl, he1⟩; rw [HI.out])
    go_ret
    exact ⟨by rw [e0.out]; rfl, he1⟩
  have HI := Lib.hid hir
  cases hp : isP8 p
  · have HP := Lib.hid hp
    have e0 : Hid (subB n word p = false) := by show _ = _; unfold subB; rw [hp]; simp
    clear hir hp
    go_enter Try.func52, Try.ntmps52
    go_wp2_with fail
    refine (impl_IsReduced_ok n _ word _ hn h hl hb).mono ?_
    rintro e w1 ⟨rfl, he1⟩
    rw [HI.out]
    go_wp2_with fail
    refine (impl_IsPerm_ok _ p _ (h2.ext he1)).mono ?_
    rintro e w2 ⟨rfl, he2⟩
    rw [HP.out]
    go_wp2_with fail
    go_ret
    exact ⟨by rw [e0.out]; rfl, he1.trans he2⟩
  have HP := Lib.hid hp
  by_cases hlen : ¬ (p.length : Int) = n
  · have e0 : Hid (subB n word p = false) := by show _ = _; unfold subB; rw [decide_eq_false hlen]; simp
    have hl1 : ((p.length : Int) != n) = true := by simp; omega
    clear hir hp hlen
    go_enter Try.func52, Try.ntmps52
    go_wp2_with fail
    refine (impl_IsReduced_ok n _ word _ hn h hl hb).mono ?_
    rintro e w1 ⟨rfl, he1⟩
    rw [HI.out]
    go_wp2_with fail
    refine (impl_IsPerm_ok _ p _ (h2.ext he1)).mono ?_
    rintro e w2 ⟨rfl, he2⟩
    rw [HP.out]
    go_wp2_with fail
    go_ret
    exact ⟨by rw [e0.out]; rfl, he1.trans he2⟩
  have hlen' : (p.length : Int) = n := by omega
  clear hlen
  subst hlen'
  have hwk : wokB (p.length : Int) word = true := by unfold irB at hir; cases hh : wokB (p.length : Int) word <;> simp [hh] at hir ⊢
  have hp8 : p.length ≤ 8 := (isP8_iff.1 hp).1
  have HOK := Lib.hid (wok_true hwk).2.2.2
  have e0 : Hid (subB (p.length : Int) word p = swTo p.length word p (2 ^ word.length)) := by show _ = _; unfold subB; rw [hd12.out, hir, hp, decide_eq_true rfl]; simp
  have hsh := shl_one word.length (by omega)
  obtain ⟨P, hP⟩ : ∃ P, P = 2 ^ word.length := ⟨_, rfl⟩
  have hP2 : P ≤ 4096 := by rw [hP]; exact Nat.pow_le_pow_right (n := 2) (by omega) (by omega : word.length ≤ 12)
  rw [← hP] at hsh e0
  have hl1 : ((p.length : Int) != (p.length : Int)) = false := by simp
  have HSH := Lib.hid hsh
  clear hir hp hwk hP hsh
  go_enter Try.func52, Try.ntmps52
  go_wp2_with fail
  refine (impl_IsReduced_ok _ _ word _ hn h hl hb).mono ?_
  rintro e w1 ⟨rfl, he1⟩
  rw [HI.out]
  go_wp2_with fail
  refine (impl_IsPerm_ok _ p _ (h2.ext he1)).mono ?_
  rintro e w2 ⟨rfl, he2⟩
  rw [HP.out]
  go_wp2_with fail
  rw [HSH.out]
  have he12 := he1.trans he2
  clear he1 he2
  go_loopw [34] (fun i wr => ∃ s : Nat, s ≤ P ∧ i = .int .i64 s ∧ Hid (swTo p.length word p s = false) ∧ Ext w wr) (fun i _ => P - (intOf i).toNat)
  case atStart => exact ⟨0, Nat.zero_le _, rfl, Lib.hid rfl, he12⟩
  case round =>
    obtain ⟨s, hs, rfl, hA, he⟩ := hrel
    clear he12
    by_cases hlt : s < P
    · obtain ⟨wp, hwp⟩ : ∃ wp, wp = wr := ⟨_, rfl⟩
      subst hwp
      have hr0 := Row.new 3 wp [] (by simp)
      go_wp2_with fail
      go_loopw [8, 40] (fun o i wz => ∃ k : Nat, k ≤ word.length ∧ i = .int .i64 k ∧ (∃ b c m, o = .slice (some ⟨b, 0, none⟩) m c ∧ Hid (m = (partTo word s k).length) ∧ wp.heap.size ≤ b ∧ Row 3 wz b c (vals (partTo word s k))) ∧ Ext wp wz) (fun _ i _ => word.length - (intOf i).toNat)
      case atStart => exact ⟨0, Nat.zero_le _, rfl, ⟨_, 0, 0, rfl, Lib.hid rfl, Nat.le_refl _, hr0⟩, (Ext.refl wp).alloc _⟩
      case round =>
        obtain ⟨k, hk, rfl, ⟨b, c, m, rfl, hm, hbb, hr⟩, hez⟩ := hrel
        clear hr0
        by_cases hkl : k < word.length
        · obtain ⟨b1, off1, rfl, hc⟩ := (hri.ext (he.trans hez)).get hkl
          have hck := hc k hkl
          have hpl := partTo_len word s k
          have hzz := hez.size
          clear hc hri
          cases hbit : bitB s k
          · have hst := Lib.hid (partTo_f (word := word) hbit)
            have hb2 : (bits .and .i64 ((s : Int) / 2 ^ k) 1 == 1) = false := hbit
            clear hbit
            go_wp2_with fail
            go_roundw
            case rel => exact ⟨k + 1, by omega, by go_num, ⟨b, c, m, rfl, Lib.hid (by rw [hst.out]; exact hm.out), hbb, by rw [hst.out]; exact hr⟩, hez⟩
            case measure => simp [intOf]; omega
          · have hst := Lib.hid (partTo_t (word := word) hbit)
            have hb2 : (bits .and .i64 ((s : Int) / 2 ^ k) 1 == 1) = true := hbit
            clear hbit
            go_wp2_with (at_builtin; refine wpl_app1 rfl _ _ rfl b c m (partTo word s k) (nth word k) rfl hr hm.out rfl (by omega) ?_; intro b6 c6 w6 h3 h4 h5)
            go_roundw
            case rel => exact ⟨k + 1, by omega, by go_num, ⟨b6, c6, m + 1, rfl, Lib.hid (by rw [hst.out]; simp [hm.out]), by omega, by rw [hst.out]; exact h3⟩, hez.upd1 h5 hbb⟩
            case measure => simp [intOf]; omega
        · obtain rfl : k = word.length := by omega
          have hsi := hr.si
          rw [← hm.out] at hsi
          have HSI := Lib.hid hsi
          have hpl := partTo_len word s word.length
          have hpm : Hid (∀ i ∈ partTo word s word.length, 1 ≤ i ∧ i < (p.length : Int)) := by
            show ∀ i ∈ _, _
            exact fun i hi => HOK.out i (partTo_mem (Nat.le_refl _) hi)
          have hwl := Lib.hid (wRun_len p.length (partTo word s word.length))
          have hE := he.trans hez
          have h2z := h2.ext hE
          clear hr hsi
          go_wp2_with fail
          refine (wordPerm_ok p.length _ (partTo word s word.length) _ hp8 HSI.out (by omega) hpm.out).mono ?_
          rintro e w4 ⟨b4, c4, rfl, hb4, hr4, he4⟩
          have hs4 := hr4.si
          rw [hwl.out] at hs4
          have HS4 := Lib.hid hs4
          clear hr4 hs4
          by_cases heq : wRun p.length (partTo word s word.length) = p
          · have hyes : Hid (swTo p.length word p P = true) := by show _ = _; exact swTo_hit hlt heq
            have hde := Lib.hid (decide_eq_true heq)
            clear heq
            go_wp2_with fail
            refine (slicesEqual_ok _ _ (wRun p.length (partTo word s word.length)) p _ HS4.out (h2z.ext he4) (by rw [hwl.out]; omega)).mono ?_
            rintro e w5 ⟨rfl, hq5⟩
            rw [hde.out]
            go_wp2_with fail
            go_ret
            exact ⟨by rw [e0.out, hyes.out]; rfl, (hE.trans he4).trans hq5.ext⟩
          · have hno : Hid (swTo p.length word p (s + 1) = false) := by show _ = _; rw [swTo_succ, hA.out, decide_eq_false heq]; rfl
            have hde := Lib.hid (decide_eq_false heq)
            clear heq
            go_wp2_with fail
            refine (slicesEqual_ok _ _ (wRun p.length (partTo word s word.length)) p _ HS4.out (h2z.ext he4) (by rw [hwl.out]; omega)).mono ?_
            rintro e w5 ⟨rfl, hq5⟩
            rw [hde.out]
            go_wp2_with fail
            go_roundw
            case rel => exact ⟨s + 1, by omega, by go_num, hno, (hE.trans he4).trans hq5.ext⟩
            case measure => simp [intOf]; omega
    · have hfin : Hid (swTo p.length word p P = false) := by show _ = _; rw [← hA.out]; congr 1; omega
      go_wp2_with fail
      go_ret
      exact ⟨by rw [e0.out, hfin.out]; rfl, he⟩
set_option maxHeartbeats 2000000 in
theorem spec_SubwordBelow_ok (n : Int) (v : Value) (word : List Int) (v2 : Value) (p : List Int) (w : World) (hn : I64 n) (h : SI w v word) (hl : word.length ≤ 1048576) (hb : I64s word) (h2 : SI w v2 p) (hl2 : p.length ≤ 1048576) (_hb2 : I64s p) :
    Calls Try.prog 53 #[.int .i64 n, v, v2] w fun e w' => e = .returned (.bool (subB n word p)) ∧ Ext w w' := by
  obtain ⟨a, cap, rfl, hri⟩ := h.elim
  obtain ⟨a2, cap2, rfl, -⟩ := h2.elim
  cases hir : irB n word
  · have HI := Lib.hid hir
    have e0 : Hid (subB n word p = false) := by show _ = _; unfold subB; rw [hir]; simp
    clear hir
    go_enter Try.func53, Try.ntmps53
    go_wp2_with (go_at_call 33; refine (spec_IsReduced_ok n _ word _ hn h hl hb).mono ?_; rintro e w1 ⟨rfl, he1⟩; rw [HI.out])
    go_ret
    exact ⟨by rw [e0.out]; rfl, he1⟩
  have HI := Lib.hid hir
  cases hp : isP8 p
  · have HP := Lib.hid hp
    have e0 : Hid (subB n word p = false) := by show _ = _; unfold subB; rw [hp]; simp
    clear hir hp
    go_enter Try.func53, Try.ntmps53
    go_wp2_with fail
    refine (spec_IsReduced_ok n _ word _ hn h hl hb).mono ?_
    rintro e w1 ⟨rfl, he1⟩
    rw [HI.out]
    go_wp2_with fail
    refine (spec_IsPerm_qt _ p _ (h2.ext he1) (by omega)).mono ?_
    rintro e w2 ⟨rfl, hq2⟩
    have he2 : Ext w1 w2 := hq2.ext
    rw [HP.out]
    go_wp2_with fail
    go_ret
    exact ⟨by rw [e0.out]; rfl, he1.trans he2⟩
  have HP := Lib.hid hp
  by_cases hlen : ¬ (p.length : Int) = n
  · have e0 : Hid (subB n word p = false) := by show _ = _; unfold subB; rw [decide_eq_false hlen]; simp
    have hl1 : ((p.length : Int) != n) = true := by simp; omega
    clear hir hp hlen
    go_enter Try.func53, Try.ntmps53
    go_wp2_with fail
    refine (spec_IsReduced_ok n _ word _ hn h hl hb).mono ?_
    rintro e w1 ⟨rfl, he1⟩
    rw [HI.out]
    go_wp2_with fail
    refine (spec_IsPerm_qt _ p _ (h2.ext he1) (by omega)).mono ?_
    rintro e w2 ⟨rfl, hq2⟩
    have he2 : Ext w1 w2 := hq2.ext
    rw [HP.out]
    go_wp2_with fail
    go_ret
    exact ⟨by rw [e0.out]; rfl, he1.trans he2⟩
  have hlen' : (p.length : Int) = n := by omega
  clear hlen
  subst hlen'
  have hl1 : ((p.length : Int) != (p.length : Int)) = false := by simp
  by_cases h12 : 12 < word.length
  · have e0 : Hid (subB (p.length : Int) word p = false) := by show _ = _; unfold subB; rw [decide_eq_false (by omega)]; rfl
    clear hir hp
    go_enter Try.func53, Try.ntmps53
    go_wp2_with fail
    refine (spec_IsReduced_ok _ _ word _ hn h hl hb).mono ?_
    rintro e w1 ⟨rfl, he1⟩
    rw [HI.out]
    go_wp2_with fail
    refine (spec_IsPerm_qt _ p _ (h2.ext he1) (by omega)).mono ?_
    rintro e w2 ⟨rfl, hq2⟩
    have he2 : Ext w1 w2 := hq2.ext
    rw [HP.out]
    go_wp2_with fail
    go_ret
    exact ⟨by rw [e0.out]; rfl, he1.trans he2⟩
  have hd12 : Hid (decide (word.length ≤ 12) = true) := by show _ = _; exact decide_eq_true (by omega)
  have hwk : wokB (p.length : Int) word = true := by unfold irB at hir; cases hh : wokB (p.length : Int) word <;> simp [hh] at hir ⊢
  have hp8 : p.length ≤ 8 := (isP8_iff.1 hp).1
  have HOK := Lib.hid (wok_true hwk).2.2.2
  have e0 : Hid (subB (p.length : Int) word p = swTo p.length word p (2 ^ word.length)) := by show _ = _; unfold subB; rw [hd12.out, hir, hp, decide_eq_true rfl]; simp
  have hsh := shl_one word.length (by omega)
  obtain ⟨P, hP⟩ : ∃ P, P = 2 ^ word.length := ⟨_, rfl⟩
  have hP2 : P ≤ 4096 := by rw [hP]; exact Nat.pow_le_pow_right (n := 2) (by omega) (by omega : word.length ≤ 12)
  rw [← hP] at hsh e0
  have HSH := Lib.hid hsh
  clear hir hp hwk hP hsh
  go_enter Try.func53, Try.ntmps53
  go_wp2_with fail
  refine (spec_IsReduced_ok _ _ word _ hn h hl hb).mono ?_
  rintro e w1 ⟨rfl, he1⟩
  rw [HI.out]
  go_wp2_with fail
  refine (spec_IsPerm_qt _ p _ (h2.ext he1) (by omega)).mono ?_
  rintro e w2 ⟨rfl, hq2⟩
  have he2 : Ext w1 w2 := hq2.ext
  rw [HP.out]
  go_wp2_with fail
  have he12 := he1.trans he2
  clear he1 he2
  go_loopw [7] (fun i wr => ∃ s : Nat, s ≤ P ∧ i = .int .i64 s ∧ Hid (swTo p.length word p s = false) ∧ Ext w wr) (fun i _ => P - (intOf i).toNat)
  case atStart => exact ⟨0, Nat.zero_le _, rfl, Lib.hid rfl, he12⟩
  case round =>
    obtain ⟨s, hs, rfl, hA, he⟩ := hrel
    clear he12
    by_cases hlt : s < P
    · obtain ⟨wp, hwp⟩ : ∃ wp, wp = wr := ⟨_, rfl⟩
      subst hwp
      have hr0 := Row.new 3 wp [] (by simp)
      have hsp : (s : Int) < wrap64 ((2 : Int) ^ word.length) := by rw [HSH.out]; omega
      go_wp2_with fail
      clear hsp
      go_loopw [8, 9] (fun o i wz => ∃ k : Nat, k ≤ word.length ∧ i = .int .i64 k ∧ (∃ b c m, o = .slice (some ⟨b, 0, none⟩) m c ∧ Hid (m = (partTo word s k).length) ∧ wp.heap.size ≤ b ∧ Row 3 wz b c (vals (partTo word s k))) ∧ Ext wp wz) (fun _ i _ => word.length - (intOf i).toNat)
      case atStart => exact ⟨0, Nat.zero_le _, rfl, ⟨_, 0, 0, rfl, Lib.hid rfl, Nat.le_refl _, hr0⟩, (Ext.refl wp).alloc _⟩
      case round =>
        obtain ⟨k, hk, rfl, ⟨b, c, m, rfl, hm, hbb, hr⟩, hez⟩ := hrel
        clear hr0
        by_cases hkl : k < word.length
        · obtain ⟨b1, off1, rfl, hc⟩ := (hri.ext (he.trans hez)).get hkl
          have hck := hc k hkl
          have hpl := partTo_len word s k
          have hzz := hez.size
          clear hc hri
          cases hbit : bitB s k
          · have hst := Lib.hid (partTo_f (word := word) hbit)
            have hb2 : (bits .and .i64 ((s : Int) / 2 ^ k) 1 == 1) = false := hbit
            clear hbit
            go_wp2_with fail
            go_roundw
            case rel => exact ⟨k + 1, by omega, by go_num, ⟨b, c, m, rfl, Lib.hid (by rw [hst.out]; exact hm.out), hbb, by rw [hst.out]; exact hr⟩, hez⟩
            case measure => simp [intOf]; omega
          · have hst := Lib.hid (partTo_t (word := word) hbit)
            have hb2 : (bits .and .i64 ((s : Int) / 2 ^ k) 1 == 1) = true := hbit
            clear hbit
            go_wp2_with (at_builtin; refine wpl_app1 rfl _ _ rfl b c m (partTo word s k) (nth word k) rfl hr hm.out rfl (by omega) ?_; intro b6 c6 w6 h3 h4 h5)
            go_roundw
            case rel => exact ⟨k + 1, by omega, by go_num, ⟨b6, c6, m + 1, rfl, Lib.hid (by rw [hst.out]; simp [hm.out]), by omega, by rw [hst.out]; exact h3⟩, hez.upd1 h5 hbb⟩
            case measure => simp [intOf]; omega
        · obtain rfl : k = word.length := by omega
          have hsi := hr.si
          rw [← hm.out] at hsi
          have HSI := Lib.hid hsi
          have hpl := partTo_len word s word.length
          have hpm : Hid (∀ i ∈ partTo word s word.length, 1 ≤ i ∧ i < (p.length : Int)) := by
            show ∀ i ∈ _, _
            exact fun i hi => HOK.out i (partTo_mem (Nat.le_refl _) hi)
          have hwl := Lib.hid (wRun_len p.length (partTo word s word.length))
          have hE := he.trans hez
          have h2z := h2.ext hE
          clear hr hsi
          go_wp2_with fail
          refine (l27Run_ok p.length _ (partTo word s word.length) _ hp8 HSI.out (by omega) hpm.out).mono ?_
          rintro e w4 ⟨b4, c4, rfl, hb4, hr4, he4⟩
          have hs4 := hr4.si
          rw [hwl.out] at hs4
          have HS4 := Lib.hid hs4
          clear hr4 hs4
          by_cases heq : wRun p.length (partTo word s word.length) = p
          · have hyes : Hid (swTo p.length word p P = true) := by show _ = _; exact swTo_hit hlt heq
            have hde := Lib.hid (decide_eq_true heq)
            clear heq
            go_wp2_with fail
            refine (l2Same_ok _ _ (wRun p.length (partTo word s word.length)) p _ HS4.out (h2z.ext he4) (by rw [hwl.out]; omega)).mono ?_
            rintro e w5 ⟨rfl, hq5⟩
            rw [hde.out]
            go_wp2_with fail
            go_ret
            exact ⟨by rw [e0.out, hyes.out]; rfl, (hE.trans he4).trans hq5.ext⟩
          · have hno : Hid (swTo p.length word p (s + 1) = false) := by show _ = _; rw [swTo_succ, hA.out, decide_eq_false heq]; rfl
            have hde := Lib.hid (decide_eq_false heq)
            clear heq
            go_wp2_with fail
            refine (l2Same_ok _ _ (wRun p.length (partTo word s word.length)) p _ HS4.out (h2z.ext he4) (by rw [hwl.out]; omega)).mono ?_
            rintro e w5 ⟨rfl, hq5⟩
            rw [hde.out]
            go_wp2_with fail
            go_roundw
            case rel => exact ⟨s + 1, by omega, by go_num, hno, (hE.trans he4).trans hq5.ext⟩
            case measure => simp [intOf]; omega
    · have hfin : Hid (swTo p.length word p P = false) := by show _ = _; rw [← hA.out]; congr 1; omega
      have hsp : ¬ (s : Int) < wrap64 ((2 : Int) ^ word.length) := by rw [HSH.out]; omega
      go_wp2_with fail
      clear hsp
      go_ret
      exact ⟨by rw [e0.out, hfin.out]; rfl, he⟩
end Go.Proofs.Ytmnbdphfoonleaa
