/- Contracts of StrongBelow, the program's and the reference's. Conditions: lengths below a bound. -/
import Derived.Test.YtmnbdphfoonleaaBd
import Derived.Test.YtmnbdphfoonleaaBase2
namespace Go.Proofs.Ytmnbdphfoonleaa
open Go.RowKit

/-- how many of the first i numbers are at least v. -/
def cntG (xs : List Int) (i : Nat) (v : Int) : Nat := (xs.take i).countP fun x => decide (v ≤ x)
theorem cntG_succ {xs : List Int} {k : Nat} (h : k < xs.length) (v : Int) : cntG xs (k + 1) v = cntG xs k v + if v ≤ nth xs k then 1 else 0 := by
  unfold cntG; rw [take_nth h, List.countP_append]; simp [List.countP_cons]
theorem cntG_le (xs : List Int) (i : Nat) (v : Int) : cntG xs i v ≤ i := by
  unfold cntG
  have := List.countP_le_length (p := fun x => decide (v ≤ x)) (l := xs.take i)
  simp at this; omega
def rowB (p q : List Int) (i m : Nat) : Bool := (List.range m).all fun (v : Nat) => decide (cntG p (i + 1) ((v : Int) + 1) ≤ cntG q (i + 1) ((v : Int) + 1))
def sbelTo (p q : List Int) (m : Nat) : Bool := (List.range m).all fun i => rowB p q i p.length
def sbelB (p q : List Int) : Bool := sbelTo p q p.length
def strB (p q : List Int) : Bool := isP8 p && (isP8 q && (decide (p.length = q.length) && sbelB p q))
theorem rowB_succ (p q : List Int) (i m : Nat) : rowB p q i (m + 1) = (rowB p q i m && decide (cntG p (i + 1) ((m : Int) + 1) ≤ cntG q (i + 1) ((m : Int) + 1))) := by simp [rowB, List.range_succ]
theorem sbelTo_succ (p q : List Int) (m : Nat) : sbelTo p q (m + 1) = (sbelTo p q m && rowB p q m p.length) := by simp [sbelTo, List.range_succ]
theorem rowB_false {p q : List Int} {i m n : Nat} (hm : m < n) (h : ¬ cntG p (i + 1) ((m : Int) + 1) ≤ cntG q (i + 1) ((m : Int) + 1)) : rowB p q i n = false := by
  rw [Bool.eq_false_iff]; intro hh
  have := List.all_eq_true.1 hh m (List.mem_range.2 hm)
  simp at this; omega
theorem sbel_false {p q : List Int} {i : Nat} (hi : i < p.length) (h : rowB p q i p.length = false) : sbelB p q = false := by
  rw [Bool.eq_false_iff]; intro hh
  have := List.all_eq_true.1 hh i (List.mem_range.2 hi)
  rw [h] at this; simp at this

set_option maxHeartbeats 2000000 in
theorem strongBelow_ok (v v2 : Value) (p q : List Int) (w : World) (h : SI w v p) (h2 : SI w v2 q) (h8 : p.length ≤ 8) (hpq : q.length = p.length) :
    Calls Try.prog 92 #[v, v2] w fun e w' => e = .returned (.bool (sbelB p q)) ∧ Qt w w' := by
  obtain ⟨a, cap, rfl, hri⟩ := h.elim
  obtain ⟨a2, cap2, rfl, hri2⟩ := h2.elim
  obtain ⟨n, hn⟩ : ∃ n, n = p.length := ⟨_, rfl⟩
  rw [hpq, ← hn]
  have HN := Lib.hid hn
  have HPQ := Lib.hid hpq
  have hn8 : n ≤ 8 := by omega
  clear hn hpq h h2 h8
  go_enter Try.func92, Try.ntmps92
  go_wp2_with fail
  go_loopw [11] (fun i wr => ∃ k : Nat, k ≤ n ∧ i = .int .i64 k ∧ Hid (sbelTo p q k = true) ∧ Qt w wr) (fun i _ => n - (intOf i).toNat)
  case atStart => exact ⟨0, Nat.zero_le _, rfl, Lib.hid rfl, Qt.refl _⟩
  case round =>
    obtain ⟨i, hi, rfl, hA, hq⟩ := hrel
    by_cases hlt : i < n
    · go_wp2_with fail
      go_loopw [16] (fun u wr => ∃ x : Nat, x ≤ n ∧ u = .int .i64 x ∧ Hid (rowB p q i x = true) ∧ Qt w wr) (fun u _ => n - (intOf u).toNat)
      case atStart => exact ⟨0, Nat.zero_le _, rfl, Lib.hid rfl, hq⟩
      case round =>
        obtain ⟨x, hx, rfl, hB, hq⟩ := hrel
        by_cases hxl : x < n
        · go_wp2_with fail
          go_loopw [7, 21] (fun c u wr => ∃ k : Nat, k ≤ i + 1 ∧ u = .int .i64 k ∧ (∃ m : Int, c = .int .i64 m ∧ Hid (m = (cntG p k ((x : Int) + 1) : Int) - (cntG q k ((x : Int) + 1) : Int)) ∧ -9 ≤ m ∧ m ≤ 9) ∧ Qt w wr) (fun _ u _ => i + 1 - (intOf u).toNat)
          case atStart => exact ⟨0, Nat.zero_le _, rfl, ⟨0, rfl, Lib.hid rfl, by omega, by omega⟩, hq⟩
          case round =>
            obtain ⟨k, hk, rfl, ⟨m, rfl, hm, hm1, hm2⟩, hq⟩ := hrel
            by_cases hkl : k < i + 1
            · have hkp : k < p.length := by have := HN.out; omega
              have hkq : k < q.length := by have := HN.out; have := HPQ.out; omega
              obtain ⟨b, off, rfl, hc⟩ := (hri.ext hq.ext).get hkp
              obtain ⟨b2, off2, rfl, hc2⟩ := (hri2.ext hq.ext).get hkq
              have d1 := hc k hkp
              have d2 := hc2 k hkq
              have s1 := cntG_succ hkp ((x : Int) + 1)
              have s2 := cntG_succ hkq ((x : Int) + 1)
              have l1 := cntG_le p (k + 1) ((x : Int) + 1)
              have l2 := cntG_le q (k + 1) ((x : Int) + 1)
              obtain ⟨y, hy⟩ : ∃ y, y = nth p k := ⟨_, rfl⟩
              obtain ⟨z, hz⟩ : ∃ z, z = nth q k := ⟨_, rfl⟩
              rw [← hy] at d1 s1
              rw [← hz] at d2 s2
              have hme := hm.out
              clear hc hc2 hri hri2 hy hz hkp hkq
              by_cases hyx : (x : Int) < y
              · rw [if_pos (by omega)] at s1
                by_cases hzx : (x : Int) < z
                · rw [if_pos (by omega)] at s2
                  have HS := Lib.hid (show m = (cntG p (k + 1) ((x : Int) + 1) : Int) - (cntG q (k + 1) ((x : Int) + 1) : Int) by omega)
                  clear s1 s2 l1 l2 hme
                  go_wp2_with fail
                  go_roundw
                  case rel => exact ⟨k + 1, by omega, by go_num, ⟨_, rfl, HS, by omega, by omega⟩, hq⟩
                  case measure => simp [intOf]; omega
                · rw [if_neg (by omega)] at s2
                  have hb : m + 1 ≤ 9 := by omega
                  have HS := Lib.hid (show m + 1 = (cntG p (k + 1) ((x : Int) + 1) : Int) - (cntG q (k + 1) ((x : Int) + 1) : Int) by omega)
                  clear s1 s2 l1 l2 hme
                  go_wp2_with fail
                  go_roundw
                  case rel => exact ⟨k + 1, by omega, by go_num, ⟨_, rfl, HS, by omega, by omega⟩, hq⟩
                  case measure => simp [intOf]; omega
              · rw [if_neg (by omega)] at s1
                by_cases hzx : (x : Int) < z
                · rw [if_pos (by omega)] at s2
                  have hb : -9 ≤ m - 1 := by omega
                  have HS := Lib.hid (show m - 1 = (cntG p (k + 1) ((x : Int) + 1) : Int) - (cntG q (k + 1) ((x : Int) + 1) : Int) by omega)
                  clear s1 s2 l1 l2 hme
                  go_wp2_with fail
                  go_roundw
                  case rel => exact ⟨k + 1, by omega, by go_num, ⟨_, rfl, HS, by omega, by omega⟩, hq⟩
                  case measure => simp [intOf]; omega
                · rw [if_neg (by omega)] at s2
                  have HS := Lib.hid (show m = (cntG p (k + 1) ((x : Int) + 1) : Int) - (cntG q (k + 1) ((x : Int) + 1) : Int) by omega)
                  clear s1 s2 l1 l2 hme
                  go_wp2_with fail
                  go_roundw
                  case rel => exact ⟨k + 1, by omega, by go_num, ⟨_, rfl, HS, by omega, by omega⟩, hq⟩
                  case measure => simp [intOf]; omega
            · obtain rfl : k = i + 1 := by omega
              by_cases hm0 : 0 < m
              · have hno : Hid (sbelB p q = false) := by
                  show _ = _
                  refine sbel_false (i := i) (by rw [← HN.out]; exact hlt) (rowB_false (m := x) (by rw [← HN.out]; exact hxl) ?_)
                  have := hm.out; omega
                go_wp2_with fail
                go_ret
                exact ⟨by rw [hno.out]; rfl, hq⟩
              · have hyes : Hid (rowB p q i (x + 1) = true) := by
                  show _ = _
                  have := hm.out
                  rw [rowB_succ, hB.out, decide_eq_true (by omega)]; rfl
                go_wp2_with fail
                go_roundw
                case rel => exact ⟨x + 1, by omega, by go_num, hyes, hq⟩
                case measure => simp [intOf]; omega
        · obtain rfl : x = n := by omega
          have hyes : Hid (sbelTo p q (i + 1) = true) := by
            show _ = _
            rw [sbelTo_succ, hA.out, ← HN.out, hB.out]; rfl
          go_wp2_with fail
          go_roundw
          case rel => exact ⟨i + 1, by omega, by go_num, hyes, hq⟩
          case measure => simp [intOf]; omega
    · have hyes : Hid (sbelB p q = true) := by
        show _ = _
        unfold sbelB; rw [← HN.out, ← hA.out]; congr 1; omega
      go_wp2_with fail
      go_ret
      exact ⟨by rw [hyes.out]; rfl, hq⟩
set_option maxHeartbeats 1000000 in
theorem impl_StrongBelow_ok (v : Value) (p : List Int) (v2 : Value) (q : List Int) (w : World) (h : SI w v p) (_hl : p.length ≤ 1048576) (_hb : I64s p) (h2 : SI w v2 q) (_hl2 : q.length ≤ 1048576) (_hb2 : I64s q) :
    Calls Try.prog 45 #[v, v2] w fun e w' => e = .returned (.bool (strB p q)) ∧ Ext w w' := by
  obtain ⟨a, cap, rfl, -⟩ := h.elim
  obtain ⟨a2, cap2, rfl, -⟩ := h2.elim
  cases hp : isP8 p
  · have hP := Lib.hid hp
    have e0 : Hid (strB p q = false) := by show _ = _; simp [strB, hp]
    clear hp
    go_enter Try.func45, Try.ntmps45
    go_wp2_with (go_at_call 72; refine (impl_IsPerm_ok _ p _ h).mono ?_; rintro e w1 ⟨rfl, he⟩; rw [hP.out])
    go_ret
    exact ⟨by rw [e0.out]; rfl, he⟩
  · have hP := Lib.hid hp
    cases hqq : isP8 q
    · have hQ := Lib.hid hqq
      have e0 : Hid (strB p q = false) := by show _ = _; simp [strB, hqq]
      clear hp hqq
      go_enter Try.func45, Try.ntmps45
      go_wp2_with fail
      refine (impl_IsPerm_ok _ p _ h).mono ?_
      rintro e w1 ⟨rfl, he⟩
      rw [hP.out]
      go_wp2_with fail
      refine (impl_IsPerm_ok _ q _ (h2.ext he)).mono ?_
      rintro e w2 ⟨rfl, he2⟩
      rw [hQ.out]
      go_wp2_with fail
      go_ret
      exact ⟨by rw [e0.out]; rfl, he.trans he2⟩
    · have hQ := Lib.hid hqq
      have h8 : p.length ≤ 8 := (isP8_iff.1 hp).1
      by_cases hlen : p.length = q.length
      · have e0 : Hid (strB p q = sbelB p q) := by show _ = _; simp [strB, hp, hqq, hlen]
        have HL := Lib.hid hlen
        have hl1 : ((p.length : Int) == (q.length : Int)) = true := by simp [hlen]
        clear hp hqq hlen
        go_enter Try.func45, Try.ntmps45
        go_wp2_with fail
        refine (impl_IsPerm_ok _ p _ h).mono ?_
        rintro e w1 ⟨rfl, he⟩
        rw [hP.out]
        go_wp2_with fail
        refine (impl_IsPerm_ok _ q _ (h2.ext he)).mono ?_
        rintro e w2 ⟨rfl, he2⟩
        rw [hQ.out]
        go_wp2_with fail
        refine (strongBelow_ok _ _ p q _ ((h.ext he).ext he2) ((h2.ext he).ext he2) h8 HL.out.symm).mono ?_
        rintro e w3 ⟨rfl, hq3⟩
        go_wp2_with fail
        go_ret
        exact ⟨by rw [e0.out]; rfl, (he.trans he2).trans hq3.ext⟩
      · have e0 : Hid (strB p q = false) := by show _ = _; simp [strB, hlen]
        have hl1 : ((p.length : Int) == (q.length : Int)) = false := by simp; omega
        clear hp hqq
        go_enter Try.func45, Try.ntmps45
        go_wp2_with fail
        refine (impl_IsPerm_ok _ p _ h).mono ?_
        rintro e w1 ⟨rfl, he⟩
        rw [hP.out]
        go_wp2_with fail
        refine (impl_IsPerm_ok _ q _ (h2.ext he)).mono ?_
        rintro e w2 ⟨rfl, he2⟩
        rw [hQ.out]
        go_wp2_with fail
        go_ret
        exact ⟨by rw [e0.out]; rfl, he.trans he2⟩
set_option maxHeartbeats 1000000 in
theorem l28Above_ok (v : Value) (p : List Int) (k : Nat) (y : Int) (w : World) (h : SI w v p) (hk : k ≤ p.length) (hl : p.length ≤ 1000) :
    Calls Try.prog 93 #[v, .int .i64 k, .int .i64 y] w fun e w' => e = .returned (.int .i64 (cntG p k y : Nat)) ∧ Qt w w' := by
  obtain ⟨a, cap, rfl, hri⟩ := h.elim
  clear h
  go_enter Try.func93, Try.ntmps93
  go_wp2_with fail
  go_loopw [7, 8] (fun c i wr => ∃ j : Nat, j ≤ k ∧ i = .int .i64 j ∧ (∃ m : Nat, c = .int .i64 m ∧ Hid (m = cntG p j y) ∧ m ≤ j) ∧ Qt w wr) (fun _ i _ => k - (intOf i).toNat)
  case atStart => exact ⟨0, Nat.zero_le _, rfl, ⟨0, rfl, Lib.hid rfl, Nat.le_refl _⟩, Qt.refl _⟩
  case round =>
    obtain ⟨j, hj, rfl, ⟨m, rfl, hm, hmj⟩, hq⟩ := hrel
    by_cases hlt : j < k
    · have hjp : j < p.length := by omega
      obtain ⟨b, off, rfl, hc⟩ := (hri.ext hq.ext).get hjp
      have d1 := hc j hjp
      have s1 := cntG_succ hjp y
      obtain ⟨x, hx⟩ : ∃ x, x = nth p j := ⟨_, rfl⟩
      rw [← hx] at d1 s1
      clear hc hri hx hjp
      by_cases hyx : y ≤ x
      · rw [if_pos hyx] at s1
        have HS := Lib.hid s1
        clear s1
        go_wp2_with (go_at_call 89; refine (l1Bit_t _).mono ?_; rintro e w3 ⟨rfl, hq3⟩)
        go_roundw
        case rel => exact ⟨j + 1, by omega, by go_num, ⟨m + 1, by go_num, Lib.hid (by rw [HS.out, hm.out]), by omega⟩, hq.trans hq3⟩
        case measure => simp [intOf]; omega
      · rw [if_neg hyx] at s1
        have hd : decide (y ≤ x) = false := decide_eq_false hyx
        have HS := Lib.hid s1
        clear s1
        go_wp2_with (go_at_call 89; refine (l1Bit_f _).mono ?_; rintro e w3 ⟨rfl, hq3⟩)
        go_roundw
        case rel => exact ⟨j + 1, by omega, by go_num, ⟨m, by go_num, Lib.hid (by rw [HS.out, hm.out]; rfl), by omega⟩, hq.trans hq3⟩
        case measure => simp [intOf]; omega
    · obtain rfl : j = k := by omega
      go_wp2_with fail
      go_ret
      exact ⟨by rw [← hm.out]; rfl, hq⟩
set_option maxHeartbeats 2000000 in
theorem spec_StrongBelow_ok (v : Value) (p : List Int) (v2 : Value) (q : List Int) (w : World) (h : SI w v p) (hl : p.length ≤ 1048576) (_hb : I64s p) (h2 : SI w v2 q) (hl2 : q.length ≤ 1048576) (_hb2 : I64s q) :
    Calls Try.prog 46 #[v, v2] w fun e w' => e = .returned (.bool (strB p q)) ∧ Ext w w' := by
  obtain ⟨a, cap, rfl, -⟩ := h.elim
  obtain ⟨a2, cap2, rfl, -⟩ := h2.elim
  cases hp : isP8 p
  · have hP := Lib.hid hp
    have e0 : Hid (strB p q = false) := by show _ = _; simp [strB, hp]
    clear hp
    go_enter Try.func46, Try.ntmps46
    go_wp2_with (go_at_call 82; refine (spec_IsPerm_qt _ p _ h (by omega)).mono ?_; rintro e w1 ⟨rfl, hq⟩; rw [hP.out])
    go_ret
    exact ⟨by rw [e0.out]; rfl, hq.ext⟩
  · have hP := Lib.hid hp
    cases hqq : isP8 q
    · have hQ := Lib.hid hqq
      have e0 : Hid (strB p q = false) := by show _ = _; simp [strB, hqq]
      clear hp hqq
      go_enter Try.func46, Try.ntmps46
      go_wp2_with fail
      refine (spec_IsPerm_qt _ p _ h (by omega)).mono ?_
      rintro e w1 ⟨rfl, hq1⟩
      rw [hP.out]
      go_wp2_with fail
      refine (spec_IsPerm_qt _ q _ (h2.ext hq1.ext) (by omega)).mono ?_
      rintro e w2 ⟨rfl, hq2⟩
      rw [hQ.out]
      go_wp2_with fail
      go_ret
      exact ⟨by rw [e0.out]; rfl, (hq1.trans hq2).ext⟩
    · have hQ := Lib.hid hqq
      have h8 : p.length ≤ 8 := (isP8_iff.1 hp).1
      by_cases hlen : p.length = q.length
      · have e0 : Hid (strB p q = sbelB p q) := by show _ = _; simp [strB, hp, hqq, hlen]
        have HL := Lib.hid hlen
        rw [← hlen]
        have hl1 : ((p.length : Int) != (p.length : Int)) = false := by simp
        clear hp hqq hlen
        go_enter Try.func46, Try.ntmps46
        go_wp2_with fail
        refine (spec_IsPerm_qt _ p _ h (by omega)).mono ?_
        rintro e w1 ⟨rfl, hq1⟩
        rw [hP.out]
        go_wp2_with fail
        have h2' : SI w1 (.slice a2 p.length cap2) q := by rw [HL.out]; exact h2.ext hq1.ext
        refine (spec_IsPerm_qt _ q _ h2' (by omega)).mono ?_
        rintro e w2 ⟨rfl, hq2⟩
        rw [hQ.out]
        have hs1 := Lib.hid (h.ext (hq1.trans hq2).ext)
        have hs2 := Lib.hid (h2'.ext hq2.ext)
        have hq12 : Qt w w2 := hq1.trans hq2
        clear hq1 hq2 h2' h h2
        go_wp2_with fail
        go_loopw [5] (fun i wr => ∃ k : Nat, k ≤ p.length ∧ i = .int .i64 ((k : Int) + 1) ∧ Hid (sbelTo p q k = true) ∧ Qt w2 wr) (fun i _ => p.length + 1 - (intOf i).toNat)
        case atStart => exact ⟨0, Nat.zero_le _, rfl, Lib.hid rfl, Qt.refl _⟩
        case round =>
          obtain ⟨i, hi, rfl, hA, hq⟩ := hrel
          by_cases hlt : i < p.length
          · have hli : (i : Int) + 1 ≤ (p.length : Int) := by omega
            go_wp2_with fail
            go_loopw [6] (fun u wr => ∃ x : Nat, x ≤ p.length ∧ u = .int .i64 ((x : Int) + 1) ∧ Hid (rowB p q i x = true) ∧ Qt w2 wr) (fun u _ => p.length + 1 - (intOf u).toNat)
            case atStart => exact ⟨0, Nat.zero_le _, rfl, Lib.hid rfl, hq⟩
            case round =>
              obtain ⟨x, hx, rfl, hB, hq⟩ := hrel
              by_cases hxl : x < p.length
              · have hxi : (x : Int) + 1 ≤ (p.length : Int) := by omega
                obtain ⟨m1, hm1⟩ : ∃ m1, m1 = cntG p (i + 1) ((x : Int) + 1) := ⟨_, rfl⟩
                obtain ⟨m2, hm2⟩ : ∃ m2, m2 = cntG q (i + 1) ((x : Int) + 1) := ⟨_, rfl⟩
                have HM1 := Lib.hid hm1
                have HM2 := Lib.hid hm2
                have hc1 : Hid (∀ wz, Qt w2 wz → Calls Try.prog 93 #[.slice a p.length cap, .int .i64 ((i : Int) + 1), .int .i64 ((x : Int) + 1)] wz fun e w' => e = .returned (.int .i64 (m1 : Nat)) ∧ Qt wz w') := by
                  show ∀ wz, _
                  intro wz hz
                  rw [HM1.out]
                  exact l28Above_ok _ p (i + 1) _ wz (hs1.out.ext hz.ext) (by omega) (by omega)
                have hc2 : Hid (∀ wz, Qt w2 wz → Calls Try.prog 93 #[.slice a2 p.length cap2, .int .i64 ((i : Int) + 1), .int .i64 ((x : Int) + 1)] wz fun e w' => e = .returned (.int .i64 (m2 : Nat)) ∧ Qt wz w') := by
                  show ∀ wz, _
                  intro wz hz
                  rw [HM2.out]
                  have := HL.out
                  exact l28Above_ok _ q (i + 1) _ wz (hs2.out.ext hz.ext) (by omega) (by omega)
                clear hm1 hm2
                by_cases hgt : m2 < m1
                · have hno : Hid (sbelB p q = false) := by
                    show _ = _
                    refine sbel_false (i := i) hlt (rowB_false (m := x) hxl ?_)
                    rw [← HM1.out, ← HM2.out]; omega
                  go_wp2_with fail
                  refine (hc1.out _ hq).mono ?_
                  rintro e w3 ⟨rfl, hq3⟩
                  go_wp2_with fail
                  refine (hc2.out _ (hq.trans hq3)).mono ?_
                  rintro e w4 ⟨rfl, hq4⟩
                  go_wp2_with fail
                  go_ret
                  exact ⟨by rw [e0.out, hno.out]; rfl, (hq12.trans ((hq.trans hq3).trans hq4)).ext⟩
                · have hyes : Hid (rowB p q i (x + 1) = true) := by
                    show _ = _
                    rw [rowB_succ, hB.out, decide_eq_true (by rw [← HM1.out, ← HM2.out]; omega)]; rfl
                  go_wp2_with fail
                  refine (hc1.out _ hq).mono ?_
                  rintro e w3 ⟨rfl, hq3⟩
                  go_wp2_with fail
                  refine (hc2.out _ (hq.trans hq3)).mono ?_
                  rintro e w4 ⟨rfl, hq4⟩
                  go_wp2_with fail
                  go_roundw
                  case rel => exact ⟨x + 1, by omega, by go_num, hyes, (hq.trans hq3).trans hq4⟩
                  case measure => simp [intOf]; omega
              · obtain rfl : x = p.length := by omega
                have hyes : Hid (sbelTo p q (i + 1) = true) := by
                  show _ = _
                  rw [sbelTo_succ, hA.out, hB.out]; rfl
                go_wp2_with fail
                go_roundw
                case rel => exact ⟨i + 1, by omega, by go_num, hyes, hq⟩
                case measure => simp [intOf]; omega
          · have hyes : Hid (sbelB p q = true) := by
              show _ = _
              unfold sbelB; rw [← hA.out]; congr 1; omega
            go_wp2_with fail
            go_ret
            exact ⟨by rw [e0.out, hyes.out]; rfl, (hq12.trans hq).ext⟩
      · have e0 : Hid (strB p q = false) := by show _ = _; simp [strB, hlen]
        have hl1 : ((p.length : Int) != (q.length : Int)) = true := by simp; omega
        clear hp hqq
        go_enter Try.func46, Try.ntmps46
        go_wp2_with fail
        refine (spec_IsPerm_qt _ p _ h (by omega)).mono ?_
        rintro e w1 ⟨rfl, hq1⟩
        rw [hP.out]
        go_wp2_with fail
        refine (spec_IsPerm_qt _ q _ (h2.ext hq1.ext) (by omega)).mono ?_
        rintro e w2 ⟨rfl, hq2⟩
        rw [hQ.out]
        go_wp2_with fail
        go_ret
        exact ⟨by rw [e0.out]; rfl, (hq1.trans hq2).ext⟩
end Go.Proofs.Ytmnbdphfoonleaa
