/- Contracts of WeakBelow, the program's and the reference's, and of the inverse of a permutation. Conditions: lengths below a bound. -/
import Derived.Test.YtmnbdphfoonleaaBd
import Derived.Test.YtmnbdphfoonleaaBase2
import Derived.Test.YtmnbdphfoonleaaSort
namespace Go.Proofs.Ytmnbdphfoonleaa
open Go.RowKit

def invTo (xs : List Int) : Nat → List Int
  | 0 => List.replicate xs.length 0
  | k + 1 => (invTo xs k).set (nth xs k - 1).toNat ((k : Int) + 1)
def invLs (xs : List Int) : List Int := invTo xs xs.length
theorem invTo_len (xs : List Int) (k : Nat) : (invTo xs k).length = xs.length := by
  induction k with
  | zero => simp [invTo]
  | succ k ih => simp [invTo, ih]
theorem invLs_len (xs : List Int) : (invLs xs).length = xs.length := invTo_len _ _

def badB (p A : List Int) (i j : Nat) : Bool := decide (nth p j < nth p i ∧ nth A (nth p j - 1).toNat < nth A (nth p i - 1).toNat)
def wbelB (p A : List Int) : Bool := (List.range p.length).all fun j => (List.range j).all fun i => !badB p A i j
def weakB (p q : List Int) : Bool := isP8 p && (isP8 q && (decide (p.length = q.length) && wbelB p (invLs q)))
theorem wbel_true {p A : List Int} (h : ∀ i j, i < j → j < p.length → badB p A i j = false) : wbelB p A = true := by
  simp only [wbelB, List.all_eq_true, List.mem_range]
  intro j hj i hi
  rw [h i j hi hj]; rfl
theorem wbel_false {p A : List Int} {i j : Nat} (hi : i < j) (hj : j < p.length) (h : badB p A i j = true) : wbelB p A = false := by
  rw [Bool.eq_false_iff]; intro hh
  simp only [wbelB, List.all_eq_true, List.mem_range] at hh
  have := hh j hj i hi
  rw [h] at this; simp at this

set_option maxHeartbeats 1000000 in
theorem impl_inverse_ok (v : Value) (xs : List Int) (w : World) (h : SI w v xs) (hl : xs.length ≤ 1000) (hp : IsP xs) :
    Calls Try.prog 85 #[v] w fun e w' => ∃ b c, e = .returned (.slice (some ⟨b, 0, none⟩) xs.length c) ∧ w.heap.size ≤ b ∧ Row 3 w' b c (vals (invLs xs)) ∧ Ext w w' := by
  obtain ⟨a, cap, rfl, hri⟩ := h.elim
  have HP := Lib.hid hp
  clear h hp
  go_enter Try.func85, Try.ntmps85
  go_wp2_with (at_make; refine wpl_make_int rfl _ _ rfl xs.length _ _ _ _ rfl rfl rfl rfl (by omega) ?_; intro w1 hr0 he1 hs1)
  go_loopw [11] (fun i wr => ∃ k : Nat, k ≤ xs.length ∧ i = .int .i64 k ∧ Row 3 wr w.heap.size xs.length (vals (invTo xs k)) ∧ Ext w wr) (fun i _ => xs.length - (intOf i).toNat)
  case atStart => exact ⟨0, by omega, rfl, hr0, he1⟩
  case round =>
    obtain ⟨k, hk, rfl, hr, he⟩ := hrel
    clear hr0 he1 hs1
    by_cases hlt : k < xs.length
    · obtain ⟨b, off, rfl, hc⟩ := (hri.ext he).get hlt
      have hck := hc k hlt
      have hb := HP.out.1 _ (nth_mem hlt)
      obtain ⟨q, hq⟩ : ∃ q : Nat, nth xs k = (q : Int) + 1 := ⟨(nth xs k - 1).toNat, by omega⟩
      have hst : invTo xs (k + 1) = (invTo xs k).set q ((k : Int) + 1) := by simp only [invTo]; rw [hq]; congr 1; omega
      rw [hq] at hck hb
      have hold := hr.icell (j := q) (by rw [invTo_len]; omega)
      have hf := hr.free q none
      have hset := hr.set q (.int .i64 ((k : Int) + 1))
      rw [vals_set, ← hst] at hset
      have he2 := he.setCell (p := ⟨w.heap.size, q, none⟩) (Nat.le_refl _) (.int .i64 ((k : Int) + 1))
      have HS := Lib.hid hset
      have hql : (q : Int) < (xs.length : Int) := by omega
      clear hr hset hst hq hc hri
      go_wp2_with fail
      go_roundw
      case rel => exact ⟨k + 1, by omega, by go_num, HS.out, he2⟩
      case measure => simp [intOf]; omega
    · obtain rfl : k = xs.length := by omega
      go_wp2_with fail
      go_ret
      exact ⟨_, _, rfl, Nat.le_refl _, hr, he⟩
set_option maxHeartbeats 1000000 in
theorem l2Inverse_ok (v : Value) (xs : List Int) (w : World) (h : SI w v xs) (hl : xs.length ≤ 1000) (hp : IsP xs) :
    Calls Try.prog 86 #[v] w fun e w' => ∃ b c, e = .returned (.slice (some ⟨b, 0, none⟩) xs.length c) ∧ w.heap.size ≤ b ∧ Row 3 w' b c (vals (invLs xs)) ∧ Ext w w' := by
  obtain ⟨a, cap, rfl, hri⟩ := h.elim
  have HP := Lib.hid hp
  clear h hp
  go_enter Try.func86, Try.ntmps86
  go_wp2_with (at_make; refine wpl_make_int rfl _ _ rfl xs.length _ _ _ _ rfl rfl rfl rfl (by omega) ?_; intro w1 hr0 he1 hs1)
  go_loopw [4] (fun i wr => ∃ k : Nat, k ≤ xs.length ∧ i = .int .i64 k ∧ Row 3 wr w.heap.size xs.length (vals (invTo xs k)) ∧ Ext w wr) (fun i _ => xs.length - (intOf i).toNat)
  case atStart => exact ⟨0, by omega, rfl, hr0, he1⟩
  case round =>
    obtain ⟨k, hk, rfl, hr, he⟩ := hrel
    clear hr0 he1 hs1
    by_cases hlt : k < xs.length
    · obtain ⟨b, off, rfl, hc⟩ := (hri.ext he).get hlt
      have hck := hc k hlt
      have hb := HP.out.1 _ (nth_mem hlt)
      obtain ⟨q, hq⟩ : ∃ q : Nat, nth xs k = (q : Int) + 1 := ⟨(nth xs k - 1).toNat, by omega⟩
      have hst : invTo xs (k + 1) = (invTo xs k).set q ((k : Int) + 1) := by simp only [invTo]; rw [hq]; congr 1; omega
      rw [hq] at hck hb
      have hold := hr.icell (j := q) (by rw [invTo_len]; omega)
      have hf := hr.free q none
      have hset := hr.set q (.int .i64 ((k : Int) + 1))
      rw [vals_set, ← hst] at hset
      have he2 := he.setCell (p := ⟨w.heap.size, q, none⟩) (Nat.le_refl _) (.int .i64 ((k : Int) + 1))
      have HS := Lib.hid hset
      have hql : (q : Int) < (xs.length : Int) := by omega
      clear hr hset hst hq hc hri
      go_wp2_with fail
      go_roundw
      case rel => exact ⟨k + 1, by omega, by go_num, HS.out, he2⟩
      case measure => simp [intOf]; omega
    · obtain rfl : k = xs.length := by omega
      go_wp2_with fail
      go_ret
      exact ⟨_, _, rfl, Nat.le_refl _, hr, he⟩
theorem RI.suf {w : World} {b off : Nat} {xs : List Int} (k : Nat) (hc : ∀ i, i < xs.length → w.cell? ⟨b, off + i, none⟩ = some (.int .i64 (nth xs i))) : ∀ i, i < xs.length - k → w.cell? ⟨b, off + k + i, none⟩ = some (.int .i64 (nth xs (k + i))) := fun i hi => by
  have := hc (k + i) (by omega)
  rwa [← Nat.add_assoc] at this
theorem bad_of {p A : List Int} {i j : Nat} {y z : Nat} {s t : Int} (hi : nth p i = (y : Int) + 1) (hj : nth p j = (z : Int) + 1) (hs : s = nth A y) (ht : t = nth A z) : badB p A i j = decide ((z : Int) < y ∧ t < s) := by
  unfold badB
  rw [hi, hj, hs, ht, show ((y : Int) + 1 - 1).toNat = y by omega, show ((z : Int) + 1 - 1).toNat = z by omega]
  congr 1
  rw [eq_iff_iff]; omega
set_option maxHeartbeats 2000000 in
theorem spec_WeakBelow_ok (v : Value) (p : List Int) (v2 : Value) (q : List Int) (w : World) (h : SI w v p) (hl : p.length ≤ 1048576) (_hb : I64s p) (h2 : SI w v2 q) (hl2 : q.length ≤ 1048576) (_hb2 : I64s q) :
    Calls Try.prog 30 #[v, v2] w fun e w' => e = .returned (.bool (weakB p q)) ∧ Ext w w' := by
  obtain ⟨a, cap, rfl, hri⟩ := h.elim
  obtain ⟨a2, cap2, rfl, -⟩ := h2.elim
  cases hp : isP8 p
  · have hP := Lib.hid hp
    have e0 : Hid (weakB p q = false) := by show _ = _; simp [weakB, hp]
    clear hp
    go_enter Try.func30, Try.ntmps30
    go_wp2_with (go_at_call 82; refine (spec_IsPerm_qt _ p _ h (by omega)).mono ?_; rintro e w1 ⟨rfl, hq⟩; rw [hP.out])
    go_ret
    exact ⟨by rw [e0.out]; rfl, hq.ext⟩
  · have hP := Lib.hid hp
    cases hqq : isP8 q
    · have hQ := Lib.hid hqq
      have e0 : Hid (weakB p q = false) := by show _ = _; simp [weakB, hqq]
      clear hp hqq
      go_enter Try.func30, Try.ntmps30
      go_wp2_with fail
      refine (spec_IsPerm_qt _ p _ h (by omega)).mono ?_
      rintro e w1 ⟨rfl, hq1⟩
      rw [hP.out]
      go_wp2_with fail
      refine (spec_IsPerm_qt _ q _ (h2.ext hq1.ext) (by omega)).mono ?_
      rintro e w2 ⟨rfl, hq2⟩
      rw [hQ.out]
      go_wp2_with fail
      go_ret
      exact ⟨by rw [e0.out]; rfl, (hq1.trans hq2).ext⟩
    · have hQ := Lib.hid hqq
      have h8 : p.length ≤ 8 := (isP8_iff.1 hp).1
      by_cases hlen : p.length = q.length
      · have e0 : Hid (weakB p q = wbelB p (invLs q)) := by show _ = _; simp [weakB, hp, hqq, hlen]
        have HL := Lib.hid hlen
        have HPP := Lib.hid (isP8_iff.1 hp).2
        have HQP := Lib.hid (isP8_iff.1 hqq).2
        rw [← hlen] at h2 ⊢
        have hl1 : ((p.length : Int) != (p.length : Int)) = false := by simp
        clear hp hqq hlen
        go_enter Try.func30, Try.ntmps30
        go_wp2_with fail
        refine (spec_IsPerm_qt _ p _ h (by omega)).mono ?_
        rintro e w1 ⟨rfl, hq1⟩
        rw [hP.out]
        go_wp2_with fail
        have h2' : SI w1 (.slice a2 p.length cap2) q := h2.ext hq1.ext
        refine (spec_IsPerm_qt _ q _ h2' (by omega)).mono ?_
        rintro e w2 ⟨rfl, hq2⟩
        rw [hQ.out]
        go_wp2_with fail
        refine (l2Inverse_ok _ q _ (h2'.ext hq2.ext) (by have := HL.out; omega) HQP.out).mono ?_
        rintro e w3 ⟨b3, c3, rfl, hb3, hr3, he3⟩
        rw [← HL.out]
        have he : Ext w w3 := (show Ext w w2 from (hq1.trans hq2).ext).trans he3
        have hil := Lib.hid (invLs_len q)
        clear hq1 hq2 h2' h h2 he3
        go_wp2_with fail
        go_loopw [6] (fun i wr => ∃ k : Nat, k ≤ p.length ∧ i = .int .i64 k ∧ Hid (∀ i j, i < j → j < k → badB p (invLs q) i j = false) ∧ Qt w3 wr) (fun i _ => p.length - (intOf i).toNat)
        case atStart => exact ⟨0, Nat.zero_le _, rfl, Lib.hid (fun i j _ h => by omega), Qt.refl _⟩
        case round =>
          obtain ⟨k, hk, rfl, hA, hq⟩ := hrel
          by_cases hlt : k < p.length
          · go_wp2_with fail
            go_loopw [7] (fun i wr => ∃ i0 : Nat, i0 ≤ k ∧ i = .int .i64 i0 ∧ Hid (∀ i, i < i0 → badB p (invLs q) i k = false) ∧ Qt w3 wr) (fun i _ => k - (intOf i).toNat)
            case atStart => exact ⟨0, Nat.zero_le _, rfl, Lib.hid (fun i h => by omega), hq⟩
            case round =>
              obtain ⟨i, hi, rfl, hB, hq⟩ := hrel
              by_cases hik : i < k
              · have hex : Ext w wr := he.trans hq.ext
                obtain ⟨b, off, rfl, hc⟩ := (hri.ext hex).get hlt
                have di := hc i (by omega)
                have dk := hc k hlt
                have bi := HPP.out.1 _ (nth_mem (xs := p) (k := i) (by omega))
                have bk := HPP.out.1 _ (nth_mem hlt)
                obtain ⟨y, hy⟩ : ∃ y : Nat, nth p i = (y : Int) + 1 := ⟨(nth p i - 1).toNat, by omega⟩
                obtain ⟨z, hz⟩ : ∃ z : Nat, nth p k = (z : Int) + 1 := ⟨(nth p k - 1).toNat, by omega⟩
                have hrw := hr3.ext hq.ext
                have cy := hrw.icell (j := y) (by rw [hil.out]; have := HL.out; omega)
                have cz := hrw.icell (j := z) (by rw [hil.out]; have := HL.out; omega)
                obtain ⟨s, hs⟩ : ∃ s, s = nth (invLs q) y := ⟨_, rfl⟩
                obtain ⟨t, ht⟩ : ∃ t, t = nth (invLs q) z := ⟨_, rfl⟩
                have hbd := bad_of hy hz hs ht
                rw [← hs] at cy
                rw [← ht] at cz
                rw [hy] at di bi
                rw [hz] at dk bk
                have w1 : IntKind.i64.wrap ((y : Int) + 1 - 1) = (y : Int) := by rw [IntWalk.i64_in _ (by omega)]; omega
                have w2 : IntKind.i64.wrap ((z : Int) + 1 - 1) = (z : Int) := by rw [IntWalk.i64_in _ (by omega)]; omega
                have y1 : (y : Int) < (p.length : Int) := by omega
                have z1 : (z : Int) < (p.length : Int) := by omega
                have k1 : (k : Int) < (p.length : Int) := by omega
                have i1 : (i : Int) < (p.length : Int) := by omega
                have HBD := Lib.hid hbd
                clear hc hri hrw hy hz hs ht hbd
                by_cases hzy : (z : Int) < (y : Int)
                · have hzy2 : (z : Int) + 1 < (y : Int) + 1 := by omega
                  by_cases hts : t < s
                  · have hno : Hid (wbelB p (invLs q) = false) := by
                      show _ = _
                      refine wbel_false hik hlt ?_
                      rw [HBD.out]; exact decide_eq_true ⟨hzy, hts⟩
                    go_wp2_with fail
                    go_quiet (fail)
                    clear w1 w2
                    go_wp2_with fail
                    go_ret
                    exact ⟨by rw [e0.out, hno.out]; rfl, (he.trans (hq.drewN _).ext)⟩
                  · have hyes : Hid (badB p (invLs q) i k = false) := by
                      show _ = _; rw [HBD.out]; exact decide_eq_false (fun h => hts h.2)
                    go_wp2_with fail
                    go_quiet (fail)
                    clear w1 w2
                    go_wp2_with fail
                    go_roundw
                    case rel => exact ⟨i + 1, by omega, by go_num, Lib.hid (fun j hj => by
                        by_cases e : j = i
                        · subst e; exact hyes.out
                        · exact hB.out j (by omega)), hq.drewN _⟩
                    case measure => simp [intOf]; omega
                · have hzy2 : ¬ (z : Int) + 1 < (y : Int) + 1 := by omega
                  have hdd : decide ((z : Int) + 1 < (y : Int) + 1) = false := decide_eq_false hzy2
                  have hdd2 : decide (z < y) = false := decide_eq_false (by omega)
                  have hyes : Hid (badB p (invLs q) i k = false) := by
                    show _ = _; rw [HBD.out]; exact decide_eq_false (fun h => hzy h.1)
                  go_wp2_with fail
                  go_quiet (fail)
                  clear w1 w2 hdd hdd2
                  go_wp2_with fail
                  go_roundw
                  case rel => exact ⟨i + 1, by omega, by go_num, Lib.hid (fun j hj => by
                      by_cases e : j = i
                      · subst e; exact hyes.out
                      · exact hB.out j (by omega)), hq.drewN _⟩
                  case measure => simp [intOf]; omega
              · obtain rfl : i = k := by omega
                go_wp2_with fail
                go_roundw
                case rel => exact ⟨i + 1, by omega, by go_num, Lib.hid (fun i' j h1 h2 => by
                    by_cases e : j = i
                    · subst e; exact hB.out i' h1
                    · exact hA.out i' j h1 (by omega)), hq⟩
                case measure => simp [intOf]; omega
          · have hyes : Hid (wbelB p (invLs q) = true) := by show _ = _; exact wbel_true (fun i j h1 h2 => hA.out i j h1 (by omega))
            go_wp2_with fail
            go_ret
            exact ⟨by rw [e0.out, hyes.out]; rfl, he.trans hq.ext⟩
      · have e0 : Hid (weakB p q = false) := by show _ = _; simp [weakB, hlen]
        have hl1 : ((p.length : Int) != (q.length : Int)) = true := by simp; omega
        clear hp hqq
        go_enter Try.func30, Try.ntmps30
        go_wp2_with fail
        refine (spec_IsPerm_qt _ p _ h (by omega)).mono ?_
        rintro e w1 ⟨rfl, hq1⟩
        rw [hP.out]
        go_wp2_with fail
        refine (spec_IsPerm_qt _ q _ (h2.ext hq1.ext) (by omega)).mono ?_
        rintro e w2 ⟨rfl, hq2⟩
        rw [hQ.out]
        go_wp2_with fail
        go_ret
        exact ⟨by rw [e0.out]; rfl, (hq1.trans hq2).ext⟩
set_option maxHeartbeats 2000000 in
theorem impl_WeakBelow_ok (v : Value) (p : List Int) (v2 : Value) (q : List Int) (w : World) (h : SI w v p) (hl : p.length ≤ 1048576) (_hb : I64s p) (h2 : SI w v2 q) (_hl2 : q.length ≤ 1048576) (_hb2 : I64s q) :
    Calls Try.prog 29 #[v, v2] w fun e w' => e = .returned (.bool (weakB p q)) ∧ Ext w w' := by
  have h00 := h
  obtain ⟨a, cap, rfl, hc1, hc2, -, hri⟩ := h00
  have hmx := hc2
  unfold maxLen at hmx
  obtain ⟨a2, cap2, rfl, -⟩ := h2.elim
  cases hp : isP8 p
  · have hP := Lib.hid hp
    have e0 : Hid (weakB p q = false) := by show _ = _; simp [weakB, hp]
    clear hp
    go_enter Try.func29, Try.ntmps29
    go_wp2_with (go_at_call 72; refine (impl_IsPerm_ok _ p _ h).mono ?_; rintro e w1 ⟨rfl, hq⟩; rw [hP.out])
    go_ret
    exact ⟨by rw [e0.out]; rfl, hq⟩
  · have hP := Lib.hid hp
    cases hqq : isP8 q
    · have hQ := Lib.hid hqq
      have e0 : Hid (weakB p q = false) := by show _ = _; simp [weakB, hqq]
      clear hp hqq
      go_enter Try.func29, Try.ntmps29
      go_wp2_with fail
      refine (impl_IsPerm_ok _ p _ h).mono ?_
      rintro e w1 ⟨rfl, hq1⟩
      rw [hP.out]
      go_wp2_with fail
      refine (impl_IsPerm_ok _ q _ (h2.ext hq1)).mono ?_
      rintro e w2 ⟨rfl, hq2⟩
      rw [hQ.out]
      go_wp2_with fail
      go_ret
      exact ⟨by rw [e0.out]; rfl, hq1.trans hq2⟩
    · have hQ := Lib.hid hqq
      have h8 : p.length ≤ 8 := (isP8_iff.1 hp).1
      by_cases hlen : p.length = q.length
      · have e0 : Hid (weakB p q = wbelB p (invLs q)) := by show _ = _; simp [weakB, hp, hqq, hlen]
        have HL := Lib.hid hlen
        have HPP := Lib.hid (isP8_iff.1 hp).2
        have HQP := Lib.hid (isP8_iff.1 hqq).2
        rw [← hlen] at h2 ⊢
        have hl1 : ((p.length : Int) != (p.length : Int)) = false := by simp
        clear hp hqq hlen
        go_enter Try.func29, Try.ntmps29
        go_wp2_with fail
        refine (impl_IsPerm_ok _ p _ h).mono ?_
        rintro e w1 ⟨rfl, hq1⟩
        rw [hP.out]
        go_wp2_with fail
        have h2' : SI w1 (.slice a2 p.length cap2) q := h2.ext hq1
        refine (impl_IsPerm_ok _ q _ h2').mono ?_
        rintro e w2 ⟨rfl, hq2⟩
        rw [hQ.out]
        go_wp2_with fail
        refine (impl_inverse_ok _ q _ (h2'.ext hq2) (by have := HL.out; omega) HQP.out).mono ?_
        rintro e w3 ⟨b3, c3, rfl, hb3, hr3, he3⟩
        rw [← HL.out]
        have he : Ext w w3 := (hq1.trans hq2).trans he3
        have hil := Lib.hid (invLs_len q)
        clear hq1 hq2 h2' h h2 he3
        go_wp2_with fail
        go_loopw [29] (fun i wr => ∃ k : Nat, k ≤ p.length ∧ i = .int .i64 k ∧ Hid (∀ i j, i < k → i < j → j < p.length → badB p (invLs q) i j = false) ∧ Qt w3 wr) (fun i _ => p.length - (intOf i).toNat)
        case atStart => exact ⟨0, Nat.zero_le _, rfl, Lib.hid (fun i j h _ => by omega), Qt.refl _⟩
        case round =>
          obtain ⟨k, hk, rfl, hA, hq⟩ := hrel
          by_cases hlt : k < p.length
          · have hex : Ext w wr := he.trans hq.ext
            obtain ⟨b, off, rfl, hc⟩ := (hri.ext hex).get hlt
            have dk := hc k hlt
            have hsuf := Lib.hid (fun (wz : World) (hz : Qt wr wz) => RI.suf (w := wz) (k + 1) (fun i hi => hz.ext.cell (hc i hi) id))
            have bk := HPP.out.1 _ (nth_mem hlt)
            obtain ⟨y, hy⟩ : ∃ y : Nat, nth p k = (y : Int) + 1 := ⟨(nth p k - 1).toNat, by omega⟩
            rw [hy] at dk bk
            have HY := Lib.hid hy
            have hrw := Lib.hid (hr3.ext hq.ext)
            clear hc hri hy
            by_cases hcap : cap = k + 1
            all_goals (try subst hcap)
            all_goals
              go_wp2_with fail
              go_loopw [39] (fun i wz => ∃ t : Nat, t ≤ p.length - (k + 1) ∧ i = .int .i64 t ∧ Hid (∀ j, k < j → j < k + 1 + t → badB p (invLs q) k j = false) ∧ Qt wr wz) (fun i _ => p.length - (intOf i).toNat)
              case atStart => exact ⟨0, Nat.zero_le _, rfl, Lib.hid (fun j h1 h2 => by omega), Qt.refl _⟩
              case round =>
                obtain ⟨t, ht, rfl, hB, hq2⟩ := hrel
                by_cases htl : t < p.length - (k + 1)
                · first
                    | (exfalso; omega)
                    | (have hcj := hsuf.out _ hq2 t htl
                       have hkt : k + 1 + t < p.length := by omega
                       have bj := HPP.out.1 _ (nth_mem hkt)
                       obtain ⟨z, hz⟩ : ∃ z : Nat, nth p (k + 1 + t) = (z : Int) + 1 := ⟨(nth p (k + 1 + t) - 1).toNat, by omega⟩
                       have hrz := hrw.out.ext hq2.ext
                       have cy := hrz.icell (j := y) (by rw [hil.out]; have := HL.out; omega)
                       have cz := hrz.icell (j := z) (by rw [hil.out]; have := HL.out; omega)
                       obtain ⟨s, hs⟩ : ∃ s, s = nth (invLs q) y := ⟨_, rfl⟩
                       obtain ⟨u, hu⟩ : ∃ u, u = nth (invLs q) z := ⟨_, rfl⟩
                       have hbd := bad_of HY.out hz hs hu
                       rw [← hs] at cy
                       rw [← hu] at cz
                       rw [hz] at hcj bj
                       have w1 : IntKind.i64.wrap ((y : Int) + 1 - 1) = (y : Int) := by rw [IntWalk.i64_in _ (by omega)]; omega
                       have w2 : IntKind.i64.wrap ((z : Int) + 1 - 1) = (z : Int) := by rw [IntWalk.i64_in _ (by omega)]; omega
                       have y1 : (y : Int) < (p.length : Int) := by omega
                       have z1 : (z : Int) < (p.length : Int) := by omega
                       have HBD := Lib.hid hbd
                       clear hrz hz hs hu hbd
                       by_cases hzy : (z : Int) < (y : Int)
                       · have hzy2 : (z : Int) + 1 < (y : Int) + 1 := by omega
                         by_cases hts : u < s
                         · have hno : Hid (wbelB p (invLs q) = false) := by
                             show _ = _
                             refine wbel_false (i := k) (j := k + 1 + t) (by omega) hkt ?_
                             rw [HBD.out]; exact decide_eq_true ⟨hzy, hts⟩
                           go_wp2_with fail
                           go_quiet (fail)
                           clear w1 w2
                           go_wp2_with fail
                           go_ret
                           exact ⟨by rw [e0.out, hno.out]; rfl, (he.trans ((hq.trans hq2).drewN _).ext)⟩
                         · have hyes : Hid (badB p (invLs q) k (k + 1 + t) = false) := by
                             show _ = _; rw [HBD.out]; exact decide_eq_false (fun h => hts h.2)
                           go_wp2_with fail
                           go_quiet (fail)
                           clear w1 w2
                           go_wp2_with fail
                           go_roundw
                           case rel => exact ⟨t + 1, by omega, by go_num, Lib.hid (fun j h1 h2 => by
                               by_cases e : j = k + 1 + t
                               · subst e; exact hyes.out
                               · exact hB.out j h1 (by omega)), hq2.drewN _⟩
                           case measure => simp [intOf]; omega
                       · have hzy2 : ¬ (z : Int) + 1 < (y : Int) + 1 := by omega
                         have hdd : decide ((z : Int) + 1 < (y : Int) + 1) = false := decide_eq_false hzy2
                         have hdd2 : decide (z < y) = false := decide_eq_false (by omega)
                         have hyes : Hid (badB p (invLs q) k (k + 1 + t) = false) := by
                           show _ = _; rw [HBD.out]; exact decide_eq_false (fun h => hzy h.1)
                         go_wp2_with fail
                         go_quiet (fail)
                         clear w1 w2 hdd hdd2
                         go_wp2_with fail
                         go_roundw
                         case rel => exact ⟨t + 1, by omega, by go_num, Lib.hid (fun j h1 h2 => by
                             by_cases e : j = k + 1 + t
                             · subst e; exact hyes.out
                             · exact hB.out j h1 (by omega)), hq2.drewN _⟩
                         case measure => simp [intOf]; omega)
                · have ht2 : k + 1 + t = p.length := by omega
                  have HT2 := Lib.hid ht2
                  clear ht2
                  go_wp2_with fail
                  go_roundw
                  case rel => exact ⟨k + 1, by omega, by go_num, Lib.hid (fun i j h1 h2 h3 => by
                      by_cases e : i = k
                      · subst e; exact hB.out j h2 (by have := HT2.out; omega)
                      · exact hA.out i j (by omega) h2 h3), hq.trans hq2⟩
                  case measure => simp [intOf]; omega
          · have hyes : Hid (wbelB p (invLs q) = true) := by show _ = _; exact wbel_true (fun i j h1 h2 => hA.out i j (by omega) h1 h2)
            go_wp2_with fail
            go_ret
            exact ⟨by rw [e0.out, hyes.out]; rfl, he.trans hq.ext⟩
      · have e0 : Hid (weakB p q = false) := by show _ = _; simp [weakB, hlen]
        have hl1 : ((p.length : Int) != (q.length : Int)) = true := by simp; omega
        clear hp hqq
        go_enter Try.func29, Try.ntmps29
        go_wp2_with fail
        refine (impl_IsPerm_ok _ p _ h).mono ?_
        rintro e w1 ⟨rfl, hq1⟩
        rw [hP.out]
        go_wp2_with fail
        refine (impl_IsPerm_ok _ q _ (h2.ext hq1)).mono ?_
        rintro e w2 ⟨rfl, hq2⟩
        rw [hQ.out]
        go_wp2_with fail
        go_ret
        exact ⟨by rw [e0.out]; rfl, hq1.trans hq2⟩
end Go.Proofs.Ytmnbdphfoonleaa
