/- Contracts of 'is it sorted' (Go's library), 'is it in ascending order' (both), the permutation in ascending order (both), the number of inversions (both). Conditions: lengths below a bound. -/
import Derived.Test.YtognbiodplodhaaRev
namespace Go.Proofs.Ytognbiodplodhaa
open Go.RowKit

theorem nth_ext' {xs ys : List Int} (hl : xs.length = ys.length) (h : ∀ i, i < xs.length → nth xs i = nth ys i) : xs = ys :=
  List.ext_getElem hl fun i h1 h2 => by have := h i h1; rwa [nth_get h1, nth_get h2] at this

/-! ### sorted -/
def Srt (xs : List Int) : Prop := ∀ i, i + 1 < xs.length → nth xs i ≤ nth xs (i + 1)
def srtB (xs : List Int) : Bool := (List.range xs.length).all fun i => decide (i + 1 < xs.length → nth xs i ≤ nth xs (i + 1))
theorem srtB_iff {xs : List Int} : srtB xs = true ↔ Srt xs := by
  simp only [srtB, List.all_eq_true, List.mem_range, decide_eq_true_eq, Srt]
  exact ⟨fun h i hi => h i (by omega) hi, fun h i _ hi => h i hi⟩
theorem srtB_true {xs : List Int} (h : Srt xs) : srtB xs = true := srtB_iff.2 h
theorem srtB_false {xs : List Int} (h : ¬ Srt xs) : srtB xs = false := by
  cases hh : srtB xs with
  | false => rfl
  | true => exact absurd (srtB_iff.1 hh) h

set_option maxHeartbeats 400000 in
theorem cmpLess_ok (a b : Int) (w : World) : Calls Try.prog 96 #[.int .i64 a, .int .i64 b] w fun e w' => e = .returned (.bool (decide (a < b))) ∧ Qt w w' := by
  have h1 : (a != a) = false := by simp
  have h2 : (b != b) = false := by simp
  go_enter Try.func96, Try.ntmps96
  go_wp2
  go_ret
  exact ⟨rfl, Qt.refl _⟩
set_option maxHeartbeats 1000000 in
theorem slicesIsSorted_ok (v : Value) (xs : List Int) (w : World) (h : SI w v xs) (hl : xs.length ≤ 1000000000) :
    Calls Try.prog 80 #[v] w fun e w' => e = .returned (.bool (srtB xs)) ∧ Qt w w' := by
  obtain ⟨a, cap, rfl, hri⟩ := h.elim
  clear h
  go_enter Try.func80, Try.ntmps80
  go_wp2
  go_loopw [3] (fun i wr => ∃ q : Int, i = .int .i64 q ∧ q ≤ (xs.length : Int) - 1 ∧ (0 ≤ q ∨ (q = -1 ∧ xs.length = 0)) ∧ (∀ j : Nat, q ≤ j → j + 1 < xs.length → nth xs j ≤ nth xs (j + 1)) ∧ Qt w wr) (fun i _ => (intOf i).toNat)
  case atStart => exact ⟨_, rfl, by omega, by omega, fun j h1 h2 => by omega, Qt.refl _⟩
  case round =>
    obtain ⟨q, rfl, hq1, hq2, hs, hq⟩ := hrel
    have HS := Lib.hid hs
    clear hs
    by_cases hlt : 0 < q
    · obtain ⟨m, rfl⟩ : ∃ m : Nat, q = (m : Int) := ⟨q.toNat, by omega⟩
      have hm0 : 0 < m := by omega
      have hk : m < xs.length := by omega
      obtain ⟨b, off, rfl, hc⟩ := (hri.ext hq.ext).get hk
      have hc1 := hc m hk
      have hc0 := hc (m - 1) (by omega)
      clear hc hri hq1 hq2
      have w1 : IntKind.i64.wrap ((m : Int) - 1) = (m : Int) - 1 := IntWalk.i64_in _ (by omega)
      have w2 : 0 ≤ (m : Int) - 1 := by omega
      have w3 : ((m : Int) - 1).toNat = m - 1 := by omega
      have w4 : (m : Int) - 1 < xs.length := by omega
      by_cases hle : nth xs (m - 1) ≤ nth xs m
      · have hd : decide (nth xs m < nth xs (m - 1)) = false := decide_eq_false (by omega)
        have HE := Lib.hid (fun nq => cmpLess_ok (nth xs m) (nth xs (m - 1)) (wr.drewN nq))
        have HL := Lib.hid hle
        go_wp2
        go_quiet ((go_at_call 96; exact Calls.quiet_of (HE.out _)))
        clear w1 w3
        go_wp2
        refine ⟨⟨(m : Int) - 1, rfl, by omega, by omega, fun j h1 h2 => ?_, hq.drewN _⟩, by simp [intOf]; omega⟩
        by_cases e : j + 1 = m
        · subst e; exact HL.out
        · exact HS.out j (by omega) h2
      · have hgt : nth xs m < nth xs (m - 1) := by omega
        have hd : decide (nth xs m < nth xs (m - 1)) = true := decide_eq_true hgt
        have hns : ¬ Srt xs := fun h => by have := h (m - 1) (by omega); rw [Nat.sub_add_cancel hm0] at this; omega
        have HE := Lib.hid (fun nq => cmpLess_ok (nth xs m) (nth xs (m - 1)) (wr.drewN nq))
        have HL := Lib.hid (srtB_false hns)
        clear hle hns
        go_wp2
        go_quiet ((go_at_call 96; exact Calls.quiet_of (HE.out _)))
        clear w1 w3
        go_wp2
        go_ret
        exact ⟨by rw [HL.out]; rfl, hq.drewN _⟩
    · have hyes := srtB_true (xs := xs) (fun i hi => HS.out i (by omega) hi)
      go_wp2
      go_ret
      exact ⟨rfl, hq⟩
set_option maxHeartbeats 400000 in
theorem isRising_ok (v : Value) (xs : List Int) (w : World) (h : SI w v xs) (hl : xs.length ≤ 1000000000) :
    Calls Try.prog 55 #[v] w fun e w' => e = .returned (.bool (srtB xs)) ∧ Qt w w' := by
  go_enter Try.func55, Try.ntmps55
  go_wp2_with fail
  refine (slicesIsSorted_ok _ xs _ h hl).mono ?_
  rintro e w1 ⟨rfl, hq⟩
  go_wp2_with fail
  go_ret
  exact ⟨rfl, hq⟩

/-! ### the permutation in ascending order -/
def idL (n : Nat) : List Int := (List.range n).map fun (i : Nat) => (i : Int) + 1
theorem idL_len (n : Nat) : (idL n).length = n := by simp [idL]
theorem idL_nth (n i : Nat) (h : i < n) : nth (idL n) i = i + 1 := by simp [nth, idL, h]
theorem idL_succ (n : Nat) : idL (n + 1) = idL n ++ [(n : Int) + 1] := by simp [idL, List.range_succ]
theorem idL_isP (n : Nat) : IsP (idL n) := by
  refine ⟨fun x hx => ?_, ?_⟩
  · simp only [idL, List.mem_map, List.mem_range] at hx
    obtain ⟨i, hi, rfl⟩ := hx
    rw [idL_len]; omega
  · unfold idL
    rw [List.nodup_iff_pairwise_ne, List.pairwise_map]
    exact List.Pairwise.imp (fun {a b} h e => h (by omega)) (List.nodup_iff_pairwise_ne.1 List.nodup_range)

/-- in a permutation the places of distinct numbers are distinct. -/
theorem IsP.inj {xs : List Int} (h : IsP xs) {i j : Nat} (hi : i < xs.length) (hj : j < xs.length) (e : nth xs i = nth xs j) : i = j := by
  rw [nth_get hi, nth_get hj] at e
  exact (List.getElem_inj h.2).1 e
theorem IsP.bd {xs : List Int} (h : IsP xs) {i : Nat} (hi : i < xs.length) : 1 ≤ nth xs i ∧ nth xs i ≤ xs.length := h.1 _ (nth_mem hi)
theorem Srt.lt {xs : List Int} (h : Srt xs) (hp : IsP xs) {i : Nat} (hi : i + 1 < xs.length) : nth xs i < nth xs (i + 1) := by
  have h1 := h i hi
  have h2 : nth xs i ≠ nth xs (i + 1) := fun e => by have := hp.inj (by omega) hi e; omega
  omega
theorem Srt.eq_id {xs : List Int} (h : Srt xs) (hp : IsP xs) : xs = idL xs.length := by
  have lo : ∀ i, i < xs.length → (i : Int) + 1 ≤ nth xs i := by
    intro i
    induction i with
    | zero => intro hi; have := (hp.bd hi).1; simpa using this
    | succ i ih => intro hi; have := ih (by omega); have := h.lt hp hi; omega
  have hi' : ∀ d i, i < xs.length → xs.length - 1 - i = d → nth xs i ≤ (i : Int) + 1 := by
    intro d
    induction d with
    | zero => intro i hi hd; have := (hp.bd hi).2; omega
    | succ d ih => intro i hi hd; have := ih (i + 1) (by omega) (by omega); have := h.lt hp (i := i) (by omega); omega
  refine nth_ext' (by simp [idL]) fun i hi => ?_
  rw [idL_nth _ _ hi]
  have := lo i hi
  have := hi' _ i hi rfl
  omega
theorem idL_srt (n : Nat) : Srt (idL n) := by
  intro i hi
  rw [idL_len] at hi
  rw [idL_nth n i (by omega), idL_nth n (i + 1) hi]; omega
theorem srt_iff_id {xs : List Int} (hp : IsP xs) : Srt xs ↔ xs = idL xs.length := ⟨fun h => h.eq_id hp, fun h => by rw [h]; exact idL_srt _⟩
theorem srtB_eq {xs : List Int} (hp : IsP xs) : decide (xs = idL xs.length) = srtB xs := by
  by_cases h : Srt xs
  · rw [srtB_true h]; simp; exact h.eq_id hp
  · rw [srtB_false h]; simp; exact fun e => h ((srt_iff_id hp).2 e)

set_option maxHeartbeats 400000 in
theorem identityPerm_ok (n : Nat) (w : World) (hn : n ≤ 8) :
    Calls Try.prog 60 #[.int .i64 (n : Int)] w fun e w' => ∃ b cap, e = .returned (.slice (some ⟨b, 0, none⟩) n cap) ∧ w.heap.size ≤ b ∧ Row 3 w' b cap (vals (idL n)) ∧ Ext w w' := by
  have hr0 := Row.new 3 w [] (by simp)
  go_enter Try.func60, Try.ntmps60
  go_wp2
  go_loopw [3, 4] (fun o i wr => ∃ k : Nat, k ≤ n ∧ i = .int .i64 ((k : Int) + 1) ∧ (∃ b cap, o = .slice (some ⟨b, 0, none⟩) k cap ∧ w.heap.size ≤ b ∧ Row 3 wr b cap (vals (idL k))) ∧ Ext w wr) (fun _ i _ => n + 1 - (intOf i).toNat)
  case atStart => exact ⟨0, by omega, rfl, ⟨_, 0, rfl, Nat.le_refl _, by simpa [idL] using hr0⟩, (Ext.refl w).alloc _⟩
  case round =>
    obtain ⟨k, hk, rfl, ⟨b, c, rfl, hb, hr⟩, he⟩ := hrel
    clear hr0
    by_cases hlt : k < n
    · go_wp2_with (at_builtin; refine wpl_app1 rfl _ _ rfl b c k (idL k) ((k : Int) + 1) rfl hr (idL_len k).symm rfl (by rw [idL_len]; omega) ?_; intro b' c' w' h1 h2 h3)
      rw [← idL_succ] at h1
      go_roundw
      case rel => exact ⟨k + 1, by omega, by go_num, ⟨b', c', rfl, by have := he.size; omega, h1⟩, he.upd1 h3 hb⟩
      case measure => simp [intOf]; omega
    · obtain rfl : k = n := by omega
      go_wp2
      go_ret
      exact ⟨_, _, rfl, hb, hr, he⟩
set_option maxHeartbeats 400000 in
theorem l13Straight_ok (v : Value) (xs : List Int) (w : World) (h : SI w v xs) (hl : xs.length ≤ 8) :
    Calls Try.prog 57 #[v] w fun e w' => e = .returned (.bool (decide (xs = idL xs.length))) ∧ Ext w w' := by
  have h0 := h
  obtain ⟨a, cap, rfl, hri⟩ := h0.elim
  go_enter Try.func57, Try.ntmps57
  go_wp2_with fail
  refine (identityPerm_ok xs.length _ hl).mono ?_
  rintro e w1 ⟨b, c, rfl, hb, hr, he⟩
  have hsi := hr.si
  rw [idL_len] at hsi
  go_wp2_with fail
  refine (l2Same_ok _ _ xs (idL xs.length) _ (h.ext he) hsi (by omega)).mono ?_
  rintro e w2 ⟨rfl, hq⟩
  go_wp2_with fail
  go_ret
  exact ⟨rfl, he.trans hq.ext⟩
end Go.Proofs.Ytognbiodplodhaa
