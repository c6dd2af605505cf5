/- Contracts of 'is it sorted' (Go's library), 'is it in ascending order' (both), the permutation in ascending order (both), the number of inversions (both). Conditions: lengths below a bound. -/
import Derived.Test.YtcifngcmdiokpaaRev
namespace Go.Proofs.Ytcifngcmdiokpaa
open Go.RowKit

theorem nth_ext' {xs ys : List Int} (hl : xs.length = ys.length) (h : ∀ i, i < xs.length → nth xs i = nth ys i) : xs = ys :=
  List.ext_getElem hl fun i h1 h2 => by have := h i h1; rwa [nth_get h1, nth_get h2] at this

/-! ### sorted -/
def Srt (xs : List Int) : Prop := ∀ i, i + 1 < xs.length → nth xs i ≤ nth xs (i + 1)
def srtB (xs : List Int) : Bool := (List.range xs.length).all fun i => decide (i + 1 < xs.length → nth xs i ≤ nth xs (i + 1))
theorem srtB_iff {xs : List Int} : srtB xs = true ↔ Srt xs := by
  simp only [srtB, List.all_eq_true, List.mem_range, decide_eq_true_eq, Srt]
  exact ⟨fun h i hi => h i (by omega) hi, fun h i _ hi => h i hi⟩
theorem srtB_true {xs : List Int} (h : Srt xs) : srtB xs = true := srtB_iff.2 h
theorem srtB_false {xs : List Int} (h : ¬ Srt xs) : srtB xs = false := by
  cases hh : srtB xs with
  | false => rfl
  | true => exact absurd (srtB_iff.1 hh) h


/-! ### the permutation in ascending order -/
def idL (n : Nat) : List Int := (List.range n).map fun (i : Nat) => (i : Int) + 1
theorem idL_len (n : Nat) : (idL n).length = n := by simp [idL]
theorem idL_nth (n i : Nat) (h : i < n) : nth (idL n) i = i + 1 := by simp [nth, idL, h]
theorem idL_succ (n : Nat) : idL (n + 1) = idL n ++ [(n : Int) + 1] := by simp [idL, List.range_succ]
theorem idL_isP (n : Nat) : IsP (idL n) := by
  refine ⟨fun x hx => ?_, ?_⟩
  · simp only [idL, List.mem_map, List.mem_range] at hx
    obtain ⟨i, hi, rfl⟩ := hx
    rw [idL_len]; omega
  · unfold idL
    rw [List.nodup_iff_pairwise_ne, List.pairwise_map]
    exact List.Pairwise.imp (fun {a b} h e => h (by omega)) (List.nodup_iff_pairwise_ne.1 List.nodup_range)

/-- in a permutation the places of distinct numbers are distinct. -/
theorem IsP.inj {xs : List Int} (h : IsP xs) {i j : Nat} (hi : i < xs.length) (hj : j < xs.length) (e : nth xs i = nth xs j) : i = j := by
  rw [nth_get hi, nth_get hj] at e
  exact (List.getElem_inj h.2).1 e
theorem IsP.bd {xs : List Int} (h : IsP xs) {i : Nat} (hi : i < xs.length) : 1 ≤ nth xs i ∧ nth xs i ≤ xs.length := h.1 _ (nth_mem hi)
theorem Srt.lt {xs : List Int} (h : Srt xs) (hp : IsP xs) {i : Nat} (hi : i + 1 < xs.length) : nth xs i < nth xs (i + 1) := by
  have h1 := h i hi
  have h2 : nth xs i ≠ nth xs (i + 1) := fun e => by have := hp.inj (by omega) hi e; omega
  omega
theorem Srt.eq_id {xs : List Int} (h : Srt xs) (hp : IsP xs) : xs = idL xs.length := by
  have lo : ∀ i, i < xs.length → (i : Int) + 1 ≤ nth xs i := by
    intro i
    induction i with
    | zero => intro hi; have := (hp.bd hi).1; simpa using this
    | succ i ih => intro hi; have := ih (by omega); have := h.lt hp hi; omega
  have hi' : ∀ d i, i < xs.length → xs.length - 1 - i = d → nth xs i ≤ (i : Int) + 1 := by
    intro d
    induction d with
    | zero => intro i hi hd; have := (hp.bd hi).2; omega
    | succ d ih => intro i hi hd; have := ih (i + 1) (by omega) (by omega); have := h.lt hp (i := i) (by omega); omega
  refine nth_ext' (by simp [idL]) fun i hi => ?_
  rw [idL_nth _ _ hi]
  have := lo i hi
  have := hi' _ i hi rfl
  omega
theorem idL_srt (n : Nat) : Srt (idL n) := by
  intro i hi
  rw [idL_len] at hi
  rw [idL_nth n i (by omega), idL_nth n (i + 1) hi]; omega
theorem srt_iff_id {xs : List Int} (hp : IsP xs) : Srt xs ↔ xs = idL xs.length := ⟨fun h => h.eq_id hp, fun h => by rw [h]; exact idL_srt _⟩
theorem srtB_eq {xs : List Int} (hp : IsP xs) : decide (xs = idL xs.length) = srtB xs := by
  by_cases h : Srt xs
  · rw [srtB_true h]; simp; exact h.eq_id hp
  · rw [srtB_false h]; simp; exact fun e => h ((srt_iff_id hp).2 e)

set_option maxHeartbeats 400000 in
theorem identityPerm_ok (n : Nat) (w : World) (hn : n ≤ 8) :
    Calls Try.prog 58 #[.int .i64 (n : Int)] w fun e w' => ∃ b cap, e = .returned (.slice (some ⟨b, 0, none⟩) n cap) ∧ w.heap.size ≤ b ∧ Row 3 w' b cap (vals (idL n)) ∧ Ext w w' := by
  have hr0 := Row.new 3 w [] (by simp)
  go_enter Try.func58, Try.ntmps58
  go_wp2
  go_loopw [3, 4] (fun o i wr => ∃ k : Nat, k ≤ n ∧ i = .int .i64 ((k : Int) + 1) ∧ (∃ b cap, o = .slice (some ⟨b, 0, none⟩) k cap ∧ w.heap.size ≤ b ∧ Row 3 wr b cap (vals (idL k))) ∧ Ext w wr) (fun _ i _ => n + 1 - (intOf i).toNat)
  case atStart => exact ⟨0, by omega, rfl, ⟨_, 0, rfl, Nat.le_refl _, by simpa [idL] using hr0⟩, (Ext.refl w).alloc _⟩
  case round =>
    obtain ⟨k, hk, rfl, ⟨b, c, rfl, hb, hr⟩, he⟩ := hrel
    clear hr0
    by_cases hlt : k < n
    · go_wp2_with (at_builtin; refine wpl_app1 rfl _ _ rfl b c k (idL k) ((k : Int) + 1) rfl hr (idL_len k).symm rfl (by rw [idL_len]; omega) ?_; intro b' c' w' h1 h2 h3)
      rw [← idL_succ] at h1
      go_roundw
      case rel => exact ⟨k + 1, by omega, by go_num, ⟨b', c', rfl, by have := he.size; omega, h1⟩, he.upd1 h3 hb⟩
      case measure => simp [intOf]; omega
    · obtain rfl : k = n := by omega
      go_wp2
      go_ret
      exact ⟨_, _, rfl, hb, hr, he⟩
set_option maxHeartbeats 400000 in
theorem identity_ok (n : Nat) (w : World) (hn : n ≤ 1000) :
    Calls Try.prog 84 #[.int .i64 (n : Int)] w fun e w' => ∃ b cap, e = .returned (.slice (some ⟨b, 0, none⟩) n cap) ∧ w.heap.size ≤ b ∧ Row 3 w' b cap (vals (idL n)) ∧ Ext w w' := by
  have hr0 := Row.new 3 w [] (by simp)
  go_enter Try.func84, Try.ntmps84
  go_wp2
  go_loopw [3, 4, 7] (fun o _ i wr => ∃ k : Nat, k ≤ n ∧ i = .int .i64 k ∧ (∃ b cap, o = .slice (some ⟨b, 0, none⟩) k cap ∧ w.heap.size ≤ b ∧ Row 3 wr b cap (vals (idL k))) ∧ Ext w wr) (fun _ _ i _ => n - (intOf i).toNat)
  case atStart => exact ⟨0, by omega, rfl, ⟨_, 0, rfl, Nat.le_refl _, by simpa [idL] using hr0⟩, (Ext.refl w).alloc _⟩
  case round =>
    obtain ⟨k, hk, rfl, ⟨b, c, rfl, hb, hr⟩, he⟩ := hrel
    clear hr0
    by_cases hlt : k < n
    · go_wp2_with (at_builtin; refine wpl_app1 rfl _ _ rfl b c k (idL k) ((k : Int) + 1) rfl hr (idL_len k).symm rfl (by rw [idL_len]; omega) ?_; intro b' c' w' h1 h2 h3)
      rw [← idL_succ] at h1
      go_roundw
      case rel => exact ⟨k + 1, by omega, by go_num, ⟨b', c', rfl, by have := he.size; omega, h1⟩, he.upd1 h3 hb⟩
      case measure => simp [intOf]; omega
    · obtain rfl : k = n := by omega
      go_wp2
      go_ret
      exact ⟨_, _, rfl, hb, hr, he⟩
end Go.Proofs.Ytcifngcmdiokpaa
