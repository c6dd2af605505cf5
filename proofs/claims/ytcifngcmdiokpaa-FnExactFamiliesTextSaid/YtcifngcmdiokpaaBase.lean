/- Contracts of the small functions that most others call: bounds, membership, 'is it a permutation' (the program's and the reference's). Conditions: lengths below a bound. -/
import Derived.Test.YtcifngcmdiokpaaHarn
import Derived.Test.YtcifngcmdiokpaaOpen
namespace Go.Proofs.Ytcifngcmdiokpaa
open Go.RowKit

def inB (x lo hi : Int) : Bool := decide (lo ≤ x ∧ x ≤ hi)
theorem inB_true {x lo hi : Int} (h : lo ≤ x ∧ x ≤ hi) : inB x lo hi = true := by simpa [inB] using h
theorem inB_false {x lo hi : Int} (h : ¬ (lo ≤ x ∧ x ≤ hi)) : inB x lo hi = false := by simpa [inB] using h
theorem inB_iff {x lo hi : Int} : inB x lo hi = true ↔ lo ≤ x ∧ x ≤ hi := by simp [inB]

set_option maxHeartbeats 400000 in
theorem l1In_ok (x lo hi : Int) (w : World) : Calls Try.prog 53 #[.int .i64 x, .int .i64 lo, .int .i64 hi] w fun e w' => e = .returned (.bool (inB x lo hi)) ∧ Qt w w' := by
  by_cases h1 : lo ≤ x
  · by_cases h2 : x ≤ hi
    · rw [inB_true ⟨h1, h2⟩]
      go_enter Try.func53, Try.ntmps53
      go_wp2
      go_ret
      exact ⟨rfl, Qt.refl _⟩
    · rw [inB_false (by omega)]
      go_enter Try.func53, Try.ntmps53
      go_wp2
      go_ret
      exact ⟨rfl, Qt.refl _⟩
  · rw [inB_false (by omega)]
    go_enter Try.func53, Try.ntmps53
    go_wp2
    go_ret
    exact ⟨rfl, Qt.refl _⟩
def bitI (b : Bool) : Int := if b then 1 else 0
set_option maxHeartbeats 400000 in
theorem l1Bit_ok (b : Bool) (w : World) : Calls Try.prog 92 #[.bool b] w fun e w' => e = .returned (.int .i64 (bitI b)) ∧ Qt w w' := by
  cases b
  all_goals
    go_enter Try.func92, Try.ntmps92
    go_wp2
    go_ret
    exact ⟨rfl, Qt.refl _⟩
theorem l1Bit_t (w : World) : Calls Try.prog 92 #[.bool true] w fun e w' => e = .returned (.int .i64 1) ∧ Qt w w' := l1Bit_ok true w
theorem l1Bit_f (w : World) : Calls Try.prog 92 #[.bool false] w fun e w' => e = .returned (.int .i64 0) ∧ Qt w w' := l1Bit_ok false w
set_option maxHeartbeats 400000 in
theorem l1Max_ok (a b : Int) (w : World) : Calls Try.prog 78 #[.int .i64 a, .int .i64 b] w fun e w' => e = .returned (.int .i64 (max a b)) ∧ Qt w w' := by
  by_cases h : b < a
  · rw [show max a b = a by omega]
    go_enter Try.func78, Try.ntmps78
    go_wp2
    go_ret
    exact ⟨rfl, Qt.refl _⟩
  · rw [show max a b = b by omega]
    go_enter Try.func78, Try.ntmps78
    go_wp2
    go_ret
    exact ⟨rfl, Qt.refl _⟩
set_option maxHeartbeats 400000 in
theorem l1Min_ok (a b : Int) (w : World) : Calls Try.prog 89 #[.int .i64 a, .int .i64 b] w fun e w' => e = .returned (.int .i64 (min a b)) ∧ Qt w w' := by
  by_cases h : a < b
  · rw [show min a b = a by omega]
    go_enter Try.func89, Try.ntmps89
    go_wp2
    go_ret
    exact ⟨rfl, Qt.refl _⟩
  · rw [show min a b = b by omega]
    go_enter Try.func89, Try.ntmps89
    go_wp2
    go_ret
    exact ⟨rfl, Qt.refl _⟩

def hasB (xs : List Int) (x : Int) : Bool := decide (x ∈ xs)
theorem hasB_iff {xs : List Int} {x : Int} : hasB xs x = true ↔ x ∈ xs := by simp [hasB]
theorem hasB_true {xs : List Int} {x : Int} (h : x ∈ xs) : hasB xs x = true := hasB_iff.2 h
theorem hasB_false {xs : List Int} {x : Int} (h : x ∉ xs) : hasB xs x = false := by simpa [hasB] using h
theorem notin_take_succ {xs : List Int} {x : Int} {k : Nat} (h : x ∉ xs.take k) (hk : k < xs.length) (hne : nth xs k ≠ x) : x ∉ xs.take (k + 1) := by
  rw [take_nth hk]; simp [h]; exact fun e => hne e.symm

set_option maxHeartbeats 400000 in
theorem l2Has_ok (v : Value) (xs : List Int) (x : Int) (w : World) (h : SI w v xs) (hl : xs.length ≤ 1000000000) :
    Calls Try.prog 54 #[v, .int .i64 x] w fun e w' => e = .returned (.bool (hasB xs x)) ∧ Qt w w' := by
  obtain ⟨a, cap, rfl, hri⟩ := h.elim
  clear h
  go_enter Try.func54, Try.ntmps54
  go_wp2
  go_loopw [5] (fun i wr => ∃ k : Nat, k ≤ xs.length ∧ i = .int .i64 k ∧ x ∉ xs.take k ∧ Qt w wr) (fun i _ => xs.length - (intOf i).toNat)
  case atStart => exact ⟨0, by omega, rfl, by simp, Qt.refl _⟩
  case round =>
    obtain ⟨k, hk, rfl, he, hq⟩ := hrel
    have He := Lib.hid he
    clear he
    by_cases hlt : k < xs.length
    · obtain ⟨b, off, rfl, hc⟩ := (hri.ext hq.ext).get hlt
      have hck := hc k hlt
      clear hc hri
      by_cases hne : nth xs k = x
      · have hb : (nth xs k == x) = true := by simp [hne]
        have hh := hasB_true (xs := xs) (x := x) (by rw [← hne]; exact nth_mem hlt)
        clear hne
        go_wp2
        go_ret
        exact ⟨by rw [hh]; rfl, hq⟩
      · have hb : (nth xs k == x) = false := by simp [hne]
        have He2 := Lib.hid (notin_take_succ He.out hlt hne)
        clear hne
        go_wp2
        go_roundw
        case rel => exact ⟨k + 1, by omega, by go_num, He2.out, hq⟩
        case measure => simp [intOf]; omega
    · obtain rfl : k = xs.length := by omega
      go_wp2
      go_ret
      exact ⟨by rw [hasB_false (by simpa using He.out)]; rfl, hq⟩

/-- a list has each of the numbers 1 to its length once. -/
def IsP (xs : List Int) : Prop := (∀ x ∈ xs, 1 ≤ x ∧ x ≤ xs.length) ∧ xs.Nodup
def isP (xs : List Int) : Bool := decide ((∀ x ∈ xs, 1 ≤ x ∧ x ≤ (xs.length : Int)) ∧ xs.Nodup)
def isP8 (xs : List Int) : Bool := decide (xs.length ≤ 8) && isP xs
theorem isP_iff {xs : List Int} : isP xs = true ↔ IsP xs := by simp [isP, IsP]
theorem isP_true {xs : List Int} (h : IsP xs) : isP xs = true := isP_iff.2 h
theorem isP_false {xs : List Int} (h : ¬ IsP xs) : isP xs = false := by
  cases hh : isP xs with
  | false => rfl
  | true => exact absurd (isP_iff.1 hh) h
theorem isP8_true {xs : List Int} (h : xs.length ≤ 8) (hp : IsP xs) : isP8 xs = true := by simp [isP8, h, isP_true hp]
theorem isP8_false {xs : List Int} (h : ¬ (xs.length ≤ 8 ∧ IsP xs)) : isP8 xs = false := by
  unfold isP8
  by_cases h1 : xs.length ≤ 8
  · rw [isP_false (fun h2 => h ⟨h1, h2⟩)]; simp
  · simp [h1]
theorem isP8_iff {xs : List Int} : isP8 xs = true ↔ xs.length ≤ 8 ∧ IsP xs := by simp [isP8, isP_iff]

/-- the first k numbers are in their bounds and no two are equal. -/
def PreP (xs : List Int) (k : Nat) : Prop := (∀ x ∈ xs.take k, 1 ≤ x ∧ x ≤ xs.length) ∧ (xs.take k).Nodup
theorem PreP.zero (xs : List Int) : PreP xs 0 := by simp [PreP]
theorem PreP.all {xs : List Int} (h : PreP xs xs.length) : IsP xs := by simpa [PreP, IsP] using h
theorem PreP.succ {xs : List Int} {k : Nat} (h : PreP xs k) (hk : k < xs.length) (h1 : 1 ≤ nth xs k ∧ nth xs k ≤ xs.length) (h2 : nth xs k ∉ xs.take k) : PreP xs (k + 1) := by
  unfold PreP
  rw [take_nth hk]
  refine ⟨fun x hx => ?_, ?_⟩
  · rcases List.mem_append.1 hx with hx | hx
    · exact h.1 x hx
    · simp at hx; subst hx; exact h1
  · rw [List.nodup_append]
    exact ⟨h.2, by simp, fun a ha b hb => by simp at hb; subst hb; exact fun e => h2 (e ▸ ha)⟩
theorem not_isP_bound {xs : List Int} {k : Nat} (hk : k < xs.length) (h1 : ¬ (1 ≤ nth xs k ∧ nth xs k ≤ xs.length)) : ¬ IsP xs := fun h => h1 (h.1 _ (nth_mem hk))
theorem not_isP_twice {xs : List Int} {k : Nat} (hk : k < xs.length) (h1 : nth xs k ∈ xs.take k) : ¬ IsP xs := fun h => by
  have h2 := h.2
  rw [← List.take_append_drop k xs, List.nodup_append] at h2
  exact h2.2.2 _ h1 _ (by rw [drop_nth hk]; simp) rfl

theorem SI.pre {w : World} {b off cap : Nat} {xs : List Int} {k : Nat} (hc : ∀ i, i < xs.length → w.cell? ⟨b, off + i, none⟩ = some (.int .i64 (nth xs i))) (hk : k ≤ xs.length) (h1 : xs.length ≤ cap) (h2 : cap ≤ maxLen) :
    SI w (.slice (some ⟨b, off, none⟩) k cap) (xs.take k) := by
  have hl : (xs.take k).length = k := by simp; omega
  refine ⟨_, cap, by rw [hl], by omega, h2, by simp, .inr ⟨b, off, rfl, fun i hi => ?_⟩⟩
  rw [hl] at hi
  rw [hc i (by omega)]
  simp [nth, hi]

set_option maxHeartbeats 1000000 in
theorem spec_IsPerm_qt (v : Value) (xs : List Int) (w : World) (h : SI w v xs) (hl : xs.length ≤ 1000000000) :
    Calls Try.prog 32 #[v] w fun e w' => e = .returned (.bool (isP8 xs)) ∧ Qt w w' := by
  have h0 := h
  obtain ⟨a, cap, rfl, hc1, hc2, _, hri⟩ := h0
  by_cases h8 : xs.length ≤ 8
  · have hmx := hc2
    unfold maxLen at hmx
    go_enter Try.func32, Try.ntmps32
    go_wp2
    go_loopw [3] (fun i wr => ∃ k : Nat, k ≤ xs.length ∧ i = .int .i64 k ∧ PreP xs k ∧ Qt w wr) (fun i _ => xs.length - (intOf i).toNat)
    case atStart => exact ⟨0, by omega, rfl, PreP.zero _, Qt.refl _⟩
    case round =>
      obtain ⟨k, hk, rfl, he, hq⟩ := hrel
      have He := Lib.hid he
      clear he
      by_cases hlt : k < xs.length
      · obtain ⟨b, off, rfl, hc⟩ := (hri.ext hq.ext).get hlt
        have hck := hc k hlt
        have hpre := fun nq => (SI.pre (w := wr) (k := k) hc hk hc1 hc2).ext (Upd.drewN wr nq _)
        have hpl : (xs.take k).length ≤ 1000000000 := by simp; omega
        have HP := Lib.hid hpre
        clear hc hri hpre h
        by_cases hin : 1 ≤ nth xs k ∧ nth xs k ≤ xs.length
        · have hin' := inB_true hin
          by_cases hdup : nth xs k ∈ xs.take k
          · have hd := hasB_true hdup
            have hno := Lib.hid (isP8_false (xs := xs) (fun h => not_isP_twice hlt hdup h.2))
            clear hin hdup
            go_wp2
            go_quiet ((first | (go_at_call 53; exact Calls.quiet_of (l1In_ok _ _ _ _)) | (go_at_call 54; exact Calls.quiet_of (l2Has_ok _ _ _ _ (HP.out _) hpl))))
            go_wp2
            go_ret
            exact ⟨by rw [hno.out]; rfl, hq.drewN _⟩
          · have hd := hasB_false hdup
            have He2 := Lib.hid (He.out.succ hlt hin hdup)
            clear hin hdup
            go_wp2
            go_quiet ((first | (go_at_call 53; exact Calls.quiet_of (l1In_ok _ _ _ _)) | (go_at_call 54; exact Calls.quiet_of (l2Has_ok _ _ _ _ (HP.out _) hpl))))
            go_wp2
            go_roundw
            case rel => exact ⟨k + 1, by omega, by go_num, He2.out, hq.drewN _⟩
            case measure => simp [intOf]; omega
        · have hin' := inB_false hin
          have hno := Lib.hid (isP8_false (xs := xs) (fun h => not_isP_bound hlt hin h.2))
          clear hin
          go_wp2
          go_quiet ((first | (go_at_call 53; exact Calls.quiet_of (l1In_ok _ _ _ _)) | (go_at_call 54; exact Calls.quiet_of (l2Has_ok _ _ _ _ (HP.out _) hpl))))
          go_wp2
          go_ret
          exact ⟨by rw [hno.out]; rfl, hq.drewN _⟩
      · obtain rfl : k = xs.length := by omega
        have hyes := isP8_true h8 He.out.all
        go_wp2
        go_ret
        exact ⟨by rw [hyes]; simp; omega, hq⟩
  · have hno := isP8_false (xs := xs) (fun h => h8 h.1)
    by_cases h0 : 0 < xs.length
    · go_enter Try.func32, Try.ntmps32
      go_wp2
      go_loopw [3] (fun i wr => i = .int .i64 0 ∧ Qt w wr) (fun _ _ => 0)
      case atStart => exact ⟨rfl, Qt.refl _⟩
      case round =>
        obtain ⟨rfl, hq⟩ := hrel
        have hno' := Lib.hid hno
        clear hno
        go_wp2
        go_ret
        exact ⟨by rw [hno'.out]; simp; omega, hq⟩
    · omega
end Go.Proofs.Ytcifngcmdiokpaa
