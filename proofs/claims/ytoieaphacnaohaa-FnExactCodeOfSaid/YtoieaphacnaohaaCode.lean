/- Contracts of CodeOf, the program's and the reference's: for each place the number of lesser numbers behind it. Conditions: a length below a bound. -/
import Derived.Test.YtoieaphacnaohaaSort
namespace Go.Proofs.Ytoieaphacnaohaa
open Go.RowKit

/-- how many of the first j numbers behind the place i are less than the number there. -/
def clTo (xs : List Int) (i j : Nat) : Nat := ((xs.drop (i + 1)).take j).countP (fun y => decide (y < nth xs i))
def cl (xs : List Int) (i : Nat) : Nat := (xs.drop (i + 1)).countP (fun y => decide (y < nth xs i))
theorem clTo_zero (xs : List Int) (i : Nat) : clTo xs i 0 = 0 := by simp [clTo]
theorem clTo_all (xs : List Int) (i j : Nat) (h : xs.length ≤ i + 1 + j) : clTo xs i j = cl xs i := by
  unfold clTo cl; rw [take_all (by simp; omega)]
theorem clTo_succ (xs : List Int) (i j : Nat) (h : i + 1 + j < xs.length) : clTo xs i (j + 1) = clTo xs i j + (if nth xs (i + 1 + j) < nth xs i then 1 else 0) := by
  unfold clTo
  rw [take_nth (by simp; omega), List.countP_append]
  have : nth (xs.drop (i + 1)) j = nth xs (i + 1 + j) := by simp [nth]
  rw [this]; simp
theorem clTo_le (xs : List Int) (i j : Nat) : clTo xs i j ≤ xs.length := by
  unfold clTo
  refine Nat.le_trans List.countP_le_length ?_
  simp; omega
def codeTo (xs : List Int) (k : Nat) : List Int := (List.range k).map fun i => (cl xs i : Int)
def codeL (xs : List Int) : List Int := codeTo xs xs.length
theorem codeTo_len (xs : List Int) (k : Nat) : (codeTo xs k).length = k := by simp [codeTo]
theorem codeTo_succ (xs : List Int) (k : Nat) : codeTo xs (k + 1) = codeTo xs k ++ [(cl xs k : Int)] := by simp [codeTo, List.range_succ]

theorem RI.suf {w : World} {b off : Nat} {xs : List Int} (k : Nat) (hc : ∀ i, i < xs.length → w.cell? ⟨b, off + i, none⟩ = some (.int .i64 (nth xs i))) : ∀ i, i < xs.length - k → w.cell? ⟨b, off + k + i, none⟩ = some (.int .i64 (nth xs (k + i))) := fun i hi => by
  have := hc (k + i) (by omega)
  rwa [← Nat.add_assoc] at this

set_option maxHeartbeats 1000000 in
theorem impl_code_ok (v : Value) (xs : List Int) (w : World) (h : SI w v xs) (hl : xs.length ≤ 10000000) :
    Calls Try.prog 66 #[v] w fun e w' => ∃ v', e = .returned v' ∧ OI w.heap.size w'.heap.size w' v' (codeL xs) ∧ Ext w w' := by
  obtain ⟨a, cap, rfl, hc1, hc2, hc3, hri⟩ := h
  have hmx := hc2
  unfold maxLen at hmx
  have hr0 := Row.new 3 w [] (by simp)
  go_enter Try.func66, Try.ntmps66
  go_wp2
  go_loopw [3, 12] (fun o i wr => ∃ k : Nat, k ≤ xs.length ∧ i = .int .i64 k ∧ (∃ b cap, o = .slice (some ⟨b, 0, none⟩) k cap ∧ w.heap.size ≤ b ∧ Row 3 wr b cap (vals (codeTo xs k))) ∧ Ext w wr) (fun _ i _ => xs.length - (intOf i).toNat)
  case atStart => exact ⟨0, by omega, rfl, ⟨_, 0, rfl, Nat.le_refl _, by simpa [codeTo] using hr0⟩, (Ext.refl w).alloc _⟩
  case round =>
    obtain ⟨k, hk, rfl, ⟨b, c, rfl, hb, hr⟩, he⟩ := hrel
    clear hr0
    by_cases hlt : k < xs.length
    · obtain ⟨b1, off, rfl, hc⟩ := (hri.ext he).get hlt
      have hck := hc k hlt
      have hsuf := RI.suf (k + 1) hc
      have HF := Lib.hid hsuf
      clear hc hri hsuf
      by_cases hcap : cap = k + 1
      all_goals (try subst hcap)
      all_goals
        go_wp2
        go_loop [6, 22] (fun c i => ∃ j : Nat, j ≤ xs.length - (k + 1) ∧ i = .int .i64 j ∧ c = .int .i64 (clTo xs k j)) (fun _ i => xs.length - (intOf i).toNat)
        case atStart => exact ⟨0, by omega, rfl, by rw [clTo_zero]; rfl⟩
        case round =>
          obtain ⟨j, hj, rfl, rfl⟩ := hrel
          have hcl := clTo_le xs k j
          by_cases hjl : j < xs.length - (k + 1)
          · first
              | (exfalso; omega)
              | (have hcj := HF.out j hjl
                 have HS := Lib.hid (clTo_succ xs k j (by omega))
                 by_cases hless : nth xs (k + 1 + j) < nth xs k
                 · go_wp2
                   go_round
                   case rel => exact ⟨j + 1, by omega, by go_num, by rw [HS.out, if_pos hless]; go_num⟩
                   case measure => simp [intOf]; omega
                 · go_wp2
                   go_round
                   case rel => exact ⟨j + 1, by omega, by go_num, by rw [HS.out, if_neg hless]; go_num⟩
                   case measure => simp [intOf]; omega)
          · have hall := clTo_all xs k j (by omega)
            have HA := Lib.hid hall
            clear hall
            go_wp2_with (at_builtin; refine wpl_app1 rfl _ _ rfl b c k (codeTo xs k) (clTo xs k j) rfl hr (codeTo_len xs k).symm rfl (by rw [codeTo_len]; omega) ?_; intro b' c' w' h1 h2 h3)
            rw [HA.out, ← codeTo_succ] at h1
            go_roundw
            case rel => exact ⟨k + 1, by omega, by go_num, ⟨b', c', rfl, by have := he.size; omega, h1⟩, he.upd1 h3 hb⟩
            case measure => simp [intOf]; omega
    · obtain rfl : k = xs.length := by omega
      go_wp2
      go_ret
      exact ⟨_, rfl, OI.row hr hb (codeTo_len _ _).symm, he⟩

def codeOfL (xs : List Int) : List Int := bif isP8 xs then codeL xs else []
theorem codeOfL_len (xs : List Int) : (codeOfL xs).length ≤ xs.length := by
  unfold codeOfL codeL
  cases isP8 xs <;> simp [codeTo_len]

set_option maxHeartbeats 400000 in
theorem impl_CodeOf_ok (v : Value) (xs : List Int) (w : World) (h : SI w v xs) (hl : xs.length ≤ 1048576) (_hb : I64s xs) :
    Calls Try.prog 43 #[v] w fun e w' => ∃ v', e = .returned v' ∧ OI w.heap.size w'.heap.size w' v' (codeOfL xs) ∧ Ext w w' := by
  cases hp : isP8 xs
  · have hP := Lib.hid hp
    have e0 : codeOfL xs = [] := by simp [codeOfL, hp]
    rw [e0]
    clear hp e0
    go_enter Try.func43, Try.ntmps43
    go_wp2_with fail
    refine (impl_IsPerm_ok _ xs _ h).mono ?_
    rintro e w1 ⟨rfl, he⟩
    rw [hP.out]
    go_wp2_with fail
    go_ret
    exact ⟨_, rfl, OI.nil _ _ _, he⟩
  · have hP := Lib.hid hp
    have e0 : codeOfL xs = codeL xs := by simp [codeOfL, hp]
    rw [e0]
    clear hp e0
    go_enter Try.func43, Try.ntmps43
    go_wp2_with fail
    refine (impl_IsPerm_ok _ xs _ h).mono ?_
    rintro e w1 ⟨rfl, he⟩
    rw [hP.out]
    go_wp2_with fail
    refine (impl_code_ok _ xs _ (h.ext he) (by omega)).mono ?_
    rintro e w2 ⟨v2, rfl, ho, he2⟩
    go_wp2_with fail
    go_ret
    exact ⟨_, rfl, ho.mono he.size (Nat.le_refl _), he.trans he2⟩

set_option maxHeartbeats 1000000 in
theorem spec_CodeOf_ok (v : Value) (xs : List Int) (w : World) (h : SI w v xs) (hl : xs.length ≤ 1048576) (_hb : I64s xs) :
    Calls Try.prog 42 #[v] w fun e w' => ∃ v', e = .returned v' ∧ OI w.heap.size w'.heap.size w' v' (codeOfL xs) ∧ Ext w w' := by
  have h0 := h
  obtain ⟨a, cap, rfl, hri⟩ := h0.elim
  have hr0 := Row.new 3 w [] (by simp)
  cases hp : isP8 xs
  · have hP := Lib.hid hp
    have e0 : codeOfL xs = [] := by simp [codeOfL, hp]
    rw [e0]
    clear hp e0
    go_enter Try.func42, Try.ntmps42
    go_wp2
    go_loopw [3, 4] (fun o i wr => o = .slice (some ⟨w.heap.size, 0, none⟩) 0 0 ∧ i = .int .i64 0 ∧ Row 3 wr w.heap.size 0 (vals []) ∧ Ext w wr) (fun _ _ _ => 0)
    case atStart => exact ⟨rfl, rfl, hr0, (Ext.refl w).alloc _⟩
    case round =>
      obtain ⟨rfl, rfl, hr, he⟩ := hrel
      clear hr0
      by_cases h0 : 0 < xs.length
      · go_wp2_with (go_at_call 30; refine (spec_IsPerm_qt _ xs _ (h.ext he) (by omega)).mono ?_; rintro e w1 ⟨rfl, hq⟩; rw [hP.out])
        go_ret
        exact ⟨_, rfl, OI.row (hr.ext hq.ext) (Nat.le_refl _) rfl, he.trans hq.ext⟩
      · go_wp2
        go_ret
        exact ⟨_, rfl, OI.row hr (Nat.le_refl _) rfl, he⟩
  · have hP := Lib.hid hp
    have e0 : codeOfL xs = codeL xs := by simp [codeOfL, hp]
    rw [e0]
    clear hp e0
    go_enter Try.func42, Try.ntmps42
    go_wp2
    go_loopw [3, 4] (fun o i wr => ∃ k : Nat, k ≤ xs.length ∧ i = .int .i64 k ∧ (∃ b cap, o = .slice (some ⟨b, 0, none⟩) k cap ∧ w.heap.size ≤ b ∧ Row 3 wr b cap (vals (codeTo xs k))) ∧ Ext w wr) (fun _ i _ => xs.length - (intOf i).toNat)
    case atStart => exact ⟨0, by omega, rfl, ⟨_, 0, rfl, Nat.le_refl _, by simpa [codeTo] using hr0⟩, (Ext.refl w).alloc _⟩
    case round =>
      obtain ⟨k, hk, rfl, ⟨b, c, rfl, hb, hr⟩, he⟩ := hrel
      clear hr0
      by_cases hlt : k < xs.length
      · have h1 := h.ext he
        go_wp2_with (go_at_call 30; refine (spec_IsPerm_qt _ xs _ h1 (by omega)).mono ?_; rintro e w1 ⟨rfl, hq1⟩; rw [hP.out])
        have he1 : Ext w w1 := he.trans hq1.ext
        have hr1 := hr.ext hq1.ext
        obtain ⟨b1, off, rfl, hc⟩ := (hri.ext he1).get hlt
        have hck := hc k hlt
        have HC := Lib.hid hc
        clear hc hri h1 h he hr
        go_loopw [5, 6] (fun c i wr => ∃ m : Nat, k + 1 ≤ m ∧ m ≤ xs.length ∧ i = .int .i64 m ∧ c = .int .i64 (clTo xs k (m - (k + 1))) ∧ Qt w1 wr) (fun _ i _ => xs.length - (intOf i).toNat)
        case atStart => exact ⟨k + 1, by omega, by omega, by go_num, by rw [Nat.sub_self, clTo_zero]; rfl, Qt.refl _⟩
        case round =>
          obtain ⟨m, hm1, hm2, rfl, rfl, hq⟩ := hrel
          have hcl := clTo_le xs k (m - (k + 1))
          by_cases hml : m < xs.length
          · have hcj := Ext.cell hq.ext (HC.out m hml)
            have hck2 := Ext.cell hq.ext hck
            have w1 : IntKind.i64.wrap ((clTo xs k (m - (k + 1)) : Int) + 1) = (clTo xs k (m - (k + 1)) : Int) + 1 := IntWalk.i64_in _ (by omega)
            have w2 : IntKind.i64.wrap (clTo xs k (m - (k + 1)) : Int) = (clTo xs k (m - (k + 1)) : Int) := IntWalk.i64_in _ (by omega)
            have hs := clTo_succ xs k (m - (k + 1)) (by omega)
            rw [show k + 1 + (m - (k + 1)) = m by omega] at hs
            have HS := Lib.hid hs
            have hms : m + 1 - (k + 1) = m - (k + 1) + 1 := by omega
            have HM := Lib.hid hms
            clear hck hs hms
            by_cases hless : nth xs m < nth xs k
            · go_wp2
              go_quiet ((go_at_call 65; exact Calls.quiet_of (l1Bit_t _)))
              clear w1 w2
              go_wp2
              go_roundw
              case rel => exact ⟨m + 1, by omega, by omega, by go_num, by rw [HM.out, HS.out, if_pos hless]; go_num, hq.drewN _⟩
              case measure => simp [intOf]; omega
            · have hd : decide (nth xs m < nth xs k) = false := decide_eq_false hless
              go_wp2
              go_quiet ((go_at_call 65; exact Calls.quiet_of (l1Bit_f _)))
              clear w1 w2
              go_wp2
              go_roundw
              case rel => exact ⟨m + 1, by omega, by omega, by go_num, by rw [HM.out, HS.out, if_neg (by omega)]; rfl, hq.drewN _⟩
              case measure => simp [intOf]; omega
          · have hall := clTo_all xs k (m - (k + 1)) (by omega)
            have HA := Lib.hid hall
            have hr2 := hr1.ext hq.ext
            have he2 := he1.trans hq.ext
            clear hall hck
            go_wp2_with (at_builtin; refine wpl_app1 rfl _ _ rfl b c k (codeTo xs k) (clTo xs k (m - (k + 1))) rfl hr2 (codeTo_len xs k).symm rfl (by rw [codeTo_len]; omega) ?_; intro b' c' w' h1 h2 h3)
            rw [HA.out, ← codeTo_succ] at h1
            go_roundw
            case rel => exact ⟨k + 1, by omega, by go_num, ⟨b', c', rfl, by have := he2.size; omega, h1⟩, he2.upd1 h3 hb⟩
            case measure => simp [intOf]; omega
      · obtain rfl : k = xs.length := by omega
        go_wp2
        go_ret
        exact ⟨_, rfl, OI.row hr hb (codeTo_len _ _).symm, he⟩
theorem bound_CodeOf (xs : List Int) (h : xs.length ≤ 1048576) : (codeOfL xs).length ≤ 1048576 := by have := codeOfL_len xs; omega
end Go.Proofs.Ytoieaphacnaohaa
