/- Contracts of the program's 'is it a permutation' and of Go's library on slices of ints: clone, compare, reverse, search. Conditions: lengths below a bound. -/
import Derived.Test.YtcifngcmdiokpaaBase
namespace Go.Proofs.Ytcifngcmdiokpaa
open Go.RowKit

abbrev bvals (bs : List Bool) : List Value := bs.map Value.bool
def nthB (bs : List Bool) (k : Nat) : Bool := bs.getD k false
theorem bvals_get {bs : List Bool} {j : Nat} (h : j < bs.length) : (bvals bs)[j]? = some (.bool (nthB bs j)) := by simp [bvals, nthB, h]
theorem bvals_set (bs : List Bool) (j : Nat) (x : Bool) : (bvals bs).set j (.bool x) = bvals (bs.set j x) := by simp [bvals, List.map_set]

theorem Try.infoBool : (Try.prog.info? 4).map (fun i => (i.zero, i.size, i.bytes)) = some (some (.bool false), 1, 1) := by kernel_rfl
theorem info_bool : ∃ i, Try.prog.info? 4 = some i ∧ i.zero = some (.bool false) ∧ i.size = 1 ∧ i.bytes = 1 := by
  have h := Try.infoBool
  cases hi : Try.prog.info? 4 with
  | none => rw [hi] at h; simp at h
  | some i => rw [hi] at h; simp at h; exact ⟨i, rfl, h.1, h.2.1, h.2.2⟩
/-- 'make([]bool, n)'. -/
theorem wpl_make_bool {w : World} {ops : Array Oper} {rest : List Oper} {o : Oper} {a : Act} {Q : Exit → Act → World → Prop}
    (hg : o.guard = none) (l c : Operand) (hop : o.op = Op.makeSlice 62 l c)
    (n : Nat) (kl kc : IntKind) (L C : Int) (hl : a.eval l = .int kl L) (hc : a.eval c = .int kc C) (hL : L = (n : Int)) (hC : C = (n : Int)) (hb : n ≤ 1000000000)
    (hK : ∀ w', Row 4 w' w.heap.size n (bvals (List.replicate n false)) → Ext w w' → w.heap.size < w'.heap.size → wpList Try.prog ops Q rest (a.put o.dst (.slice (some ⟨w.heap.size, 0, none⟩) n n)) w') :
    wpList Try.prog ops Q (o :: rest) a w := by
  obtain ⟨i, hi, hz, hs1, hby⟩ := info_bool
  refine wpl_make hg l c 62 hop 4 i (.bool false) Try.underlying62 hi hz hs1 rfl n kl kc L C hl hc hL hC (by rw [hby]; omega) (by unfold maxLen; omega) ?_
  intro w' h1 h2 h3
  exact hK w' (by simpa [bvals] using h1) h2 h3

def seenL (xs : List Int) (k : Nat) : List Bool := (List.range (xs.length + 1)).map (fun (j : Nat) => hasB (xs.take k) (j : Int))
theorem seenL_len (xs : List Int) (k : Nat) : (seenL xs k).length = xs.length + 1 := by simp [seenL]
theorem seenL_nth (xs : List Int) (k j : Nat) (h : j ≤ xs.length) : nthB (seenL xs k) j = hasB (xs.take k) j := by simp [nthB, seenL, show j < xs.length + 1 by omega]
theorem seenL_zero (xs : List Int) : seenL xs 0 = List.replicate (xs.length + 1) false := by
  refine List.ext_getElem (by simp [seenL]) fun i h1 h2 => ?_
  simp [seenL, hasB]
theorem seenL_set (xs : List Int) (k j : Nat) (hk : k < xs.length) (hj : nth xs k = j) : (seenL xs k).set j true = seenL xs (k + 1) := by
  refine List.ext_getElem (by simp [seenL]) fun i h1 h2 => ?_
  simp only [List.getElem_set, seenL, List.getElem_map, List.getElem_range, hasB, take_nth hk, List.mem_append, List.mem_singleton, hj]
  by_cases e : j = i
  · subst e; simp
  · have e2 : ¬ ((i : Int) = (j : Int)) := by omega
    simp [e, e2]

set_option maxHeartbeats 1000000 in
theorem impl_isPerm_ok (v : Value) (xs : List Int) (w : World) (h : SI w v xs) (hl : xs.length ≤ 10000000) :
    Calls Try.prog 60 #[v] w fun e w' => e = .returned (.bool (isP xs)) ∧ Ext w w' := by
  obtain ⟨a, cap, rfl, hri⟩ := h.elim
  clear h
  go_enter Try.func60, Try.ntmps60
  go_wp2_with (at_make; refine wpl_make_bool rfl _ _ rfl (xs.length + 1) _ _ _ _ rfl rfl (by simp) (by simp) (by omega) ?_; intro w1 hr1 he1 hs1)
  go_loopw [5, 12] (fun _ i wr => ∃ k : Nat, k ≤ xs.length ∧ i = .int .i64 k ∧ PreP xs k ∧ Row 4 wr w.heap.size (xs.length + 1) (bvals (seenL xs k)) ∧ Ext w wr) (fun _ i _ => xs.length - (intOf i).toNat)
  case atStart => exact ⟨0, by omega, rfl, PreP.zero _, by rw [seenL_zero]; exact hr1, he1⟩
  case round =>
    obtain ⟨k, hk, rfl, hp, hr, he⟩ := hrel
    have He := Lib.hid hp
    clear hr1 he1 hs1 hp
    by_cases hlt : k < xs.length
    · obtain ⟨b, off, rfl, hc⟩ := (hri.ext he).get hlt
      have hck := hc k hlt
      clear hc hri
      by_cases hin : 1 ≤ nth xs k ∧ nth xs k ≤ xs.length
      · obtain ⟨j, hj⟩ : ∃ j : Nat, nth xs k = (j : Int) := ⟨(nth xs k).toNat, by omega⟩
        have HJ := Lib.hid hj
        rw [hj] at hck hin
        clear hj
        have hsj := hr.cell (bvals_get (bs := seenL xs k) (j := j) (by rw [seenL_len]; omega))
        rw [seenL_nth xs k j (by omega)] at hsj
        have hfr := hr.free j none
        by_cases hdup : (j : Int) ∈ xs.take k
        · rw [hasB_true hdup] at hsj
          have hno := Lib.hid (isP_false (xs := xs) (not_isP_twice hlt (by rw [HJ.out]; exact hdup)))
          clear hr hdup
          go_wp2
          go_ret
          exact ⟨by rw [hno.out]; rfl, he⟩
        · rw [hasB_false hdup] at hsj
          have hu := hr.set j (.bool true)
          rw [bvals_set, seenL_set xs k j hlt HJ.out] at hu
          have he2 := he.setCell (p := ⟨w.heap.size, j, none⟩) (Nat.le_refl _) (.bool true)
          have HH := Lib.hid hu
          have He2 := Lib.hid (He.out.succ hlt (by rw [HJ.out]; exact hin) (by rw [HJ.out]; exact hdup))
          clear hr hdup hu
          go_wp2
          go_roundw
          case rel => exact ⟨k + 1, by omega, by go_num, He2.out, HH.out, he2⟩
          case measure => simp [intOf]; omega
      · have hno := Lib.hid (isP_false (xs := xs) (not_isP_bound hlt hin))
        clear hr
        by_cases h1 : nth xs k < 1
        · clear hin
          go_wp2
          go_ret
          exact ⟨by rw [hno.out]; rfl, he⟩
        · have h2 : (xs.length : Int) < nth xs k := by omega
          clear hin
          go_wp2
          go_ret
          exact ⟨by rw [hno.out]; rfl, he⟩
    · obtain rfl : k = xs.length := by omega
      have hyes := isP_true He.out.all
      go_wp2
      go_ret
      exact ⟨by rw [hyes]; rfl, he⟩

set_option maxHeartbeats 400000 in
theorem impl_IsPerm_ok (v : Value) (xs : List Int) (w : World) (h : SI w v xs) :
    Calls Try.prog 40 #[v] w fun e w' => e = .returned (.bool (isP8 xs)) ∧ Ext w w' := by
  have h0 := h
  obtain ⟨a, cap, rfl, hri⟩ := h0.elim
  by_cases h8 : xs.length ≤ 8
  · have e8 : isP8 xs = isP xs := by simp [isP8, h8]
    rw [e8]
    clear e8
    go_enter Try.func40, Try.ntmps40
    go_wp2_with (go_at_call 60; refine (impl_isPerm_ok _ xs _ h (by omega)).mono ?_; rintro e w1 ⟨rfl, he1⟩)
    go_ret
    exact ⟨rfl, he1⟩
  · rw [isP8_false (fun h => h8 h.1)]
    go_enter Try.func40, Try.ntmps40
    go_wp2
    go_ret
    exact ⟨rfl, Ext.refl _⟩

set_option maxHeartbeats 400000 in
theorem slicesEqual_ok (v v2 : Value) (xs ys : List Int) (w : World) (h : SI w v xs) (h2 : SI w v2 ys) (hl : xs.length ≤ 1000000000) :
    Calls Try.prog 28 #[v, v2] w fun e w' => e = .returned (.bool (decide (xs = ys))) ∧ Qt w w' := by
  obtain ⟨a, cap, rfl, hri⟩ := h.elim
  obtain ⟨a2, cap2, rfl, hri2⟩ := h2.elim
  by_cases hlen : xs.length = ys.length
  · have H := Lib.hid hlen
    rw [← hlen]
    clear hlen h h2
    have hb : ((xs.length : Int) != (xs.length : Int)) = false := by simp
    go_enter Try.func28, Try.ntmps28
    go_wp2
    go_loopw [5, 13] (fun _ i wr => ∃ k : Nat, k ≤ xs.length ∧ i = .int .i64 k ∧ eqTo xs ys k ∧ Qt w wr) (fun _ i _ => xs.length - (intOf i).toNat)
    case atStart => exact ⟨0, by omega, rfl, fun i hi => by omega, Qt.refl _⟩
    case round =>
      obtain ⟨k, hk, rfl, he, hq⟩ := hrel
      have He := Lib.hid he
      clear he hb
      by_cases hlt : k < xs.length
      · obtain ⟨b, off, rfl, hc⟩ := (hri.ext hq.ext).get hlt
        obtain ⟨b2, off2, rfl, hc2⟩ := (hri2.ext hq.ext).get (k := k) (by rw [← H.out]; exact hlt)
        have hck := hc k hlt
        have hck2 := hc2 k (by rw [← H.out]; exact hlt)
        clear hc hc2 hri hri2
        by_cases hne : nth xs k = nth ys k
        · have hb : (nth xs k != nth ys k) = false := by simp [hne]
          have He2 := Lib.hid (eqTo_succ He.out hne)
          clear hne
          go_wp2
          go_quiet (fail)
          go_wp2
          go_roundw
          case rel => exact ⟨k + 1, by omega, by go_num, He2.out, hq.drewN _⟩
          case measure => simp [intOf]; omega
        · have hb : (nth xs k != nth ys k) = true := by simp [hne]
          have He2 := Lib.hid (ne_of_nth hne)
          clear hne
          go_wp2
          go_quiet (fail)
          go_wp2
          go_ret
          exact ⟨by simp [He2.out], hq.drewN _⟩
      · obtain rfl : k = xs.length := by omega
        go_wp2
        go_ret
        exact ⟨by simp [eqTo_all He.out H.out], hq⟩
  · have hb : ((xs.length : Int) != (ys.length : Int)) = true := by simp; omega
    go_enter Try.func28, Try.ntmps28
    go_wp2
    go_ret
    have hne : xs ≠ ys := fun e => hlen (by rw [e])
    exact ⟨by simp [hne], Qt.refl _⟩
set_option maxHeartbeats 400000 in
theorem l2Same_ok (v v2 : Value) (xs ys : List Int) (w : World) (h : SI w v xs) (h2 : SI w v2 ys) (hl : xs.length ≤ 1000000000) :
    Calls Try.prog 26 #[v, v2] w fun e w' => e = .returned (.bool (decide (xs = ys))) ∧ Qt w w' := by
  obtain ⟨a, cap, rfl, hri⟩ := h.elim
  obtain ⟨a2, cap2, rfl, hri2⟩ := h2.elim
  by_cases hlen : xs.length = ys.length
  · have H := Lib.hid hlen
    rw [← hlen]
    clear hlen h h2
    have hb : ((xs.length : Int) != (xs.length : Int)) = false := by simp
    go_enter Try.func26, Try.ntmps26
    go_wp2
    go_loopw [5] (fun i wr => ∃ k : Nat, k ≤ xs.length ∧ i = .int .i64 k ∧ eqTo xs ys k ∧ Qt w wr) (fun i _ => xs.length - (intOf i).toNat)
    case atStart => exact ⟨0, by omega, rfl, fun i hi => by omega, Qt.refl _⟩
    case round =>
      obtain ⟨k, hk, rfl, he, hq⟩ := hrel
      have He := Lib.hid he
      clear he hb
      by_cases hlt : k < xs.length
      · obtain ⟨b, off, rfl, hc⟩ := (hri.ext hq.ext).get hlt
        obtain ⟨b2, off2, rfl, hc2⟩ := (hri2.ext hq.ext).get (k := k) (by rw [← H.out]; exact hlt)
        have hck := hc k hlt
        have hck2 := hc2 k (by rw [← H.out]; exact hlt)
        clear hc hc2 hri hri2
        by_cases hne : nth xs k = nth ys k
        · have hb : (nth xs k != nth ys k) = false := by simp [hne]
          have He2 := Lib.hid (eqTo_succ He.out hne)
          clear hne
          go_wp2
          go_quiet (fail)
          go_wp2
          go_roundw
          case rel => exact ⟨k + 1, by omega, by go_num, He2.out, hq.drewN _⟩
          case measure => simp [intOf]; omega
        · have hb : (nth xs k != nth ys k) = true := by simp [hne]
          have He2 := Lib.hid (ne_of_nth hne)
          clear hne
          go_wp2
          go_quiet (fail)
          go_wp2
          go_ret
          exact ⟨by simp [He2.out], hq.drewN _⟩
      · obtain rfl : k = xs.length := by omega
        go_wp2
        go_ret
        exact ⟨by simp [eqTo_all He.out H.out], hq⟩
  · have hb : ((xs.length : Int) != (ys.length : Int)) = true := by simp; omega
    go_enter Try.func26, Try.ntmps26
    go_wp2
    go_ret
    have hne : xs ≠ ys := fun e => hlen (by rw [e])
    exact ⟨by simp [hne], Qt.refl _⟩

set_option maxHeartbeats 400000 in
theorem slicesClone_ok (v : Value) (xs : List Int) (w : World) (h : SI w v xs) (hl : xs.length ≤ 10000000) :
    Calls Try.prog 47 #[v] w fun e w' => ∃ v', e = .returned v' ∧ OI w.heap.size w'.heap.size w' v' xs ∧ Ext w w' := by
  obtain ⟨a, cap, rfl, hc1, hc2, hc3, hri⟩ := h
  have hnn := fun (w : World) (n c n' c' : Nat) => Lib.run_eql_slice_nil (P := Try.prog) w 22 3 a n c n' c' Try.underlying22
  cases a with
  | none =>
    have h0 : xs = [] := List.eq_nil_of_length_eq_zero (by have := hc3 rfl; omega)
    subst h0
    go_enter Try.func47, Try.ntmps47
    go_wp2
    go_ret
    exact ⟨_, rfl, OI.nil _ _ _, Ext.refl _⟩
  | some ad =>
    have hr0 := Row.new 3 w [] (by simp)
    have hri2 := hri.ext (Upd.alloc w (.cells #[] 3) _)
    go_enter Try.func47, Try.ntmps47
    go_wp2_with (at_builtin; refine wpl_appSrc rfl _ _ rfl w.heap.size 0 0 [] xs rfl hr0 rfl ad xs.length cap rfl rfl hri2 (by simp) (by omega) ?_; intro b' cap' w' h1 h2 h3)
    go_ret
    refine ⟨_, rfl, ?_, ?_⟩
    · rw [List.nil_append] at h1
      refine OI.row h1 ?_ (by simp)
      rcases h2 with h2 | h2
      · omega
      · simp at h2; omega
    · exact (Ext.refl w).alloc _ |>.upd1 h3 (Nat.le_refl _)
end Go.Proofs.Ytcifngcmdiokpaa
