/- Contracts of the laws' own helpers on slices of ints: copy, compare, mark, hold, size. Conditions: lengths below a bound. -/
import Derived.Test.YtcifngcmdiokpaaLib
namespace Go.Proofs.Ytcifngcmdiokpaa
open Go.RowKit

/-- After k rounds of a copy: the first k numbers are there, the others are 0. -/
def copied (xs : List Int) (k : Nat) : List Int := xs.take k ++ List.replicate (xs.length - k) 0
theorem copied_len (xs : List Int) (k : Nat) (h : k ≤ xs.length) : (copied xs k).length = xs.length := by simp [copied]; omega
theorem copied_set (xs : List Int) (k : Nat) (h : k < xs.length) : (copied xs k).set k (nth xs k) = copied xs (k + 1) := by
  unfold copied
  have : xs.length - k = (xs.length - (k + 1)) + 1 := by omega
  have h1 : (xs.take k).length = k := by simp; omega
  rw [this, List.replicate_succ, List.set_append, h1, if_neg (by omega), Nat.sub_self, take_nth h]; simp

set_option maxHeartbeats 400000 in
theorem toIntS_ok (v : Value) (xs : List Int) (w : World) (h : SI w v xs) (hl : xs.length ≤ 10000000) :
    Calls Try.prog 11 #[v] w fun e w' => ∃ b cap, e = .returned (.slice (some ⟨b, 0, none⟩) xs.length cap) ∧ w.heap.size ≤ b ∧ Row 3 w' b cap (vals xs) ∧ Ext w w' := by
  obtain ⟨a, cap, rfl, hc1, hc2, hc3, hri⟩ := h
  go_enter Try.func11, Try.ntmps11
  go_wp2_with (at_make; refine wpl_make_int rfl _ _ rfl xs.length _ _ _ _ rfl rfl rfl rfl (by omega) ?_; intro w1 hr1 he1 hs1)
  go_loopw [4] (fun i wr => ∃ k : Nat, k ≤ xs.length ∧ i = .int .i64 k ∧ Row 3 wr w.heap.size xs.length (vals (copied xs k)) ∧ Ext w wr) (fun i _ => xs.length - (intOf i).toNat)
  case atStart => exact ⟨0, by omega, rfl, by simpa [copied] using hr1, he1⟩
  case round =>
    obtain ⟨k, hk, rfl, hr, he⟩ := hrel
    clear hr1 he1 hs1
    by_cases hlt : k < xs.length
    · have hri' := hri.ext he
      rcases hri' with h0 | ⟨b, off, rfl, hc⟩
      · simp [h0] at hlt
      · have hck := hc k hlt
        have hold := hr.icell (j := k) (by rw [copied_len xs k hk]; exact hlt)
        have hfr := hr.free k none
        have hu := hr.set k (.int .i64 (nth xs k))
        rw [vals_set, copied_set xs k hlt] at hu
        have he2 := he.setCell (p := ⟨w.heap.size, k, none⟩) (Nat.le_refl _) (.int .i64 (nth xs k))
        have HH := Lib.hid hu
        clear hc hri hr hu
        go_wp2
        go_roundw
        case rel => exact ⟨k + 1, by omega, by go_num, HH.out, he2⟩
        case measure => simp [intOf]; omega
    · obtain rfl : k = xs.length := by omega
      go_wp2
      go_ret
      exact ⟨_, _, rfl, Nat.le_refl _, by simpa [copied] using hr, he⟩

def eqTo (xs ys : List Int) (k : Nat) : Prop := ∀ i, i < k → nth xs i = nth ys i
theorem eqTo_all {xs ys : List Int} (h : eqTo xs ys xs.length) (hl : xs.length = ys.length) : xs = ys := by
  refine List.ext_getElem hl fun i h1 h2 => ?_
  have := h i h1
  rwa [nth_get h1, nth_get h2] at this
theorem eqTo_succ {xs ys : List Int} {k : Nat} (h : eqTo xs ys k) (hk : nth xs k = nth ys k) : eqTo xs ys (k + 1) := fun i hi => by
  rcases Nat.lt_or_ge i k with h1 | h1
  · exact h i h1
  · obtain rfl : i = k := by omega
    exact hk
theorem ne_of_nth {xs ys : List Int} {k : Nat} (h : nth xs k ≠ nth ys k) : xs ≠ ys := fun e => h (by rw [e])

/-- two slices of ints of one length, compared number by number. -/
theorem SI.elim {w : World} {v : Value} {xs : List Int} (h : SI w v xs) : ∃ a cap, v = .slice a xs.length cap ∧ RI w a xs := by
  obtain ⟨a, cap, h1, _, _, _, h5⟩ := h; exact ⟨a, cap, h1, h5⟩
theorem RI.get {w : World} {a : Option Addr} {xs : List Int} (h : RI w a xs) {k : Nat} (hk : k < xs.length) : ∃ b off, a = some ⟨b, off, none⟩ ∧ ∀ i, i < xs.length → w.cell? ⟨b, off + i, none⟩ = some (.int .i64 (nth xs i)) := by
  rcases h with rfl | ⟨b, off, h1, h2⟩
  · simp at hk
  · exact ⟨b, off, h1, h2⟩

set_option maxHeartbeats 400000 in
theorem eqIntS_ok (v v2 : Value) (xs ys : List Int) (w : World) (h : SI w v xs) (h2 : SI w v2 ys) (hl : xs.length ≤ 1000000000) :
    Calls Try.prog 13 #[v, v2] w fun e w' => e = .returned (.bool (decide (xs = ys))) ∧ Qt w w' := by
  obtain ⟨a, cap, rfl, hri⟩ := h.elim
  obtain ⟨a2, cap2, rfl, hri2⟩ := h2.elim
  by_cases hlen : xs.length = ys.length
  · have H := Lib.hid hlen
    rw [← hlen]
    clear hlen h h2
    have hb : ((xs.length : Int) != (xs.length : Int)) = false := by simp
    go_enter Try.func13, Try.ntmps13
    go_wp2
    go_loopw [5] (fun i wr => ∃ k : Nat, k ≤ xs.length ∧ i = .int .i64 k ∧ eqTo xs ys k ∧ Qt w wr) (fun i _ => xs.length - (intOf i).toNat)
    case atStart => exact ⟨0, by omega, rfl, fun i hi => by omega, Qt.refl _⟩
    case round =>
      obtain ⟨k, hk, rfl, he, hq⟩ := hrel
      have He := Lib.hid he
      clear he hb
      by_cases hlt : k < xs.length
      · obtain ⟨b, off, rfl, hc⟩ := (hri.ext hq.ext).get hlt
        obtain ⟨b2, off2, rfl, hc2⟩ := (hri2.ext hq.ext).get (k := k) (by rw [← H.out]; exact hlt)
        have hck := hc k hlt
        have hck2 := hc2 k (by rw [← H.out]; exact hlt)
        clear hc hc2 hri hri2
        by_cases hne : nth xs k = nth ys k
        · have hb : (nth xs k != nth ys k) = false := by simp [hne]
          have He2 := Lib.hid (eqTo_succ He.out hne)
          clear hne
          go_wp2
          go_quiet (fail)
          go_wp2
          go_roundw
          case rel => exact ⟨k + 1, by omega, by go_num, He2.out, (by first | exact hq | exact hq.drewN _)⟩
          case measure => simp [intOf]; omega
        · have hb : (nth xs k != nth ys k) = true := by simp [hne]
          have He2 := Lib.hid (ne_of_nth hne)
          clear hne
          go_wp2
          go_quiet (fail)
          go_wp2
          go_ret
          exact ⟨by simp [He2.out], (by first | exact hq | exact hq.drewN _)⟩
      · obtain rfl : k = xs.length := by omega
        go_wp2
        go_ret
        exact ⟨by simp [eqTo_all He.out H.out], hq⟩
  · have hb : ((xs.length : Int) != (ys.length : Int)) = true := by simp; omega
    go_enter Try.func13, Try.ntmps13
    go_wp2
    go_ret
    have hne : xs ≠ ys := fun e => hlen (by rw [e])
    exact ⟨by simp [hne], Qt.refl _⟩

/-- the numbers k, k + 1, .. (n of them). -/
def mk (k : Int) (n : Nat) : List Int := (List.range n).map (fun (i : Nat) => k + (i : Int))
theorem mk_len (k : Int) (n : Nat) : (mk k n).length = n := by simp [mk]
theorem mk_nth (k : Int) (n i : Nat) (h : i < n) : nth (mk k n) i = k + i := by simp [nth, mk, h]
def marked (k : Int) (xs : List Int) (i : Nat) : List Int := mk k i ++ xs.drop i
theorem marked_len (k : Int) (xs : List Int) (i : Nat) (h : i ≤ xs.length) : (marked k xs i).length = xs.length := by simp [marked, mk_len]; omega
theorem marked_set (k : Int) (xs : List Int) (i : Nat) (h : i < xs.length) : (marked k xs i).set i (k + i) = marked k xs (i + 1) := by
  unfold marked
  rw [List.set_append, mk_len, if_neg (by omega), Nat.sub_self, drop_nth h]
  simp [mk, List.range_succ]

end Go.Proofs.Ytcifngcmdiokpaa
