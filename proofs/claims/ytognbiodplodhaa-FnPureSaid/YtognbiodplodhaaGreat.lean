/- The helpers of the great laws: lists compared, summed, looked through; the draws of one list. Conditions: lengths below a bound. -/
import Derived.Test.YtognbiodplodhaaHarnSS
import Derived.Test.YtognbiodplodhaaDraw3
import Derived.Test.YtognbiodplodhaaBase2
import Derived.Test.YtognbiodplodhaaSort
namespace Go.Proofs.Ytognbiodplodhaa
open Go.RowKit

set_option maxHeartbeats 400000 in
theorem big_ok (a : Option Addr) (n cap : Nat) (w : World) (hn : n ≤ 9223372036854775807) :
    Calls Try.prog 10 #[.slice a n cap] w fun e w' => e = .returned (.bool (decide (1048576 < n))) ∧ Qt w w' := by
  by_cases h : 1048576 < n
  · have hI : (1048576 : Int) < (n : Int) := by omega
    rw [decide_eq_true h]
    go_enter Try.func10, Try.ntmps10
    go_wp2_with fail
    go_ret
    exact ⟨by simp, Qt.refl _⟩
  · have hI : ¬ (1048576 : Int) < (n : Int) := by omega
    rw [decide_eq_false h]
    go_enter Try.func10, Try.ntmps10
    go_wp2_with fail
    go_ret
    exact ⟨by simp, Qt.refl _⟩

set_option maxHeartbeats 400000 in
theorem sameInts_ok (v v2 : Value) (xs ys : List Int) (w : World) (h : SI w v xs) (h2 : SI w v2 ys) (hl : xs.length ≤ 1000000000) :
    Calls Try.prog 20 #[v, v2] w fun e w' => e = .returned (.bool (decide (xs = ys))) ∧ Qt w w' := by
  obtain ⟨a, cap, rfl, hri⟩ := h.elim
  obtain ⟨a2, cap2, rfl, hri2⟩ := h2.elim
  by_cases hlen : xs.length = ys.length
  · have H := Lib.hid hlen
    rw [← hlen]
    clear hlen h h2
    have hb : ((xs.length : Int) != (xs.length : Int)) = false := by simp
    go_enter Try.func20, Try.ntmps20
    go_wp2
    go_loopw [5] (fun i wr => ∃ k : Nat, k ≤ xs.length ∧ i = .int .i64 k ∧ eqTo xs ys k ∧ Qt w wr) (fun i _ => xs.length - (intOf i).toNat)
    case atStart => exact ⟨0, by omega, rfl, fun i hi => by omega, Qt.refl _⟩
    case round =>
      obtain ⟨k, hk, rfl, he, hq⟩ := hrel
      have He := Lib.hid he
      clear he hb
      by_cases hlt : k < xs.length
      · obtain ⟨b, off, rfl, hc⟩ := (hri.ext hq.ext).get hlt
        obtain ⟨b2, off2, rfl, hc2⟩ := (hri2.ext hq.ext).get (k := k) (by rw [← H.out]; exact hlt)
        have hck := hc k hlt
        have hck2 := hc2 k (by rw [← H.out]; exact hlt)
        clear hc hc2 hri hri2
        by_cases hne : nth xs k = nth ys k
        · have hb : (nth xs k != nth ys k) = false := by simp [hne]
          have He2 := Lib.hid (eqTo_succ He.out hne)
          clear hne
          go_wp2
          go_quiet (fail)
          go_wp2
          go_roundw
          case rel => exact ⟨k + 1, by omega, by go_num, He2.out, hq.drewN _⟩
          case measure => simp [intOf]; omega
        · have hb : (nth xs k != nth ys k) = true := by simp [hne]
          have He2 := Lib.hid (ne_of_nth hne)
          clear hne
          go_wp2
          go_quiet (fail)
          go_wp2
          go_ret
          exact ⟨by simp [He2.out], hq.drewN _⟩
      · obtain rfl : k = xs.length := by omega
        go_wp2
        go_ret
        exact ⟨by simp [eqTo_all He.out H.out], hq⟩
  · have hb : ((xs.length : Int) != (ys.length : Int)) = true := by simp; omega
    go_enter Try.func20, Try.ntmps20
    go_wp2
    go_ret
    have hne : xs ≠ ys := fun e => hlen (by rw [e])
    exact ⟨by simp [hne], Qt.refl _⟩

theorem sameInts_same (v v2 : Value) (xs : List Int) (w : World) (h : SI w v xs) (h2 : SI w v2 xs) (hl : xs.length ≤ 1000000000) :
    Calls Try.prog 20 #[v, v2] w fun e w' => e = .returned (.bool true) ∧ Qt w w' :=
  (sameInts_ok v v2 xs xs w h h2 hl).mono fun e w' ⟨h1, h2⟩ => ⟨by rw [h1]; simp, h2⟩

set_option maxHeartbeats 400000 in
theorem sameLists_ok (v v2 : Value) (xs ys : List (List Int)) (w : World) (h : SII w v xs) (h2 : SII w v2 ys) (hl : xs.length ≤ 1000000000) (hs : small xs) :
    Calls Try.prog 25 #[v, v2] w fun e w' => e = .returned (.bool (decide (xs = ys))) ∧ Qt w w' := by
  obtain ⟨a, cap, rfl, hri⟩ := h.elim
  obtain ⟨a2, cap2, rfl, hri2⟩ := h2.elim
  by_cases hlen : xs.length = ys.length
  · have H := Lib.hid hlen
    rw [← hlen]
    clear hlen h h2
    have hb : ((xs.length : Int) != (xs.length : Int)) = false := by simp
    go_enter Try.func25, Try.ntmps25
    go_wp2
    go_loopw [5] (fun i wr => ∃ k : Nat, k ≤ xs.length ∧ i = .int .i64 k ∧ eqToL xs ys k ∧ Qt w wr) (fun i _ => xs.length - (intOf i).toNat)
    case atStart => exact ⟨0, by omega, rfl, fun i hi => by omega, Qt.refl _⟩
    case round =>
      obtain ⟨k, hk, rfl, he, hq⟩ := hrel
      have He := Lib.hid he
      clear he hb
      by_cases hlt : k < xs.length
      · obtain ⟨b, off, rfl, u, hc, hu⟩ := hri k hlt
        obtain ⟨b2, off2, rfl, u2, hc2, hu2⟩ := hri2 k (by rw [← H.out]; exact hlt)
        have hsm := hs.nth hlt
        clear hri hri2 hs
        replace hc := Ext.cell hq.ext hc
        replace hc2 := Ext.cell hq.ext hc2
        have HE := fun nq => (sameInts_ok u u2 _ _ (wr.drewN nq) ((hu.ext hq.ext).ext (Upd.drewN _ _ _)) ((hu2.ext hq.ext).ext (Upd.drewN _ _ _)) (by omega))
        by_cases hne : nthL xs k = nthL ys k
        · have He2 := Lib.hid (eqToL_succ He.out hne)
          simp only [hne, decide_true] at HE
          clear hne hsm
          have HE' := Lib.hid HE
          clear HE
          go_wp2
          go_quiet ((go_at_call 20; exact Calls.quiet_of (HE'.out _)))
          go_wp2
          go_roundw
          case rel => exact ⟨k + 1, by omega, by go_num, He2.out, by first | exact hq | exact hq.drewN _⟩
          case measure => simp [intOf]; omega
        · have He2 := Lib.hid (ne_of_nthL hne)
          simp only [hne, decide_false] at HE
          clear hne hsm
          have HE' := Lib.hid HE
          clear HE
          go_wp2
          go_quiet ((go_at_call 20; exact Calls.quiet_of (HE'.out _)))
          go_wp2
          go_ret
          exact ⟨by simp [He2.out], by first | exact hq | exact hq.drewN _⟩
      · obtain rfl : k = xs.length := by omega
        go_wp2
        go_ret
        exact ⟨by simp [eqToL_all He.out H.out], by first | exact hq | exact hq.drewN _⟩
  · have hb : ((xs.length : Int) != (ys.length : Int)) = true := by simp; omega
    go_enter Try.func25, Try.ntmps25
    go_wp2
    go_ret
    have hne : xs ≠ ys := fun e => hlen (by rw [e])
    exact ⟨by simp [hne], Qt.refl _⟩

theorem sameLists_same (v v2 : Value) (xs : List (List Int)) (w : World) (h : SII w v xs) (h2 : SII w v2 xs) (hl : xs.length ≤ 1000000000) (hs : small xs) :
    Calls Try.prog 25 #[v, v2] w fun e w' => e = .returned (.bool true) ∧ Qt w w' :=
  (sameLists_ok v v2 xs xs w h h2 hl hs).mono fun e w' ⟨h1, h2⟩ => ⟨by rw [h1]; simp, h2⟩


set_option maxHeartbeats 1000000 in
theorem straight_id (v : Value) (xs : List Int) (w : World) (h : SI w v xs) (hl : xs.length ≤ 1000000) (hid : xs = idL xs.length) :
    Calls Try.prog 31 #[v] w fun e w' => e = .returned (.bool true) ∧ Qt w w' := by
  obtain ⟨a, cap, rfl, hri⟩ := h.elim
  have HID := Lib.hid hid
  clear h hid
  go_enter Try.func31, Try.ntmps31
  go_wp2_with fail
  go_loopw [3] (fun i wr => ∃ k : Nat, k ≤ xs.length ∧ i = .int .i64 k ∧ Qt w wr) (fun i _ => xs.length - (intOf i).toNat)
  case atStart => exact ⟨0, by omega, rfl, Qt.refl _⟩
  case round =>
    obtain ⟨k, hk, rfl, hq⟩ := hrel
    by_cases hlt : k < xs.length
    · obtain ⟨b, off, rfl, hc⟩ := (hri.ext hq.ext).get hlt
      have hck := hc k hlt
      rw [HID.out, idL_nth _ _ hlt] at hck
      have hne : (((k : Int) + 1) != ((k : Int) + 1)) = false := by simp
      clear hc
      go_wp2_with fail
      go_roundw
      case rel => exact ⟨k + 1, by omega, by go_num, hq⟩
      case measure => simp [intOf]; omega
    · obtain rfl : k = xs.length := by omega
      go_wp2_with fail
      go_ret
      exact ⟨rfl, hq⟩
def totL (xs : List Int) : Int := xs.foldl (· + ·) 0
theorem totL_take {xs : List Int} {k : Nat} (h : k < xs.length) : totL (xs.take (k + 1)) = totL (xs.take k) + nth xs k := by
  unfold totL; rw [take_nth h, List.foldl_append]; rfl
/-- what a draw of one list hands out: a list of its own, of at most 9 small numbers. -/
def DrB (w : World) (e : Ending) (w' : World) : Prop := ∃ v L, e = .returned v ∧ OI w.heap.size w'.heap.size w' v L ∧ L.length ≤ 9 ∧ (∀ x ∈ L, -1 ≤ x ∧ x ≤ 10) ∧ Ext w w'
theorem BY.ext {bc : Nat} {w w' : World} {a : Option Addr} {n : Nat} (h : BY bc w a n) (hu : Ext w w') : BY bc w' a n := h.upd hu (fun _ _ _ _ h => h)

set_option maxHeartbeats 1000000 in
theorem DrawPopPass_ok (a : Option Addr) (n cap : Nat) (w : World) (hn : n ≤ 1048576) (hb : BY w.heap.size w a n) : Calls Try.prog 11 #[.slice a n cap] w (DrB w) := by
  have HB := Lib.hid hb
  clear hb
  go_enter Try.func11, Try.ntmps11
  go_wp2_with fail
  refine (l1New_ok a n cap _ hn HB.out).mono ?_
  rintro e w1 ⟨bc, rfl, hbc, hc, he⟩
  have hz := he.size
  go_wp2_with fail
  refine (l2Bent_ok bc _ hc).mono ?_
  rintro e w2 ⟨b, c, m, L, rfl, hm, hm9, hL, hlo, hr, hc2, hu⟩
  go_wp2_with fail
  go_ret
  exact ⟨_, L, rfl, OI.row hr (by omega) (by first | rfl | exact hm), by omega, hL, Upd.comp he hu (fun _ _ h => h) (fun i hi e => by omega)⟩

set_option maxHeartbeats 1000000 in
theorem DrawPopTimes_ok (a : Option Addr) (n cap : Nat) (w : World) (hn : n ≤ 1048576) (hb : BY w.heap.size w a n) : Calls Try.prog 14 #[.slice a n cap] w (DrB w) := by
  have HB := Lib.hid hb
  clear hb
  go_enter Try.func14, Try.ntmps14
  go_wp2_with fail
  refine (l1New_ok a n cap _ hn HB.out).mono ?_
  rintro e w1 ⟨bc, rfl, hbc, hc, he⟩
  have hz := he.size
  go_wp2_with fail
  refine (l2Bent_ok bc _ hc).mono ?_
  rintro e w2 ⟨b, c, m, L, rfl, hm, hm9, hL, hlo, hr, hc2, hu⟩
  go_wp2_with fail
  go_ret
  exact ⟨_, L, rfl, OI.row hr (by omega) (by first | rfl | exact hm), by omega, hL, Upd.comp he hu (fun _ _ h => h) (fun i hi e => by omega)⟩

set_option maxHeartbeats 1000000 in
theorem DrawFallsOf_ok (a : Option Addr) (n cap : Nat) (w : World) (hn : n ≤ 1048576) (hb : BY w.heap.size w a n) : Calls Try.prog 16 #[.slice a n cap] w (DrB w) := by
  have HB := Lib.hid hb
  clear hb
  go_enter Try.func16, Try.ntmps16
  go_wp2_with fail
  refine (l1New_ok a n cap _ hn HB.out).mono ?_
  rintro e w1 ⟨bc, rfl, hbc, hc, he⟩
  have hz := he.size
  go_wp2_with fail
  refine (l2Bent_ok bc _ hc).mono ?_
  rintro e w2 ⟨b, c, m, L, rfl, hm, hm9, hL, hlo, hr, hc2, hu⟩
  go_wp2_with fail
  go_ret
  exact ⟨_, L, rfl, OI.row hr (by omega) (by first | rfl | exact hm), by omega, hL, Upd.comp he hu (fun _ _ h => h) (fun i hi e => by omega)⟩

set_option maxHeartbeats 1000000 in
theorem DrawPopTrail_ok (a : Option Addr) (n cap : Nat) (w : World) (hn : n ≤ 1048576) (hb : BY w.heap.size w a n) : Calls Try.prog 18 #[.slice a n cap] w (DrB w) := by
  have HB := Lib.hid hb
  clear hb
  go_enter Try.func18, Try.ntmps18
  go_wp2_with fail
  refine (l1New_ok a n cap _ hn HB.out).mono ?_
  rintro e w1 ⟨bc, rfl, hbc, hc, he⟩
  have hz := he.size
  go_wp2_with fail
  refine (l2Bent_ok bc _ hc).mono ?_
  rintro e w2 ⟨b, c, m, L, rfl, hm, hm9, hL, hlo, hr, hc2, hu⟩
  go_wp2_with fail
  go_ret
  exact ⟨_, L, rfl, OI.row hr (by omega) (by first | rfl | exact hm), by omega, hL, Upd.comp he hu (fun _ _ h => h) (fun i hi e => by omega)⟩








end Go.Proofs.Ytognbiodplodhaa
