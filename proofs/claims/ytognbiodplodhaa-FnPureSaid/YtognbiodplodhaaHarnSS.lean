/- Contracts of the laws' own helpers on slices of slices of ints: copy, compare, mark, hold, size. Conditions: lengths below a bound. -/
import Derived.Test.YtognbiodplodhaaHarn
namespace Go.Proofs.Ytognbiodplodhaa
open Go.RowKit

theorem SII.elim {w : World} {v : Value} {xss : List (List Int)} (h : SII w v xss) : ∃ a cap, v = .slice a xss.length cap ∧
    ∀ k, k < xss.length → ∃ b off, a = some ⟨b, off, none⟩ ∧ ∃ u, w.cell? ⟨b, off + k, none⟩ = some u ∧ SI w u (nthL xss k) := by
  obtain ⟨a, cap, h1, _, _, _, h5⟩ := h
  refine ⟨a, cap, h1, fun k hk => ?_⟩
  rcases h5 with rfl | ⟨b, off, h6, h7⟩
  · simp at hk
  · exact ⟨b, off, h6, h7 k hk⟩
def small (xss : List (List Int)) : Prop := ∀ xs ∈ xss, xs.length ≤ 10000000
theorem small.nth {xss : List (List Int)} (h : small xss) {k : Nat} (hk : k < xss.length) : (nthL xss k).length ≤ 10000000 := h _ (nthL_mem hk)

def eqToL (xs ys : List (List Int)) (k : Nat) : Prop := ∀ i, i < k → nthL xs i = nthL ys i
theorem eqToL_all {xs ys : List (List Int)} (h : eqToL xs ys xs.length) (hl : xs.length = ys.length) : xs = ys := by
  refine List.ext_getElem hl fun i h1 h2 => ?_
  have := h i h1
  rwa [nthL_get h1, nthL_get h2] at this
theorem eqToL_succ {xs ys : List (List Int)} {k : Nat} (h : eqToL xs ys k) (hk : nthL xs k = nthL ys k) : eqToL xs ys (k + 1) := fun i hi => by
  rcases Nat.lt_or_ge i k with h1 | h1
  · exact h i h1
  · obtain rfl : i = k := by omega
    exact hk
theorem ne_of_nthL {xs ys : List (List Int)} {k : Nat} (h : nthL xs k ≠ nthL ys k) : xs ≠ ys := fun e => h (by rw [e])

set_option maxHeartbeats 400000 in
theorem eqIntSS_ok (v v2 : Value) (xs ys : List (List Int)) (w : World) (h : SII w v xs) (h2 : SII w v2 ys) (hl : xs.length ≤ 1000000000) (hs : small xs) :
    Calls Try.prog 33 #[v, v2] w fun e w' => e = .returned (.bool (decide (xs = ys))) ∧ Qt w w' := by
  obtain ⟨a, cap, rfl, hri⟩ := h.elim
  obtain ⟨a2, cap2, rfl, hri2⟩ := h2.elim
  by_cases hlen : xs.length = ys.length
  · have H := Lib.hid hlen
    rw [← hlen]
    clear hlen h h2
    have hb : ((xs.length : Int) != (xs.length : Int)) = false := by simp
    go_enter Try.func33, Try.ntmps33
    go_wp2
    go_loopw [5] (fun i wr => ∃ k : Nat, k ≤ xs.length ∧ i = .int .i64 k ∧ eqToL xs ys k ∧ Qt w wr) (fun i _ => xs.length - (intOf i).toNat)
    case atStart => exact ⟨0, by omega, rfl, fun i hi => by omega, Qt.refl _⟩
    case round =>
      obtain ⟨k, hk, rfl, he, hq⟩ := hrel
      have He := Lib.hid he
      clear he hb
      by_cases hlt : k < xs.length
      · obtain ⟨b, off, rfl, u, hc, hu⟩ := hri k hlt
        obtain ⟨b2, off2, rfl, u2, hc2, hu2⟩ := hri2 k (by rw [← H.out]; exact hlt)
        have hsm := hs.nth hlt
        clear hri hri2 hs
        replace hc := Ext.cell hq.ext hc
        replace hc2 := Ext.cell hq.ext hc2
        have HE := fun nq => (eqIntS_ok u u2 _ _ (wr.drewN nq) ((hu.ext hq.ext).ext (Upd.drewN _ _ _)) ((hu2.ext hq.ext).ext (Upd.drewN _ _ _)) (by omega))
        by_cases hne : nthL xs k = nthL ys k
        · have He2 := Lib.hid (eqToL_succ He.out hne)
          simp only [hne, decide_true] at HE
          clear hne hsm
          have HE' := Lib.hid HE
          clear HE
          go_wp2
          go_quiet ((go_at_call 34; exact Calls.quiet_of (HE'.out _)))
          go_wp2
          go_roundw
          case rel => exact ⟨k + 1, by omega, by go_num, He2.out, by first | exact hq | exact hq.drewN _⟩
          case measure => simp [intOf]; omega
        · have He2 := Lib.hid (ne_of_nthL hne)
          simp only [hne, decide_false] at HE
          clear hne hsm
          have HE' := Lib.hid HE
          clear HE
          go_wp2
          go_quiet ((go_at_call 34; exact Calls.quiet_of (HE'.out _)))
          go_wp2
          go_ret
          exact ⟨by simp [He2.out], by first | exact hq | exact hq.drewN _⟩
      · obtain rfl : k = xs.length := by omega
        go_wp2
        go_ret
        exact ⟨by simp [eqToL_all He.out H.out], by first | exact hq | exact hq.drewN _⟩
  · have hb : ((xs.length : Int) != (ys.length : Int)) = true := by simp; omega
    go_enter Try.func33, Try.ntmps33
    go_wp2
    go_ret
    have hne : xs ≠ ys := fun e => hlen (by rw [e])
    exact ⟨by simp [hne], Qt.refl _⟩

/-- how many numbers a list of lists holds, and its lists counted. -/
def sumTo (xss : List (List Int)) (j : Nat) : Nat := ((xss.take j).map List.length).sum
def sumLen (xss : List (List Int)) : Nat := (xss.map List.length).sum
theorem sumTo_succ {xss : List (List Int)} {j : Nat} (h : j < xss.length) : sumTo xss (j + 1) = sumTo xss j + (nthL xss j).length := by
  unfold sumTo; rw [take_nthL h]; simp
theorem sumTo_all (xss : List (List Int)) : sumTo xss xss.length = sumLen xss := by simp [sumTo, sumLen]
theorem sumTo_le (xss : List (List Int)) (j : Nat) : sumTo xss j ≤ sumLen xss := by
  unfold sumTo sumLen
  conv => rhs; rw [← List.take_append_drop j xss, List.map_append, List.sum_append]
  omega
theorem le_sumLen {xss : List (List Int)} {xs : List Int} (h : xs ∈ xss) : xs.length ≤ sumLen xss := by
  unfold sumLen
  induction xss with
  | nil => simp at h
  | cons y ys ih =>
    simp only [List.map_cons, List.sum_cons]
    rcases List.mem_cons.1 h with rfl | h
    · omega
    · have := ih h; omega


theorem Upd.own {v : Value} {B H : Nat} {w w' : World} (hu : Upd (fun b => v.ownBlock = some b) w w') (h : ∀ b, v.ownBlock = some b → B ≤ b ∧ b < H) : Upd (fun b => B ≤ b ∧ b < H) w w' := hu.mono (fun i _ hi => h i hi)

/-- the lists marked one behind the other from k on. -/
def mks (k : Int) : List (List Int) → List (List Int)
  | [] => []
  | xs :: rest => mk k xs.length :: mks (k + xs.length) rest
theorem mks_len (xss : List (List Int)) : ∀ k, (mks k xss).length = xss.length := by
  induction xss with
  | nil => intro k; rfl
  | cons x xs ih => intro k; simp [mks, ih]
theorem mks_nth (xss : List (List Int)) : ∀ (k : Int) (j : Nat), j < xss.length → nthL (mks k xss) j = mk (k + sumTo xss j) (nthL xss j).length := by
  induction xss with
  | nil => intro k j h; simp at h
  | cons x xs ih =>
    intro k j h
    cases j with
    | zero => simp [mks, nthL, sumTo]
    | succ j =>
      have := ih (k + x.length) j (by simpa using h)
      simp only [nthL, sumTo, mks, List.getD_cons_succ, List.take_succ_cons, List.map_cons, List.sum_cons] at *
      rw [this]
      congr 1
      omega
def markedL (k : Int) (xss : List (List Int)) (j : Nat) : List (List Int) := (mks k xss).take j ++ xss.drop j
theorem markedL_len (k : Int) (xss : List (List Int)) (j : Nat) (h : j ≤ xss.length) : (markedL k xss j).length = xss.length := by simp [markedL, mks_len]; omega
theorem markedL_nth (k : Int) (xss : List (List Int)) (j : Nat) (h : j < xss.length) : nthL (markedL k xss j) j = nthL xss j := by
  unfold markedL nthL
  have hl : ((mks k xss).take j).length = j := by simp [mks_len]; omega
  rw [List.getD_eq_getElem?_getD, List.getElem?_append_right (by omega), hl]
  simp
theorem markedL_set (k : Int) (xss : List (List Int)) (j : Nat) (h : j < xss.length) : (markedL k xss j).set j (mk (k + sumTo xss j) (nthL xss j).length) = markedL k xss (j + 1) := by
  unfold markedL
  have hl : ((mks k xss).take j).length = j := by simp [mks_len]; omega
  rw [List.set_append, hl, if_neg (by omega), Nat.sub_self, drop_nthL h, List.set_cons_zero, take_nthL (by rw [mks_len]; exact h), mks_nth xss k j h]
  simp

set_option maxHeartbeats 400000 in
theorem markRowSS_ok (B H b cap : Nat) (vs : List Value) (xss : List (List Int)) (k : Int) (w : World) (h : Row 24 w b cap vs) (he : Els B H w vs xss) (hs : ∀ i, i < xss.length → (nthV vs i).ownBlock ≠ some b)
    (hl : xss.length ≤ 1000000000) (hsm : small xss) (hsum : sumLen xss ≤ 1000000000) (hk0 : 0 ≤ k) (hk : k ≤ 1000000000) :
    Calls Try.prog 36 #[.slice (some ⟨b, 0, none⟩) xss.length cap, .int .i64 k] w fun e w' => e = .returned (.int .i64 (k + sumLen xss)) ∧ Row 24 w' b cap vs ∧ Els B H w' vs (mks k xss) ∧ Upd (fun c => B ≤ c ∧ c < H) w w' := by
  go_enter Try.func36, Try.ntmps36
  go_wp2
  go_loopw [1, 5] (fun c i wr => ∃ j : Nat, j ≤ xss.length ∧ i = .int .i64 j ∧ c = .int .i64 (k + sumTo xss j) ∧ Row 24 wr b cap vs ∧ Els B H wr vs (markedL k xss j) ∧ Upd (fun c => B ≤ c ∧ c < H) w wr) (fun _ i _ => xss.length - (intOf i).toNat)
  case atStart => exact ⟨0, by omega, rfl, by simp [sumTo], h, by simpa [markedL] using he, Upd.refl _ _⟩
  case round =>
    obtain ⟨j, hj, rfl, rfl, hr, hel, hu⟩ := hrel
    by_cases hlt : j < xss.length
    · have hvl : vs.length = xss.length := by rw [hel.len, markedL_len k xss j hj]
      have hc := hr.cell (nthV_get (vs := vs) (k := j) (by omega))
      have hoi := hel.el j (by rw [markedL_len k xss j hj]; exact hlt)
      rw [markedL_nth k xss j hlt] at hoi
      have hlen := hsm.nth hlt
      have hsj := sumTo_le xss j
      have HS := Lib.hid (sumTo_succ hlt)
      have hset := markedL_set k xss j hlt
      clear he h
      go_wp2_with (go_at_call 35; refine (markIntS_ok B H _ (nthL xss j) _ wr hoi (by omega) (by omega) (by omega)).mono ?_; rintro e w1 ⟨rfl, hoi1, hu1⟩)
      go_roundw
      case rel =>
        refine ⟨j + 1, by omega, by go_num, by rw [HS.out, Value.int.injEq]; exact ⟨rfl, by omega⟩, hr.upd hu1 (hs j hlt), ?_, hu.trans (hu1.own (fun b hb => hoi.own hb))⟩
        rw [← hset]
        exact hel.set (by rw [markedL_len k xss j hj]; exact hlt) hu1 hoi1
      case measure => simp [intOf]; omega
    · obtain rfl : j = xss.length := by omega
      clear he h
      go_wp2
      go_ret
      refine ⟨by rw [← sumTo_all]; rfl, hr, ?_, hu⟩
      have e1 : markedL k xss xss.length = mks k xss := by
        unfold markedL
        rw [take_all (by rw [mks_len]; omega)]; simp
      rw [← e1]; exact hel

set_option maxHeartbeats 400000 in
theorem markNilSS_ok (k : Int) (w : World) :
    Calls Try.prog 36 #[.slice none 0 0, .int .i64 k] w fun e w' => e = .returned (.int .i64 k) ∧ w = w' := by
  go_enter Try.func36, Try.ntmps36
  go_wp2
  go_loopw [1, 5] (fun c i wr => c = .int .i64 k ∧ i = .int .i64 0 ∧ w = wr) (fun _ _ _ => 0)
  case atStart => exact ⟨rfl, rfl, rfl⟩
  case round =>
    obtain ⟨rfl, rfl, rfl⟩ := hrel
    go_wp2
    go_ret
    exact ⟨rfl, rfl⟩

theorem markIntSS_ok (B H : Nat) (v : Value) (xss : List (List Int)) (k : Int) (w : World) (h : OII B H w v xss) (hl : xss.length ≤ 1000000000) (hsm : small xss) (hsum : sumLen xss ≤ 1000000000) (hk0 : 0 ≤ k) (hk : k ≤ 1000000000) :
    Calls Try.prog 36 #[v, .int .i64 k] w fun e w' => e = .returned (.int .i64 (k + sumLen xss)) ∧ OII B H w' v (mks k xss) ∧ Upd (fun b => B ≤ b ∧ b < H) w w' := by
  rcases h with ⟨rfl, rfl⟩ | ⟨b, cap, vs, rfl, hB, hH, h, he, hs⟩
  · refine (markNilSS_ok k w).mono fun e w' ⟨h1, h2⟩ => ?_
    subst h2
    exact ⟨by simp [h1, sumLen], .inl ⟨rfl, rfl⟩, Upd.refl _ _⟩
  · refine (markRowSS_ok B H b cap vs xss k w h he hs hl hsm hsum hk0 hk).mono fun e w' ⟨h1, h2, h3, h4⟩ => ⟨h1, .inr ⟨b, cap, vs, by rw [mks_len], hB, hH, h2, h3, fun i hi => hs i (by rwa [mks_len] at hi)⟩, h4⟩

set_option maxHeartbeats 400000 in
theorem heldIntSS_ok (v : Value) (xss : List (List Int)) (k : Int) (w : World) (h : SII w v (mks k xss)) (hl : xss.length ≤ 1000000000) (hsm : small xss) (hsum : sumLen xss ≤ 1000000000) (hk0 : 0 ≤ k) (hk : k ≤ 1000000000) :
    Calls Try.prog 37 #[v, .int .i64 k] w fun e w' => e = .returned (.int .i64 (k + sumLen xss)) ∧ Qt w w' := by
  obtain ⟨a, cap, rfl, hri⟩ := h.elim
  clear h
  rw [mks_len] at hri
  rw [mks_len]
  go_enter Try.func37, Try.ntmps37
  go_wp2
  go_loopw [1, 5] (fun c i wr => ∃ j : Nat, j ≤ xss.length ∧ i = .int .i64 j ∧ c = .int .i64 (k + sumTo xss j) ∧ Qt w wr) (fun _ i _ => xss.length - (intOf i).toNat)
  case atStart => exact ⟨0, by omega, rfl, by simp [sumTo], Qt.refl _⟩
  case round =>
    obtain ⟨j, hj, rfl, rfl, hq⟩ := hrel
    by_cases hlt : j < xss.length
    · obtain ⟨b, off, rfl, u, hc, hu⟩ := hri j hlt
      rw [mks_nth xss k j hlt] at hu
      replace hc := Ext.cell hq.ext hc
      replace hu := hu.ext hq.ext
      have hlen := hsm.nth hlt
      have hsj := sumTo_le xss j
      have HS := Lib.hid (sumTo_succ hlt)
      have hneg : ¬ (k + (sumTo xss j : Int) + ((nthL xss j).length : Int)) < 0 := by omega
      clear hri
      go_wp2_with (go_at_call 38; refine (heldIntS_ok _ _ _ wr hu (by omega) (by omega) (by omega)).mono ?_; rintro e w1 ⟨rfl, hq1⟩)
      go_roundw
      case rel => exact ⟨j + 1, by omega, by go_num, by rw [HS.out, Value.int.injEq]; exact ⟨rfl, by omega⟩, hq.trans hq1⟩
      case measure => simp [intOf]; omega
    · obtain rfl : j = xss.length := by omega
      go_wp2
      go_ret
      exact ⟨by rw [← sumTo_all]; rfl, hq⟩

end Go.Proofs.Ytognbiodplodhaa
