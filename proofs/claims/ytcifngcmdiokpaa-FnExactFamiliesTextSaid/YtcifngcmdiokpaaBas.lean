/- The reference's bases of one or two patterns: IsBasis where it holds, the class of a basis. Conditions: small lengths. -/
import Derived.Test.YtcifngcmdiokpaaSpl
import Derived.Deep.RegionHeld3
namespace Go.Proofs.Ytcifngcmdiokpaa
open Go.RowKit

structure BasOK (L : List (List Int)) : Prop where
  len : L.length ≤ 8
  each : ∀ k, k < L.length → isP8 (nthL L k) = true ∧ 0 < (nthL L k).length ∧ (nthL L k).length ≤ 5
  bef : ∀ k, k + 1 < L.length → (nthL L k).length = (nthL L (k + 1)).length ∧ nth (nthL L k) 0 < nth (nthL L (k + 1)) 0
  free : ∀ k i, i < k → k < L.length → occB (nthL L k) (nthL L i) = false
theorem SII.get {w : World} {v : Value} {L : List (List Int)} (h : SII w v L) : ∃ a cap, v = .slice a L.length cap ∧ ∀ k, k < L.length → ∃ b off, a = some ⟨b, off, none⟩ ∧ ∀ i, i < L.length → ∃ u, w.cell? ⟨b, off + i, none⟩ = some u ∧ SI w u (nthL L i) := by
  obtain ⟨a, cap, h1, -, -, -, h5⟩ := h
  refine ⟨a, cap, h1, fun k hk => ?_⟩
  rcases h5 with h5 | ⟨b, off, h5, h6⟩
  · subst h5; simp at hk
  · exact ⟨b, off, h5, h6⟩
set_option maxHeartbeats 1000000 in
theorem l2Before_ok (xs ys : List Int) (v v2 : Value) (w : World) (h : SI w v xs) (h2 : SI w v2 ys) (h8 : xs.length ≤ 8) (hl : xs.length = ys.length) (h0 : 0 < xs.length) (hlt : nth xs 0 < nth ys 0) :
    Calls Try.prog 87 #[v, v2] w fun e w' => e = .returned (.bool true) ∧ Qt w w' := by
  obtain ⟨a, cap, rfl, hri⟩ := h.elim
  obtain ⟨a2, cap2, rfl, hri2⟩ := h2.elim
  obtain ⟨b, off, rfl, hc⟩ := hri.get h0
  obtain ⟨b2, off2, rfl, hc2⟩ := hri2.get (k := 0) (by omega)
  have c1 := hc 0 h0
  have c2 := hc2 0 (by omega)
  rw [Nat.add_zero] at c1 c2
  rw [← hl]
  obtain ⟨x, hx⟩ : ∃ x, x = nth xs 0 := ⟨_, rfl⟩
  obtain ⟨y, hy⟩ : ∃ y, y = nth ys 0 := ⟨_, rfl⟩
  rw [← hx] at c1 hlt
  rw [← hy] at c2 hlt
  have hne : (x != y) = true := by simp; omega
  have hd : decide (x < y) = true := decide_eq_true hlt
  have hpos : (0 : Int) < (xs.length : Int) := by omega
  clear hc hc2 hx hy hri hri2 hl h h2
  go_enter Try.func87, Try.ntmps87
  go_wp2_with fail
  go_loopw [5] (fun i wr => i = .int .i64 0 ∧ w = wr) (fun _ _ => 0)
  case atStart => exact ⟨rfl, rfl⟩
  case round =>
    obtain ⟨rfl, rfl⟩ := hrel
    go_wp2_with fail
    go_quiet (fail)
    go_wp2_with fail
    go_quiet (fail)
    go_wp2_with fail
    go_ret
    exact ⟨rfl, (Qt.refl _).drewN _ |>.drewN _⟩
def avB (L : List (List Int)) (p : List Int) : Bool := L.all fun q => !occB p q
theorem avB_take (L : List (List Int)) (p : List Int) {k : Nat} (h : k < L.length) : avB (L.take (k + 1)) p = (avB (L.take k) p && !occB p (nthL L k)) := by
  unfold avB; rw [take_nthL h, List.all_append]; simp
theorem avB_false {L : List (List Int)} {p : List Int} {k : Nat} (h : k < L.length) (ho : occB p (nthL L k) = true) : avB L p = false := by
  rw [Bool.eq_false_iff]; intro hh
  have := List.all_eq_true.1 hh _ (nthL_mem h)
  rw [ho] at this; simp at this
set_option maxHeartbeats 1000000 in
theorem l12Avoids_ok (L : List (List Int)) (p : List Int) (v v2 : Value) (w : World) (h : SII w v L) (h2 : SI w v2 p) (hp8 : p.length ≤ 8) (hL8 : L.length ≤ 8) (hL : ∀ q ∈ L, q.length ≤ 5) :
    Calls Try.prog 75 #[v, v2] w fun e w' => e = .returned (.bool (avB L p)) ∧ Ext w w' := by
  obtain ⟨a, cap, hv, -⟩ := h.get
  subst hv
  obtain ⟨a2, cap2, rfl, -⟩ := h2.elim
  have HL := Lib.hid hL
  clear hL
  go_enter Try.func75, Try.ntmps75
  go_wp2_with fail
  go_loopw [5] (fun i wr => ∃ k : Nat, k ≤ L.length ∧ i = .int .i64 k ∧ Hid (avB (L.take k) p = true) ∧ Ext w wr) (fun i _ => L.length - (intOf i).toNat)
  case atStart => exact ⟨0, Nat.zero_le _, rfl, Lib.hid rfl, Ext.refl _⟩
  case round =>
    obtain ⟨k, hk, rfl, hA, he⟩ := hrel
    by_cases hlt : k < L.length
    · obtain ⟨a', cap', hv', hg⟩ := (h.ext he).get
      obtain ⟨b, off, e1, hc⟩ := hg k hlt
      injection hv' with e2 e3 e4
      subst e2 e4
      obtain rfl := e1
      obtain ⟨u, hcu, hsu⟩ := hc k hlt
      obtain ⟨au, cu, rfl, -⟩ := hsu.elim
      have hq5 := HL.out _ (nthL_mem hlt)
      have hst := avB_take L p hlt
      have hff := fun h => avB_false (p := p) hlt h
      obtain ⟨q, hq⟩ : ∃ q, q = nthL L k := ⟨_, rfl⟩
      rw [← hq] at hcu hsu hq5 hst hff
      clear hc hg e3 hq
      cases hb : occB p q
      · have hno : Hid (avB (L.take (k + 1)) p = true) := by show _ = _; rw [hst, hA.out, hb]; rfl
        have HB := Lib.hid hb
        clear hst hff hb
        go_wp2_with fail
        refine (l7Has_ok p q _ _ _ hp8 hq5 (h2.ext he) hsu).mono ?_
        rintro e w4 ⟨rfl, he4⟩
        rw [HB.out]
        go_wp2_with fail
        go_roundw
        case rel => exact ⟨k + 1, by omega, by go_num, hno, he.trans he4⟩
        case measure => simp [intOf]; omega
      · have hyes : Hid (avB L p = false) := by show _ = _; exact hff hb
        have HB := Lib.hid hb
        clear hst hff hb
        go_wp2_with fail
        refine (l7Has_ok p q _ _ _ hp8 hq5 (h2.ext he) hsu).mono ?_
        rintro e w4 ⟨rfl, he4⟩
        rw [HB.out]
        go_wp2_with fail
        go_ret
        exact ⟨by rw [hyes.out]; rfl, he.trans he4⟩
    · obtain rfl : k = L.length := by omega
      have hall : Hid (avB L p = true) := by show _ = _; rw [← hA.out, take_all (Nat.le_refl _)]
      go_wp2_with fail
      go_ret
      exact ⟨by rw [hall.out]; rfl, he⟩
set_option maxHeartbeats 2000000 in
theorem isBasis_ok (L : List (List Int)) (v : Value) (w : World) (h : SII w v L) (hok : BasOK L) :
    Calls Try.prog 74 #[v] w fun e w' => e = .returned (.bool true) ∧ Ext w w' := by
  obtain ⟨a, cap, hv, -⟩ := h.get
  subst hv
  have HOK := Lib.hid hok
  have hL8 := hok.len
  clear hok
  go_enter Try.func74, Try.ntmps74
  go_wp2_with fail
  go_loopw [3] (fun i wr => ∃ k : Nat, k ≤ L.length ∧ i = .int .i64 k ∧ Ext w wr) (fun i _ => L.length - (intOf i).toNat)
  case atStart => exact ⟨0, Nat.zero_le _, rfl, Ext.refl _⟩
  case round =>
    obtain ⟨k, hk, rfl, he⟩ := hrel
    by_cases hlt : k < L.length
    · obtain ⟨a', cap', hv', hg⟩ := (h.ext he).get
      obtain ⟨b, off, e1, hc⟩ := hg k hlt
      injection hv' with e2 e3 e4
      subst e2 e4
      obtain rfl := e1
      obtain ⟨u, hcu, hsu⟩ := hc k hlt
      obtain ⟨au, cu, rfl, -⟩ := hsu.elim
      obtain ⟨hq8, hq0, hq5⟩ := HOK.out.each k hlt
      have hfr := Lib.hid (fun i (hi : i < k) => HOK.out.free k i hi hlt)
      have hHC := Lib.hid hc
      obtain ⟨q, hq⟩ : ∃ q, q = nthL L k := ⟨_, rfl⟩
      have HQ := Lib.hid hq
      rw [← hq] at hcu hsu hq8 hq5 hq0 hfr
      have hl0 : ((q.length : Int) == 0) = false := ieq_f (by omega)
      have HQ8 := Lib.hid hq8
      have hklt : (k : Int) < (L.length : Int) := by omega
      clear hc hg e3 hq hq8
      obtain ⟨wp, hwp⟩ : ∃ wp, wp = wr := ⟨_, rfl⟩
      subst hwp
      have HPC : Hid (∀ m, Calls Try.prog 32 #[.slice au q.length cu] (wp.drewN m) fun e w' => e = .returned (.bool true) ∧ Qt (wp.drewN m) w') := by
        show ∀ m, _
        intro m
        have := spec_IsPerm_qt _ q _ (hsu.ext (Upd.drewN wp m _)) (by omega)
        rw [HQ8.out] at this; exact this
      by_cases hk0 : 0 < k
      · have hkI : (0 : Int) < (k : Int) := by omega
        obtain ⟨hb1, hb2⟩ := HOK.out.bef (k - 1) (by omega)
        rw [show k - 1 + 1 = k by omega, ← HQ.out] at hb1 hb2
        obtain ⟨u3, hu3, hs3⟩ := hHC.out (k - 1) (by omega)
        have h38 := (HOK.out.each (k - 1) (by omega)).2.2
        have h30 := (HOK.out.each (k - 1) (by omega)).2.1
        obtain ⟨q3, hq3⟩ : ∃ q3, q3 = nthL L (k - 1) := ⟨_, rfl⟩
        rw [← hq3] at hb1 hb2 hs3 h38 h30
        obtain ⟨au3, cu3, rfl, -⟩ := hs3.elim
        have HBF : Hid (∀ m, Calls Try.prog 87 #[.slice au3 q3.length cu3, .slice au q.length cu] (wp.drewN m) fun e w' => e = .returned (.bool true) ∧ Qt (wp.drewN m) w') := by
          show ∀ m, _
          intro m
          exact l2Before_ok q3 q _ _ _ (hs3.ext (Upd.drewN wp m _)) (hsu.ext (Upd.drewN wp m _)) (by omega) hb1 h30 hb2
        have w1 : IntKind.i64.wrap ((k : Int) - 1) = (k : Int) - 1 := IntWalk.i64_in _ (by omega)
        have w2 : (0 : Int) ≤ (k : Int) - 1 := by omega
        have w3 : ((k : Int) - 1).toNat = k - 1 := by omega
        have w4 : (k : Int) - 1 < (L.length : Int) := by omega
        have hfalse : decide (0 < k) = true := decide_eq_true hk0
        clear hq3 hb1 hb2
        go_wp2_with fail
        go_quiet ((first | (go_at_call 32; exact Calls.quiet_of (HPC.out _)) | (go_at_call 87; exact Calls.quiet_of (HBF.out _))))
        clear w1 w2 w3 w4
        go_wp2_with fail
        go_loopw [4] (fun x wr => ∃ i : Nat, i ≤ k ∧ x = .int .i64 i ∧ Ext w wr) (fun x _ => k - (intOf x).toNat)
        case atStart => exact ⟨0, Nat.zero_le _, rfl, he.drewN _⟩
        case round =>
          obtain ⟨i, hik, rfl, hei⟩ := hrel
          by_cases hil : i < k
          · obtain ⟨a', cap', hv', hg⟩ := (h.ext hei).get
            obtain ⟨b', off', e1, hc⟩ := hg k hlt
            injection hv' with e2 e3 e4
            subst e2 e4
            obtain ⟨rfl, rfl⟩ : b = b' ∧ off = off' := by injection e1 with e5; injection e5 with e6 e7; exact ⟨e6, e7⟩
            obtain ⟨u1, hu1, hs1⟩ := hc k hlt
            obtain ⟨u2, hu2, hs2⟩ := hc i (by omega)
            rw [← HQ.out] at hs1
            have hq5i := (HOK.out.each i (by omega)).2.2
            have hfi := Lib.hid (hfr.out i hil)
            obtain ⟨q2, hq2⟩ : ∃ q2, q2 = nthL L i := ⟨_, rfl⟩
            rw [← hq2] at hs2 hq5i hfi
            obtain ⟨au1, cu1, rfl, -⟩ := hs1.elim
            obtain ⟨au2, cu2, rfl, -⟩ := hs2.elim
            have hilI : (i : Int) < (L.length : Int) := by omega
            have h8q : q.length ≤ 8 := by omega
            clear hg hc e1 e3 hq2 hu3 hcu hsu he
            go_wp2_with fail
            go_region_held3 (fun w' => w'.cell? ⟨b, off + k, none⟩ = some (.slice au1 q.length cu1) ∧ w'.cell? ⟨b, off + i, none⟩ = some (.slice au2 q2.length cu2))
              (first | go_keep | (exact ⟨he2.cell (by assumption), he2.cell (by assumption)⟩))
              ((go_at_call 88; go_loud (refine (l7Has_ok q q2 _ _ _ h8q hq5i (hs1.ext (Upd.drew _ _)) (hs2.ext (Upd.drew _ _))).mono ?_; rintro e w2 ⟨rfl, he2⟩; rw [hfi.out])))
            all_goals
              go_wp2_with fail
              go_roundw
              case rel => exact ⟨i + 1, by omega, by go_num, (hei.trans (Upd.drew _ _ : Ext _ _)).trans he2⟩
              case measure => simp [intOf]; omega
          · obtain rfl : i = k := by omega
            go_wp2_with fail
            go_roundw
            case rel => exact ⟨i + 1, by omega, by go_num, hei⟩
            case measure => simp [intOf]; omega
      · have hkI : ¬ (0 : Int) < (k : Int) := by omega
        have hkd : decide (0 < k) = false := decide_eq_false hk0
        go_wp2_with fail
        go_quiet ((go_at_call 32; exact Calls.quiet_of (HPC.out _)))
        go_wp2_with fail
        go_loopw [4] (fun x wr => ∃ i : Nat, i ≤ k ∧ x = .int .i64 i ∧ Ext w wr) (fun x _ => k - (intOf x).toNat)
        case atStart => exact ⟨0, Nat.zero_le _, rfl, he.drewN _⟩
        case round =>
          obtain ⟨i, hik, rfl, hei⟩ := hrel
          by_cases hil : i < k
          · obtain ⟨a', cap', hv', hg⟩ := (h.ext hei).get
            obtain ⟨b', off', e1, hc⟩ := hg k hlt
            injection hv' with e2 e3 e4
            subst e2 e4
            obtain ⟨rfl, rfl⟩ : b = b' ∧ off = off' := by injection e1 with e5; injection e5 with e6 e7; exact ⟨e6, e7⟩
            obtain ⟨u1, hu1, hs1⟩ := hc k hlt
            obtain ⟨u2, hu2, hs2⟩ := hc i (by omega)
            rw [← HQ.out] at hs1
            have hq5i := (HOK.out.each i (by omega)).2.2
            have hfi := Lib.hid (hfr.out i hil)
            obtain ⟨q2, hq2⟩ : ∃ q2, q2 = nthL L i := ⟨_, rfl⟩
            rw [← hq2] at hs2 hq5i hfi
            obtain ⟨au1, cu1, rfl, -⟩ := hs1.elim
            obtain ⟨au2, cu2, rfl, -⟩ := hs2.elim
            have hilI : (i : Int) < (L.length : Int) := by omega
            have h8q : q.length ≤ 8 := by omega
            clear hg hc e1 e3 hq2 hcu hsu he
            go_wp2_with fail
            go_region_held3 (fun w' => w'.cell? ⟨b, off + k, none⟩ = some (.slice au1 q.length cu1) ∧ w'.cell? ⟨b, off + i, none⟩ = some (.slice au2 q2.length cu2))
              (first | go_keep | (exact ⟨he2.cell (by assumption), he2.cell (by assumption)⟩))
              ((go_at_call 88; go_loud (refine (l7Has_ok q q2 _ _ _ h8q hq5i (hs1.ext (Upd.drew _ _)) (hs2.ext (Upd.drew _ _))).mono ?_; rintro e w2 ⟨rfl, he2⟩; rw [hfi.out])))
            all_goals
              go_wp2_with fail
              go_roundw
              case rel => exact ⟨i + 1, by omega, by go_num, (hei.trans (Upd.drew _ _ : Ext _ _)).trans he2⟩
              case measure => simp [intOf]; omega
          · obtain rfl : i = k := by omega
            go_wp2_with fail
            go_roundw
            case rel => exact ⟨i + 1, by omega, by go_num, hei⟩
            case measure => simp [intOf]; omega
    · obtain rfl : k = L.length := by omega
      have hL8I : (L.length : Int) ≤ 8 := by omega
      go_wp2_with fail
      go_ret
      exact ⟨rfl, he⟩
end Go.Proofs.Ytcifngcmdiokpaa
