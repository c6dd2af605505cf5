/- The draws of the great laws: small numbers, permutations. Conditions: small bounds. -/
import Derived.Test.YtognbiodplodhaaDraw
import Derived.Test.YtognbiodplodhaaOff
namespace Go.Proofs.Ytognbiodplodhaa
open Go.RowKit

set_option maxHeartbeats 1000000 in
theorem l1Below_ok (bc n : Nat) (w : World) (h : Cur bc w) (h1 : 1 ≤ n) (h2 : n ≤ 256) :
    Calls Try.prog 75 #[.pointer (some ⟨bc, 0, none⟩), .int .i64 (n : Int)] w fun e w' => ∃ x : Nat, x < n ∧ e = .returned (.int .i64 (x : Int)) ∧ Cur bc w' ∧ Upd (· = bc) w w' := by
  go_enter Try.func75, Try.ntmps75
  go_wp2_with fail
  refine (l1Byte_ok bc _ h).mono ?_
  rintro e w1 ⟨x, hx, rfl, hc, hu⟩
  have hn0 : ((n : Int) == 0) = false := by simpa using (show (n : Int) ≠ 0 by omega)
  go_wp2_with fail
  go_ret
  refine ⟨x % n, Nat.mod_lt _ (by omega), ?_, hc, hu⟩
  rfl
set_option maxHeartbeats 1000000 in
theorem l1Once_ok (bc n : Nat) (w : World) (h : Cur bc w) (h1 : 1 ≤ n) (h2 : n ≤ 256) :
    Calls Try.prog 78 #[.pointer (some ⟨bc, 0, none⟩), .int .i64 (n : Int)] w fun e w' => ∃ x : Bool, e = .returned (.bool x) ∧ Cur bc w' ∧ Upd (· = bc) w w' := by
  go_enter Try.func78, Try.ntmps78
  go_wp2_with fail
  refine (l1Below_ok bc n _ h h1 h2).mono ?_
  rintro e w1 ⟨x, hx, rfl, hc, hu⟩
  go_wp2_with fail
  go_ret
  exact ⟨_, rfl, hc, hu⟩
set_option maxHeartbeats 1000000 in
theorem l1PickInt_ok (bc : Nat) (v : Value) (xs : List Int) (w : World) (h : Cur bc w) (hx : SI w v xs) (ho : Off bc v xs) (h1 : 1 ≤ xs.length) (h2 : xs.length ≤ 256) :
    Calls Try.prog 92 #[.pointer (some ⟨bc, 0, none⟩), v] w fun e w' => ∃ k, k < xs.length ∧ e = .returned (.int .i64 (nth xs k)) ∧ Cur bc w' ∧ Upd (· = bc) w w' := by
  obtain ⟨a, cap, rfl, -⟩ := hx.elim
  go_enter Try.func92, Try.ntmps92
  go_wp2_with fail
  refine (l1Below_ok bc xs.length _ h h1 h2).mono ?_
  rintro e w1 ⟨k, hk, rfl, hc, hu⟩
  obtain ⟨a', cap', e1, hri⟩ := (hx.off hu ho).elim
  obtain ⟨b, off, e2, hcell⟩ := hri.get hk
  injection e1 with e3 e4 e5
  subst e3 e2
  have hck := hcell k hk
  clear hcell hri e5
  go_wp2_with fail
  go_ret
  exact ⟨k, hk, rfl, hc, hu⟩
theorem RI.drop0 {w : World} {b : Nat} {xs : List Int} (h : RI w (some ⟨b, 0, none⟩) xs) (k : Nat) : RI w (some ⟨b, k, none⟩) (xs.drop k) := by
  rcases h with h | ⟨b', off', e, h⟩
  · left; subst h; simp
  · simp only [Option.some.injEq, Addr.mk.injEq, and_true] at e
    obtain ⟨rfl, rfl⟩ := e
    refine .inr ⟨b, k, rfl, fun i hi => ?_⟩
    simp only [List.length_drop] at hi
    have := h (k + i) (by omega)
    rw [Nat.zero_add] at this
    rw [this]; congr 2; unfold nth; simp
theorem Row.shrinkI {w : World} {b cap : Nat} {xs : List Int} (h : Row 3 w b cap (vals xs)) (k : Nat) : Row 3 w b cap (vals (xs.take k)) := by
  have := h.shrink k
  rwa [← List.map_take] at this
theorem l1Below_int (bc : Nat) (N : Int) (w : World) (h : Cur bc w) (h1 : 1 ≤ N) (h2 : N ≤ 256) :
    Calls Try.prog 75 #[.pointer (some ⟨bc, 0, none⟩), .int .i64 N] w fun e w' => ∃ x : Nat, (x : Int) < N ∧ e = .returned (.int .i64 (x : Int)) ∧ Cur bc w' ∧ Upd (· = bc) w w' := by
  obtain ⟨n, rfl⟩ : ∃ n : Nat, N = (n : Int) := ⟨N.toNat, by omega⟩
  refine (l1Below_ok bc n w h (by omega) (by omega)).mono ?_
  rintro e w1 ⟨x, h1, h2⟩
  exact ⟨x, by omega, h2⟩
def DrawPost (bc n : Nat) (w : World) (e : Ending) (w' : World) : Prop :=
  ∃ b c m L, e = .returned (.slice (some ⟨b, 0, none⟩) m c) ∧ m = L.length ∧ L.length = n ∧ (∀ x ∈ L, 1 ≤ x ∧ x ≤ (n : Int)) ∧ w.heap.size ≤ b ∧ Row 3 w' b c (vals L) ∧ Cur bc w' ∧ Upd (· = bc) w w'
set_option maxHeartbeats 2000000 in
theorem l2Draw_ok (bc n : Nat) (w : World) (h : Cur bc w) (hn : n ≤ 100) :
    Calls Try.prog 81 #[.pointer (some ⟨bc, 0, none⟩), .int .i64 (n : Int)] w (DrawPost bc n w) := by
  have hbc := h.lt
  have hr0 := Row.new 3 w [] (by simp)
  have he0 : Ext w (w.alloc (.cells #[] 3)) := Upd.alloc _ _ _
  have hc0 := h.ext he0
  go_enter Try.func81, Try.ntmps81
  go_wp2_with fail
  go_loopw [5, 6] (fun o i wr => ∃ j : Nat, j ≤ n ∧ i = .int .i64 ((j : Int) + 1) ∧ (∃ b c m L, o = .slice (some ⟨b, 0, none⟩) m c ∧ Hid (m = L.length) ∧ L.length = j ∧ Hid (∀ x ∈ L, 1 ≤ x ∧ x ≤ (n : Int)) ∧ w.heap.size ≤ b ∧ Row 3 wr b c (vals L)) ∧ Cur bc wr ∧ Upd (· = bc) w wr) (fun _ i _ => n + 1 - (intOf i).toNat)
  case atStart => exact ⟨0, Nat.zero_le _, rfl, ⟨_, 0, 0, [], rfl, Lib.hid rfl, rfl, Lib.hid (fun x h => by simp at h), Nat.le_refl _, hr0⟩, hc0, Upd.alloc _ _ _⟩
  case round =>
    obtain ⟨j, hj, rfl, ⟨b, c, m, L, rfl, hm, hL, hLb, hb, hr⟩, hc, hu⟩ := hrel
    clear hr0 he0 hc0
    have hzu := hu.size
    by_cases hlt : j < n
    · obtain rfl : m = j := by rw [hm.out, hL]
      have HM := Lib.hid hm.out
      have HLL := Lib.hid hL
      have hcap := hr.le
      simp at hcap
      have hcapm : m ≤ c := by have := hm.out; omega
      have hmx := hr.mx
      unfold maxLen at hmx
      have hbl := hr.lt
      have HR := Lib.hid hr
      have hltI : (m : Int) + 1 ≤ (n : Int) := by omega
      clear hr hm hL hcap
      go_wp2_with fail
      refine (l1Below_int bc _ _ hc (by omega) (by omega)).mono ?_
      rintro e w1 ⟨x, hx, rfl, hc1, hu1⟩
      have HR1 := Lib.hid (HR.out.upd hu1 (fun e => by omega))
      have hz1 := hu1.size
      have hU1 := Lib.hid (hu.trans hu1)
      have hxm : x ≤ m := by omega
      have hnew : Hid ((L.take x ++ [(m : Int) + 1] ++ L.drop x).length = m + 1 ∧ ∀ y ∈ L.take x ++ [(m : Int) + 1] ++ L.drop x, 1 ≤ y ∧ y ≤ (n : Int)) := by
        show _ ∧ _
        refine ⟨by have := HLL.out; simp; omega, fun y hy => ?_⟩
        simp only [List.mem_append, List.mem_singleton] at hy
        rcases hy with (hy | hy) | hy
        · exact hLb.out y (List.mem_of_mem_take hy)
        · omega
        · exact hLb.out y (List.mem_of_mem_drop hy)
      have hle1 : x ≤ c := by omega
      have hI1 : (x : Int) ≤ (c : Int) := by omega
      have hI2 : (x : Int) ≤ (m : Int) := by omega
      have hsz1 : bc < w1.heap.size := by omega
      have hsz2 : b < w1.heap.size := by omega
      obtain ⟨D, hD⟩ : ∃ D, D = L.drop x := ⟨_, rfl⟩
      obtain ⟨T, hT⟩ : ∃ T, T = L.take x := ⟨_, rfl⟩
      have hDl : D.length = m - x := by rw [hD, List.length_drop, ← HM.out]
      have htl : Hid (x = T.length) := by show _ = _; rw [hT, List.length_take, ← HM.out]; omega
      have hxl : Hid (x + 1 = (T ++ [(m : Int) + 1]).length) := by show _ = _; rw [List.length_append, ← htl.out]; rfl
      have HR2 : Hid (Row 3 w1 b c (vals T)) := by show Row _ _ _ _ _; rw [hT]; exact HR1.out.shrinkI x
      by_cases hcx : c = x
      · obtain rfl : c = m := by omega
        obtain rfl : c = x := hcx
        have hD0 : D = [] := List.eq_nil_of_length_eq_zero (by omega)
        have hsd : SI w1 (.slice (some ⟨b, 0, none⟩) 0 0) D := by
          rw [hD0]
          exact ⟨_, 0, rfl, Nat.le_refl _, Nat.zero_le _, fun _ => rfl, .inl rfl⟩
        clear hD0
        have HD := Lib.hid hD
        have HT := Lib.hid hT
        have HDl := Lib.hid hDl
        have hDb : D.length ≤ 100 := by omega
        clear hD hT hDl
        go_wp2_with (first | (at_builtin; (refine wpl_appSI rfl _ _ rfl w1.heap.size 0 0 [] D rfl (Row.new 3 w1 [] (by simp)) rfl _ rfl (hsd.ext (Upd.alloc _ _ _)) (by simp) (by omega) ?_); intro b5 c5 w5 hr5 hb5 hu5; rw [List.nil_append] at hr5; obtain ⟨hb5', ho5, he5⟩ := copied_own3 hr5 hb5 hu5; have hz5 := he5.size; have HO5 := Lib.hid ho5; have HE5 := Lib.hid he5; clear hb5 hu5 hr5 ho5 he5 hsd) | (at_builtin; (refine wpl_app1 rfl _ _ rfl b c c T ((c : Int) + 1) rfl (HR2.out.ext HE5.out) htl.out rfl (by have := htl.out; omega) ?_); intro b6 c6 w6 hr6 hb6 hu6; have hz6 := hu6.size; have HR6 := Lib.hid hr6; have HU6 := Lib.hid hu6; clear hr6 hu6) | (at_builtin; go_loud (refine wpl_appSI rfl _ _ rfl b6 c6 (c + 1) (T ++ [(c : Int) + 1]) D rfl HR6.out hxl.out _ rfl ((HO5.out.upd HU6.out (fun kb hk hB _ e => by omega)).si) (by have := hxl.out; omega) (by omega) ?_); intro b7 c7 w7 hr7 hb7 hu7; have HR7 := Lib.hid hr7; have HU7 := Lib.hid hu7; clear hr7 hu7))
        have hz7 := HU7.out.size
        have hfin : Upd (· = bc) w w7 ∧ Cur bc w7 := by
          have hbc6 : bc < b := by omega
          have hbc7 : bc < b6 := by omega
          refine ⟨?_, ?_⟩
          · have g1 : Upd (· = bc) w w5 := hU1.out.trans (Ext.toUpd HE5.out _)
            have g2 : Upd (· = bc) w w6 := g1.comp HU6.out (fun _ _ h => h) (fun i hi e => by omega)
            exact g2.comp HU7.out (fun _ _ h => h) (fun i hi e => by omega)
          · exact ((hc1.ext HE5.out).upd HU6.out hbc6).upd HU7.out hbc7
        go_roundw
        case rel => exact ⟨c + 1, by omega, by go_num, ⟨b7, c7, _, T ++ [(c : Int) + 1] ++ D, rfl, Lib.hid (by rw [List.length_append, ← hxl.out]), by have := hnew.out.1; rw [HD.out, HT.out]; exact this, Lib.hid (by rw [HD.out, HT.out]; exact hnew.out.2), by omega, HR7.out⟩, hfin.2, hfin.1⟩
        case measure => simp [intOf]; omega
      · have hsd : SI w1 (.slice (some ⟨b, x, none⟩) (m - x) (c - x)) D := by
          rw [← hDl]
          refine ⟨_, c - x, rfl, by omega, by unfold maxLen; omega, by simp, ?_⟩
          rw [hD]
          exact RI.drop0 HR1.out.ri x
        have HD := Lib.hid hD
        have HT := Lib.hid hT
        have HDl := Lib.hid hDl
        have hDb : D.length ≤ 100 := by omega
        clear hD hT hDl
        go_wp2_with (first | (at_builtin; (refine wpl_appSI rfl _ _ rfl w1.heap.size 0 0 [] D rfl (Row.new 3 w1 [] (by simp)) rfl _ rfl (hsd.ext (Upd.alloc _ _ _)) (by simp) (by omega) ?_); intro b5 c5 w5 hr5 hb5 hu5; rw [List.nil_append] at hr5; obtain ⟨hb5', ho5, he5⟩ := copied_own3 hr5 hb5 hu5; have hz5 := he5.size; have HO5 := Lib.hid ho5; have HE5 := Lib.hid he5; clear hb5 hu5 hr5 ho5 he5 hsd) | (at_builtin; (refine wpl_app1 rfl _ _ rfl b c x T ((m : Int) + 1) rfl (HR2.out.ext HE5.out) htl.out rfl (by have := htl.out; omega) ?_); intro b6 c6 w6 hr6 hb6 hu6; have hz6 := hu6.size; have HR6 := Lib.hid hr6; have HU6 := Lib.hid hu6; clear hr6 hu6) | (at_builtin; go_loud (refine wpl_appSI rfl _ _ rfl b6 c6 (x + 1) (T ++ [(m : Int) + 1]) D rfl HR6.out hxl.out _ rfl ((HO5.out.upd HU6.out (fun kb hk hB _ e => by omega)).si) (by have := hxl.out; omega) (by omega) ?_); intro b7 c7 w7 hr7 hb7 hu7; have HR7 := Lib.hid hr7; have HU7 := Lib.hid hu7; clear hr7 hu7))
        have hz7 := HU7.out.size
        have hfin : Upd (· = bc) w w7 ∧ Cur bc w7 := by
          have hbc6 : bc < b := by omega
          have hbc7 : bc < b6 := by omega
          refine ⟨?_, ?_⟩
          · have g1 : Upd (· = bc) w w5 := hU1.out.trans (Ext.toUpd HE5.out _)
            have g2 : Upd (· = bc) w w6 := g1.comp HU6.out (fun _ _ h => h) (fun i hi e => by omega)
            exact g2.comp HU7.out (fun _ _ h => h) (fun i hi e => by omega)
          · exact ((hc1.ext HE5.out).upd HU6.out hbc6).upd HU7.out hbc7
        go_roundw
        case rel => exact ⟨m + 1, by omega, by go_num, ⟨b7, c7, _, T ++ [(m : Int) + 1] ++ D, rfl, Lib.hid (by rw [List.length_append, ← hxl.out]), by have := hnew.out.1; rw [HD.out, HT.out]; exact this, Lib.hid (by rw [HD.out, HT.out]; exact hnew.out.2), by omega, HR7.out⟩, hfin.2, hfin.1⟩
        case measure => simp [intOf]; omega
    · obtain rfl : j = n := by omega
      have hltI : ¬ (j : Int) + 1 ≤ (j : Int) := by omega
      go_wp2_with fail
      go_ret
      exact ⟨b, c, m, L, rfl, hm.out, hL, hLb.out, hb, hr, hc, hu⟩
end Go.Proofs.Ytognbiodplodhaa
