/- Contracts of CountQueues, the program's and the reference's. Conditions: lengths below a bound. -/
import Derived.Test.YtplcnehiaokdjaaQueue
namespace Go.Proofs.Ytplcnehiaokdjaa
open Go.RowKit

def mxP (L : List Int) : Int := L.foldl (fun b x => max b (x + 1)) 0
def mxTo (L : List Int) (k : Nat) : Int := (L.take k).foldl max (nth L 0)
def cqI (xs : List Int) : Int := bif isP8 xs then mxP (planL xs) else -1
theorem mxP_succ {L : List Int} {k : Nat} (h : k < L.length) : mxP (L.take (k + 1)) = max (mxP (L.take k)) (nth L k + 1) := by unfold mxP; rw [take_nth h, List.foldl_append]; rfl
theorem mxTo_succ {L : List Int} {k : Nat} (h : k < L.length) : mxTo L (k + 1) = max (mxTo L k) (nth L k) := by unfold mxTo; rw [take_nth h, List.foldl_append]; rfl
theorem mxTo_one {L : List Int} (h : 0 < L.length) : mxTo L 1 = nth L 0 := by
  have := mxTo_succ (L := L) (k := 0) h
  rw [Nat.zero_add] at this
  rw [this]; simp [mxTo]
theorem mx_shift (L : List Int) : ∀ c : Int, L.foldl (fun b x => max b (x + 1)) (c + 1) = L.foldl max c + 1 := by
  induction L with
  | nil => intro c; rfl
  | cons x xs ih => intro c; simp only [List.foldl_cons]; rw [← ih (max c x)]; congr 1; omega
theorem mxP_eq {L : List Int} (h : 0 < L.length) (hp : ∀ x ∈ L, 0 ≤ x) : mxP L = mxTo L L.length + 1 := by
  cases L with
  | nil => simp at h
  | cons x xs =>
    have hx := hp x (List.mem_cons_self ..)
    have h1 : mxTo (x :: xs) (x :: xs).length = xs.foldl max x := by simp [mxTo, nth]
    rw [h1, ← mx_shift]
    show xs.foldl _ (max 0 (x + 1)) = _
    congr 1; omega
theorem mxTo_bd {L : List Int} {m : Int} (h : 0 < L.length) (hp : ∀ x ∈ L, 0 ≤ x ∧ x < m) : ∀ k, k ≤ L.length → 0 ≤ mxTo L k ∧ mxTo L k < m := by
  intro k
  induction k with
  | zero => intro _; exact hp _ (nth_mem h)
  | succ k ih =>
    intro hk
    have h1 := ih (by omega)
    have h2 := hp _ (nth_mem (xs := L) (k := k) (by omega))
    rw [mxTo_succ (by omega)]; omega
theorem mxP_bd {L : List Int} {m : Int} (hm : 0 ≤ m) (hp : ∀ x ∈ L, 0 ≤ x ∧ x < m) : ∀ k, k ≤ L.length → 0 ≤ mxP (L.take k) ∧ mxP (L.take k) ≤ m := by
  intro k
  induction k with
  | zero => intro _; simp [mxP]; omega
  | succ k ih =>
    intro hk
    have h1 := ih (by omega)
    have h2 := hp _ (nth_mem (xs := L) (k := k) (by omega))
    rw [mxP_succ (by omega)]; omega

set_option maxHeartbeats 1000000 in
theorem slicesMax_ok (v : Value) (xs : List Int) (w : World) (h : SI w v xs) (h0 : 0 < xs.length) (hl : xs.length ≤ 1000000000) :
    Calls Try.prog 66 #[v] w fun e w' => e = .returned (.int .i64 (mxTo xs xs.length)) ∧ Qt w w' := by
  obtain ⟨a, cap, rfl, hri⟩ := h.elim
  clear h
  obtain ⟨b0, off0, rfl, hc0⟩ := hri.get h0
  have c0 : w.cell? ⟨b0, off0, none⟩ = some (.int .i64 (nth xs 0)) := hc0 0 h0
  have hone := Lib.hid (mxTo_one h0)
  clear hc0
  go_enter Try.func66, Try.ntmps66
  go_wp2_with fail
  go_loopw [3, 4] (fun c i wr => ∃ k : Nat, k ≤ xs.length ∧ 1 ≤ k ∧ i = .int .i64 k ∧ (∃ q : Int, c = .int .i64 q ∧ Hid (q = mxTo xs k)) ∧ Qt w wr) (fun _ i _ => xs.length - (intOf i).toNat)
  case atStart => exact ⟨1, by omega, by omega, rfl, ⟨_, rfl, Lib.hid hone.out.symm⟩, Qt.refl _⟩
  case round =>
    obtain ⟨k, hk, hk1, rfl, ⟨q, rfl, hq⟩, hqt⟩ := hrel
    by_cases hlt : k < xs.length
    · obtain ⟨b, off, e, hc⟩ := (hri.ext hqt.ext).get hlt
      obtain ⟨rfl, rfl⟩ : b0 = b ∧ off0 = off := by simpa using e
      have hck := hc k hlt
      have hst := mxTo_succ hlt
      rw [← hq.out] at hst
      obtain ⟨x, hx⟩ : ∃ x, x = nth xs k := ⟨_, rfl⟩
      rw [← hx] at hck hst
      have HST := Lib.hid hst
      clear hc hri e hx hst
      by_cases hqx : q < x
      · have hm := Lib.hid (show max q x = x by omega)
        go_wp2_with fail
        go_roundw
        case rel => exact ⟨k + 1, by omega, by omega, by go_num, ⟨_, rfl, Lib.hid (by rw [HST.out, hm.out])⟩, hqt⟩
        case measure => simp [intOf]; omega
      · have hm := Lib.hid (show max q x = q by omega)
        go_wp2_with fail
        go_roundw
        case rel => exact ⟨k + 1, by omega, by omega, by go_num, ⟨_, rfl, Lib.hid (by rw [HST.out, hm.out])⟩, hqt⟩
        case measure => simp [intOf]; omega
    · obtain rfl : k = xs.length := by omega
      go_wp2_with fail
      go_ret
      exact ⟨by rw [← hq.out]; rfl, hqt⟩
set_option maxHeartbeats 1000000 in
theorem countQueues_ok (v : Value) (xs : List Int) (w : World) (h : SI w v xs) (h8 : xs.length ≤ 8) (hpos : ∀ x ∈ xs, 1 ≤ x) :
    Calls Try.prog 51 #[v] w fun e w' => e = .returned (.int .i64 (mxP (planL xs))) ∧ Ext w w' := by
  obtain ⟨a, cap, rfl, -⟩ := h.elim
  have HPOS := Lib.hid hpos
  clear hpos
  by_cases h0 : xs.length = 0
  · have hx : xs = [] := List.eq_nil_of_length_eq_zero h0
    subst hx
    clear h0
    go_enter Try.func51, Try.ntmps51
    go_wp2_with fail
    go_ret
    exact ⟨rfl, Ext.refl _⟩
  · have h0' : 0 < xs.length := by omega
    have hpl := planL_len xs
    have heq := Lib.hid (mxP_eq (L := planL xs) (by omega) (fun x hx => (planL_bd xs x hx).1))
    have hbd := mxTo_bd (L := planL xs) (m := xs.length) (by omega) (planL_bd xs) (planL xs).length (Nat.le_refl _)
    obtain ⟨m, hm⟩ : ∃ m, m = mxTo (planL xs) (planL xs).length := ⟨_, rfl⟩
    rw [← hm] at hbd heq
    have HM := Lib.hid hm
    have HPL := Lib.hid hpl
    clear h0 hm hpl
    go_enter Try.func51, Try.ntmps51
    go_wp2_with fail
    refine (queuePlan_ok _ xs _ h h8 HPOS.out).mono ?_
    rintro e w2 ⟨b2, c2, rfl, hb2, hr2, he2⟩
    have hs2 := hr2.si
    rw [HPL.out] at hs2
    have HS2 := Lib.hid hs2
    clear hs2 hr2
    go_wp2_with fail
    refine (slicesMax_ok _ (planL xs) _ HS2.out (by rw [HPL.out]; exact h0') (by rw [HPL.out]; omega)).mono ?_
    rintro e w3 ⟨rfl, hq⟩
    rw [← HM.out]
    go_wp2_with fail
    go_ret
    exact ⟨by rw [heq.out]; rfl, he2.trans hq.ext⟩
set_option maxHeartbeats 400000 in
theorem impl_CountQueues_ok (v : Value) (xs : List Int) (w : World) (h : SI w v xs) (_hl : xs.length ≤ 1048576) (_hb : I64s xs) :
    Calls Try.prog 24 #[v] w fun e w' => e = .returned (.int .i64 (cqI xs)) ∧ Ext w w' := by
  cases hp : isP8 xs
  · have hP := Lib.hid hp
    have e0 : Hid (cqI xs = -1) := by show _ = _; simp [cqI, hp]
    clear hp
    go_enter Try.func24, Try.ntmps24
    go_wp2_with (go_at_call 39; refine (impl_IsPerm_ok _ xs _ h).mono ?_; rintro e w1 ⟨rfl, he⟩; rw [hP.out])
    go_ret
    exact ⟨by rw [e0.out]; rfl, he⟩
  · have hP := Lib.hid hp
    have h8 : xs.length ≤ 8 := (isP8_iff.1 hp).1
    have hps := Lib.hid ((isP8_iff.1 hp).2.pos)
    have e0 : Hid (cqI xs = mxP (planL xs)) := by show _ = _; simp [cqI, hp]
    clear hp
    go_enter Try.func24, Try.ntmps24
    go_wp2_with (first | (go_at_call 39; refine (impl_IsPerm_ok _ xs _ h).mono ?_; rintro e w1 ⟨rfl, he⟩; rw [hP.out]) | (go_at_call 51; refine (countQueues_ok _ xs _ (h.ext he) h8 hps.out).mono ?_; rintro e w2 ⟨rfl, he2⟩))
    go_ret
    exact ⟨by rw [e0.out]; rfl, he.trans he2⟩
set_option maxHeartbeats 1000000 in
theorem l1Max_z (x y z : Int) (hz : Hid (z = max x y)) (w : World) : Calls Try.prog 53 #[.int .i64 x, .int .i64 y] w fun e w' => e = .returned (.int .i64 z) ∧ Qt w w' := by
  rw [hz.out]; exact l1Max_ok x y w
set_option maxHeartbeats 1000000 in
theorem spec_CountQueues_ok (v : Value) (xs : List Int) (w : World) (h : SI w v xs) (hl : xs.length ≤ 1048576) (hb : I64s xs) :
    Calls Try.prog 25 #[v] w fun e w' => e = .returned (.int .i64 (cqI xs)) ∧ Ext w w' := by
  cases hp : isP8 xs
  · have hP := Lib.hid hp
    have e0 : Hid (cqI xs = -1) := by show _ = _; simp [cqI, hp]
    clear hp
    go_enter Try.func25, Try.ntmps25
    go_wp2_with (go_at_call 26; refine (spec_IsPerm_qt _ xs _ h (by omega)).mono ?_; rintro e w1 ⟨rfl, hq⟩; rw [hP.out])
    go_ret
    exact ⟨by rw [e0.out]; rfl, hq.ext⟩
  · have hP := Lib.hid hp
    have h8 : xs.length ≤ 8 := (isP8_iff.1 hp).1
    have e0 : Hid (cqI xs = mxP (planL xs)) := by show _ = _; simp [cqI, hp]
    have hqp : Hid (qpL xs = planL xs) := by show _ = _; simp [qpL, hp]
    have hpl := planL_len xs
    have hpb := Lib.hid (planL_bd xs)
    have hmb := Lib.hid (mxP_bd (L := planL xs) (m := xs.length) (by omega) (planL_bd xs))
    have HPL := Lib.hid hpl
    clear hp hpl
    go_enter Try.func25, Try.ntmps25
    go_wp2_with fail
    refine (spec_IsPerm_qt _ xs _ h (by omega)).mono ?_
    rintro e w1 ⟨rfl, hq1⟩
    rw [hP.out]
    go_wp2_with fail
    refine (spec_QueuePlan_ok _ xs _ (h.ext hq1.ext) hl hb).mono ?_
    rintro e w2 ⟨v2, rfl, ho2, he2⟩
    rw [hqp.out] at ho2
    obtain ⟨a2, c2, rfl, hri⟩ := ho2.si.elim
    rw [HPL.out]
    have he12 : Ext w w2 := (show Ext w w1 from hq1.ext).trans he2
    clear ho2
    go_wp2_with fail
    go_loopw [3, 5] (fun c i wr => ∃ k : Nat, k ≤ xs.length ∧ i = .int .i64 k ∧ (∃ q : Int, c = .int .i64 q ∧ Hid (q = mxP ((planL xs).take k)) ∧ 0 ≤ q ∧ q ≤ 8) ∧ Ext w2 wr) (fun _ i _ => xs.length - (intOf i).toNat)
    case atStart => exact ⟨0, Nat.zero_le _, rfl, ⟨0, rfl, Lib.hid rfl, by omega, by omega⟩, Ext.refl _⟩
    case round =>
      obtain ⟨k, hk, rfl, ⟨q, rfl, hq, hq0, hq8⟩, he⟩ := hrel
      by_cases hlt : k < xs.length
      · have hlt' : k < (planL xs).length := by rw [HPL.out]; exact hlt
        obtain ⟨b, off, rfl, hc⟩ := (hri.ext he).get hlt'
        have hck := hc k hlt'
        have hst := mxP_succ hlt'
        rw [← hq.out] at hst
        have hxb := hpb.out _ (nth_mem hlt')
        obtain ⟨x, hx⟩ : ∃ x, x = nth (planL xs) k := ⟨_, rfl⟩
        rw [← hx] at hck hst hxb
        obtain ⟨z, hz⟩ : ∃ z, z = max q (x + 1) := ⟨_, rfl⟩
        rw [← hz] at hst
        have hz8 : 0 ≤ z ∧ z ≤ 8 := by omega
        have HST := Lib.hid hst
        have HZ := Lib.hid hz
        clear hc hri hx hst hz hlt'
        go_wp2_with (go_at_call 53; refine (l1Max_z _ _ z HZ _).mono ?_; rintro e w3 ⟨rfl, hq3⟩)
        go_roundw
        case rel => exact ⟨k + 1, by omega, by go_num, ⟨z, rfl, Lib.hid HST.out.symm, by omega, by omega⟩, he.trans hq3.ext⟩
        case measure => simp [intOf]; omega
      · have hfin : Hid (mxP (planL xs) = q) := by show _ = _; rw [hq.out, take_all (by rw [HPL.out]; omega)]
        go_wp2_with fail
        go_ret
        exact ⟨by rw [e0.out, hfin.out]; rfl, he12.trans he⟩
end Go.Proofs.Ytplcnehiaokdjaa
