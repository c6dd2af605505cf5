/- Contracts of IsReduced, the program's and the reference's. Conditions: lengths below a bound. -/
import Derived.Test.YtmnbdphfoonleaaWord
namespace Go.Proofs.Ytmnbdphfoonleaa
open Go.RowKit

theorem ir_eq {n : Int} {word : List Int} (h : wokB n word = true) : irB n word = (((inv (wRun n.toNat word) : Nat) : Int) == (word.length : Int)) := by
  unfold irB; rw [h, Bool.true_and, Bool.eq_iff_iff]; simp; omega

set_option maxHeartbeats 1000000 in
theorem impl_IsReduced_ok (n : Int) (v : Value) (word : List Int) (w : World) (hn : I64 n) (h : SI w v word) (hl : word.length ≤ 1048576) (hb : I64s word) :
    Calls Try.prog 32 #[.int .i64 n, v] w fun e w' => e = .returned (.bool (irB n word)) ∧ Ext w w' := by
  obtain ⟨av, capv, rfl, -⟩ := h.elim
  cases hok : wokB n word
  · have HOK := Lib.hid hok
    have e0 : Hid (irB n word = false) := by show _ = _; simp [irB, hok]
    clear hok
    go_enter Try.func32, Try.ntmps32
    go_wp2_with (go_at_call 19; refine (impl_WordPerm_ok n _ word _ hn h hl hb).mono ?_; rintro e w1 ⟨v1, rfl, ho, he1⟩; rw [HOK.out])
    go_ret
    exact ⟨by rw [e0.out]; rfl, he1⟩
  · have HOK := Lib.hid hok
    have hwk := wok_true hok
    have e0 := Lib.hid (ir_eq hok)
    have e1 : Hid (wpL n word = wRun n.toNat word) := by show _ = _; simp [wpL, hok]
    have hwl := Lib.hid (wRun_len n.toNat word)
    have hib := inv_bound (wRun n.toNat word) (by rw [hwl.out]; omega)
    obtain ⟨i1, i2, i3, i4⟩ := hwk
    obtain ⟨q, hq⟩ : ∃ q, q = inv (wRun n.toNat word) := ⟨_, rfl⟩
    rw [← hq] at e0 hib
    have HQ := Lib.hid hq
    clear hok hq i4
    go_enter Try.func32, Try.ntmps32
    go_wp2_with (first | (go_at_call 19; refine (impl_WordPerm_ok n _ word _ hn h hl hb).mono ?_; rintro e w1 ⟨v1, rfl, ho, he1⟩; rw [HOK.out]; rw [e1.out] at ho; have hsi := ho.si) | (go_at_call 73; refine (impl_inversions_ok _ (wRun n.toNat word) _ hsi (by rw [hwl.out]; omega)).mono ?_; rintro e w2 ⟨rfl, hq2⟩; rw [← HQ.out]))
    go_ret
    exact ⟨by rw [e0.out]; rfl, he1.trans hq2.ext⟩
set_option maxHeartbeats 1000000 in
theorem spec_IsReduced_ok (n : Int) (v : Value) (word : List Int) (w : World) (hn : I64 n) (h : SI w v word) (hl : word.length ≤ 1048576) (hb : I64s word) :
    Calls Try.prog 33 #[.int .i64 n, v] w fun e w' => e = .returned (.bool (irB n word)) ∧ Ext w w' := by
  obtain ⟨av, capv, rfl, -⟩ := h.elim
  cases hok : wokB n word
  · have HOK := Lib.hid hok
    have e0 : Hid (irB n word = false) := by show _ = _; simp [irB, hok]
    clear hok
    go_enter Try.func33, Try.ntmps33
    go_wp2_with (go_at_call 20; refine (spec_WordPerm_ok n _ word _ hn h hl hb).mono ?_; rintro e w1 ⟨v1, rfl, ho, he1⟩; rw [HOK.out])
    go_ret
    exact ⟨by rw [e0.out]; rfl, he1⟩
  · have HOK := Lib.hid hok
    have hwk := wok_true hok
    have e0 := Lib.hid (ir_eq hok)
    have e1 : Hid (wpL n word = wRun n.toNat word) := by show _ = _; simp [wpL, hok]
    have hwl := Lib.hid (wRun_len n.toNat word)
    have hib := inv_bound (wRun n.toNat word) (by rw [hwl.out]; omega)
    obtain ⟨i1, i2, i3, i4⟩ := hwk
    have hpp : IsP (wRun n.toNat word) := wRun_perm (fun i hi => by have := i4 i hi; omega)
    have hiv : invI (wRun n.toNat word) = (inv (wRun n.toNat word) : Int) := by unfold invI; rw [if_pos (isP8_true (by rw [hwl.out]; omega) hpp)]
    obtain ⟨q, hq⟩ : ∃ q, q = inv (wRun n.toNat word) := ⟨_, rfl⟩
    rw [← hq] at e0 hib hiv
    have HIV := Lib.hid hiv
    clear hok hq i4 hpp hiv
    go_enter Try.func33, Try.ntmps33
    go_wp2_with (first | (go_at_call 20; refine (spec_WordPerm_ok n _ word _ hn h hl hb).mono ?_; rintro e w1 ⟨v1, rfl, ho, he1⟩; rw [HOK.out]; rw [e1.out] at ho; have hsi := ho.si) | (go_at_call 36; refine (spec_CountInversions_ok _ (wRun n.toNat word) _ hsi (by rw [hwl.out]; omega)).mono ?_; rintro e w2 ⟨rfl, hq2⟩; rw [HIV.out]))
    go_ret
    exact ⟨by rw [e0.out]; rfl, he1.trans hq2.ext⟩
end Go.Proofs.Ytmnbdphfoonleaa
