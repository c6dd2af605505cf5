/- Contracts of CountCycles and of the draw of a nearly sorted permutation. Conditions: small lengths. -/
import Derived.Test.YtoieaphacnaohaaHasP
namespace Go.Proofs.Ytoieaphacnaohaa
open Go.RowKit

theorem cwF_t {y : List Int} {f i : Nat} {D : List Bool} (h : nthB D i = true) : cwF y (f + 1) i D = D := by
  show (bif nthB D i then D else _) = _; rw [h]; rfl
theorem cwF_f {y : List Int} {f i : Nat} {D : List Bool} (h : nthB D i = false) : cwF y (f + 1) i D = cwF y f (nx y i) (D.set i true) := by
  show (bif nthB D i then D else _) = _; rw [h]; rfl
theorem cyO_t {y : List Int} {k : Nat} (h : nthB (cyO y k).1 k = true) : cyO y (k + 1) = cyO y k := by
  show (bif nthB (cyO y k).1 k then _ else _) = _; rw [h]; rfl
theorem cyO_f {y : List Int} {k : Nat} (h : nthB (cyO y k).1 k = false) : cyO y (k + 1) = (cwF y (y.length + 1) k (cyO y k).1, (cyO y k).2 + 1) := by
  show (bif nthB (cyO y k).1 k then _ else _) = _; rw [h]; rfl
theorem cyO_le (y : List Int) (k : Nat) : (cyO y k).2 ≤ k := by
  induction k with
  | zero => exact Nat.le_refl _
  | succ k ih =>
    cases h : nthB (cyO y k).1 k
    · rw [cyO_f h]; show _ + 1 ≤ _; omega
    · rw [cyO_t h]; omega
set_option maxHeartbeats 4000000 in
theorem CountCycles_ok (v : Value) (y : List Int) (w : World) (h : SI w v y) (hl : y.length ≤ 1048576) :
    Calls Try.prog 31 #[v] w fun e w' => e = .returned (.int .i64 (cycI y)) ∧ Ext w w' := by
  obtain ⟨a, cap, rfl, hri⟩ := h.elim
  cases hp : isP8 y
  · have hP := Lib.hid hp
    have e0 : Hid (cycI y = -1) := by show _ = _; simp [cycI, hp]
    clear hp
    go_enter Try.func31, Try.ntmps31
    go_wp2_with (go_at_call 30; refine (spec_IsPerm_qt _ y _ h (by omega)).mono ?_; rintro e w1 ⟨rfl, hq⟩; rw [hP.out])
    go_ret
    exact ⟨by rw [e0.out]; rfl, hq.ext⟩
  · have hP := Lib.hid hp
    obtain ⟨h8, hpp⟩ := isP8_iff.1 hp
    have HPP := Lib.hid hpp
    have e0 : Hid (cycI y = (cyO y y.length).2) := by show _ = _; simp [cycI, hp, cycN]
    clear hp hpp
    go_enter Try.func31, Try.ntmps31
    go_wp2_with fail
    refine (spec_IsPerm_qt _ y _ h (by omega)).mono ?_
    rintro e w1 ⟨rfl, hq⟩
    rw [hP.out]
    have he1 : Ext w w1 := hq.ext
    have hz1 := he1.size
    clear hq
    go_wp2_with (at_make; refine wpl_make_bool rfl _ _ rfl y.length _ _ _ _ rfl rfl rfl rfl (by omega) ?_; intro w2 hr0 hex0 hsz0)
    obtain ⟨bd, hbd⟩ : ∃ bd, bd = w1.heap.size := ⟨_, rfl⟩
    rw [← hbd] at hr0 hsz0 hz1 ⊢
    have he2 : Ext w w2 := he1.trans hex0
    clear hbd he1 hex0 h
    go_loopw [3, 5] (fun c i wr => ∃ k : Nat, k ≤ y.length ∧ i = .int .i64 k ∧ (∃ n : Nat, c = .int .i64 n ∧ Hid (n = (cyO y k).2)) ∧ Row 4 wr bd y.length (bvals (cyO y k).1) ∧ Ext w wr) (fun _ i _ => y.length - (intOf i).toNat)
    case atStart => exact ⟨0, Nat.zero_le _, rfl, ⟨0, rfl, Lib.hid rfl⟩, hr0, he2⟩
    case round =>
      obtain ⟨k, hk, rfl, ⟨n, rfl, hn⟩, hr, he⟩ := hrel
      clear hr0 he2 hsz0
      have hnb := cyO_le y k
      rw [← hn.out] at hnb
      by_cases hlt : k < y.length
      · have hdl := cyO_len y k
        obtain ⟨D, hD⟩ : ∃ D, D = (cyO y k).1 := ⟨_, rfl⟩
        rw [← hD] at hr hdl
        have hck := hr.cell (bvals_get (bs := D) (j := k) (by omega))
        have hkI : (k : Int) < (y.length : Int) := by omega
        have HDL := Lib.hid hdl
        cases hb : nthB D k
        · have hst := cyO_f (y := y) (k := k) (by rw [← hD]; exact hb)
          rw [← hD, ← hn.out] at hst
          have HST := Lib.hid hst
          rw [hb] at hck
          have HB := Lib.hid hb
          have HR := Lib.hid hr
          clear hst hb hD hr hdl
          go_wp2_with fail
          obtain ⟨wp, hwp⟩ : ∃ wp, wp = wr := ⟨_, rfl⟩
          subst hwp
          clear hck
          go_loopg [6] (y.length + 1) (fun g i wr => ∃ j : Nat, j < y.length ∧ i = .int .i64 j ∧ (∃ M : List Bool, M.length = y.length ∧ Row 4 wr bd y.length (bvals M) ∧ Hid (cwF y g j M = (cyO y (k + 1)).1) ∧ unm M < g) ∧ Ext w wr)
          case atStart => exact ⟨k, hlt, rfl, ⟨D, HDL.out, HR.out, Lib.hid (by rw [HST.out]), by have := unm_le D; rw [HDL.out] at this; omega⟩, he⟩
          case round =>
            obtain ⟨j, hj, rfl, ⟨M, hM, hrM, hcw, hun⟩, hei⟩ := hrel
            have hcj := hrM.cell (bvals_get (bs := M) (j := j) (by omega))
            have hjI : (j : Int) < (y.length : Int) := by omega
            obtain ⟨f, hf⟩ : ∃ f, gk = f + 1 := ⟨gk - 1, by omega⟩
            have HM := Lib.hid hM
            cases hb : nthB M j
            · rw [hb] at hcj
              have hfr := hrM.free j none
              have hset := hrM.set j (.bool true)
              rw [bvals_set] at hset
              have hu := unm_set (D := M) (i := j) (by omega) hb
              have hcw2 : Hid (cwF y f (nx y j) (M.set j true) = (cyO y (k + 1)).1) := by show _ = _; rw [← cwF_f hb, ← hf]; exact hcw.out
              have hE2 := hei.setCell (p := ⟨bd, j, none⟩) hz1 (.bool true)
              obtain ⟨bb, off, rfl, hc⟩ := (hri.ext hE2).get hj
              have hcy := hc j hj
              have hxb := HPP.out.bd hj
              have hnl := nx_lt HPP.out hj
              have hnxe : Hid ((nx y j : Int) = nth y j - 1) := by show _ = _; unfold nx; omega
              obtain ⟨x, hx⟩ : ∃ x, x = nth y j := ⟨_, rfl⟩
              rw [← hx] at hcy hxb hnxe
              have hun2 : unm (M.set j true) < f := by omega
              have HUN := Lib.hid hun2
              have HSET := Lib.hid hset
              have HE2 := Lib.hid hE2
              have HF := Lib.hid hf
              clear hb hset hu hc hx hrM hM hf hun hun2 hE2
              go_wp2_with fail
              go_roundg f
              case rel => exact ⟨nx y j, hnl, by rw [hnxe.out]; try rfl, ⟨_, by rw [List.length_set]; exact HM.out, HSET.out, hcw2, HUN.out⟩, HE2.out⟩
              case measure => have := HF.out; omega
            · rw [hb] at hcj
              have hcw2 : Hid (M = (cyO y (k + 1)).1) := by show _ = _; rw [← hcw.out, hf, cwF_t hb]
              have HRM := Lib.hid hrM
              have hn2 : Hid (n + 1 = (cyO y (k + 1)).2) := by show _ = _; rw [HST.out]
              clear hb hrM hM hun hf
              go_wp2_with fail
              go_roundw
              case rel => exact ⟨k + 1, by omega, by go_num, ⟨n + 1, by rw [Value.int.injEq]; exact ⟨rfl, by push_cast; rfl⟩, hn2⟩, by rw [← hcw2.out]; exact HRM.out, hei⟩
              case measure => simp [intOf]; omega
        · have hst := cyO_t (y := y) (k := k) (by rw [← hD]; exact hb)
          rw [hb] at hck
          have HR := Lib.hid (show Row 4 wr bd y.length (bvals (cyO y (k + 1)).1) by rw [hst, ← hD]; exact hr)
          have hn2 : Hid (n = (cyO y (k + 1)).2) := by show _ = _; rw [hst]; exact hn.out
          clear hst hb hD hr hdl
          go_wp2_with fail
          go_roundw
          case rel => exact ⟨k + 1, by omega, by go_num, ⟨n, rfl, hn2⟩, HR.out, he⟩
          case measure => simp [intOf]; omega
      · obtain rfl : k = y.length := by omega
        have hfin : Hid (cycI y = (n : Int)) := by show _ = _; rw [e0.out, hn.out]
        go_wp2_with fail
        go_ret
        exact ⟨by rw [hfin.out]; rfl, he⟩
end Go.Proofs.Ytoieaphacnaohaa
