/- The contract of the draw of a word and a permutation. Conditions: a code of at most 2^20 bytes. -/
import Derived.Test.YtmnbdphfoonleaaDrStr
import Derived.OwnWalk
namespace Go.Proofs.Ytmnbdphfoonleaa
open Go.RowKit

theorem Cur.updD2 {bc : Nat} {D : Nat → Prop} {w w' : World} (h : Cur bc w) (hu : Upd D w w') (hD : ∀ i, i ≤ bc → ¬ D i) : Cur bc w' := by
  obtain ⟨t, a, n, cap, i, g, hr, h1, h2, h3⟩ := h
  exact ⟨t, a, n, cap, i, g, hr.upd hu (hD bc (Nat.le_refl _)), h1, h2, h3.upd hu (fun _ _ _ hne => hD _ (by omega))⟩
def SubPost (w : World) (e : Ending) (w' : World) : Prop := ∃ (n : Nat) (v : Value) (W : List Int) (u : Value) (R : List Int), e = .returned (.tuple #[.int .i64 (n : Int), v, u]) ∧ n ≤ 9 ∧ OI w.heap.size w'.heap.size w' v W ∧ W.length ≤ 12 ∧ (∀ x ∈ W, -1 ≤ x ∧ x ≤ 10) ∧ OI w.heap.size w'.heap.size w' u R ∧ R.length ≤ 9 ∧ (∀ x ∈ R, -1 ≤ x ∧ x ≤ 10) ∧ Ext w w'
theorem rd_word {p w : List Int} (h : w ∈ rdL p) : w.length ≤ 7 ∧ ∀ x ∈ w, -1 ≤ x ∧ x ≤ 10 := by
  have h1 := rd_each h
  have hk : rdOK p = true := by
    cases hk : rdOK p
    · rw [rd_f hk] at h; simp at h
    · rfl
  have h2 := rdOK_true hk
  have h3 := (wok_true h1.2.1).2.2.2
  have h4 : invI p = (inv p : Int) := by simp [invI, h2.1]
  refine ⟨by have := h1.2.2.2; rw [h4] at this; omega, fun x hx => by have := h3 x hx; omega⟩
set_option maxHeartbeats 8000000 in
theorem DrawSubwordBelow_ok (a : Option Addr) (n cap : Nat) (w : World) (hn : n ≤ 1048576) (hb : BY w.heap.size w a n) : Calls Try.prog 44 #[.slice a n cap] w (SubPost w) := by
  have HB := Lib.hid hb
  clear hb
  go_enter Try.func44, Try.ntmps44
  go_wp2_with fail
  refine (l1New_ok a n cap _ hn HB.out).mono ?_
  rintro e w1 ⟨bc, rfl, hbc, hc, he⟩
  have hz := he.size
  have hbcl := hc.lt
  go_wp2_with fail
  refine (l1Below_ok bc 4 _ hc (by omega) (by omega)).mono ?_
  rintro e w2 ⟨x, hx, rfl, hc2, hu2⟩
  have hz2 := hu2.size
  obtain ⟨q, hq⟩ : ∃ q : Nat, q = x + 1 := ⟨_, rfl⟩
  have f1 : IntKind.i64.wrap (1 + (x : Int)) = (q : Int) := by rw [IntWalk.i64_in _ (by omega)]; omega
  have hq4 : q ≤ 4 := by omega
  clear hq hx
  go_wp2_with fail
  refine (l2Draw_ok bc q _ hc2 (by omega)).mono ?_
  rintro e w3 ⟨b, c, m, L, rfl, hm, hl, hL, hlo, hr, hc3, hu3⟩
  have hz3 := hu3.size
  have hm4 : m ≤ 4 := by omega
  have HP3 := Lib.hid (OI.row (B := bc + 1) hr (by omega) hm)
  have HE3 := Lib.hid (he.upd1 (hu2.trans hu3) hbc)
  have hA : Ext w3 (w3.alloc (.cells #[] 3)) := Upd.alloc _ _ _
  have HP4 := Lib.hid ((HP3.out.ext hA).mono (Nat.le_refl _) hA.size)
  have HW4 : Hid (OI (bc + 1) (w3.alloc (.cells #[] 3)).heap.size (w3.alloc (.cells #[] 3)) (.slice (some ⟨w3.heap.size, 0, none⟩) 0 0) []) := OI.row (Row.new 3 w3 [] (by simp)) (by omega) rfl
  have hc4 := hc3.ext hA
  have HE4 := Lib.hid (HE3.out.trans hA)
  have HM := Lib.hid hm
  have hl4 : L.length ≤ 4 := by omega
  have hzA := hA.size
  clear hm hl hr hu2 hu3 hc hc2 hc3 hL hA f1 HP3 HE3
  go_wp2_with fail
  refine (spec_ReducedWords_rr _ L _ HP4.out.si (by omega)).mono ?_
  rintro e w5 ⟨b5, c5, rfl, hr5, he5⟩
  have hz5 := he5.size
  have hrl := rdL_four L hl4
  have hc5 := hc4.ext he5
  have HP5 := Lib.hid ((HP4.out.ext he5).mono (Nat.le_refl _) hz5)
  have HW5 := Lib.hid ((HW4.out.ext he5).mono (Nat.le_refl _) hz5)
  have HE5 := Lib.hid (HE4.out.trans he5)
  have HR5 := Lib.hid hr5
  have hb4 := hc4.lt
  clear HP4 HW4 HE4 hr5 hc4
  go_upto_if 21 with fail
  go_cut [7] from 19 to 28 (fun v wx => ∃ pw cw W, v = .slice pw W.length cw ∧ Hid (OI (bc + 1) wx.heap.size wx (.slice pw W.length cw) W) ∧ W.length ≤ 7 ∧ Hid (∀ x ∈ W, -1 ≤ x ∧ x ≤ 10) ∧ Cur bc wx ∧ Hid (Upd (· = bc) w5 wx))
  case first =>
    by_cases h0 : (rdL L).length = 0
    · have h0I : ¬ (0 : Int) < ((rdL L).length : Int) := by omega
      clear h0
      go_wp2_with fail
      go_meet
      case rel => exact ⟨_, _, [], rfl, HW5, by simp, Lib.hid (fun x hx => by simp at hx), hc5, Upd.refl _ _⟩
    · have h0I : (0 : Int) < ((rdL L).length : Int) := by omega
      go_wp2_with fail
      refine (l1Below_ok bc (rdL L).length _ hc5 (by omega) hrl).mono ?_
      rintro e w8 ⟨x, hx, rfl, hc8, hu8⟩
      have hz8 := hu8.size
      obtain ⟨u, hcu, hou⟩ := (HR5.out.upd hu8 (fun k h1 h2 e => by omega)).get hx
      obtain ⟨pu, cu, rfl⟩ := hou.shape
      have HX := rd_word (nthL_mem hx)
      have hx7 := HX.1
      have HXB := Lib.hid HX.2
      have HOU := Lib.hid (hou.mono (B' := bc + 1) (H' := w8.heap.size) (by omega) (by omega))
      have HU8 := Lib.hid hu8
      have hxI : (x : Int) < ((rdL L).length : Int) := by omega
      clear HX hou hu8
      go_wp2_with fail
      go_meet
      case rel => exact ⟨pu, cu, _, rfl, HOU, hx7, HXB, hc8, HU8⟩
  case rest =>
    obtain ⟨pw, cw, W, rfl, HW, hW7, HWB, hc6, HU6⟩ := hcut
    obtain ⟨w6, hw6⟩ : ∃ w6, w6 = wc := ⟨_, rfl⟩
    subst hw6
    have hz6 := HU6.out.size
    have hb5 := hc5.lt
    have HP6 := Lib.hid ((HP5.out.offc HU6.out (by omega)).mono (Nat.le_refl _) hz6)
    have HE6 := Lib.hid (HE5.out.upd1 HU6.out hbc)
    clear HP5 HW5 HR5 HE5 hc5
    go_wp2_with fail
    refine (l1Once_ok bc 12 _ hc6 (by omega) (by omega)).mono ?_
    rintro e w7 ⟨t, rfl, hc7, hu7⟩
    have hz7 := hu7.size
    have HP7 := Lib.hid ((HP6.out.offc hu7 (by omega)).mono (Nat.le_refl _) hz7)
    have HW7 := Lib.hid ((HW.out.offc hu7 (by omega)).mono (Nat.le_refl _) hz7)
    have HE7 := Lib.hid (HE6.out.upd1 hu7 hbc)
    have hb6 := hc6.lt
    clear HP6 HW HE6 hc6 hu7
    cases t
    · go_wp2_with fail
      refine (l2Draw_ok bc m _ hc7 (by omega)).mono ?_
      rintro e w8 ⟨b8, c8, m8, L8, rfl, hm8, hl8, hL8, hlo8, hr8, hc8, hu8⟩
      have hz8 := hu8.size
      have HW8 := Lib.hid ((HW7.out.offc hu8 (by omega)).mono (B' := w.heap.size) (by omega) hz8)
      have HE8 := Lib.hid (HE7.out.upd1 hu8 hbc)
      have HO8 := Lib.hid (OI.row (B := w.heap.size) hr8 (by omega) hm8)
      have hl89 : L8.length ≤ 9 := by omega
      have HL8 : Hid (∀ x ∈ L8, -1 ≤ x ∧ x ≤ 10) := fun x hx => by have := hL8 x hx; omega
      clear hm8 hl8 hr8 hu8 HP7 HW7 HE7 hc7
      go_wp2_with fail
      go_ret3
      exact ⟨m, _, W, _, L8, rfl, by omega, HW8.out, by omega, HWB.out, HO8.out, hl89, HL8.out, HE8.out⟩
    · have hb7 := hc7.lt
      go_wp2_with (first
        | (at_builtin; go_loud (refine wpl_app1OB rfl _ _ rfl (bc + 1) (.slice pw W.length cw) W 1 rfl HW7.out (by omega) _ rfl rfl (by omega) ?_); intro g8 c8 w8 hr8 hg8 hg8' hu8; have hz8 := hu8.size; have hc8 := hc7.updD2 hu8 (fun i hi e => by have := (HW7.out.own e).1; omega); have HW8 : Hid (OI (bc + 1) w8.heap.size w8 (.slice (some ⟨g8, 0, none⟩) (W.length + 1) c8) (W ++ [1])) := OI.row hr8 hg8 (by simp); have HE8 := Lib.hid (HE7.out.upd hu8 (fun i e => by have := (HW7.out.own e).1; omega)); clear hr8 hu8 hg8' HW7 HE7 HP7 hc7))
      refine (l2Draw_ok bc m _ hc8 (by omega)).mono ?_
      rintro e w9 ⟨b9, c9, m9, L9, rfl, hm9, hl9, hL9, hlo9, hr9, hc9, hu9⟩
      have hz9 := hu9.size
      have hb8 := hc8.lt
      have HW9 := Lib.hid ((HW8.out.offc hu9 (by omega)).mono (B' := w.heap.size) (by omega) hz9)
      have HE9 := Lib.hid (HE8.out.upd1 hu9 hbc)
      have HO9 := Lib.hid (OI.row (B := w.heap.size) hr9 (by omega) hm9)
      have hl99 : L9.length ≤ 9 := by omega
      have HL9 : Hid (∀ x ∈ L9, -1 ≤ x ∧ x ≤ 10) := fun x hx => by have := hL9 x hx; omega
      have HWB9 : Hid (∀ x ∈ W ++ [1], -1 ≤ x ∧ x ≤ 10) := fun x hx => (List.mem_append.1 hx).elim (HWB.out x) (fun e => by simp at e; omega)
      clear hm9 hl9 hr9 hu9 HW8 HE8 hc8
      go_wp2_with fail
      go_ret3
      exact ⟨m, _, W ++ [1], _, L9, rfl, by omega, HW9.out, by simp; omega, HWB9.out, HO9.out, hl99, HL9.out, HE9.out⟩
end Go.Proofs.Ytmnbdphfoonleaa
