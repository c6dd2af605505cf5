/- Contracts of the draws of FnNetworks. Conditions: at most 2^20 bytes. -/
import Derived.Test.YtapcnhbgoolcgaaGateE
namespace Go.Proofs.Ytapcnhbgoolcgaa
open Go.RowKit

def SaPost (w : World) (e : Ending) (w' : World) : Prop :=
  ∃ (n : Nat) (v : Value) (gs : List (List Int)), e = .returned (.tuple #[.int .i64 (n : Int), v]) ∧ 1 ≤ n ∧ n ≤ 6 ∧ GI w.heap.size w' v gs ∧ gs.length ≤ 300 ∧ small gs ∧ Ext w w'
def RnPost (w : World) (e : Ending) (w' : World) : Prop :=
  ∃ (v v2 : Value) (gs : List (List Int)) (L : List Int), e = .returned (.tuple #[v, v2]) ∧ GI w.heap.size w' v gs ∧ gs.length ≤ 300 ∧ small gs ∧ SI w' v2 L ∧ L.length ≤ 6 ∧ (∀ x ∈ L, -2000 ≤ x ∧ x ≤ 2000) ∧ Ext w w'
def LstR (bc b c k : Nat) (w2 : World) (v : Value) (wx : World) : Prop := v = .slice (some ⟨b, 0, none⟩) k c ∧ ∃ L, Row 3 wx b c (vals L) ∧ k = L.length ∧ (∀ x ∈ L, -2000 ≤ x ∧ x ≤ 2000) ∧ Cur bc wx ∧ Upd (· = bc) w2 wx
theorem SI.tail {w : World} {b c : Nat} {L : List Int} (h : Row 3 w b c (vals L)) (hl : 1 ≤ L.length) : SI w (.slice (some ⟨b, 1, none⟩) (L.length - 1) (c - 1)) (L.drop 1) := by
  have hle := h.le
  simp at hle
  have hmx := h.mx
  have hs : SI w (.slice (some ⟨b, 0, none⟩) L.length c) L := h.si
  obtain ⟨a, cap, e, h2, h3, h4, h5⟩ := hs
  injection e with e1 _ e3
  subst e1
  exact ⟨_, c - 1, by simp, by simp; omega, by omega, by simp, h5.drop0 1⟩
set_option maxHeartbeats 1000000 in
theorem DrawSortsAll_ok (a : Option Addr) (n cap : Nat) (w : World) (hn : n ≤ 1048576) (hb : BY w.heap.size w a n) : Calls Try.prog 12 #[.slice a n cap] w (SaPost w) := by
  have HB := Lib.hid hb
  clear hb
  go_enter Try.func12, Try.ntmps12
  go_wp2_with fail
  refine (l1New_ok a n cap _ hn HB.out).mono ?_
  rintro e w1 ⟨bc, rfl, hbc, hc, he⟩
  have hz := he.size
  go_wp2_with fail
  refine (l26Draw_ok bc _ hc).mono ?_
  rintro e w2 ⟨m, v, gs, rfl, h1, h6, hG, hl, hs, hc2, hu2⟩
  have HG := Lib.hid hG
  have HS := Lib.hid hs
  clear hG hs
  go_wp2_with fail
  go_ret2
  exact ⟨m, v, gs, rfl, h1, h6, HG.out.mono hz, hl, HS.out, Upd.comp he hu2 (fun _ _ h => h) (fun i hi e => by omega)⟩
set_option maxHeartbeats 1000000 in
theorem DrawBrickNetwork_ok (a : Option Addr) (n cap : Nat) (w : World) (hn : n ≤ 1048576) (hb : BY w.heap.size w a n) :
    Calls Try.prog 18 #[.slice a n cap] w fun e w' => ∃ k : Int, e = .returned (.int .i64 k) ∧ -1 ≤ k ∧ k ≤ 9 ∧ Ext w w' := by
  have HB := Lib.hid hb
  clear hb
  go_enter Try.func18, Try.ntmps18
  go_wp2_with fail
  refine (l1New_ok a n cap _ hn HB.out).mono ?_
  rintro e w1 ⟨bc, rfl, hbc, hc, he⟩
  go_wp2_with fail
  refine (l1Below_ok bc 11 _ hc (by omega) (by omega)).mono ?_
  rintro e w2 ⟨x, hx, rfl, hc2, hu2⟩
  have g1 : IntKind.i64.wrap ((x : Int) - 1) = (x : Int) - 1 := IntWalk.i64_in _ (by omega)
  go_wp2_with fail
  go_ret
  exact ⟨(x : Int) - 1, rfl, by omega, by omega, Upd.comp he hu2 (fun _ _ h => h) (fun i hi e => by omega)⟩
set_option maxHeartbeats 8000000 in
set_option maxRecDepth 30000 in
theorem DrawRunNetwork_ok (a : Option Addr) (n cap : Nat) (w : World) (hn : n ≤ 1048576) (hb : BY w.heap.size w a n) : Calls Try.prog 15 #[.slice a n cap] w (RnPost w) := by
  have HB := Lib.hid hb
  clear hb
  go_enter Try.func15, Try.ntmps15
  go_wp2_with fail
  refine (l1New_ok a n cap _ hn HB.out).mono ?_
  rintro e w1 ⟨bc, rfl, hbc, hc, he⟩
  have hz := he.size
  go_wp2_with fail
  refine (l26Draw_ok bc _ hc).mono ?_
  rintro e w2 ⟨m, v, gs, rfl, h1, h6, hG, hl, hs, hc2, hu2⟩
  have hz2 := hu2.size
  have hbl2 := hc2.lt
  have hE2 : Ext w w2 := Upd.comp he hu2 (fun _ _ h => h) (fun i hi e => by omega)
  have hbl1 := hc.lt
  have HG := Lib.hid hG
  have HS := Lib.hid hs
  have hr2 := Row.new 3 w2 [] (by simp)
  have he2 : Ext w2 (w2.alloc (.cells #[] 3)) := Upd.alloc _ _ _
  have hc3 := hc2.ext he2
  clear hG hs hc hu2 hc2 he
  go_wp2_with fail
  go_loopw [7, 8] (fun o i wr => ∃ k : Nat, k ≤ m ∧ i = .int .i64 k ∧ (∃ b c L, o = .slice (some ⟨b, 0, none⟩) k c ∧ Hid (k = L.length) ∧ Hid (∀ x ∈ L, -2000 ≤ x ∧ x ≤ 2000) ∧ w2.heap.size ≤ b ∧ Row 3 wr b c (vals L)) ∧ Cur bc wr ∧ Upd (· = bc) w2 wr) (fun _ i _ => m - (intOf i).toNat)
  case atStart => exact ⟨0, Nat.zero_le _, rfl, ⟨_, 0, [], rfl, Lib.hid rfl, Lib.hid (fun x h => by simp at h), Nat.le_refl _, hr2⟩, hc3, Upd.alloc _ _ _⟩
  case round =>
    obtain ⟨k, hk, rfl, ⟨b, c, L, rfl, hkl, hL, hb2, hr⟩, hc4, hU⟩ := hrel
    have hzr := hU.size
    have hbl := hr.lt
    clear hr2 he2 hc3
    by_cases hkm : k < m
    · have hkI : (k : Int) < (m : Int) := by omega
      clear hkm
      have HR := Lib.hid hr
      clear hr
      go_wp2_with fail
      refine (l1Below_ok bc 9 _ hc4 (by omega) (by omega)).mono ?_
      rintro e w5 ⟨x, hx, rfl, hc5, hu5⟩
      have hz5 := hu5.size
      have HR5 := Lib.hid (HR.out.upd hu5 (fun e => by omega))
      have hU5 := Lib.hid (hU.trans hu5)
      have g1 : IntKind.i64.wrap ((x : Int) - 4) = (x : Int) - 4 := IntWalk.i64_in _ (by omega)
      have hL5 : Hid (∀ y ∈ L ++ [(x : Int) - 4], -2000 ≤ y ∧ y ≤ 2000) := fun y hy => by
        rcases List.mem_append.1 hy with e | e
        · exact hL.out y e
        · obtain rfl : y = (x : Int) - 4 := by simpa using e
          omega
      clear HR hU hc4
      go_wp2_with (at_builtin; go_loud (refine wpl_app1 rfl _ _ rfl b c k L ((x : Int) - 4) rfl HR5.out hkl.out rfl (by rw [← hkl.out]; omega) ?_); intro b6 c6 w6 hr6 hb6 hu6)
      go_roundw
      case rel => exact ⟨k + 1, by omega, by go_num, ⟨b6, c6, _, rfl, Lib.hid (by simp [← hkl.out]), hL5, by omega, hr6⟩, hc5.upd hu6 (by omega), hU5.out.comp hu6 (fun _ _ h => h) (fun i hi e => by omega)⟩
      case measure => simp [intOf]; omega
    · obtain rfl : k = m := by omega
      clear hk hkm
      go_wp2_with fail
      refine (l1Once_ok bc 12 _ hc4 (by omega) (by omega)).mono ?_
      rintro e w5 ⟨t, rfl, hc5, hu5⟩
      have hz5 := hu5.size
      have hr5 := hr.upd hu5 (fun e => by omega)
      have hU5 := hU.trans hu5
      clear hr hU hc4 hu5
      have HL5 : Hid (LstR bc b c k w2 (.slice (some ⟨b, 0, none⟩) k c) w5) := ⟨rfl, L, hr5, hkl.out, hL.out, hc5, hU5⟩
      clear hr5 hU5 hc5 hkl hL
      go_upto_if 29 with fail
      go_cut [7] from 30 to 34 (fun v wx => LstR bc b c k w2 v wx)
      case first =>
        cases t
        · go_wp2_with fail
          go_meet
          case rel => exact HL5.out
        · obtain ⟨-, L2, hr6, hkl, hL, hc6, hU6⟩ := HL5.out
          have hrp := Row.new 3 w5 (vals [1000, 1001, -1001]) (by simp; unfold maxLen; omega)
          have he7 : Ext w5 (w5.alloc (.cells (vals [1000, 1001, -1001]).toArray 3)) := Upd.alloc _ _ _
          have hs7 : SI _ (.slice (some ⟨w5.heap.size, 0, none⟩) 3 3) [1000, 1001, -1001] := hrp.si
          have hbc6 := hc6.lt
          have ho7 : Off bc (.slice (some ⟨w5.heap.size, 0, none⟩) 3 3) [1000, 1001, -1001] := .inr (fun b' off s n c e => by injection e with e1; injection e1 with e1; injection e1 with e1; omega)
          have hc7 := hc6.ext he7
          have HP := Lib.hid (l1PickInt_ok bc _ [1000, 1001, -1001] _ hc7 hs7 ho7 (by decide) (by decide))
          have HE7 := Lib.hid he7
          have HKL := Lib.hid hkl
          have h0 : 0 < L2.length := by omega
          have hkI : (0 : Int) < (k : Int) := by omega
          clear hrp hs7 ho7 hc7 he7 HL5 hkl
          go_wp2_with fail
          refine HP.out.mono ?_
          rintro e w8 ⟨q, hq, rfl, hc8, hu8⟩
          have hqb : -2000 ≤ nth [1000, 1001, -1001] q ∧ nth [1000, 1001, -1001] q ≤ 2000 := by
            have : ∀ q, q < ([1000, 1001, -1001] : List Int).length → -2000 ≤ nth [1000, 1001, -1001] q ∧ nth [1000, 1001, -1001] q ≤ 2000 := by decide
            exact this q hq
          obtain ⟨y, hy⟩ : ∃ y, y = nth [1000, 1001, -1001] q := ⟨_, rfl⟩
          rw [← hy] at hqb ⊢
          have hU8 := (HE7.out.toUpd (· = bc)).trans hu8
          have hr8 := hr6.upd hU8 (fun e => by omega)
          have hcell := hr8.icell (j := 0) h0
          have hfr := hr8.free 0 none
          have HS := Lib.hid (hr8.set 0 (.int .i64 y))
          have HC := Lib.hid (hc8.upd (Upd.setCell w8 ⟨b, 0, none⟩ (.int .i64 y)) (by show bc < b; omega))
          have HU := Lib.hid ((hU6.trans hU8).comp (Upd.setCell w8 ⟨b, 0, none⟩ (.int .i64 y)) (fun _ _ h => h) (fun i hi e => by have e' : i = b := e; omega))
          clear hy hr6 hr8 hU6 hU8 hc6 hc8 hu8
          go_wp2_with fail
          go_meet
          case rel =>
            have hs := HS.out
            rw [vals_set] at hs
            exact ⟨rfl, L2.set 0 y, hs, by rw [List.length_set]; exact HKL.out, fun z hz => by
              rcases List.mem_or_eq_of_mem_set hz with e | e
              · exact hL z e
              · omega, HC.out, HU.out⟩
      case rest =>
        obtain ⟨rfl, L2, hr6, hkl, hL, hc6, hU6⟩ := hcut
        obtain ⟨we, hwe⟩ : ∃ we, we = wc := ⟨_, rfl⟩
        subst hwe
        have HKL := Lib.hid hkl
        have HL := Lib.hid hL
        have hbl6 := hr6.lt
        clear hkl hL HL5
        go_wp2_with fail
        refine (l1Once_ok bc 14 _ hc6 (by omega) (by omega)).mono ?_
        rintro e w7 ⟨t, rfl, hc7, hu7⟩
        have hr7 := hr6.upd hu7 (fun e => by omega)
        have hU7 := hU6.trans hu7
        have hG7 := Lib.hid ((HG.out.upd hU7 (fun k hk e => by omega)).mono hz)
        have hE7 := Lib.hid (Upd.comp hE2 hU7 (fun _ _ h => h) (fun i hi e => by omega) : Ext w w7)
        have HR7 := Lib.hid hr7
        have hcp := hr7.le
        simp at hcp
        have hk1 : 1 ≤ k := h1
        have hcp2 : k ≤ c := by rw [HKL.out]; exact hcp
        have hl6 : L2.length ≤ 6 := by rw [← HKL.out]; exact h6
        clear hr6 hU6 hc6 hu7 hr7 hU7 hc7 hcp
        cases t
        · go_wp2_with fail
          go_ret2
          exact ⟨v, _, gs, L2, rfl, hG7.out, hl, HS.out, by rw [HKL.out]; exact HR7.out.si, hl6, HL.out, hE7.out⟩
        · have i1 : (1 : Int) ≤ (k : Int) := by omega
          have i2 : (k : Int) ≤ (c : Int) := by omega
          have i3 : (1 : Int) ≤ (c : Int) := by omega
          go_upto_region 11 with fail
          by_cases hc1 : c = 1
          · obtain rfl : k = 1 := by omega
            obtain rfl : c = 1 := hc1
            go_quiet (fail)
            go_wp2_with fail
            go_ret2
            exact ⟨v, _, gs, [], rfl, hG7.out.ext (by first | exact (Ext.refl _).drewN _ | exact (Ext.refl _).drew), hl, HS.out, ⟨_, 0, rfl, Nat.le_refl _, Nat.zero_le _, by simp, .inl rfl⟩, by simp, fun x hx => by simp at hx, hE7.out.trans (by first | exact (Ext.refl _).drewN _ | exact (Ext.refl _).drew)⟩
          · have n1 : 1 ≤ c := by omega
            go_quiet (fail)
            go_wp2_with fail
            go_ret2
            exact ⟨v, _, gs, L2.drop 1, rfl, hG7.out.ext (by first | exact (Ext.refl _).drewN _ | exact (Ext.refl _).drew), hl, HS.out, by rw [HKL.out]; exact SI.ext (SI.tail HR7.out (by rw [← HKL.out]; exact hk1)) (by first | exact (Ext.refl _).drewN _ | exact (Ext.refl _).drew), by simp; omega, fun x hx => HL.out x (List.mem_of_mem_drop hx), hE7.out.trans (by first | exact (Ext.refl _).drewN _ | exact (Ext.refl _).drew)⟩
end Go.Proofs.Ytapcnhbgoolcgaa
