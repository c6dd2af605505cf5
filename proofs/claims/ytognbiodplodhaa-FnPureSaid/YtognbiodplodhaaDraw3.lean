/- The draws of the great laws: l2Any, l2Bent, l1New. Conditions: a code of at most 2^20 bytes. -/
import Derived.Test.YtognbiodplodhaaDraw2
import Derived.Test.YtognbiodplodhaaOpen
namespace Go.Proofs.Ytognbiodplodhaa
open Go.RowKit

def BentPost (k lo hi : Int) (bc : Nat) (w : World) (e : Ending) (w' : World) : Prop :=
  ∃ b c m L, e = .returned (.slice (some ⟨b, 0, none⟩) m c) ∧ m = L.length ∧ (m : Int) ≤ k ∧ (∀ x ∈ L, lo ≤ x ∧ x ≤ hi) ∧ w.heap.size ≤ b ∧ Row 3 w' b c (vals L) ∧ Cur bc w' ∧ Upd (· = bc) w w'
theorem IsRow.bytes {w : World} {a : Option Addr} {len cap : Nat} {zs : List Int} (h : IsRow .u8 w a len cap zs) : BY w.heap.size w a len := by
  rcases h with ⟨rfl, rfl, rfl, rfl⟩ | ⟨x, rfl, hl, hm, hz, hc, hw⟩
  · exact .inl rfl
  · by_cases h0 : len = 0
    · exact .inl h0
    · have hx := hc 0 (by omega)
      obtain ⟨b, o, s⟩ := x
      rw [Addr.add_zero'] at hx
      obtain rfl := cell_spot hx
      refine .inr ⟨b, o, rfl, World.block_lt_of_cell? _ _ hx, fun j hj => ?_⟩
      have h1 := hc j (by omega)
      rw [Addr.add_lit] at h1
      have h2 := hw (zs.getD j 0) (by have : j < zs.length := by omega
                                      simp [this])
      simp [Lit.wf, IntKind.min, IntKind.max, IntKind.signed, IntKind.bits] at h2
      exact ⟨(zs.getD j 0).toNat, by simp only [List.getD_eq_getElem?_getD]; omega, by rw [h1]; congr 2; simp only [List.getD_eq_getElem?_getD]; omega⟩
def anyLens : List Int := [0, 1, 2, 3, 4, 5, 5, 6, 6, 7, 8]
set_option maxHeartbeats 1000000 in
theorem l2Any_ok (bc : Nat) (w : World) (h : Cur bc w) :
    Calls Try.prog 74 #[.pointer (some ⟨bc, 0, none⟩)] w (BentPost 8 1 8 bc w) := by
  have hbc := h.lt
  have hr := Row.new 3 w (vals anyLens) (by decide)
  have he : Ext w (w.alloc (.cells (vals anyLens).toArray 3)) := Upd.alloc _ _ _
  have hs : SI _ (.slice (some ⟨w.heap.size, 0, none⟩) 11 11) anyLens := hr.si
  have ho : Off bc (.slice (some ⟨w.heap.size, 0, none⟩) 11 11) anyLens := .inr (fun b' off s n c e => by injection e with e1; injection e1 with e1; injection e1 with e1; omega)
  have hc := h.ext he
  have HP := Lib.hid (l1PickInt_ok bc _ anyLens _ hc hs ho (by decide) (by decide))
  have HE := Lib.hid he
  clear hr hs ho he hc
  go_enter Try.func74, Try.ntmps74
  go_wp2_with fail
  refine HP.out.mono ?_
  rintro e w1 ⟨k, hk, rfl, hc1, hu1⟩
  obtain ⟨n, hn, hn8⟩ : ∃ n : Nat, nth anyLens k = (n : Int) ∧ n ≤ 8 := by
    have : ∀ k, k < anyLens.length → 0 ≤ nth anyLens k ∧ nth anyLens k ≤ 8 := by decide
    have := this k hk
    exact ⟨(nth anyLens k).toNat, by omega, by omega⟩
  rw [hn]
  have hU1 := Lib.hid ((HE.out.toUpd (· = bc)).trans hu1)
  clear hn
  go_wp2_with fail
  refine (l2Draw_ok bc n _ hc1 (by omega)).mono ?_
  rintro e w2 ⟨b2, c2, m2, L2, rfl, hm2, hl2, hb2, hlo2, hr2, hc2, hu2⟩
  have HM := Lib.hid hm2
  have HL := Lib.hid hl2
  have hz1 := hU1.out.size
  clear hm2 hl2
  go_wp2_with fail
  go_ret
  exact ⟨b2, c2, m2, L2, rfl, HM.out, by have := HM.out; have := HL.out; omega, fun x hx => by have := hb2 x hx; omega, by omega, hr2, hc2, hU1.out.trans hu2⟩
set_option maxHeartbeats 1000000 in
theorem l2Bent_ok (bc : Nat) (w : World) (h : Cur bc w) :
    Calls Try.prog 47 #[.pointer (some ⟨bc, 0, none⟩)] w (BentPost 9 (-1) 10 bc w) := by
  have hbc := h.lt
  go_enter Try.func47, Try.ntmps47
  go_wp2_with fail
  refine (l2Any_ok bc _ h).mono ?_
  rintro e w1 ⟨b, c, m, L, rfl, hm, hm8, hL, hlo, hr, hc1, hu1⟩
  have HM := Lib.hid hm
  have hz1 := hu1.size
  clear hm
  go_wp2_with fail
  refine (l1Below_int bc _ _ hc1 (by omega) (by omega)).mono ?_
  rintro e w2 ⟨x, hx, rfl, hc2, hu2⟩
  have hr2 := hr.upd hu2 (fun e => by omega)
  have hU2 := Lib.hid (hu1.trans hu2)
  have hz2 := hu2.size
  have hbl := hr2.lt
  have HR2 := Lib.hid hr2
  clear hr hr2
  by_cases h0 : x = 0
  · subst h0
    go_wp2_with fail
    refine (l1Below_int bc _ _ hc2 (by omega) (by omega)).mono ?_
    rintro e w3 ⟨y, hy, rfl, hc3, hu3⟩
    have HR3 := Lib.hid (HR2.out.upd hu3 (fun e => by omega))
    have hz3 := hu3.size
    go_wp2_with (at_builtin; refine wpl_app1 rfl _ _ rfl b c m L ((y : Int) - 1) rfl HR3.out HM.out rfl (by have := HM.out; omega) ?_; intro b6 c6 w6 hr6 hb6 hu6)
    go_ret
    refine ⟨b6, c6, m + 1, _, rfl, by rw [HM.out]; simp, by omega, fun z hz => ?_, by omega, hr6, hc3.upd hu6 (by omega), ((hU2.out.trans hu3).comp hu6 (fun _ _ h => h) (fun i hi e => by omega))⟩
    rcases List.mem_append.1 hz with hz | hz
    · have := hL z hz; omega
    · simp at hz; omega
  · have h0I : ((x : Int) == 0) = false := by simpa using (show (x : Int) ≠ 0 by omega)
    by_cases h1 : x = 1
    · subst h1
      by_cases hpos : 0 < m
      · have hposI : (0 : Int) < (m : Int) := by omega
        go_wp2_with fail
        refine (l1Below_int bc _ _ hc2 (by omega) (by omega)).mono ?_
        rintro e w3 ⟨y, hy, rfl, hc3, hu3⟩
        have hr3 := HR2.out.upd hu3 (fun e => by omega)
        have hz3 := hu3.size
        have hcell := hr3.icell (j := 0) (by have := HM.out; omega)
        have hfr := hr3.free 0 none
        have HS := Lib.hid (hr3.set 0 (.int .i64 ((y : Int) - 1)))
        have HU3 := Lib.hid ((hU2.out.trans hu3).comp (Upd.setCell w3 ⟨b, 0, none⟩ (.int .i64 ((y : Int) - 1))) (fun _ _ h => h) (fun i hi e => by have e' : i = b := e; omega))
        have HC3 := Lib.hid (hc3.upd (Upd.setCell w3 ⟨b, 0, none⟩ (.int .i64 ((y : Int) - 1))) (by show bc < b; omega))
        clear hr3
        go_wp2_with fail
        go_ret
        refine ⟨b, c, m, L.set 0 ((y : Int) - 1), rfl, by rw [List.length_set]; exact HM.out, by omega, fun z hz => ?_, by omega, ?_, HC3.out, HU3.out⟩
        · rcases List.mem_or_eq_of_mem_set hz with hz | hz
          · have := hL z hz; omega
          · omega
        · have := HS.out; rw [vals_set] at this; exact this
      · have hposI : ¬ (0 : Int) < (m : Int) := by omega
        go_wp2_with fail
        go_ret
        exact ⟨b, c, m, L, rfl, HM.out, by omega, fun z hz => by have := hL z hz; omega, by omega, HR2.out, hc2, hU2.out⟩
    · have h1I : ((x : Int) == 1) = false := by simpa using (show (x : Int) ≠ 1 by omega)
      go_wp2_with fail
      go_ret
      exact ⟨b, c, m, L, rfl, HM.out, by omega, fun z hz => by have := hL z hz; omega, by omega, HR2.out, hc2, hU2.out⟩
theorem BY.mono {bc bc' : Nat} {w : World} {a : Option Addr} {n : Nat} (h : BY bc w a n) (hb : bc ≤ bc') : BY bc' w a n := by
  rcases h with h | ⟨b, off, e, hne, hc⟩
  · exact .inl h
  · exact .inr ⟨b, off, e, by omega, hc⟩
set_option maxHeartbeats 1000000 in
theorem l1New_ok (a : Option Addr) (n cap : Nat) (w : World) (hn : n ≤ 1048576) (hb : BY w.heap.size w a n) :
    Calls Try.prog 48 #[.slice a n cap] w fun e w' => ∃ bc, e = .returned (.pointer (some ⟨bc, 0, none⟩)) ∧ w.heap.size ≤ bc ∧ Cur bc w' ∧ Ext w w' := by
  have HB := Lib.hid hb
  clear hb
  go_enter Try.func48, Try.ntmps48
  go_wp2_with fail
  go_loopw [3, 4] (fun h i wr => ∃ k : Nat, k ≤ n ∧ i = .int .i64 k ∧ (∃ g : Int, h = .int .i64 g ∧ 0 ≤ g ∧ g ≤ 1073741824) ∧ w = wr) (fun _ i _ => n - (intOf i).toNat)
  case atStart => exact ⟨0, Nat.zero_le _, rfl, ⟨_, rfl, by omega, by omega⟩, rfl⟩
  case round =>
    obtain ⟨k, hk, rfl, ⟨g, rfl, hg1, hg2⟩, rfl⟩ := hrel
    by_cases hlt : k < n ∧ k < 4000
    · obtain ⟨hkn, hk4⟩ := hlt
      have hknI : (k : Int) < (n : Int) := by omega
      have hk4I : (k : Int) < 4000 := by omega
      rcases HB.out with h0 | ⟨b, off, rfl, hne, hc⟩
      · omega
      obtain ⟨y, hy, cy⟩ := hc k hkn
      clear hc
      go_wp2_with fail
      obtain ⟨g', hg', hgb⟩ : ∃ g' : Int, bits .and .i64 (g * 131 + (y : Int) + 7) 1073741823 = g' ∧ 0 ≤ g' ∧ g' ≤ 1073741824 := by
        rw [i64_and30]
        exact ⟨_, rfl, by omega, by omega⟩
      exact ⟨⟨k + 1, by omega, by go_num, ⟨g', by rw [hg'], hgb.1, hgb.2⟩, trivial⟩, by simp [intOf]; omega⟩
    · by_cases hkn : k < n
      · have hknI : (k : Int) < (n : Int) := by omega
        have hk4 : ¬ (k : Int) < 4000 := by omega
        go_wp2_with fail
        go_ret
        exact ⟨w.heap.size, rfl, Nat.le_refl _, ⟨_, a, n, cap, 0, g, Row.new _ w [.slice a n cap, .int .i64 0, .int .i64 g] (by simp [maxLen]), hn, Nat.zero_le _, HB.out.upd (Upd.alloc w _ (fun _ => False)) (fun _ _ _ _ h => h)⟩, Upd.alloc _ _ _⟩
      · have hknI : ¬ (k : Int) < (n : Int) := by omega
        go_wp2_with fail
        go_ret
        exact ⟨w.heap.size, rfl, Nat.le_refl _, ⟨_, a, n, cap, 0, g, Row.new _ w [.slice a n cap, .int .i64 0, .int .i64 g] (by simp [maxLen]), hn, Nat.zero_le _, HB.out.upd (Upd.alloc w _ (fun _ => False)) (fun _ _ _ _ h => h)⟩, Upd.alloc _ _ _⟩
end Go.Proofs.Ytognbiodplodhaa
