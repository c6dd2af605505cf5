/- The draws of the great laws: l2Any, l2Bent, l1New. Conditions: a code of at most 2^20 bytes. -/
import Derived.Test.YtapcnhbgoolcgaaDraw2
import Derived.Test.YtapcnhbgoolcgaaOpen
namespace Go.Proofs.Ytapcnhbgoolcgaa
open Go.RowKit

def BentPost (k lo hi : Int) (bc : Nat) (w : World) (e : Ending) (w' : World) : Prop :=
  ∃ b c m L, e = .returned (.slice (some ⟨b, 0, none⟩) m c) ∧ m = L.length ∧ (m : Int) ≤ k ∧ (∀ x ∈ L, lo ≤ x ∧ x ≤ hi) ∧ w.heap.size ≤ b ∧ Row 3 w' b c (vals L) ∧ Cur bc w' ∧ Upd (· = bc) w w'
theorem IsRow.bytes {w : World} {a : Option Addr} {len cap : Nat} {zs : List Int} (h : IsRow .u8 w a len cap zs) : BY w.heap.size w a len := by
  rcases h with ⟨rfl, rfl, rfl, rfl⟩ | ⟨x, rfl, hl, hm, hz, hc, hw⟩
  · exact .inl rfl
  · by_cases h0 : len = 0
    · exact .inl h0
    · have hx := hc 0 (by omega)
      obtain ⟨b, o, s⟩ := x
      rw [Addr.add_zero'] at hx
      obtain rfl := cell_spot hx
      refine .inr ⟨b, o, rfl, World.block_lt_of_cell? _ _ hx, fun j hj => ?_⟩
      have h1 := hc j (by omega)
      rw [Addr.add_lit] at h1
      have h2 := hw (zs.getD j 0) (by have : j < zs.length := by omega
                                      simp [this])
      simp [Lit.wf, IntKind.min, IntKind.max, IntKind.signed, IntKind.bits] at h2
      exact ⟨(zs.getD j 0).toNat, by simp only [List.getD_eq_getElem?_getD]; omega, by rw [h1]; congr 2; simp only [List.getD_eq_getElem?_getD]; omega⟩
theorem BY.mono {bc bc' : Nat} {w : World} {a : Option Addr} {n : Nat} (h : BY bc w a n) (hb : bc ≤ bc') : BY bc' w a n := by
  rcases h with h | ⟨b, off, e, hne, hc⟩
  · exact .inl h
  · exact .inr ⟨b, off, e, by omega, hc⟩
set_option maxHeartbeats 1000000 in
theorem l1New_ok (a : Option Addr) (n cap : Nat) (w : World) (hn : n ≤ 1048576) (hb : BY w.heap.size w a n) :
    Calls Try.prog 43 #[.slice a n cap] w fun e w' => ∃ bc, e = .returned (.pointer (some ⟨bc, 0, none⟩)) ∧ w.heap.size ≤ bc ∧ Cur bc w' ∧ Ext w w' := by
  have HB := Lib.hid hb
  clear hb
  go_enter Try.func43, Try.ntmps43
  go_wp2_with fail
  go_loopw [3, 4] (fun h i wr => ∃ k : Nat, k ≤ n ∧ i = .int .i64 k ∧ (∃ g : Int, h = .int .i64 g ∧ 0 ≤ g ∧ g ≤ 1073741824) ∧ w = wr) (fun _ i _ => n - (intOf i).toNat)
  case atStart => exact ⟨0, Nat.zero_le _, rfl, ⟨_, rfl, by omega, by omega⟩, rfl⟩
  case round =>
    obtain ⟨k, hk, rfl, ⟨g, rfl, hg1, hg2⟩, rfl⟩ := hrel
    by_cases hlt : k < n ∧ k < 4000
    · obtain ⟨hkn, hk4⟩ := hlt
      have hknI : (k : Int) < (n : Int) := by omega
      have hk4I : (k : Int) < 4000 := by omega
      rcases HB.out with h0 | ⟨b, off, rfl, hne, hc⟩
      · omega
      obtain ⟨y, hy, cy⟩ := hc k hkn
      clear hc
      go_wp2_with fail
      obtain ⟨g', hg', hgb⟩ : ∃ g' : Int, bits .and .i64 (g * 131 + (y : Int) + 7) 1073741823 = g' ∧ 0 ≤ g' ∧ g' ≤ 1073741824 := by
        rw [i64_and30]
        exact ⟨_, rfl, by omega, by omega⟩
      exact ⟨⟨k + 1, by omega, by go_num, ⟨g', by rw [hg'], hgb.1, hgb.2⟩, trivial⟩, by simp [intOf]; omega⟩
    · by_cases hkn : k < n
      · have hknI : (k : Int) < (n : Int) := by omega
        have hk4 : ¬ (k : Int) < 4000 := by omega
        go_wp2_with fail
        go_ret
        exact ⟨w.heap.size, rfl, Nat.le_refl _, ⟨_, a, n, cap, 0, g, Row.new _ w [.slice a n cap, .int .i64 0, .int .i64 g] (by simp [maxLen]), hn, Nat.zero_le _, HB.out.upd (Upd.alloc w _ (fun _ => False)) (fun _ _ _ _ h => h)⟩, Upd.alloc _ _ _⟩
      · have hknI : ¬ (k : Int) < (n : Int) := by omega
        go_wp2_with fail
        go_ret
        exact ⟨w.heap.size, rfl, Nat.le_refl _, ⟨_, a, n, cap, 0, g, Row.new _ w [.slice a n cap, .int .i64 0, .int .i64 g] (by simp [maxLen]), hn, Nat.zero_le _, HB.out.upd (Upd.alloc w _ (fun _ => False)) (fun _ _ _ _ h => h)⟩, Upd.alloc _ _ _⟩
end Go.Proofs.Ytapcnhbgoolcgaa
