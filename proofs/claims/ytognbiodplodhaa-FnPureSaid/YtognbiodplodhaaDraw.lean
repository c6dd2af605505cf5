/- The draws of the great laws: the cursor, its bytes, small numbers. Conditions: a code of at most 2^20 bytes. -/
import Derived.Test.YtognbiodplodhaaRow3
import Derived.Test.YtognbiodplodhaaCopy
import Derived.Laws.BitsLemmas
namespace Go.Proofs.Ytognbiodplodhaa
open Go.RowKit

theorem i64_and255 (n : Int) : bits .and .i64 n 255 = n % 256 := by
  have h1 : (BitVec.ofInt 64 255).toNat = 2 ^ 8 - 1 := by decide
  have key : (BitVec.ofInt 64 n &&& BitVec.ofInt 64 255).toNat = (n % ((2 ^ 64 : Nat) : Int)).toNat % 2 ^ 8 := by
    rw [BitVec.toNat_and, BitVec.toNat_ofInt, h1, Nat.and_two_pow_sub_one_eq_mod]
  show IntKind.i64.wrap ((BitVec.ofInt 64 n &&& BitVec.ofInt 64 255).toNat : Nat) = n % 256
  rw [key, IntKind.wrap_i64]
  omega
theorem i64_and30 (n : Int) : bits .and .i64 n 1073741823 = n % 1073741824 := by
  have h1 : (BitVec.ofInt 64 1073741823).toNat = 2 ^ 30 - 1 := by decide
  have key : (BitVec.ofInt 64 n &&& BitVec.ofInt 64 1073741823).toNat = (n % ((2 ^ 64 : Nat) : Int)).toNat % 2 ^ 30 := by
    rw [BitVec.toNat_and, BitVec.toNat_ofInt, h1, Nat.and_two_pow_sub_one_eq_mod]
  show IntKind.i64.wrap ((BitVec.ofInt 64 n &&& BitVec.ofInt 64 1073741823).toNat : Nat) = n % 1073741824
  rw [key, IntKind.wrap_i64]
  omega
/-- n bytes lie at a, in a block below bc. -/
def BY (bc : Nat) (w : World) (a : Option Addr) (n : Nat) : Prop := n = 0 ∨ ∃ b off, a = some ⟨b, off, none⟩ ∧ b < bc ∧ ∀ j, j < n → ∃ x : Nat, x < 256 ∧ w.cell? ⟨b, off + j, none⟩ = some (.int .u8 (x : Int))
theorem BY.upd {D : Nat → Prop} {bc : Nat} {w w' : World} {a : Option Addr} {n : Nat} (h : BY bc w a n) (hu : Upd D w w') (hD : ∀ b off, a = some ⟨b, off, none⟩ → b < bc → ¬ D b) : BY bc w' a n := by
  rcases h with h | ⟨b, off, e, hne, hc⟩
  · exact .inl h
  · exact .inr ⟨b, off, e, hne, fun j hj => by obtain ⟨x, h1, h2⟩ := hc j hj; exact ⟨x, h1, hu.cell h2 (hD b off e hne)⟩⟩
theorem BY.set {bc : Nat} {w w' : World} {a : Option Addr} {n : Nat} (h : BY bc w a n) (hu : Upd (· = bc) w w') : BY bc w' a n := h.upd hu (fun _ _ _ hne e => by omega)
/-- block bc is a cursor over at most 2^20 bytes. -/
def Cur (bc : Nat) (w : World) : Prop := ∃ (t : TypeId) (a : Option Addr) (n cap i : Nat) (h : Int), Row t w bc 3 [.slice a n cap, .int .i64 i, .int .i64 h] ∧ n ≤ 1048576 ∧ i ≤ n ∧ BY bc w a n
theorem Cur.lt {bc : Nat} {w : World} (h : Cur bc w) : bc < w.heap.size := by obtain ⟨_, _, _, _, _, _, hr, _⟩ := h; exact hr.lt
theorem Cur.upd {bc b : Nat} {w w' : World} (h : Cur bc w) (hu : Upd (· = b) w w') (hb : bc < b) : Cur bc w' := by
  obtain ⟨t, a, n, cap, i, g, hr, h1, h2, h3⟩ := h
  exact ⟨t, a, n, cap, i, g, hr.upd hu (fun e => by omega), h1, h2, h3.upd hu (fun _ _ _ hne e => by omega)⟩
theorem Cur.ext {bc : Nat} {w w' : World} (h : Cur bc w) (hu : Ext w w') : Cur bc w' := by
  obtain ⟨t, a, n, cap, i, g, hr, h1, h2, h3⟩ := h
  exact ⟨t, a, n, cap, i, g, hr.ext hu, h1, h2, h3.upd hu (fun _ _ _ _ h => h)⟩
set_option maxHeartbeats 2000000 in
theorem l1Byte_ok (bc : Nat) (w : World) (h : Cur bc w) :
    Calls Try.prog 93 #[.pointer (some ⟨bc, 0, none⟩)] w fun e w' => ∃ x : Nat, x < 256 ∧ e = .returned (.int .i64 (x : Int)) ∧ Cur bc w' ∧ Upd (· = bc) w w' := by
  obtain ⟨t, a, n, cap, i, g, hr, hn, hi, hby⟩ := h
  have c2' := hr.cell (j := 2) rfl
  have f2' := hr.free 2 none
  go_enter Try.func93, Try.ntmps93
  go_wp2_with fail
  generalize wrap64 (wrap64 (g * 6364136223846793005) + 1442695040888963407) = g2
  have hr1 := hr.set 2 (.int .i64 g2)
  have hu1 := Upd.setCell w ⟨bc, 2, none⟩ (.int .i64 g2)
  simp only [List.set_cons_succ, List.set_cons_zero] at hr1
  have hb1 := hby.set hu1
  generalize w.setCell ⟨bc, 2, none⟩ (.int .i64 g2) = w1 at hr1 hu1 hb1 ⊢
  have c0 := hr1.cell (j := 0) rfl
  have c1 := hr1.cell (j := 1) rfl
  have c2 := hr1.cell (j := 2) rfl
  have f0 := hr1.free 0 none
  have f1 := hr1.free 1 none
  have f2 := hr1.free 2 none
  clear c2' f2'
  have HBY := Lib.hid hb1
  clear hb1 hby
  go_quiet (fail)
  obtain ⟨x, hx, hxb⟩ : ∃ x : Nat, bits .and .i64 (bits .xor .i64 (g2 / 8589934592) (g2 / 35184372088832)) 255 = (x : Int) ∧ x < 256 := by
    rw [i64_and255]
    obtain ⟨z, hz⟩ : ∃ z, z = bits .xor .i64 (g2 / 8589934592) (g2 / 35184372088832) := ⟨_, rfl⟩
    rw [← hz]
    exact ⟨(z % 256).toNat, by omega, by omega⟩
  rw [hx]
  clear hx
  by_cases hin : i < n
  · rcases HBY.out with h0 | ⟨b, off, rfl, hne, hc⟩
    · omega
    obtain ⟨y, hy, cy⟩ := hc i hin
    have HC := Lib.hid hc
    clear hc
    have hinI : (i : Int) < (n : Int) := by omega
    go_wp2_with fail
    go_quiet (fail)
    go_wp2_with fail
    go_quiet (fail)
    obtain ⟨z, hz, hzb⟩ : ∃ z : Nat, bits .and .i64 ((x : Int) + (y : Int)) 255 = (z : Int) ∧ z < 256 := by
      rw [i64_and255]
      exact ⟨(((x : Int) + (y : Int)) % 256).toNat, by omega, by omega⟩
    rw [hz]
    clear hz
    have HR2 := Lib.hid (fun m => hr1.ext (Upd.drewN w1 m _))
    have HU2 := Lib.hid (fun m => hu1.trans (Upd.drewN w1 m _))
    have HC2 := Lib.hid (fun m => HBY.out.set (Upd.drewN w1 m _))
    go_wp2_with fail
    go_ret
    refine ⟨z, hzb, rfl, ⟨t, some ⟨b, off, none⟩, n, cap, i + 1, g2, ?_, hn, by omega, (HC2.out _).set (Upd.setCell _ ⟨bc, 1, none⟩ _)⟩, (HU2.out _).trans (Upd.setCell _ ⟨bc, 1, none⟩ _)⟩
    exact (HR2.out _).set 1 (.int .i64 ((i : Int) + 1))
  · have hinI : ¬ (i : Int) < (n : Int) := by omega
    go_wp2_with fail
    go_quiet (fail)
    go_wp2_with fail
    go_ret
    exact ⟨x, hxb, rfl, ⟨t, a, n, cap, i, g2, (hr1.ext (Upd.drewN w1 _ _)).ext (Upd.drewN _ _ _), hn, hi, (HBY.out.set (Upd.drewN w1 _ _)).set (Upd.drewN _ _ _)⟩, (hu1.trans (Upd.drewN _ _ _)).trans (Upd.drewN _ _ _)⟩
end Go.Proofs.Ytognbiodplodhaa
