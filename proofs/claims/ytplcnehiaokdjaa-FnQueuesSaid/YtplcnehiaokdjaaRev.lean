/- Contracts of slices.Reverse and of the two reversals of a list. Conditions: lengths below a bound. -/
import Derived.Test.YtplcnehiaokdjaaBase2
namespace Go.Proofs.Ytplcnehiaokdjaa
open Go.RowKit


theorem drop_rev (xs : List Int) (k : Nat) (h : k < xs.length) : (xs.drop (k + 1)).reverse ++ [nth xs k] = (xs.drop k).reverse := by
  rw [drop_nth h]; simp
set_option maxHeartbeats 400000 in
theorem l3Reverse_ok (v : Value) (xs : List Int) (w : World) (h : SI w v xs) (hl : xs.length ≤ 10000000) :
    Calls Try.prog 56 #[v] w fun e w' => ∃ v', e = .returned v' ∧ OI w.heap.size w'.heap.size w' v' xs.reverse ∧ Ext w w' := by
  obtain ⟨a, cap, rfl, hri⟩ := h.elim
  clear h
  have hr0 := Row.new 3 w [] (by simp)
  go_enter Try.func56, Try.ntmps56
  go_wp2
  go_loopw [3, 4] (fun o i wr => ∃ k : Nat, k ≤ xs.length ∧ (∃ q : Int, q = (k : Int) - 1 ∧ i = .int .i64 q) ∧ (∃ b cap, o = .slice (some ⟨b, 0, none⟩) (xs.length - k) cap ∧ w.heap.size ≤ b ∧ Row 3 wr b cap (vals (xs.drop k).reverse)) ∧ Ext w wr) (fun _ i _ => (intOf i + 1).toNat)
  case atStart => exact ⟨xs.length, by omega, ⟨_, rfl, rfl⟩, ⟨_, 0, by simp, Nat.le_refl _, by simpa using hr0⟩, (Ext.refl w).alloc _⟩
  case round =>
    obtain ⟨k, hk, ⟨q, hqe, rfl⟩, ⟨b, c, rfl, hb, hr⟩, he⟩ := hrel
    clear hr0
    cases k with
    | zero =>
      obtain rfl : q = -1 := by omega
      clear hqe
      go_wp2
      go_ret
      exact ⟨_, rfl, OI.row hr hb (by simp), he⟩
    | succ k =>
      obtain rfl : q = (k : Int) := by omega
      have hlt : k < xs.length := by omega
      obtain ⟨b1, off, rfl, hc⟩ := (hri.ext he).get hlt
      have hck := hc k hlt
      have hd := drop_rev xs k hlt
      have HD := Lib.hid hd
      clear hc hri hqe hd
      have hn1 : xs.length - (k + 1) = ((xs.drop (k + 1)).reverse).length := by simp
      have hn2 : ((xs.drop (k + 1)).reverse).length ≤ 1000000000 := by simp; omega
      have HN := Lib.hid hn1
      have HN2 := Lib.hid hn2
      clear hn1 hn2
      go_wp2_with (at_builtin; refine wpl_app1 rfl _ _ rfl b c (xs.length - (k + 1)) ((xs.drop (k + 1)).reverse) (nth xs k) rfl hr HN.out rfl HN2.out ?_; intro b' c' w' h1 h2 h3)
      rw [HD.out] at h1
      go_roundw
      case rel => exact ⟨k, by omega, ⟨_, by omega, rfl⟩, ⟨b', c', by rw [Value.slice.injEq]; exact ⟨rfl, by omega, rfl⟩, by have := he.size; omega, h1⟩, he.upd1 h3 hb⟩
      case measure => simp [intOf]
end Go.Proofs.Ytplcnehiaokdjaa
