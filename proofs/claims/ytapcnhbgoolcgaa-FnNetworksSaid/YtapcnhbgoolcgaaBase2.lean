/- Contracts of the program's 'is it a permutation' and of Go's library on slices of ints: clone, compare, reverse, search. Conditions: lengths below a bound. -/
import Derived.Test.YtapcnhbgoolcgaaBase
namespace Go.Proofs.Ytapcnhbgoolcgaa
open Go.RowKit

abbrev bvals (bs : List Bool) : List Value := bs.map Value.bool
def nthB (bs : List Bool) (k : Nat) : Bool := bs.getD k false
theorem bvals_get {bs : List Bool} {j : Nat} (h : j < bs.length) : (bvals bs)[j]? = some (.bool (nthB bs j)) := by simp [bvals, nthB, h]
theorem bvals_set (bs : List Bool) (j : Nat) (x : Bool) : (bvals bs).set j (.bool x) = bvals (bs.set j x) := by simp [bvals, List.map_set]

theorem Try.infoBool : (Try.prog.info? 4).map (fun i => (i.zero, i.size, i.bytes)) = some (some (.bool false), 1, 1) := by kernel_rfl
theorem info_bool : ∃ i, Try.prog.info? 4 = some i ∧ i.zero = some (.bool false) ∧ i.size = 1 ∧ i.bytes = 1 := by
  have h := Try.infoBool
  cases hi : Try.prog.info? 4 with
  | none => rw [hi] at h; simp at h
  | some i => rw [hi] at h; simp at h; exact ⟨i, rfl, h.1, h.2.1, h.2.2⟩
/-- 'make([]bool, n)'. -/
theorem wpl_make_bool {w : World} {ops : Array Oper} {rest : List Oper} {o : Oper} {a : Act} {Q : Exit → Act → World → Prop}
    (hg : o.guard = none) (l c : Operand) (hop : o.op = Op.makeSlice 59 l c)
    (n : Nat) (kl kc : IntKind) (L C : Int) (hl : a.eval l = .int kl L) (hc : a.eval c = .int kc C) (hL : L = (n : Int)) (hC : C = (n : Int)) (hb : n ≤ 1000000000)
    (hK : ∀ w', Row 4 w' w.heap.size n (bvals (List.replicate n false)) → Ext w w' → w.heap.size < w'.heap.size → wpList Try.prog ops Q rest (a.put o.dst (.slice (some ⟨w.heap.size, 0, none⟩) n n)) w') :
    wpList Try.prog ops Q (o :: rest) a w := by
  obtain ⟨i, hi, hz, hs1, hby⟩ := info_bool
  refine wpl_make hg l c 59 hop 4 i (.bool false) Try.underlying59 hi hz hs1 rfl n kl kc L C hl hc hL hC (by rw [hby]; omega) (by unfold maxLen; omega) ?_
  intro w' h1 h2 h3
  exact hK w' (by simpa [bvals] using h1) h2 h3



set_option maxHeartbeats 400000 in
theorem slicesClone_ok (v : Value) (xs : List Int) (w : World) (h : SI w v xs) (hl : xs.length ≤ 10000000) :
    Calls Try.prog 67 #[v] w fun e w' => ∃ v', e = .returned v' ∧ OI w.heap.size w'.heap.size w' v' xs ∧ Ext w w' := by
  obtain ⟨a, cap, rfl, hc1, hc2, hc3, hri⟩ := h
  have hnn := fun (w : World) (n c n' c' : Nat) => Lib.run_eql_slice_nil (P := Try.prog) w 28 3 a n c n' c' Try.underlying28
  cases a with
  | none =>
    have h0 : xs = [] := List.eq_nil_of_length_eq_zero (by have := hc3 rfl; omega)
    subst h0
    go_enter Try.func67, Try.ntmps67
    go_wp2
    go_ret
    exact ⟨_, rfl, OI.nil _ _ _, Ext.refl _⟩
  | some ad =>
    have hr0 := Row.new 3 w [] (by simp)
    have hri2 := hri.ext (Upd.alloc w (.cells #[] 3) _)
    go_enter Try.func67, Try.ntmps67
    go_wp2_with (at_builtin; refine wpl_appSrc rfl _ _ rfl w.heap.size 0 0 [] xs rfl hr0 rfl ad xs.length cap rfl rfl hri2 (by simp) (by omega) ?_; intro b' cap' w' h1 h2 h3)
    go_ret
    refine ⟨_, rfl, ?_, ?_⟩
    · rw [List.nil_append] at h1
      refine OI.row h1 ?_ (by simp)
      rcases h2 with h2 | h2
      · omega
      · simp at h2; omega
    · exact (Ext.refl w).alloc _ |>.upd1 h3 (Nat.le_refl _)
end Go.Proofs.Ytapcnhbgoolcgaa
