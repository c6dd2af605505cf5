/- A slice of slices that the call makes row by row: what it owns, and 'append(out, row)'. Conditions: lengths below a bound. -/
import Derived.Test.YtcifngcmdiokpaaSort
namespace Go.Proofs.Ytcifngcmdiokpaa
open Go.RowKit

/-- block b is a row of slices that read as xss, each in a block of its own, all from block B on and below H. -/
def RR (B H : Nat) (w : World) (b cap : Nat) (xss : List (List Int)) : Prop :=
  ∃ vs, Row 22 w b cap vs ∧ Els B H w vs xss ∧ (∀ i, i < xss.length → (nthV vs i).ownBlock ≠ some b) ∧ B ≤ b ∧ b < H
theorem RR.ext {B H : Nat} {w w' : World} {b cap : Nat} {xss : List (List Int)} (h : RR B H w b cap xss) (hu : Ext w w') : RR B H w' b cap xss := by
  obtain ⟨vs, h1, h2, h3⟩ := h; exact ⟨vs, h1.ext hu, h2.ext hu, h3⟩
theorem RR.upd {B H : Nat} {D : Nat → Prop} {w w' : World} {b cap : Nat} {xss : List (List Int)} (h : RR B H w b cap xss) (hu : Upd D w w') (hD : ∀ k, B ≤ k → k < H → ¬ D k) : RR B H w' b cap xss := by
  obtain ⟨vs, h1, h2, h3, h4, h5⟩ := h
  exact ⟨vs, h1.upd hu (hD b h4 h5), h2.upd hu (fun i c hi hc => by have := (h2.el i hi).own hc; exact hD c this.1 this.2), h3, h4, h5⟩
theorem RR.mono {B H H' : Nat} {w : World} {b cap : Nat} {xss : List (List Int)} (h : RR B H w b cap xss) (hH : H ≤ H') : RR B H' w b cap xss := by
  obtain ⟨vs, h1, h2, h3, h4, h5⟩ := h; exact ⟨vs, h1, h2.mono (Nat.le_refl _) hH, h3, h4, by omega⟩
theorem RR.monoB {B B' H : Nat} {w : World} {b cap : Nat} {xss : List (List Int)} (h : RR B H w b cap xss) (hB : B' ≤ B) : RR B' H w b cap xss := by
  obtain ⟨vs, h1, h2, h3, h4, h5⟩ := h; exact ⟨vs, h1, h2.mono hB (Nat.le_refl _), h3, by omega, h5⟩
theorem RR.lt {B H : Nat} {w : World} {b cap : Nat} {xss : List (List Int)} (h : RR B H w b cap xss) : b < w.heap.size := by obtain ⟨vs, h1, _⟩ := h; exact h1.lt
theorem RR.oii {B H : Nat} {w : World} {b cap n : Nat} {xss : List (List Int)} (h : RR B H w b cap xss) (hn : n = xss.length) : OII B H w (.slice (some ⟨b, 0, none⟩) n cap) xss := by
  subst hn; obtain ⟨vs, h1, h2, h3, h4, h5⟩ := h; exact .inr ⟨b, cap, vs, rfl, h4, h5, h1, h2, h3⟩
theorem RR.sii {B H : Nat} {w : World} {b cap n : Nat} {xss : List (List Int)} (h : RR B H w b cap xss) (hn : n = xss.length) : SII w (.slice (some ⟨b, 0, none⟩) n cap) xss := (h.oii hn).sii
theorem RR.lo {B H : Nat} {w : World} {b cap : Nat} {xss : List (List Int)} (h : RR B H w b cap xss) : B ≤ b := by obtain ⟨vs, h1, h2, h3, h4, h5⟩ := h; exact h4
theorem RR.new (w : World) : RR w.heap.size (w.heap.size + 1) (w.alloc (.cells #[] 22)) w.heap.size 0 [] :=
  ⟨[], Row.new 22 w [] (by simp), Els.nil _ _ _, fun i hi => by simp at hi, Nat.le_refl _, by omega⟩
theorem RR.get {B H : Nat} {w : World} {b cap : Nat} {xss : List (List Int)} (h : RR B H w b cap xss) {k : Nat} (hk : k < xss.length) : ∃ u, w.cell? ⟨b, k, none⟩ = some u ∧ OI B H w u (nthL xss k) := by
  obtain ⟨vs, h1, h2, _⟩ := h
  exact ⟨nthV vs k, h1.cell (nthV_get (by rw [h2.len]; exact hk)), h2.el k hk⟩
theorem OI.shape {B H : Nat} {w : World} {v : Value} {xs : List Int} (h : OI B H w v xs) : ∃ p c, v = .slice p xs.length c := by
  rcases h with ⟨rfl, rfl⟩ | ⟨b, cap, rfl, _⟩
  · exact ⟨none, 0, rfl⟩
  · exact ⟨_, _, rfl⟩

/-- 'out = append(out, v)': the row grows by a slice whose block is newer than all of the row's. -/
theorem wpl_appRR {w : World} {ops : Array Oper} {rest : List Oper} {o : Oper} {a : Act} {Q : Exit → Act → World → Prop} (hgd : o.guard = none) (s x : Operand)
    (ho : o.op = .call { callee := .builtin .append, args := #[s, x], argTypes := #[35, 35] })
    (B H : Nat) (b cap n : Nat) (xss : List (List Int)) (p : Option Addr) (l c : Nat) (ys : List Int) (hs : a.eval s = .slice (some ⟨b, 0, none⟩) n cap) (hr : RR B H w b cap xss) (hn : n = xss.length)
    (hv : OI B w.heap.size w (.slice p l c) ys) (hfr : ∀ k, (Value.slice p l c).ownBlock = some k → H ≤ k) (hHw : H ≤ w.heap.size)
    (hx : a.eval x = .slice (some ⟨w.heap.size, 0, none⟩) 1 1) (hb : xss.length ≤ 1000000000)
    (h : ∀ b' cap' w', RR B w'.heap.size w' b' cap' (xss ++ [ys]) → (b' = b ∨ w.heap.size < b') → Upd (· = b) w w' → wpList Try.prog ops Q rest (a.put o.dst (.slice (some ⟨b', 0, none⟩) (n + 1) cap')) w') :
    wpList Try.prog ops Q (o :: rest) a (w.alloc (.cells #[.slice p l c] 22)) := by
  obtain ⟨vs, h1, h2, h3, h4, h5⟩ := hr
  have hl := h2.len
  refine wpl_appv hgd s x ho b cap n vs p l c hs h1 (by omega) hx (by omega) ?_
  intro b' cap' w' r1 r2 r3
  refine h b' cap' w' ⟨_, r1, ?_, ?_, ?_, r1.lt⟩ r2 r3
  · have hvo : ∀ k, (Value.slice p l c).ownBlock = some k → k < w.heap.size ∧ k ≠ b := fun k hk => ⟨(hv.own hk).2, by have := hfr k hk; omega⟩
    have hv' : OI B w.heap.size w' (.slice p l c) ys := hv.upd r3 (fun k hk _ _ e => (hvo k hk).2 e)
    have h2' : Els B H w' vs xss := h2.upd r3 (fun i k hi hk e => h3 i hi (by rw [hk, e]))
    exact h2'.push (hv'.mono (Nat.le_refl _) r3.size) (by have := r3.size; omega) hfr
  · intro i hi hc
    have hi' : i < xss.length + 1 := by simpa using hi
    rcases Nat.lt_or_ge i xss.length with e | e
    · rw [nthV_append_lt (by omega)] at hc
      have := (h2.el i e).own hc
      rcases r2 with r2 | r2
      · subst r2; exact h3 i e hc
      · omega
    · obtain rfl : i = vs.length := by omega
      rw [nthV_append_last] at hc
      have e1 := hfr _ hc
      have e2 := (hv.own hc).2
      rcases r2 with r2 | r2 <;> omega
  · rcases r2 with r2 | r2 <;> omega
/-- 'out = append(out, []int{..})'. -/
theorem wpl_appLit {w : World} {ops : Array Oper} {rest : List Oper} {o : Oper} {a : Act} {Q : Exit → Act → World → Prop} (hgd : o.guard = none) (s x : Operand)
    (ho : o.op = .call { callee := .builtin .append, args := #[s, x], argTypes := #[35, 35] })
    (B : Nat) (b cap n k m : Nat) (xss : List (List Int)) (ys : List Int) (hs : a.eval s = .slice (some ⟨b, 0, none⟩) n cap) (hr : RR B w.heap.size w b cap xss) (hn : n = xss.length)
    (hB : B ≤ w.heap.size) (hl : ys.length ≤ 1000000000) (hk : k = w.heap.size) (hm : m = ys.length)
    (hx : a.eval x = .slice (some ⟨w.heap.size + 1, 0, none⟩) 1 1) (hb : xss.length ≤ 1000000000)
    (h : ∀ b' cap' w', RR B w'.heap.size w' b' cap' (xss ++ [ys]) → Upd (· = b) w w' → wpList Try.prog ops Q rest (a.put o.dst (.slice (some ⟨b', 0, none⟩) (n + 1) cap')) w') :
    wpList Try.prog ops Q (o :: rest) a ((w.alloc (.cells (vals ys).toArray 3)).alloc (.cells #[.slice (some ⟨k, 0, none⟩) m m] 22)) := by
  subst hk hm
  have hsz : (w.alloc (.cells (vals ys).toArray 3)).heap.size = w.heap.size + 1 := by simp
  have hvl : (vals ys).length = ys.length := by simp [vals]
  have hrow := Row.new 3 w (vals ys) (by rw [hvl]; unfold maxLen; omega)
  rw [hvl] at hrow
  refine wpl_appRR hgd s x ho B w.heap.size b cap n xss _ _ _ ys hs (hr.ext (Upd.alloc _ _ _)) hn (OI.row hrow hB rfl) ?_ (by omega) (by rw [hsz]; exact hx) hb ?_
  · intro k hk
    have : w.heap.size = k := by simpa [Value.ownBlock] using hk
    omega
  · intro b' cap' w' h1 _ h2
    exact h b' cap' w' h1 ((Upd.alloc w _ _).trans h2)
end Go.Proofs.Ytcifngcmdiokpaa
