/- A slice of slices that the call makes row by row, beside another block that the call writes. Conditions: lengths below a bound. -/
import Derived.Test.YtoieaphacnaohaaRow3
namespace Go.Proofs.Ytoieaphacnaohaa
open Go.RowKit

/-- as RR, and block X is none of its blocks. -/
def RA (B H : Nat) (w : World) (b cap : Nat) (xss : List (List Int)) (X : Nat) : Prop :=
  ∃ vs, Row 24 w b cap vs ∧ Els B H w vs xss ∧ (∀ i, i < xss.length → (nthV vs i).ownBlock ≠ some b) ∧ B ≤ b ∧ b < H ∧ b ≠ X ∧ ∀ i, i < xss.length → (nthV vs i).ownBlock ≠ some X
theorem RA.rr {B H : Nat} {w : World} {b cap X : Nat} {xss : List (List Int)} (h : RA B H w b cap xss X) : RR B H w b cap xss := by
  obtain ⟨vs, h1, h2, h3, h4, h5, _⟩ := h; exact ⟨vs, h1, h2, h3, h4, h5⟩
theorem RR.ra {B H : Nat} {w : World} {b cap X : Nat} {xss : List (List Int)} (h : RR B H w b cap xss) (hX : H ≤ X) : RA B H w b cap xss X := by
  obtain ⟨vs, h1, h2, h3, h4, h5⟩ := h
  exact ⟨vs, h1, h2, h3, h4, h5, by omega, fun i hi e => by have := (h2.el i hi).own e; omega⟩
theorem RA.upd {B H : Nat} {D : Nat → Prop} {w w' : World} {b cap X : Nat} {xss : List (List Int)} (h : RA B H w b cap xss X) (hu : Upd D w w') (hD : ∀ k, D k → k = X) : RA B H w' b cap xss X := by
  obtain ⟨vs, h1, h2, h3, h4, h5, h6, h7⟩ := h
  exact ⟨vs, h1.upd hu (fun e => h6 (hD b e)), h2.upd hu (fun i c hi hc hd => h7 i hi (by rw [hc, hD c hd])), h3, h4, h5, h6, h7⟩
theorem RA.ext {B H : Nat} {w w' : World} {b cap X : Nat} {xss : List (List Int)} (h : RA B H w b cap xss X) (hu : Ext w w') : RA B H w' b cap xss X := h.upd hu (fun _ e => e.elim)
theorem RA.mono {B H H' : Nat} {w : World} {b cap X : Nat} {xss : List (List Int)} (h : RA B H w b cap xss X) (hH : H ≤ H') : RA B H' w b cap xss X := by
  obtain ⟨vs, h1, h2, h3, h4, h5, h6, h7⟩ := h; exact ⟨vs, h1, h2.mono (Nat.le_refl _) hH, h3, h4, by omega, h6, h7⟩
theorem RA.lo {B H : Nat} {w : World} {b cap X : Nat} {xss : List (List Int)} (h : RA B H w b cap xss X) : B ≤ b := h.rr.lo
theorem RA.ne {B H : Nat} {w : World} {b cap X : Nat} {xss : List (List Int)} (h : RA B H w b cap xss X) : b ≠ X := by obtain ⟨vs, h1, h2, h3, h4, h5, h6, h7⟩ := h; exact h6

theorem wpl_appRA {w : World} {ops : Array Oper} {rest : List Oper} {o : Oper} {a : Act} {Q : Exit → Act → World → Prop} (hgd : o.guard = none) (s x : Operand)
    (ho : o.op = .call { callee := .builtin .append, args := #[s, x], argTypes := #[28, 28] })
    (B H : Nat) (b cap n X : Nat) (xss : List (List Int)) (p : Option Addr) (l c : Nat) (ys : List Int) (hs : a.eval s = .slice (some ⟨b, 0, none⟩) n cap) (hr : RA B H w b cap xss X) (hn : n = xss.length)
    (hv : OI B w.heap.size w (.slice p l c) ys) (hfr : ∀ k, (Value.slice p l c).ownBlock = some k → H ≤ k ∧ k ≠ X) (hHw : H ≤ w.heap.size) (hX : X < w.heap.size)
    (hx : a.eval x = .slice (some ⟨w.heap.size, 0, none⟩) 1 1) (hb : xss.length ≤ 1000000000)
    (h : ∀ b' cap' w', RA B w'.heap.size w' b' cap' (xss ++ [ys]) X → (b' = b ∨ w.heap.size < b') → Upd (· = b) w w' → wpList Try.prog ops Q rest (a.put o.dst (.slice (some ⟨b', 0, none⟩) (n + 1) cap')) w') :
    wpList Try.prog ops Q (o :: rest) a (w.alloc (.cells #[.slice p l c] 24)) := by
  obtain ⟨vs, h1, h2, h3, h4, h5, h6, h7⟩ := hr
  have hl := h2.len
  refine wpl_appv hgd s x ho b cap n vs p l c hs h1 (by omega) hx (by omega) ?_
  intro b' cap' w' r1 r2 r3
  refine h b' cap' w' ⟨_, r1, ?_, ?_, ?_, r1.lt, ?_, ?_⟩ r2 r3
  · have hvo : ∀ k, (Value.slice p l c).ownBlock = some k → k < w.heap.size ∧ k ≠ b := fun k hk => ⟨(hv.own hk).2, by have := (hfr k hk).1; omega⟩
    have hv' : OI B w.heap.size w' (.slice p l c) ys := hv.upd r3 (fun k hk _ _ e => (hvo k hk).2 e)
    have h2' : Els B H w' vs xss := h2.upd r3 (fun i k hi hk e => h3 i hi (by rw [hk, e]))
    exact h2'.push (hv'.mono (Nat.le_refl _) r3.size) (by have := r3.size; omega) (fun k hk => (hfr k hk).1)
  · intro i hi hc
    have hi' : i < xss.length + 1 := by simpa using hi
    rcases Nat.lt_or_ge i xss.length with e | e
    · rw [nthV_append_lt (by omega)] at hc
      have := (h2.el i e).own hc
      rcases r2 with r2 | r2
      · subst r2; exact h3 i e hc
      · omega
    · obtain rfl : i = vs.length := by omega
      rw [nthV_append_last] at hc
      have e1 := (hfr _ hc).1
      have e2 := (hv.own hc).2
      rcases r2 with r2 | r2 <;> omega
  · rcases r2 with r2 | r2 <;> omega
  · rcases r2 with r2 | r2 <;> omega
  · intro i hi hc
    have hi' : i < xss.length + 1 := by simpa using hi
    rcases Nat.lt_or_ge i xss.length with e | e
    · rw [nthV_append_lt (by omega)] at hc
      exact h7 i e hc
    · obtain rfl : i = vs.length := by omega
      rw [nthV_append_last] at hc
      exact (hfr _ hc).2 rfl
end Go.Proofs.Ytoieaphacnaohaa
