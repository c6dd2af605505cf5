/- A list of rows that may still be nil, its rows off one block: appended to. Conditions: small lengths. -/
import Derived.Test.YtcifngcmdiokpaaSpl2
import Derived.Deep.AppendLies
import Derived.Deep.RegionLaw
namespace Go.Proofs.Ytcifngcmdiokpaa
open Go.RowKit

def PV (B : Nat) (w : World) (v : Value) (vs : List Value) : Prop := (v = .slice none 0 0 ∧ vs = []) ∨ ∃ b cap, v = .slice (some ⟨b, 0, none⟩) vs.length cap ∧ B ≤ b ∧ Row 22 w b cap vs
theorem PV.own {B : Nat} {w : World} {v : Value} {vs : List Value} (h : PV B w v vs) {b : Nat} (hb : v.ownBlock = some b) : B ≤ b ∧ ∃ cap, Row 22 w b cap vs := by
  rcases h with ⟨rfl, _⟩ | ⟨b', cap, rfl, h1, h2⟩
  · simp [Value.ownBlock] at hb
  · obtain rfl : b' = b := by simpa [Value.ownBlock] using hb
    exact ⟨h1, cap, h2⟩
theorem PV.upd {B : Nat} {D : Nat → Prop} {w w' : World} {v : Value} {vs : List Value} (h : PV B w v vs) (hu : Upd D w w') (hD : ∀ b, v.ownBlock = some b → ¬ D b) : PV B w' v vs := by
  rcases h with h | ⟨b, cap, rfl, h1, h2⟩
  · exact .inl h
  · exact .inr ⟨b, cap, rfl, h1, h2.upd hu (hD b rfl)⟩
theorem PV.owns {B : Nat} {w : World} {v : Value} {vs : List Value} (h : PV B w v vs) : w.ownsRow B 22 1 v vs.length vs := by
  rcases h with ⟨rfl, rfl⟩ | ⟨b, cap, rfl, hB, h⟩
  · exact ⟨by simp, .inl ⟨rfl, by simp⟩⟩
  · obtain ⟨cur, h1, h2, h3⟩ := h.cur
    have hl := h.le
    have hm := h.mx
    exact ⟨by simp, .inr ⟨b, cap, cur, rfl, hB, h1, hl, hm, by omega, by rw [Nat.mul_one]; exact h3⟩⟩
def GX (B : Nat) (w : World) (v : Value) (xss : List (List Int)) (bh : Nat) : Prop := ∃ vs, PV B w v vs ∧ vs.length = xss.length ∧ ∀ i, i < xss.length → OI B w.heap.size w (nthV vs i) (nthL xss i) ∧ (nthV vs i).ownBlock ≠ some bh
theorem OI.offT {B H : Nat} {w : World} {u : Value} {ys : List Int} {b c : Nat} {us : List Value} (h : OI B H w u ys) (k : Row 22 w b c us) : u.ownBlock ≠ some b := by
  rcases h with ⟨rfl, _⟩ | ⟨b1, c1, rfl, _, _, hr⟩
  · simp [Value.ownBlock]
  · intro e
    have e2 : b1 = b := by simpa [Value.ownBlock] using e
    exact hr.apart2 k (by decide) e2
theorem GX.offInt {B : Nat} {w : World} {v : Value} {xss : List (List Int)} {bh b c : Nat} {xs : List Value} (h : GX B w v xss bh) (k : Row 3 w b c xs) : v.ownBlock ≠ some b := by
  obtain ⟨vs, h1, _⟩ := h
  intro e
  obtain ⟨_, cap, h2⟩ := h1.own e
  exact k.apart2 h2 (by decide) rfl
theorem GX.lo {B : Nat} {w : World} {v : Value} {xss : List (List Int)} {bh : Nat} (h : GX B w v xss bh) {b : Nat} (hb : v.ownBlock = some b) : B ≤ b := by
  obtain ⟨vs, h1, _⟩ := h; exact (h1.own hb).1
theorem GX.lt {B : Nat} {w : World} {v : Value} {xss : List (List Int)} {bh : Nat} (h : GX B w v xss bh) {b : Nat} (hb : v.ownBlock = some b) : b < w.heap.size := by
  obtain ⟨vs, h1, _⟩ := h
  obtain ⟨_, _, h2⟩ := h1.own hb; exact h2.lt
theorem GX.new (B : Nat) (w : World) (bh : Nat) : GX B w (.slice none 0 0) [] bh := ⟨[], .inl ⟨rfl, rfl⟩, rfl, fun i hi => by simp at hi⟩
theorem GX.ext {B : Nat} {w w' : World} {v : Value} {xss : List (List Int)} {bh : Nat} (h : GX B w v xss bh) (hu : Ext w w') : GX B w' v xss bh := by
  obtain ⟨vs, h1, h2, h3⟩ := h
  exact ⟨vs, h1.upd hu (fun _ _ => id), h2, fun i hi => ⟨((h3 i hi).1.ext hu).mono (Nat.le_refl _) hu.size, (h3 i hi).2⟩⟩
/-- a store below. -/
theorem GX.below {B : Nat} {D : Nat → Prop} {w w' : World} {v : Value} {xss : List (List Int)} {bh : Nat} (h : GX B w v xss bh) (hu : Upd D w w') (hD : ∀ k, D k → k < B) : GX B w' v xss bh := by
  obtain ⟨vs, h1, h2, h3⟩ := h
  refine ⟨vs, h1.upd hu (fun b hb hd => by have := (h1.own hb).1; have := hD b hd; omega), h2, fun i hi => ⟨((h3 i hi).1.upd hu (fun b hb hl _ hd => by have := hD b hd; omega)).mono (Nat.le_refl _) hu.size, (h3 i hi).2⟩⟩
/-- the other block grows, or moves. -/
theorem GX.heads {B : Nat} {w w' : World} {v : Value} {xss : List (List Int)} {bh c : Nat} {xs : List Value} (h : GX B w v xss bh) (k : Row 3 w bh c xs) (hu : Upd (· = bh) w w') {bh' : Nat} (hb : bh' = bh ∨ w.heap.size ≤ bh') : GX B w' v xss bh' := by
  have hoff := h.offInt k
  obtain ⟨vs, h1, h2, h3⟩ := h
  refine ⟨vs, h1.upd hu (fun b hb hd => hoff (by rw [hb, hd])), h2, fun i hi => ⟨((h3 i hi).1.upd hu (fun b hb _ _ hd => (h3 i hi).2 (by rw [hb, hd]))).mono (Nat.le_refl _) hu.size, fun e => ?_⟩⟩
  rcases hb with rfl | hb
  · exact (h3 i hi).2 e
  · have := ((h3 i hi).1.own e).2; omega
theorem GX.gi {B : Nat} {w : World} {v : Value} {xss : List (List Int)} {bh : Nat} (h : GX B w v xss bh) : GI B w v xss := by
  obtain ⟨vs, h1, h2, h3⟩ := h
  rcases h1 with ⟨rfl, rfl⟩ | ⟨b, cap, rfl, hB, hr⟩
  · exact .inl ⟨rfl, List.eq_nil_of_length_eq_zero h2.symm⟩
  · exact GR.gi ⟨vs, hr, h2, hB, fun i hi => ⟨(h3 i hi).1, (h3 i hi).1.offT hr⟩⟩ h2
theorem GX.shape {B : Nat} {w : World} {v : Value} {xss : List (List Int)} {bh : Nat} (h : GX B w v xss bh) : ∃ a c, v = .slice a xss.length c := by
  obtain ⟨vs, h1, h2, _⟩ := h
  rcases h1 with ⟨rfl, rfl⟩ | ⟨b, cap, rfl, _⟩
  · exact ⟨none, 0, by rw [← h2]; rfl⟩
  · exact ⟨_, _, by rw [h2]⟩
theorem OI.oneC {B H : Nat} {w : World} {v : Value} {xs : List Int} (h : OI B H w v xs) : v.oneCell' = true := by
  rcases h with ⟨rfl, _⟩ | ⟨b, cap, rfl, _⟩ <;> rfl
theorem step_app1X {w : World} {ops : Array Oper} {o : Oper} {a : Act} {K : Act → World → Prop} {Q : Exit → Act → World → Prop} {E : Prop} (hgd : o.guard = none) (s x : Operand)
    (ho : o.op = .call { callee := .builtin .append, args := #[s, x], argTypes := #[35, 35] })
    (B : Nat) (v : Value) (xss : List (List Int)) (bh : Nat) (u : Value) (ys : List Int) (hs : a.eval s = v) (hr : GX B w v xss bh) (hB : B ≤ w.heap.size)
    (m : Nat) (hx : a.eval x = .slice (some ⟨m, 0, none⟩) 1 1) (hm : w.cell? ⟨m, 0, none⟩ = some u) (hv : OI B w.heap.size w u ys) (hvh : u.ownBlock ≠ some bh) (hb : xss.length ≤ 1000000)
    (h : ∀ b' cap' w', GX B w' (.slice (some ⟨b', 0, none⟩) (xss.length + 1) cap') (xss ++ [ys]) bh → Upd (fun k => v.ownBlock = some k) w w' → K (a.put o.dst (.slice (some ⟨b', 0, none⟩) (xss.length + 1) cap')) w') :
    if Region.wanted o (yielded ops a.tmps) = true then Oper.wp Try.prog o a w K Q else E := by
  obtain ⟨vs, h1, h2, h3⟩ := hr
  obtain ⟨i, hi, hz, hs1, hby⟩ := info_ints
  refine step_append_lies w hgd s x 35 ho B 22 i (.slice none 0 0) 1 24 Try.underlying35 hi hz hs1 hby rfl (by decide) v vs.length vs hs h1.owns ⟨m, 0, none⟩ 1 1 [u] hx rfl ?_ ?_ (by decide) ?_ ?_ hB w.heap.size rfl ?_
  · intro j z hj
    cases j with
    | zero => simp at hj; subst hj; rw [Addr.add_lit]; exact hm
    | succ j => simp at hj
  · intro z hz; simp at hz; subst hz; exact hv.oneC
  · unfold maxLen; omega
  · omega
  · intro g cap w' q1 q2 q3 q4
    obtain ⟨r1, _, r3⟩ := Row.of_owns q1
    have hU : Upd (fun k => v.ownBlock = some k) w w' := ⟨q2.os, q2.tape, q2.output, q2.size, fun k hk hn => q2.block k hk (fun e => hn e.symm)⟩
    have hz' := hU.size
    have key : ∀ (u' : Value) (ys' : List Int), OI B w.heap.size w u' ys' → OI B w'.heap.size w' u' ys' := fun u' ys' ho => (ho.upd hU (fun b hb _ _ hd => by
      obtain ⟨_, cp, hrow⟩ := h1.own hd
      exact ho.offT hrow hb)).mono (Nat.le_refl _) hz'
    rw [h2]
    refine h g cap w' ⟨vs ++ [u], .inr ⟨g, cap, by rw [List.length_append, h2]; rfl, r3, r1⟩, by rw [List.length_append, List.length_append, h2]; rfl, fun j hj => ?_⟩ hU
    rcases Nat.lt_or_ge j xss.length with e | e
    · rw [nthV_append_lt (by omega), nthL_append_lt e]
      exact ⟨key _ _ (h3 j e).1, (h3 j e).2⟩
    · obtain rfl : j = xss.length := by simp at hj; omega
      rw [nthL_append_last, ← h2, nthV_append_last]
      exact ⟨key _ _ hv, hvh⟩
end Go.Proofs.Ytcifngcmdiokpaa
