/- Contracts of RunPlan and SortsByPlan, the program's and the reference's. Conditions: lengths below a bound. -/
import Derived.Test.YtplcnehiaokdjaaQueP
import Derived.Test.YtplcnehiaokdjaaRow3
import Derived.Test.YtplcnehiaokdjaaBase2
import Derived.Deep.AppendLies
import Derived.Deep.RegionLaw
import Derived.Deep.RegionHeld3
namespace Go.Proofs.Ytplcnehiaokdjaa
open Go.RowKit

/-- 'append(v, y)', v a slice of ints of its own, nil too: as one step of a region that draws its order. -/
theorem step_app1O {w : World} {ops : Array Oper} {o : Oper} {a : Act} {K : Act → World → Prop} {Q : Exit → Act → World → Prop} {E : Prop} (hgd : o.guard = none) (s x : Operand)
    (ho : o.op = .call { callee := .builtin .append, args := #[s, x], argTypes := #[24, 24] })
    (B H : Nat) (v : Value) (xs : List Int) (y : Int) (hs : a.eval s = v) (hr : OI B H w v xs) (hB : B ≤ w.heap.size)
    (m : Nat) (hx : a.eval x = .slice (some ⟨m, 0, none⟩) 1 1) (hm : w.cell? ⟨m, 0, none⟩ = some (.int .i64 y)) (hb : xs.length ≤ 1000000000)
    (h : ∀ b' cap' w', Row 3 w' b' cap' (vals (xs ++ [y])) → B ≤ b' → (v.ownBlock = some b' ∨ b' = w.heap.size) → Upd (fun k => v.ownBlock = some k) w w' → K (a.put o.dst (.slice (some ⟨b', 0, none⟩) (xs.length + 1) cap')) w') :
    if Region.wanted o (yielded ops a.tmps) = true then Oper.wp Try.prog o a w K Q else E := by
  obtain ⟨i, hi, hz, hs1, hby⟩ := info_int
  refine step_append_lies w hgd s x 24 ho B 3 i (.int .i64 0) 1 8 Try.underlying24 hi hz hs1 hby rfl (by decide) v xs.length (vals xs) hs hr.owns ⟨m, 0, none⟩ 1 1 [.int .i64 y] hx rfl ?_ ?_ (by decide) ?_ ?_ hB w.heap.size rfl ?_
  · intro j u hj
    cases j with
    | zero => simp at hj; subst hj; rw [Addr.add_lit]; exact hm
    | succ j => simp at hj
  · intro u hu; simp at hu; subst hu; rfl
  · unfold maxLen; omega
  · omega
  · intro g cap w' h1 h2 h3 h4
    obtain ⟨r1, _, r3⟩ := Row.of_owns h1
    have hv : vals xs ++ [.int .i64 y] = vals (xs ++ [y]) := by simp [vals]
    rw [hv] at r1
    exact h g cap w' r1 r3 h3 ⟨h2.os, h2.tape, h2.output, h2.size, fun k hk hn => h2.block k hk (fun e => hn e.symm)⟩
/-- one of several slices of their own has grown by an append. -/
theorem Els.grow {B H : Nat} {w w' : World} {vs : List Value} {xss : List (List Int)} {k : Nat} {ys : List Int} {b' c' : Nat} (h : Els B H w vs xss) (hk : k < xss.length) (hH : H ≤ w.heap.size)
    (hu : Upd (fun j => (nthV vs k).ownBlock = some j) w w') (hr : Row 3 w' b' c' (vals ys)) (hB : B ≤ b') (hb : (nthV vs k).ownBlock = some b' ∨ H ≤ b') :
    Els B w'.heap.size w' (vs.set k (.slice (some ⟨b', 0, none⟩) ys.length c')) (xss.set k ys) := by
  have hl := h.len
  have hz := hu.size
  have hown : ∀ c, (Value.slice (some ⟨b', 0, none⟩) ys.length c').ownBlock = some c → c = b' := fun c hc => by simp [Value.ownBlock] at hc; exact hc.symm
  -- block b' is no other one's
  have far : ∀ i, i < xss.length → i ≠ k → (nthV vs i).ownBlock ≠ some b' := by
    intro i hi hne hc
    rcases hb with e | e
    · rcases Nat.lt_or_ge i k with h1 | h1
      · exact h.apart i k b' h1 hk hc e
      · exact h.apart k i b' (by omega) hi e hc
    · have := (h.el i hi).own hc; omega
  refine ⟨by simp [hl], fun i hi => ?_, fun i j c hij hj hi => ?_⟩
  · have hi' : i < xss.length := by simpa using hi
    by_cases e : k = i
    · subst e; rw [nthL_set_same ys hk, nthV_set_same _ (by omega)]; exact OI.row hr hB rfl
    · rw [nthL_set_other ys e, nthV_set_other _ e]
      refine ((h.el i hi').upd hu (fun b hbb _ _ hc => ?_)).mono (Nat.le_refl _) (by omega)
      rcases Nat.lt_or_ge i k with h1 | h1
      · exact h.apart i k b h1 hk hbb hc
      · exact h.apart k i b (by omega) hi' hc hbb
  · have hj' : j < xss.length := by simpa using hj
    by_cases e : k = i
    · subst e
      rw [nthV_set_same _ (by omega)] at hi
      rw [nthV_set_other _ (by omega), hown c hi]
      exact far j hj' (by omega)
    · rw [nthV_set_other _ e] at hi
      by_cases e2 : k = j
      · subst e2
        rw [nthV_set_same _ (by omega)]
        intro hc
        rw [hown c hc] at hi
        exact far i (by omega) (by omega) hi
      · rw [nthV_set_other _ e2]; exact h.apart i j c hij hj' hi

/-- the queues while they are emptied: eight slices in blocks from lo on and below hi, in a row of eight cells. -/
structure PQ (T : TypeId) (w : World) (lo hi bq : Nat) (vs : List Value) (Q : List (List Int)) : Prop where
  len : vs.length = 8
  qlen : Q.length = 8
  row : Row T w bq 8 vs
  out : bq < lo
  el : ∀ k, k < 8 → ∃ p c, nthV vs k = .slice p (nthL Q k).length c ∧ (nthL Q k).length ≤ c ∧ c ≤ maxLen ∧ (p = none → c = 0) ∧ RI w p (nthL Q k) ∧ ∀ b off s, p = some ⟨b, off, s⟩ → lo ≤ b ∧ b < hi
theorem PQ.upd {T : TypeId} {D : Nat → Prop} {w w' : World} {lo hi bq : Nat} {vs : List Value} {Q : List (List Int)} (h : PQ T w lo hi bq vs Q) (hu : Upd D w w') (hD : ∀ b, (lo ≤ b ∧ b < hi) ∨ b = bq → ¬ D b) : PQ T w' lo hi bq vs Q :=
  ⟨h.len, h.qlen, h.row.upd hu (hD bq (.inr rfl)), h.out, fun k hk => by
    obtain ⟨p, c, h1, h2, h3, h4, h5, h6⟩ := h.el k hk
    exact ⟨p, c, h1, h2, h3, h4, h5.upd hu (fun b off s e => hD b (.inl (h6 b off s e))), h6⟩⟩
theorem PQ.ext {T : TypeId} {w w' : World} {lo hi bq : Nat} {vs : List Value} {Q : List (List Int)} (h : PQ T w lo hi bq vs Q) (hu : Ext w w') : PQ T w' lo hi bq vs Q := h.upd hu (fun _ _ => id)
theorem PQ.of_els {T : TypeId} {w : World} {H bq : Nat} {vs : List Value} {Q : List (List Int)} (hr : Row T w bq 8 vs) (he : Els (bq + 1) H w vs Q) (h8 : Q.length = 8) : PQ T w (bq + 1) H bq vs Q :=
  ⟨by rw [he.len]; exact h8, h8, hr, by omega, fun k hk => by
    have ho := he.el k (by omega)
    rcases ho with ⟨h1, h2⟩ | ⟨b, cap, h1, h2, h3, h4⟩
    · exact ⟨none, 0, by rw [h1, h2]; rfl, by rw [h2]; exact Nat.le_refl _, Nat.zero_le _, fun _ => rfl, .inl h2, fun b off s e => by simp at e⟩
    · exact ⟨_, cap, h1, by have := h4.le; simpa using this, h4.mx, by simp, h4.ri, fun b' off s e => by simp at e; omega⟩⟩
/-- the front of queue k has gone. -/
theorem PQ.pop {T : TypeId} {w : World} {lo hi bq : Nat} {vs : List Value} {Q : List (List Int)} (h : PQ T w lo hi bq vs Q) {k : Nat} (hk : k < 8) {b off c : Nat} (hv : nthV vs k = .slice (some ⟨b, off, none⟩) (nthL Q k).length c) (h0 : 0 < (nthL Q k).length) {p : Option Addr} (hp : p = if c = 1 then some ⟨b, off, none⟩ else some ⟨b, off + 1, none⟩) :
    PQ T (w.setCell ⟨bq, k, none⟩ (.slice p ((nthL Q k).length - 1) (c - 1))) lo hi bq (vs.set k (.slice p ((nthL Q k).length - 1) (c - 1))) (Q.set k ((nthL Q k).drop 1)) := by
  have hl := h.len
  have hq := h.qlen
  have ho := h.out
  have hU := Upd.setCell w ⟨bq, k, none⟩ (.slice p ((nthL Q k).length - 1) (c - 1))
  refine ⟨by simp [hl], by simp [hq], h.row.set k _, ho, fun j hj => ?_⟩
  by_cases e : k = j
  · subst e
    obtain ⟨p0, c0, h1, h2, h3, h4, h5, h6⟩ := h.el k hk
    rw [hv] at h1
    injection h1 with e1 _ e3
    subst e1; subst e3
    have hb := h6 b off none rfl
    rw [nthV_set_same _ (by omega), nthL_set_same _ (by omega)]
    refine ⟨p, c - 1, by simp, by simp; omega, by omega, fun e => by subst hp; split at e <;> simp at e, ?_, ?_⟩
    · rcases h5 with h5 | ⟨b', off', e4, h5⟩
      · rw [h5] at h0; simp at h0
      · simp only [Option.some.injEq, Addr.mk.injEq, and_true] at e4
        obtain ⟨rfl, rfl⟩ := e4
        by_cases hc : c = 1
        · left; apply List.drop_eq_nil_of_le; omega
        · right
          rw [if_neg hc] at hp
          refine ⟨b, off + 1, hp, fun i hi => ?_⟩
          simp only [List.length_drop] at hi
          have h7 := h5 (i + 1) (by omega)
          have e5 : nth ((nthL Q k).drop 1) i = nth (nthL Q k) (i + 1) := by simp [nth]
          rw [e5]
          refine hU.cell ?_ (by show ¬ b = bq; omega)
          rw [← h7]; congr 2; omega
    · intro b' off' s e
      rw [hp] at e
      split at e <;> (simp at e; omega)
  · obtain ⟨p0, c0, h1, h2, h3, h4, h5, h6⟩ := h.el j hj
    rw [nthV_set_other _ e, nthL_set_other _ e]
    exact ⟨p0, c0, h1, h2, h3, h4, h5.upd hU (fun b' off' s e2 => by have := h6 b' off' s e2; show ¬ b' = bq; omega), h6⟩
theorem PQ.cell {T : TypeId} {w : World} {lo hi bq : Nat} {vs : List Value} {Q : List (List Int)} (h : PQ T w lo hi bq vs Q) {k : Nat} (hk : k < 8) : w.cell? ⟨bq, k, none⟩ = some (nthV vs k) := h.row.cell (nthV_get (by rw [h.len]; exact hk))
/-- a queue that is not empty: its value, its first cell. -/
theorem PQ.front {T : TypeId} {w : World} {lo hi bq : Nat} {vs : List Value} {Q : List (List Int)} (h : PQ T w lo hi bq vs Q) {k : Nat} (hk : k < 8) (h0 : 0 < (nthL Q k).length) :
    ∃ b off c, nthV vs k = .slice (some ⟨b, off, none⟩) (nthL Q k).length c ∧ w.cell? ⟨b, off, none⟩ = some (.int .i64 (headI Q k)) ∧ lo ≤ b ∧ b < hi ∧ (nthL Q k).length ≤ c ∧ c ≤ maxLen := by
  obtain ⟨p, c, h1, h2, h3, h4, h5, h6⟩ := h.el k hk
  rcases h5 with h5 | ⟨b, off, rfl, h5⟩
  · rw [h5] at h0; simp at h0
  · have := h6 b off none rfl
    exact ⟨b, off, c, h1, h5 0 h0, this.1, this.2, h2, h3⟩
theorem PQ.empty {T : TypeId} {w : World} {lo hi bq : Nat} {vs : List Value} {Q : List (List Int)} (h : PQ T w lo hi bq vs Q) {k : Nat} (hk : k < 8) : ∃ p c, nthV vs k = .slice p (nthL Q k).length c := by
  obtain ⟨p, c, h1, _⟩ := h.el k hk; exact ⟨p, c, h1⟩
theorem bestTo_t {Q : List (List Int)} {k : Nat} (h : 0 < (nthL Q k).length) (h2 : bestTo Q k < 0 ∨ headI Q k < headI Q (bestTo Q k).toNat) : bestTo Q (k + 1) = (k : Int) := if_pos ⟨h, h2⟩
theorem bestTo_f {Q : List (List Int)} {k : Nat} (h : ¬ (0 < (nthL Q k).length ∧ (bestTo Q k < 0 ∨ headI Q k < headI Q (bestTo Q k).toNat))) : bestTo Q (k + 1) = bestTo Q k := if_neg h
end Go.Proofs.Ytplcnehiaokdjaa
