/- Two tables that lie apart: what a store, a new row and a longer row do to them. Conditions: none. -/
import Derived.Test.YtognbiodplodhaaInsT
import Derived.Deep.AppendLies
import Derived.Deep.RegionLaw
import Derived.Deep.RegionHeld3
namespace Go.Proofs.Ytognbiodplodhaa
open Go.RowKit

theorem TT.upd {B : Nat} {D : Nat → Prop} {w w' : World} {ba ca : Nat} {va : List Value} {A : List (List Int)} {bb cb : Nat} {vb : List Value} {T : List (List Int)} (h : TT B w ba ca va A bb cb vb T) (hu : Upd D w w')
    (hD : ∀ k, D k → k ≠ ba ∧ k ≠ bb ∧ ¬ own va k ∧ ¬ own vb k) : TT B w' ba ca va A bb cb vb T :=
  ⟨h.ra.upd hu (fun e => (hD _ e).1 rfl), h.rb.upd hu (fun e => (hD _ e).2.1 rfl),
   (h.ea.upd hu (fun i b hi hb e => (hD b e).2.2.1 ⟨i, by rw [h.ea.len]; exact hi, hb⟩)).mono (Nat.le_refl _) hu.size,
   (h.eb.upd hu (fun i b hi hb e => (hD b e).2.2.2 ⟨i, by rw [h.eb.len]; exact hi, hb⟩)).mono (Nat.le_refl _) hu.size, h.dis, h.ne, h.la, h.lb⟩
theorem TT.ownlt {B : Nat} {w : World} {ba ca : Nat} {va : List Value} {A : List (List Int)} {bb cb : Nat} {vb : List Value} {T : List (List Int)} (h : TT B w ba ca va A bb cb vb T) {k : Nat} (hk : own va k) : k < w.heap.size := by
  obtain ⟨i, hi, hk⟩ := hk
  exact ((h.ea.el i (by rw [← h.ea.len]; exact hi)).own hk).2
/-- a block that is none of theirs. -/
def Off4 (k ba bb : Nat) (va vb : List Value) : Prop := k ≠ ba ∧ k ≠ bb ∧ ¬ own va k ∧ ¬ own vb k
theorem TT.off {B : Nat} {w : World} {ba ca : Nat} {va : List Value} {A : List (List Int)} {bb cb : Nat} {vb : List Value} {T : List (List Int)} (h : TT B w ba ca va A bb cb vb T) {k : Nat} (hk : w.heap.size ≤ k) : Off4 k ba bb va vb :=
  ⟨by have := h.ra.lt; omega, by have := h.rb.lt; omega, fun e => by have := h.ownlt e; omega, fun e => by have := h.swap.ownlt e; omega⟩
/-- a cell of a row of the first table. -/
theorem TT.setA {B : Nat} {w : World} {ba ca : Nat} {va : List Value} {A : List (List Int)} {bb cb : Nat} {vb : List Value} {T : List (List Int)} (h : TT B w ba ca va A bb cb vb T) (hB : B ≤ w.heap.size) {r c bu cu : Nat} (hr : r < A.length)
    (hv : nthV va r = .slice (some ⟨bu, 0, none⟩) (nthL A r).length cu) (hru : Row 3 w bu cu (vals (nthL A r))) (hbu : B ≤ bu) (x : Int) :
    TT B (w.setCell ⟨bu, c, none⟩ (.int .i64 x)) ba ca va (A.set r ((nthL A r).set c x)) bb cb vb T := by
  have hl := h.ea.len
  have hown : (nthV va r).ownBlock = some bu := by rw [hv]; rfl
  have hne : bu ≠ ba := fun e => (h.ea.el r hr).offOuter h.ra (by rw [hown, e])
  have hrs := hru.set c (.int .i64 x)
  rw [vals_set] at hrs
  refine h.stepA (h.ra.upd (Upd.setCell w ⟨bu, c, none⟩ _) (fun e => hne e.symm)) ?_ (fun i k hi hk => .inl ⟨hi, hk⟩) (.inl rfl) ((Upd.setCell w ⟨bu, c, none⟩ _).mono (fun i _ e => .inr ⟨r, by omega, by rw [hown, show i = bu from e]⟩)) hB
  refine (h.ea.set hr ((Upd.setCell w ⟨bu, c, none⟩ (.int .i64 x)).mono (fun i _ e => by rw [hown, show i = bu from e])) ?_).mono (Nat.le_refl _) (by simp)
  rw [hv]
  exact (OI.row hrs hbu (by simp)).mono (Nat.le_refl _) (by simp)
/-- a new row that is nil. -/
theorem TT.pushA {B : Nat} {w w' : World} {ba ca : Nat} {va : List Value} {A : List (List Int)} {bb cb : Nat} {vb : List Value} {T : List (List Int)} (h : TT B w ba ca va A bb cb vb T) (hB : B ≤ w.heap.size) {b' c' : Nat}
    (hr : Row 24 w' b' c' (va ++ [.slice none 0 0])) (hb : b' = ba ∨ w.heap.size ≤ b') (hu : Upd (· = ba) w w') : TT B w' b' c' (va ++ [.slice none 0 0]) (A ++ [[]]) bb cb vb T := by
  have hz := hu.size
  have hE := h.ea.upd hu (fun i k hi hk e => (h.ea.el i hi).offOuter h.ra (by rw [hk, e]))
  have hE2 := hE.push (v := .slice none 0 0) (ys := []) (OI.nil B w'.heap.size w') hz (fun c hc => by simp [Value.ownBlock] at hc)
  refine h.stepA hr hE2 (fun i k hi hk => ?_) hb (hu.mono (fun i _ e => .inl e)) hB
  rcases Nat.lt_or_ge i va.length with e | e
  · rw [nthV_append_lt e] at hk; exact .inl ⟨e, hk⟩
  · obtain rfl : i = va.length := by simp at hi; omega
    rw [nthV_append_last] at hk
    simp [Value.ownBlock] at hk
theorem own_nil {va : List Value} {k : Nat} (h : own (va ++ [.slice none 0 0]) k) : own va k := by
  obtain ⟨i, hi, hk⟩ := h
  rcases Nat.lt_or_ge i va.length with e | e
  · rw [nthV_append_lt e] at hk; exact ⟨i, e, hk⟩
  · obtain rfl : i = va.length := by simp at hi; omega
    rw [nthV_append_last] at hk
    simp [Value.ownBlock] at hk
/-- one row of each table grows by a number. -/
theorem TT.grow2 {B : Nat} {w w1 w2 : World} {ba ca : Nat} {va : List Value} {A : List (List Int)} {bb cb : Nat} {vb : List Value} {T : List (List Int)} (h : TT B w ba ca va A bb cb vb T) {r ga ka gb kb : Nat} {ya yb : List Int}
    (hra : r < A.length) (hrb : r < T.length)
    (hu1 : Upd (fun k => (nthV va r).ownBlock = some k) w w1) (hr1 : Row 3 w1 ga ka (vals ya)) (hg1 : (nthV va r).ownBlock = some ga ∨ w.heap.size ≤ ga) (hB1 : B ≤ ga)
    (hu2 : Upd (fun k => (nthV vb r).ownBlock = some k) w1 w2) (hr2 : Row 3 w2 gb kb (vals yb)) (hg2 : (nthV vb r).ownBlock = some gb ∨ w1.heap.size ≤ gb) (hB2 : B ≤ gb) {na nb : Nat} (hna : na = ya.length) (hnb : nb = yb.length) :
    TT B ((w2.setCell ⟨ba, r, none⟩ (.slice (some ⟨ga, 0, none⟩) na ka)).setCell ⟨bb, r, none⟩ (.slice (some ⟨gb, 0, none⟩) nb kb)) ba ca (va.set r (.slice (some ⟨ga, 0, none⟩) na ka)) (A.set r ya)
      bb cb (vb.set r (.slice (some ⟨gb, 0, none⟩) nb kb)) (T.set r yb) ∧
    Upd (fun k => B ≤ k) w ((w2.setCell ⟨ba, r, none⟩ (.slice (some ⟨ga, 0, none⟩) na ka)).setCell ⟨bb, r, none⟩ (.slice (some ⟨gb, 0, none⟩) nb kb)) := by
  subst hna hnb
  have hla := h.ea.len
  have hlb := h.eb.len
  have hz1 := hu1.size
  have hz2 := hu2.size
  have oa : ∀ k, (nthV va r).ownBlock = some k → own va k := fun k e => ⟨r, by omega, e⟩
  have ob : ∀ k, (nthV vb r).ownBlock = some k → own vb k := fun k e => ⟨r, by omega, e⟩
  have hba := h.ra.lt
  have hbb := h.rb.lt
  have la := fun k (e : own va k) => h.ownlt e
  have lb := fun k (e : own vb k) => h.swap.ownlt e
  have nab : ∀ k, own va k → k ≠ ba ∧ k ≠ bb := fun k ⟨i, hi, hk⟩ => ⟨fun e => (h.ea.el i (by omega)).offOuter h.ra (by rw [hk, e]), fun e => (h.ea.el i (by omega)).offOuter h.rb (by rw [hk, e])⟩
  have nbb : ∀ k, own vb k → k ≠ ba ∧ k ≠ bb := fun k ⟨i, hi, hk⟩ => ⟨fun e => (h.eb.el i (by omega)).offOuter h.ra (by rw [hk, e]), fun e => (h.eb.el i (by omega)).offOuter h.rb (by rw [hk, e])⟩
  -- the outer rows
  have ra1 := h.ra.upd hu1 (fun e => (nab _ (oa _ e)).1 rfl)
  have ra2 := ra1.upd hu2 (fun e => (nbb _ (ob _ e)).1 rfl)
  have rb1 := h.rb.upd hu1 (fun e => (nab _ (oa _ e)).2 rfl)
  have rb2 := rb1.upd hu2 (fun e => (nbb _ (ob _ e)).2 rfl)
  obtain ⟨ua, hua⟩ : ∃ u, u = Value.slice (some ⟨ga, 0, none⟩) ya.length ka := ⟨_, rfl⟩
  obtain ⟨ub, hub⟩ : ∃ u, u = Value.slice (some ⟨gb, 0, none⟩) yb.length kb := ⟨_, rfl⟩
  have s3 := Upd.setCell w2 ⟨ba, r, none⟩ ua
  have s4 := Upd.setCell (w2.setCell ⟨ba, r, none⟩ ua) ⟨bb, r, none⟩ ub
  -- the rows
  have ea1 := h.ea.grownT hra (Nat.le_refl _) hu1 hr1 hB1 hg1
  rw [← hua] at ea1
  have ownA : ∀ i k, i < (A.set r ya).length → (nthV (va.set r ua) i).ownBlock = some k → own va k ∨ k = ga ∧ (own va ga ∨ w.heap.size ≤ ga) := by
    intro i k hi hk
    have hi' : i < va.length := by simp at hi; omega
    by_cases e : r = i
    · subst e
      rw [nthV_set_same _ hi', hua] at hk
      have e2 : ga = k := by simpa [Value.ownBlock] using hk
      subst e2
      exact .inr ⟨rfl, hg1.imp (oa _) id⟩
    · rw [nthV_set_other _ e] at hk
      exact .inl ⟨i, hi', hk⟩
  have ownA2 : ∀ i k, i < (A.set r ya).length → (nthV (va.set r ua) i).ownBlock = some k → (own va k ∨ w.heap.size ≤ k) ∧ k < w1.heap.size := fun i k hi hk =>
    ⟨by rcases ownA i k hi hk with e | ⟨e, e2⟩
        · exact .inl e
        · rw [e]; exact e2, ((ea1.el i hi).own hk).2⟩
  have ea2 := ea1.upd hu2 (fun i k hi hk e => by
    rcases (ownA2 i k hi hk).1 with e2 | e2
    · exact h.dis k e2 (ob _ e)
    · have := lb _ (ob _ e); omega)
  have ea3 := ea2.upd s3 (fun i k hi hk e => (ea2.el i hi).offOuter ra2 (by rw [hk, e]))
  have ea4 := ea3.upd s4 (fun i k hi hk e => (ea2.el i hi).offOuter rb2 (by rw [hk, e]))
  have eb1 := h.eb.upd hu1 (fun i k hi hk e => h.dis k (oa _ e) ⟨i, by omega, hk⟩)
  have eb2 := (eb1.mono (Nat.le_refl B) hz1).grownT hrb (Nat.le_refl _) hu2 hr2 hB2 hg2
  rw [← hub] at eb2
  have ownB2 : ∀ i k, i < (T.set r yb).length → (nthV (vb.set r ub) i).ownBlock = some k → own vb k ∨ w1.heap.size ≤ k := by
    intro i k hi hk
    have hi' : i < vb.length := by simp at hi; omega
    by_cases e : r = i
    · subst e
      rw [nthV_set_same _ hi', hub] at hk
      have e2 : gb = k := by simpa [Value.ownBlock] using hk
      subst e2
      exact hg2.imp (ob _) id
    · rw [nthV_set_other _ e] at hk
      exact .inl ⟨i, hi', hk⟩
  have eb3 := eb2.upd s3 (fun i k hi hk e => (eb2.el i hi).offOuter ra2 (by rw [hk, e]))
  have eb4 := eb3.upd s4 (fun i k hi hk e => (eb2.el i hi).offOuter rb2 (by rw [hk, e]))
  rw [← hua, ← hub]
  have hz4 : ((w2.setCell ⟨ba, r, none⟩ ua).setCell ⟨bb, r, none⟩ ub).heap.size = w2.heap.size := by simp
  refine ⟨⟨(ra2.set r ua).upd s4 (fun e => h.ne e), (rb2.upd s3 (fun e => h.ne e.symm)).set r ub, ea4.mono (Nat.le_refl _) (by omega), eb4.mono (Nat.le_refl _) (by omega), ?_, h.ne, h.la, h.lb⟩, ?_⟩
  · rintro k ⟨i, hi, hk⟩ ⟨j, hj, hk2⟩
    have h1 := ownA2 i k (by simp at hi ⊢; omega) hk
    have h2 := ownB2 j k (by simp at hj ⊢; omega) hk2
    rcases h1.1 with e1 | e1 <;> rcases h2 with e2 | e2
    · exact h.dis k e1 e2
    · have := la _ e1; omega
    · have := lb _ e2; omega
    · omega
  · have u12 : Upd (fun k => B ≤ k) w w2 := hu1.comp hu2 (fun i hi e => ((h.ea.el r hra).own e).1) (fun i hi e => ((h.eb.el r hrb).own e).1)
    have u13 : Upd (fun k => B ≤ k) w (w2.setCell ⟨ba, r, none⟩ ua) := u12.comp s3 (fun _ _ e => e) (fun i hi e => by rw [show i = ba from e]; exact h.la)
    exact u13.comp s4 (fun _ _ e => e) (fun i hi e => by rw [show i = bb from e]; exact h.lb)
/-- 'append(v, y)', v a slice of ints of its own, nil too: as one step of a region that draws its order. -/
theorem step_app1U {w : World} {ops : Array Oper} {o : Oper} {a : Act} {K : Act → World → Prop} {Q : Exit → Act → World → Prop} {E : Prop} (hgd : o.guard = none) (s x : Operand)
    (ho : o.op = .call { callee := .builtin .append, args := #[s, x], argTypes := #[24, 24] })
    (B H : Nat) (v : Value) (xs : List Int) (y : Int) (hs : a.eval s = v) (hr : OI B H w v xs) (hB : B ≤ w.heap.size)
    (m : Nat) (hx : a.eval x = .slice (some ⟨m, 0, none⟩) 1 1) (hm : w.cell? ⟨m, 0, none⟩ = some (.int .i64 y)) (hb : xs.length ≤ 1000000000)
    (h : ∀ b' cap' w', Row 3 w' b' cap' (vals (xs ++ [y])) → B ≤ b' → (v.ownBlock = some b' ∨ b' = w.heap.size) → Upd (fun k => v.ownBlock = some k) w w' → K (a.put o.dst (.slice (some ⟨b', 0, none⟩) (xs.length + 1) cap')) w') :
    if Region.wanted o (yielded ops a.tmps) = true then Oper.wp Try.prog o a w K Q else E := by
  obtain ⟨i, hi, hz, hs1, hby⟩ := info_int
  refine step_append_lies w hgd s x 24 ho B 3 i (.int .i64 0) 1 8 Try.underlying24 hi hz hs1 hby rfl (by decide) v xs.length (vals xs) hs hr.owns ⟨m, 0, none⟩ 1 1 [.int .i64 y] hx rfl ?_ ?_ (by decide) ?_ ?_ hB w.heap.size rfl ?_
  · intro j u hj
    cases j with
    | zero => simp at hj; subst hj; rw [Addr.add_lit]; exact hm
    | succ j => simp at hj
  · intro u hu; simp at hu; subst hu; rfl
  · unfold maxLen; omega
  · omega
  · intro g cap w' h1 h2 h3 h4
    obtain ⟨r1, _, r3⟩ := Row.of_owns h1
    have hv : vals xs ++ [.int .i64 y] = vals (xs ++ [y]) := by simp [vals]
    rw [hv] at r1
    exact h g cap w' r1 r3 h3 ⟨h2.os, h2.tape, h2.output, h2.size, fun k hk hn => h2.block k hk (fun e => hn e.symm)⟩
end Go.Proofs.Ytognbiodplodhaa
