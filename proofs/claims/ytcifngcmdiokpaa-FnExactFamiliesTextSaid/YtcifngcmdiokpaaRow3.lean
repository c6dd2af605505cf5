/- More on slices of slices that the call makes: one of one row; a row read by its number. Conditions: none. -/
import Derived.Test.YtcifngcmdiokpaaBd
namespace Go.Proofs.Ytcifngcmdiokpaa
open Go.RowKit

theorem RR.single {w : World} {v : Value} {ys : List Int} (B : Nat) (h : OI B w.heap.size w v ys) (hB : B ≤ w.heap.size) : RR B (w.heap.size + 1) (w.alloc (.cells #[v] 22)) w.heap.size 1 [ys] := by
  have hrow := Row.new 22 w [v] (by simp; unfold maxLen; omega)
  refine ⟨[v], hrow, ?_, ?_, hB, by omega⟩
  · refine ⟨rfl, fun i hi => ?_, fun i j c hij hj => ?_⟩
    · obtain rfl : i = 0 := by simpa using hi
      have h1 : OI B w.heap.size (w.alloc (.cells #[v] 22)) v ys := h.ext (Upd.alloc _ _ _)
      exact h1.mono (Nat.le_refl _) (by omega)
    · have : j < 1 := by simpa using hj
      omega
  · intro i hi hc
    obtain rfl : i = 0 := by simpa using hi
    have := h.own hc
    omega
/-- as wpl_appRR, the heap's size spelled in another way. -/
theorem wpl_appRRk {w : World} {ops : Array Oper} {rest : List Oper} {o : Oper} {a : Act} {Q : Exit → Act → World → Prop} (hgd : o.guard = none) (s x : Operand)
    (ho : o.op = .call { callee := .builtin .append, args := #[s, x], argTypes := #[35, 35] })
    (B H : Nat) (b cap n : Nat) (xss : List (List Int)) (p : Option Addr) (l c : Nat) (ys : List Int) (hs : a.eval s = .slice (some ⟨b, 0, none⟩) n cap) (hr : RR B H w b cap xss) (hn : n = xss.length)
    (hv : OI B w.heap.size w (.slice p l c) ys) (hfr : ∀ k, (Value.slice p l c).ownBlock = some k → H ≤ k) (hHw : H ≤ w.heap.size)
    (m : Nat) (hx : a.eval x = .slice (some ⟨m, 0, none⟩) 1 1) (hm : m = w.heap.size) (hb : xss.length ≤ 1000000000)
    (h : ∀ b' cap' w', RR B w'.heap.size w' b' cap' (xss ++ [ys]) → (b' = b ∨ w.heap.size < b') → Upd (· = b) w w' → wpList Try.prog ops Q rest (a.put o.dst (.slice (some ⟨b', 0, none⟩) (n + 1) cap')) w') :
    wpList Try.prog ops Q (o :: rest) a (w.alloc (.cells #[.slice p l c] 22)) := by
  subst hm
  exact wpl_appRR hgd s x ho B H b cap n xss p l c ys hs hr hn hv hfr hHw hx hb h
/-- the row k of a slice of slices that is its own: a slice of its own, not nil if the list is not. -/
theorem RR.cell {B H : Nat} {w : World} {b cap : Nat} {xss : List (List Int)} (h : RR B H w b cap xss) {k : Nat} (hk : k < xss.length) :
    ∃ p c, w.cell? ⟨b, k, none⟩ = some (.slice p (nthL xss k).length c) ∧ OI B H w (.slice p (nthL xss k).length c) (nthL xss k) := by
  obtain ⟨u, hu, ho⟩ := h.get hk
  obtain ⟨p, c, rfl⟩ := ho.shape
  exact ⟨p, c, hu, ho⟩
/-- what a copy by 'append([]int{}, p...)' leaves. -/
theorem copied_own3 {w1 w2 : World} {b2 c2 : Nat} {xs : List Int} (hr : Row 3 w2 b2 c2 (vals xs)) (hb : b2 = w1.heap.size ∨ (w1.alloc (.cells #[] 3)).heap.size ≤ b2) (hu : Upd (· = w1.heap.size) (w1.alloc (.cells #[] 3)) w2) :
    w1.heap.size ≤ b2 ∧ OI w1.heap.size w2.heap.size w2 (.slice (some ⟨b2, 0, none⟩) xs.length c2) xs ∧ Ext w1 w2 := by
  have h1 : w1.heap.size ≤ b2 := by
    rcases hb with e | e
    · omega
    · simp at e; omega
  exact ⟨h1, OI.row hr h1 rfl, ((Ext.refl w1).alloc _).upd1 hu (Nat.le_refl _)⟩
/-- as wpl_app1, the heap's size spelled in another way. -/
theorem wpl_app1k {w : World} {ops : Array Oper} {rest : List Oper} {o : Oper} {a : Act} {Q : Exit → Act → World → Prop} (hgd : o.guard = none) (s x : Operand)
    (ho : o.op = .call { callee := .builtin .append, args := #[s, x], argTypes := #[22, 22] })
    (b cap n : Nat) (xs : List Int) (y : Int) (hs : a.eval s = .slice (some ⟨b, 0, none⟩) n cap) (hr : Row 3 w b cap (vals xs)) (hn : n = xs.length)
    (k : Nat) (hx : a.eval x = .slice (some ⟨k, 0, none⟩) 1 1) (hk : k = w.heap.size) (hb : xs.length ≤ 1000000000)
    (h : ∀ b' cap' w', Row 3 w' b' cap' (vals (xs ++ [y])) → (b' = b ∨ w.heap.size < b') → Upd (· = b) w w' → wpList Try.prog ops Q rest (a.put o.dst (.slice (some ⟨b', 0, none⟩) (n + 1) cap')) w') :
    wpList Try.prog ops Q (o :: rest) a (w.alloc (.cells #[.int .i64 y] 3)) := by
  subst hk
  exact wpl_app1 hgd s x ho b cap n xs y hs hr hn hx hb h
theorem OI.owns {B H : Nat} {w : World} {v : Value} {xs : List Int} (h : OI B H w v xs) : w.ownsRow B 3 1 v xs.length (vals xs) := by
  rcases h with ⟨rfl, rfl⟩ | ⟨b, cap, rfl, hB, _, h⟩
  · exact ⟨by simp, .inl ⟨rfl, by simp⟩⟩
  · obtain ⟨cur, h1, h2, h3⟩ := h.cur
    have hl := h.le
    simp at hl h3
    exact ⟨by simp, .inr ⟨b, cap, cur, rfl, hB, h1, hl, h.mx, by omega, by simpa using h3⟩⟩
/-- 'append(v, y)', v a slice of ints of its own, nil too. -/
theorem wpl_app1O {w : World} {ops : Array Oper} {rest : List Oper} {o : Oper} {a : Act} {Q : Exit → Act → World → Prop} (hgd : o.guard = none) (s x : Operand)
    (ho : o.op = .call { callee := .builtin .append, args := #[s, x], argTypes := #[22, 22] })
    (B : Nat) (v : Value) (xs : List Int) (y : Int) (hs : a.eval s = v) (hr : OI B w.heap.size w v xs) (hB : B ≤ w.heap.size)
    (hx : a.eval x = .slice (some ⟨w.heap.size, 0, none⟩) 1 1) (hb : xs.length ≤ 1000000000)
    (h : ∀ b' cap' w', Row 3 w' b' cap' (vals (xs ++ [y])) → B ≤ b' → Upd (fun k => v.ownBlock = some k) w w' → wpList Try.prog ops Q rest (a.put o.dst (.slice (some ⟨b', 0, none⟩) (xs.length + 1) cap')) w') :
    wpList Try.prog ops Q (o :: rest) a (w.alloc (.cells #[.int .i64 y] 3)) := by
  obtain ⟨i, hi, hz, hs1, hby⟩ := info_int
  have hr2 : OI B w.heap.size (w.alloc (.cells #[.int .i64 y] 3)) v xs := hr.ext (Upd.alloc _ _ _)
  refine wpList_append_own _ hgd s x 22 ho B 3 i (.int .i64 0) 1 8 Try.underlying22 hi hz hs1 hby rfl (by decide) v xs.length (vals xs) hs hr2.owns ⟨w.heap.size, 0, none⟩ 1 1 [.int .i64 y] hx rfl ?_ ?_ ?_ ?_ ?_ ?_
  · intro j u hj
    cases j with
    | zero => simp at hj; subst hj; exact World.cell?_alloc_at _ _ _ _ rfl
    | succ j => simp at hj
  · intro u hu; simp at hu; subst hu; rfl
  · unfold maxLen; omega
  · omega
  · simp; omega
  · intro v' w' h1 h2 h3
    have hne : v' ≠ .slice none 0 0 := fun e => by have := (h3.1 e).2; omega
    rcases h1.2 with ⟨e, _⟩ | ⟨g, cap, cur, rfl, hg, _⟩
    · exact absurd e hne
    · obtain ⟨r1, _, r3⟩ := Row.of_owns h1
      have hv : vals xs ++ [.int .i64 y] = vals (xs ++ [y]) := by simp [vals]
      rw [hv] at r1
      refine h g cap w' r1 r3 ?_
      have hu : Upd (fun k => v.ownBlock = some k) (w.alloc (.cells #[.int .i64 y] 3)) w' := ⟨h2.os, h2.tape, h2.output, h2.size, fun k hk hn => h2.block k hk (fun e => hn e.symm)⟩
      exact (Upd.alloc w _ _).trans hu
end Go.Proofs.Ytcifngcmdiokpaa
