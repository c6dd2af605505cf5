/- One row appended, with where the grown slice lies; sums of a list run through gates. Conditions: none. -/
import Derived.Test.YtapcnhbgoolcgaaNetP
import Derived.Test.YtapcnhbgoolcgaaRun
import Derived.Test.YtapcnhbgoolcgaaGateF
namespace Go.Proofs.Ytapcnhbgoolcgaa
open Go.RowKit

theorem gst_bd {lo hi : Int} {ys g : List Int} (h : ∀ x ∈ ys, lo ≤ x ∧ x ≤ hi) (ha : gA g < ys.length) (hb : gB g < ys.length) : ∀ x ∈ gst ys g, lo ≤ x ∧ x ≤ hi := by
  have h1 := h _ (nth_mem ha)
  have h2 := h _ (nth_mem hb)
  intro x hx
  unfold gst at hx
  rcases List.mem_or_eq_of_mem_set hx with hx | rfl
  · rcases List.mem_or_eq_of_mem_set hx with hx | rfl
    · exact h x hx
    · omega
  · omega
theorem runL_bd {lo hi : Int} (n : Nat) (gs : List (List Int)) : ∀ ys : List Int, ys.length = n → (∀ g ∈ gs, gateB n g = true) → (∀ x ∈ ys, lo ≤ x ∧ x ≤ hi) → ∀ x ∈ runL gs ys, lo ≤ x ∧ x ≤ hi := by
  induction gs with
  | nil => intro ys _ _ h; exact h
  | cons g gs ih =>
    intro ys hl hok h
    obtain ⟨h1, h2⟩ := gate_in (hok g (by simp))
    exact ih (gst ys g) (by rw [gst_len]; exact hl) (fun g' hg' => hok g' (by simp [hg'])) (gst_bd h (by omega) (by omega))
theorem rn_sum {gs : List (List Int)} {L : List Int} (h : rnB gs L = true) (hb : ∀ x ∈ L, -2000 ≤ x ∧ x ≤ 2000) : totL (rnL gs L) = totL L ∧ (rnL gs L).length = L.length ∧ ∀ x ∈ rnL gs L, -2000 ≤ x ∧ x ≤ 2000 := by
  unfold rnL
  rw [h]
  simp only [cond_true]
  have hn : netB (L.length : Int) gs = true := by unfold rnB at h; simp only [Bool.and_eq_true] at h; exact h.1
  have hok := (net_true hn).2.2.2
  exact ⟨runL_sum L.length gs L rfl hok, runL_len gs L, runL_bd L.length gs L rfl hok hb⟩
theorem brick_k {k : Int} (h1 : 1 ≤ k) (h2 : k ≤ 8) : sbB k (brI k) = true ∧ depI k (brI k) ≤ k := by
  have : k = 1 ∨ k = 2 ∨ k = 3 ∨ k = 4 ∨ k = 5 ∨ k = 6 ∨ k = 7 ∨ k = 8 := by omega
  rcases this with rfl | rfl | rfl | rfl | rfl | rfl | rfl | rfl
  · exact brick_ok 1 (by simp)
  · exact brick_ok 2 (by simp)
  · exact brick_ok 3 (by simp)
  · exact brick_ok 4 (by simp)
  · exact brick_ok 5 (by simp)
  · exact brick_ok 6 (by simp)
  · exact brick_ok 7 (by simp)
  · exact brick_ok 8 (by simp)
theorem SII.shape {w : World} {v : Value} {xss : List (List Int)} (h : SII w v xss) : ∃ p c, v = .slice p xss.length c := by
  obtain ⟨a, c, h1, _⟩ := h.elim; exact ⟨a, c, h1⟩
theorem SI.shape {w : World} {v : Value} {xs : List Int} (h : SI w v xs) : ∃ p c, v = .slice p xs.length c := by
  obtain ⟨a, c, h1, _⟩ := h.elim; exact ⟨a, c, h1⟩
theorem GI.get {B : Nat} {w : World} {p : Option Addr} {n c : Nat} {xss : List (List Int)} (h : GI B w (.slice p n c) xss) {k : Nat} (hk : k < xss.length) :
    ∃ b, p = some ⟨b, 0, none⟩ ∧ ∃ p2 c2, w.cell? ⟨b, k, none⟩ = some (.slice p2 (nthL xss k).length c2) ∧ OI B w.heap.size w (.slice p2 (nthL xss k).length c2) (nthL xss k) := by
  rcases h with ⟨_, rfl⟩ | ⟨b, cap, e, h2⟩
  · simp at hk
  · injection e with e1 _ _
    obtain ⟨u, h3, h4, _⟩ := h2.get hk
    obtain ⟨p2, c2, rfl⟩ := h4.shape
    exact ⟨b, e1, p2, c2, h3, h4⟩
/-- 'append(l, v)' of one row, l a row of its own: with where the grown row lies. -/
theorem wpl_app1GN {w : World} {ops : Array Oper} {rest : List Oper} {o : Oper} {a : Act} {Q : Exit → Act → World → Prop} (hgd : o.guard = none) (s x : Operand)
    (ho : o.op = .call { callee := .builtin .append, args := #[s, x], argTypes := #[24, 24] })
    (B b cap n : Nat) (xss : List (List Int)) (u : Value) (ys : List Int) (hs : a.eval s = .slice (some ⟨b, 0, none⟩) n cap) (hn : n = xss.length) (hr : GR B w b cap xss)
    (k : Nat) (hx : a.eval x = .slice (some ⟨k, 0, none⟩) 1 1) (hk : k = w.heap.size) (hv : OI B w.heap.size w u ys) (hv2 : u.ownBlock ≠ some b) (hBw : B ≤ w.heap.size) (hb : xss.length ≤ 1000000000)
    (h : ∀ b' cap' w', GR B w' b' cap' (xss ++ [ys]) → (b' = b ∨ w.heap.size ≤ b') → Upd (· = b) w w' → wpList Try.prog ops Q rest (a.put o.dst (.slice (some ⟨b', 0, none⟩) (n + 1) cap')) w') :
    wpList Try.prog ops Q (o :: rest) a (w.alloc (.cells #[u] 28)) := by
  subst hk hn
  have he : Ext w (w.alloc (.cells #[u] 28)) := Upd.alloc _ _ _
  obtain ⟨b', cap', w', hrun, h2, h3, h4⟩ := run_appGR (yss := [ys]) o.type (hr.ext he) [u] rfl (by
    intro i hi
    obtain rfl : i = 0 := by simpa using hi
    exact ⟨(hv.ext he).mono (Nat.le_refl _) he.size, hv2⟩) ⟨w.heap.size, 0, none⟩ 1 (by
    intro j z hj
    cases j with
    | zero => simp at hj; subst hj; exact World.cell?_alloc_at _ _ _ _ rfl
    | succ j => simp at hj) (by intro z hz; simp at hz; subst hz; exact hv.one) (by simp; omega) hb (by simp)
  refine wpList_plain hgd fun K hK => ?_
  unfold Oper.wp execOp
  simp only [ho, resolve, invoke, builtin, Sem.run_bind, Sem.run_pure, Result.andThen_ok, List.map_toArray, List.map_cons, List.map_nil, hs, hx]
  have e1 : ([ys] : List (List Int)).length = 1 := rfl
  rw [e1] at hrun
  simp only [hrun, Result.andThen_ok]
  exact hK _ _ (h b' cap' w' h2 (h3.imp id (fun e => by simp at e; omega)) ((Upd.alloc w _ _).trans h4))
end Go.Proofs.Ytapcnhbgoolcgaa
