/- Reduced words: the contract of the program's recursion reducedWords. Conditions: at most 5 numbers, at most 7 inversions. -/
import Derived.Test.YtmnbdphfoonleaaWrdP
import Derived.Test.YtmnbdphfoonleaaOrd
import Derived.Test.YtmnbdphfoonleaaPut
import Derived.Test.YtmnbdphfoonleaaWcov
import Derived.Deep.AppendLies
namespace Go.Proofs.Ytmnbdphfoonleaa
open Go.RowKit

theorem drop_nthV {vs : List Value} {k : Nat} (h : k < vs.length) : vs.drop k = nthV vs k :: vs.drop (k + 1) := by
  rw [List.drop_eq_getElem_cons h]; simp [nthV, h]
theorem nthV_ge {vs us : List Value} {k : Nat} (h : vs.length ≤ k) : nthV (vs ++ us) k = nthV us (k - vs.length) := by simp [nthV, List.getElem?_append, Nat.not_lt.2 h]
theorem nthL_ge {vs us : List (List Int)} {k : Nat} (h : vs.length ≤ k) : nthL (vs ++ us) k = nthL us (k - vs.length) := by simp [nthL, List.getElem?_append, Nat.not_lt.2 h]
theorem Els.append {B H B2 H2 : Nat} {w : World} {vs us : List Value} {L M : List (List Int)} (h : Els B H w vs L) (k : Els B2 H2 w us M) (h1 : B ≤ B2) (h2 : H ≤ B2) (h3 : B2 ≤ H2) : Els B H2 w (vs ++ us) (L ++ M) := by
  have hl := h.len
  have kl := k.len
  refine ⟨by simp [hl, kl], fun i hi => ?_, fun i j c hij hj hi => ?_⟩
  · rcases Nat.lt_or_ge i L.length with e | e
    · rw [nthV_append_lt (by omega), nthL_append_lt e]; exact (h.el i e).mono (Nat.le_refl _) (by omega)
    · rw [nthV_ge (by omega), nthL_ge e, hl]
      exact (k.el _ (by simp at hi; omega)).mono h1 (Nat.le_refl _)
  · have hj' : j < L.length + M.length := by simpa using hj
    rcases Nat.lt_or_ge j L.length with e | e
    · rw [nthV_append_lt (by omega)] at hi
      rw [nthV_append_lt (by omega)]; exact h.apart i j c hij e hi
    · rcases Nat.lt_or_ge i L.length with e2 | e2
      · rw [nthV_append_lt (by omega)] at hi
        rw [nthV_ge (by omega)]
        intro hc
        have a1 := (h.el i e2).own hi
        have a2 := (k.el _ (by omega)).own hc
        omega
      · rw [nthV_ge (by omega)] at hi
        rw [nthV_ge (by omega)]
        exact k.apart _ _ c (by omega) (by omega) hi
theorem Els.grown {B H : Nat} {w w' : World} {vs : List Value} {xss : List (List Int)} {k : Nat} {ys : List Int} {b' c' : Nat} (h : Els B H w vs xss) (hk : k < xss.length) (hH : H ≤ w.heap.size)
    (hu : Upd (fun j => (nthV vs k).ownBlock = some j) w w') (hr : Row 3 w' b' c' (vals ys)) (hB : B ≤ b') (hb : (nthV vs k).ownBlock = some b' ∨ H ≤ b') :
    Els B w'.heap.size w' (vs.set k (.slice (some ⟨b', 0, none⟩) ys.length c')) (xss.set k ys) := by
  have hl := h.len
  have hz := hu.size
  have hown : ∀ c, (Value.slice (some ⟨b', 0, none⟩) ys.length c').ownBlock = some c → c = b' := fun c hc => by simp [Value.ownBlock] at hc; exact hc.symm
  -- block b' is no other one's
  have far : ∀ i, i < xss.length → i ≠ k → (nthV vs i).ownBlock ≠ some b' := by
    intro i hi hne hc
    rcases hb with e | e
    · rcases Nat.lt_or_ge i k with h1 | h1
      · exact h.apart i k b' h1 hk hc e
      · exact h.apart k i b' (by omega) hi e hc
    · have := (h.el i hi).own hc; omega
  refine ⟨by simp [hl], fun i hi => ?_, fun i j c hij hj hi => ?_⟩
  · have hi' : i < xss.length := by simpa using hi
    by_cases e : k = i
    · subst e; rw [nthL_set_same ys hk, nthV_set_same _ (by omega)]; exact OI.row hr hB rfl
    · rw [nthL_set_other ys e, nthV_set_other _ e]
      refine ((h.el i hi').upd hu (fun b hbb _ _ hc => ?_)).mono (Nat.le_refl _) (by omega)
      rcases Nat.lt_or_ge i k with h1 | h1
      · exact h.apart i k b h1 hk hbb hc
      · exact h.apart k i b (by omega) hi' hc hbb
  · have hj' : j < xss.length := by simpa using hj
    by_cases e : k = i
    · subst e
      rw [nthV_set_same _ (by omega)] at hi
      rw [nthV_set_other _ (by omega), hown c hi]
      exact far j hj' (by omega)
    · rw [nthV_set_other _ e] at hi
      by_cases e2 : k = j
      · subst e2
        rw [nthV_set_same _ (by omega)]
        intro hc
        rw [hown c hc] at hi
        exact far i (by omega) (by omega) hi
      · rw [nthV_set_other _ e2]; exact h.apart i j c hij hj' hi
/-- the rows made so far, and the words that wait, each in a block of its own. -/
def OutW (B b2 c2 : Nat) (vw : List Value) (LW : List (List Int)) (j : Nat) (w : World) (b c : Nat) (D : List (List Int)) : Prop :=
  ∃ vs, Row 24 w b c vs ∧ vs.length = D.length ∧ Els B w.heap.size w (vs ++ vw.drop j) (D ++ LW.drop j) ∧ (∀ i, i < (D ++ LW.drop j).length → (nthV (vs ++ vw.drop j) i).ownBlock ≠ some b ∧ (nthV (vs ++ vw.drop j) i).ownBlock ≠ some b2) ∧ B ≤ b ∧ Row 24 w b2 c2 vw ∧ b ≠ b2
theorem OutW.start {B H b c : Nat} {w : World} {D : List (List Int)} {B2 H2 b2 c2 : Nat} {LW : List (List Int)} (h : RR B H w b c D) (k : RR B2 H2 w b2 c2 LW) (h1 : B ≤ B2) (h2 : H ≤ B2) (h3 : H2 ≤ w.heap.size) :
    ∃ vw, vw.length = LW.length ∧ OutW B b2 c2 vw LW 0 w b c D := by
  obtain ⟨vs, a1, a2, a3, a4, a5⟩ := h
  obtain ⟨vw, k1, k2, k3, k4, k5⟩ := k
  have al := a2.len
  have kl := k2.len
  refine ⟨vw, kl, vs, a1, al, (a2.append k2 h1 h2 (by omega)).mono (Nat.le_refl _) h3, fun i hi => ?_, a4, k1, by omega⟩
  rw [List.drop_zero] at hi ⊢
  have hi' : i < D.length + LW.length := by simpa using hi
  rcases Nat.lt_or_ge i D.length with e | e
  · rw [nthV_append_lt (by omega)]
    exact ⟨a3 i e, fun hc => by have := (a2.el i e).own hc; omega⟩
  · rw [nthV_ge (by omega)]
    exact ⟨fun hc => by have := (k2.el (i - vs.length) (by omega)).own hc; omega, k3 _ (by omega)⟩
theorem OutW.fin {B b2 c2 : Nat} {vw : List Value} {LW : List (List Int)} {w : World} {b c : Nat} {D : List (List Int)} (h : OutW B b2 c2 vw LW LW.length w b c D) (hl : vw.length = LW.length) : RR B w.heap.size w b c D := by
  obtain ⟨vs, h1, h2, h3, h4, h5, _⟩ := h
  have e1 : vw.drop LW.length = [] := List.drop_eq_nil_of_le (by omega)
  have e2 : LW.drop LW.length = [] := List.drop_eq_nil_of_le (by omega)
  rw [e1, e2, List.append_nil, List.append_nil] at h3 h4
  exact ⟨vs, h1, h3, fun i hi => (h4 i hi).1, h5, h1.lt⟩
theorem OutW.ext {B b2 c2 : Nat} {vw : List Value} {LW : List (List Int)} {j : Nat} {w w' : World} {b c : Nat} {D : List (List Int)} (h : OutW B b2 c2 vw LW j w b c D) (hu : Ext w w') : OutW B b2 c2 vw LW j w' b c D := by
  obtain ⟨vs, h1, h2, h3, h4, h5, h6, h7⟩ := h
  exact ⟨vs, h1.ext hu, h2, (h3.ext hu).mono (Nat.le_refl _) hu.size, h4, h5, h6.ext hu, h7⟩
/-- the word that comes next. -/
theorem OutW.next {B b2 c2 : Nat} {vw : List Value} {LW : List (List Int)} {j : Nat} {w : World} {b c : Nat} {D : List (List Int)} (h : OutW B b2 c2 vw LW j w b c D) (hl : vw.length = LW.length) (hj : j < LW.length) :
    w.cell? ⟨b2, j, none⟩ = some (nthV vw j) ∧ OI B w.heap.size w (nthV vw j) (nthL LW j) := by
  obtain ⟨vs, h1, h2, h3, h4, h5, h6, h7⟩ := h
  refine ⟨h6.cell (nthV_get (by omega)), ?_⟩
  have := h3.el D.length (by simp; omega)
  rwa [nthV_ge (by omega), nthL_ge (Nat.le_refl _), h2, Nat.sub_self, drop_nthV (by omega), drop_nthL hj] at this
/-- the word grown, and put behind the rows. -/
theorem OutW.step {B b2 c2 : Nat} {vw : List Value} {LW : List (List Int)} {j : Nat} {w w1 : World} {b c : Nat} {D : List (List Int)} (h : OutW B b2 c2 vw LW j w b c D) (hl : vw.length = LW.length) (hj : j < LW.length)
    {g cg : Nat} {ys : List Int} (hr : Row 3 w1 g cg (vals ys)) (hB : B ≤ g) (hg : (nthV vw j).ownBlock = some g ∨ w.heap.size ≤ g) (hu : Upd (fun k => (nthV vw j).ownBlock = some k) w w1) :
    ∃ vs, Row 24 w1 b c vs ∧ vs.length = D.length ∧ b ≠ b2 ∧ B ≤ b ∧ ∀ b' c' w3, Row 24 w3 b' c' (vs ++ [.slice (some ⟨g, 0, none⟩) ys.length cg]) → (b' = b ∨ w1.heap.size ≤ b') → Upd (· = b) w1 w3 → OutW B b2 c2 vw LW (j + 1) w3 b' c' (D ++ [ys]) := by
  obtain ⟨vs, h1, h2, h3, h4, h5, h6, h7⟩ := h
  have hz := hu.size
  have hbl := h1.lt
  have hb2l := h6.lt
  have hk : D.length < (D ++ LW.drop j).length := by simp; omega
  have hv : nthV (vs ++ vw.drop j) D.length = nthV vw j := by rw [nthV_ge (by omega), h2, Nat.sub_self, drop_nthV (by omega)]; rfl
  have hk4 := h4 _ hk
  rw [hv] at hk4
  have hgr := h3.grown hk (Nat.le_refl _) (by rw [hv]; exact hu) hr hB (by rw [hv]; exact hg)
  have e1 : (vs ++ vw.drop j).set D.length (.slice (some ⟨g, 0, none⟩) ys.length cg) = (vs ++ [.slice (some ⟨g, 0, none⟩) ys.length cg]) ++ vw.drop (j + 1) := by
    rw [drop_nthV (show j < vw.length by omega), ← h2, List.set_append_right _ _ (Nat.le_refl _), Nat.sub_self]; simp
  have e2 : (D ++ LW.drop j).set D.length ys = (D ++ [ys]) ++ LW.drop (j + 1) := by
    rw [drop_nthL hj, List.set_append_right _ _ (Nat.le_refl _), Nat.sub_self]; simp
  rw [e1, e2] at hgr
  have hgb : g ≠ b ∧ g ≠ b2 := by
    rcases hg with e | e
    · exact ⟨fun e2 => hk4.1 (by rw [e, e2]), fun e2 => hk4.2 (by rw [e, e2])⟩
    · omega
  -- who owns what in the new list
  have key : ∀ i, i < ((D ++ [ys]) ++ LW.drop (j + 1)).length → (nthV ((vs ++ [.slice (some ⟨g, 0, none⟩) ys.length cg]) ++ vw.drop (j + 1)) i).ownBlock ≠ some b ∧ (nthV ((vs ++ [.slice (some ⟨g, 0, none⟩) ys.length cg]) ++ vw.drop (j + 1)) i).ownBlock ≠ some b2 := by
    intro i hi
    rw [← e1]
    have hi2 : i < (D ++ LW.drop j).length := by simp at hi ⊢; omega
    by_cases e : D.length = i
    · subst e
      rw [nthV_set_same _ (by rw [h3.len]; exact hk)]
      simp [Value.ownBlock]; exact hgb
    · rw [nthV_set_other _ e]; exact h4 i hi2
  refine ⟨vs, h1.upd hu (fun e => hk4.1 e), h2, h7, h5, fun b' c' w3 hr3 hb3 hu3 => ?_⟩
  have hz3 := hu3.size
  refine ⟨_, hr3, by simp [h2], (hgr.upd hu3 (fun i k hi hk e => ?_)).mono (Nat.le_refl _) hz3, fun i hi => ?_, by rcases hb3 with e | e <;> omega, (h6.upd hu (fun e => hk4.2 e)).upd hu3 (fun e => h7 e.symm), by rcases hb3 with e | e <;> omega⟩
  · subst e; exact (key i hi).1 hk
  · refine ⟨fun hc => ?_, (key i hi).2⟩
    rcases hb3 with e | e
    · rw [e] at hc; exact (key i hi).1 hc
    · have := (hgr.el i hi).own hc; omega
/-! ### lengths -/
theorem rwTo_le {p : List Int} {k m : Nat} (h : k ≤ m) : (rwTo p k).length ≤ (rwTo p m).length := by
  obtain ⟨d, rfl⟩ : ∃ d, m = k + d := ⟨m - k, by omega⟩
  induction d with
  | zero => exact Nat.le_refl _
  | succ d ih =>
    have : k + (d + 1) = (k + d) + 1 := by omega
    rw [this, rwTo_succ, List.length_append]
    have := ih (by omega); omega
theorem rwOne_t {p : List Int} {i : Nat} (h : nth p (i + 1) < nth p i) : rwOne p i = (rwL (nsw p i)).map (· ++ [(i : Int) + 1]) := by unfold rwOne; rw [decide_eq_true h]; rfl
theorem rwOne_f {p : List Int} {i : Nat} (h : ¬ nth p (i + 1) < nth p i) : rwOne p i = [] := by unfold rwOne; rw [decide_eq_false h]; rfl
def rwD (p : List Int) (k j : Nat) : List (List Int) := rwTo p k ++ ((rwL (nsw p k)).take j).map (· ++ [(k : Int) + 1])
theorem rwD_zero (p : List Int) (k : Nat) : rwD p k 0 = rwTo p k := by simp [rwD]
theorem rwD_succ {p : List Int} {k j : Nat} (h : j < (rwL (nsw p k)).length) : rwD p k (j + 1) = rwD p k j ++ [nthL (rwL (nsw p k)) j ++ [(k : Int) + 1]] := by
  unfold rwD; rw [take_nthL h, List.map_append, List.append_assoc]; rfl
theorem rwD_end {p : List Int} {k : Nat} (h : nth p (k + 1) < nth p k) : rwD p k (rwL (nsw p k)).length = rwTo p (k + 1) := by
  unfold rwD; rw [take_all (Nat.le_refl _), rwTo_succ, rwOne_t h]
theorem rwD_len {p : List Int} {k j : Nat} (h : nth p (k + 1) < nth p k) (hk : k + 1 < p.length) (hs : srtB p = false) : (rwD p k j).length ≤ (rwL p).length := by
  have h1 := rwTo_le (p := p) (show k + 1 ≤ p.length - 1 by omega)
  rw [rwL_step hs]
  rw [rwTo_succ, rwOne_t h, List.length_append] at h1
  unfold rwD
  simp at h1 ⊢
  omega
theorem rw_len {p : List Int} (hp : IsP p) (h5 : p.length ≤ 5) (h7 : inv p ≤ 7) : (rwL p).length ≤ 78125 := by
  have h1 := rwL_len hp
  have h2 : p.length ^ inv p ≤ 5 ^ inv p := Nat.pow_le_pow_left h5 _
  have h3 : 5 ^ inv p ≤ 5 ^ 7 := Nat.pow_le_pow_right (by omega) h7
  omega
/-- 'append(v, y)', v a slice of ints of its own, nil too: with where it lies. -/
theorem wpl_app1OB {w : World} {ops : Array Oper} {rest : List Oper} {o : Oper} {a : Act} {Q : Exit → Act → World → Prop} (hgd : o.guard = none) (s x : Operand)
    (ho : o.op = .call { callee := .builtin .append, args := #[s, x], argTypes := #[24, 24] })
    (B : Nat) (v : Value) (xs : List Int) (y : Int) (hs : a.eval s = v) (hr : OI B w.heap.size w v xs) (hB : B ≤ w.heap.size)
    (m : Nat) (hx : a.eval x = .slice (some ⟨m, 0, none⟩) 1 1) (hm : m = w.heap.size) (hb : xs.length ≤ 1000000000)
    (h : ∀ b' cap' w', Row 3 w' b' cap' (vals (xs ++ [y])) → B ≤ b' → (v.ownBlock = some b' ∨ w.heap.size ≤ b') → Upd (fun k => v.ownBlock = some k) w w' → wpList Try.prog ops Q rest (a.put o.dst (.slice (some ⟨b', 0, none⟩) (xs.length + 1) cap')) w') :
    wpList Try.prog ops Q (o :: rest) a (w.alloc (.cells #[.int .i64 y] 3)) := by
  subst hm
  obtain ⟨i, hi, hz, hs1, hby⟩ := info_int
  have hr2 : OI B w.heap.size (w.alloc (.cells #[.int .i64 y] 3)) v xs := hr.ext (Upd.alloc _ _ _)
  refine wpList_append_lies _ hgd s x 24 ho B 3 i (.int .i64 0) 1 8 Try.underlying24 hi hz hs1 hby rfl (by decide) v xs.length (vals xs) hs hr2.owns ⟨w.heap.size, 0, none⟩ 1 1 [.int .i64 y] hx rfl ?_ ?_ (by decide) ?_ ?_ (by simp; omega) _ rfl ?_
  · intro j u hj
    cases j with
    | zero => simp at hj; subst hj; exact World.cell?_alloc_at _ _ _ _ rfl
    | succ j => simp at hj
  · intro u hu; simp at hu; subst hu; rfl
  · unfold maxLen; omega
  · omega
  · intro g cap w' h1 h2 h3 h4
    obtain ⟨r1, _, r3⟩ := Row.of_owns h1
    have hv : vals xs ++ [.int .i64 y] = vals (xs ++ [y]) := by simp [vals]
    rw [hv] at r1
    have hu : Upd (fun k => v.ownBlock = some k) (w.alloc (.cells #[.int .i64 y] 3)) w' := ⟨h2.os, h2.tape, h2.output, h2.size, fun k hk hn => h2.block k hk (fun e => hn e.symm)⟩
    exact h g cap w' r1 r3 (h3.imp id (fun e => by simp at e; omega)) ((Upd.alloc w _ _).trans hu)
set_option maxHeartbeats 8000000 in
set_option maxRecDepth 30000 in
theorem reducedWords_ok : ∀ (d : Nat) (v : Value) (p : List Int) (w : World), IsP p → p.length ≤ 5 → inv p = d → d ≤ 7 → SI w v p →
    Calls Try.prog 74 #[v] w fun e w' => ∃ b c, e = .returned (.slice (some ⟨b, 0, none⟩) (rwL p).length c) ∧ RR w.heap.size w'.heap.size w' b c (rwL p) ∧ Ext w w' := by
  intro d
  induction d with
  | zero =>
    intro v p w hp h5 hd h7 h
    have HS : Hid (srtB p = true) := srtB_true (inv_zero_srt hd)
    have HW := Lib.hid (rwL_srt HS.out)
    obtain ⟨a, cap, rfl, -⟩ := h.elim
    go_enter Try.func74, Try.ntmps74
    go_wp2_with (go_at_call 105; refine (isRising_ok _ p _ h (by omega)).mono ?_; rintro e w1 ⟨rfl, q1⟩; rw [HS.out])
    have hr0 : OI w.heap.size (w1.alloc (.cells #[] 3)).heap.size (w1.alloc (.cells #[] 3)) (.slice (some ⟨w1.heap.size, 0, none⟩) 0 0) [] := OI.row (Row.new 3 w1 [] (by simp)) q1.ext.size rfl
    have hrr := Lib.hid ((RR.single w.heap.size hr0 (by have := q1.ext.size; simp; omega)).mono (show _ ≤ ((w1.alloc (.cells #[] 3)).alloc (.cells #[.slice (some ⟨w1.heap.size, 0, none⟩) 0 0] 24)).heap.size by simp))
    have hE := Lib.hid ((q1.ext.trans (Upd.alloc w1 (.cells #[] 3) _)).trans (Upd.alloc _ (.cells #[.slice (some ⟨w1.heap.size, 0, none⟩) 0 0] 24) _))
    clear hr0
    go_ret
    exact ⟨_, _, by rw [HW.out]; rfl, by rw [HW.out]; simpa using hrr.out, hE.out⟩
  | succ d ih =>
    intro v p w hp h5 hd h7 h
    have hns : srtB p = false := by
      rw [Bool.eq_false_iff]; intro hh
      have := inv_srt (srt_pairwise (srtB_iff.1 hh)); omega
    have HS := Lib.hid hns
    have HW := Lib.hid (rwL_step hns)
    have HP := Lib.hid hp
    have hrl := rw_len hp h5 (by omega)
    have HD := Lib.hid hd
    have h00 := h
    obtain ⟨a, cap, rfl, hri⟩ := h00.elim
    clear hns hp h00 hd
    go_enter Try.func74, Try.ntmps74
    go_wp2_with (go_at_call 105; refine (isRising_ok _ p _ h (by omega)).mono ?_; rintro e w1 ⟨rfl, q1⟩; rw [HS.out])
    have hr0 := Lib.hid (((RR.new w1).monoB q1.ext.size).mono (show w1.heap.size + 1 ≤ (w1.alloc (.cells #[] 24)).heap.size by simp))
    have hex0 := Lib.hid (Ext.alloc q1.ext (.cells #[] 24))
    go_loopw [3, 4, 5] (fun o i _ wr => ∃ k : Nat, k ≤ p.length - 1 ∧ i = .int .i64 ((k : Int) + 1) ∧ (∃ b c m, o = .slice (some ⟨b, 0, none⟩) m c ∧ Hid (m = (rwTo p k).length) ∧ Hid (RR w.heap.size wr.heap.size wr b c (rwTo p k))) ∧ Hid (Ext w wr)) (fun _ i _ _ => p.length + 1 - (intOf i).toNat)
    case atStart => exact ⟨0, Nat.zero_le _, rfl, ⟨_, 0, 0, rfl, Lib.hid rfl, hr0⟩, hex0⟩
    case round =>
      obtain ⟨k, hk, rfl, ⟨b, c, m, rfl, hm, hr⟩, he⟩ := hrel
      clear hr0 hex0 q1
      by_cases hlt : k + 1 < p.length
      · obtain ⟨b1, off1, rfl, hc⟩ := (hri.ext he.out).get hlt
        have c0 := hc k (by omega)
        have c1 := hc (k + 1) hlt
        have hki : (k : Int) + 1 < (p.length : Int) := by omega
        have w1 : IntKind.i64.wrap ((k : Int) + 1 - 1) = (k : Int) := by rw [IntWalk.i64_in _ (by omega)]; omega
        have w2 : 0 ≤ (k : Int) + 1 := by omega
        have w3 : ((k : Int) + 1).toNat = k + 1 := by omega
        have w4 : (k : Int) < (p.length : Int) := by omega
        have w6 : (k : Int) + 1 - 1 = (k : Int) := by omega
        have hs := Lib.hid (h.ext he.out)
        clear hc hri
        by_cases hup : nth p (k + 1) < nth p k
        · have hnv := nsw_inv hlt hup
          have hnp := nsw_isP HP.out hlt
          have hnl := nsw_len p k
          have hrll := rw_len hnp (by omega) (by have := HD.out; omega)
          have HDL : Hid (∀ j, (rwD p k j).length ≤ 78125) := fun j => Nat.le_trans (rwD_len hup hlt HS.out) hrl
          have HNP := Lib.hid hnp
          have HNV : Hid (inv (nsw p k) = d) := by show _ = _; have := HD.out; omega
          have HEND := Lib.hid (rwD_end hup)
          clear hnv hnp hrl
          go_wp2_with fail
          go_quiet (fail)
          clear w1 w3 w6 c0 c1
          go_wp2_with fail
          refine (slicesClone_ok _ p _ (hs.out.ext (Upd.drewN _ _ _)) (by omega)).mono ?_
          rintro e w5 ⟨v5, rfl, ho5, he5⟩
          rcases ho5 with ⟨rfl, hx⟩ | ⟨b5, c5, rfl, hb5, hb5z, hr5⟩
          · rw [hx] at hlt; simp at hlt
          simp at hb5
          have hz5 := he5.size
          simp at hz5
          have d0 := hr5.icell (j := k) (by omega)
          have d1 := hr5.icell (j := k + 1) hlt
          have f0 := hr5.free k none
          have f1 := hr5.free (k + 1) none
          have hset := fun m => ((hr5.ext (Upd.drewN w5 m _)).set k (.int .i64 (nth p (k + 1)))).set (k + 1) (.int .i64 (nth p k))
          simp only [vals_set] at hset
          have HST := Lib.hid hset
          have hU := Lib.hid (fun m => ((Upd.drewN w5 m (· = b5)).trans (Upd.setCell _ ⟨b5, k, none⟩ (.int .i64 (nth p (k + 1))))).trans (Upd.setCell _ ⟨b5, k + 1, none⟩ (.int .i64 (nth p k))))
          have hR5 := Lib.hid ((hr.out.ext (show Ext wr (wr.drewN nq) from Upd.drewN _ _ _)).ext he5)
          have hE5 := Lib.hid ((he.out.drewN nq).trans he5)
          have hwz := he.out.size
          have hcl := hr5.le
          simp at hcl
          have w1 : IntKind.i64.wrap ((k : Int) + 1 - 1) = (k : Int) := by rw [IntWalk.i64_in _ (by omega)]; omega
          have w3 : ((k : Int) + 1).toNat = k + 1 := by omega
          have w6 : (k : Int) + 1 - 1 = (k : Int) := by omega
          clear hr5 hset hr he hs
          go_wp2_with fail
          go_region
          have hRw : Hid (Row 3 _ b5 c5 (vals (nsw p k))) := (HST.out 0).ext (Upd.drew _ _)
          have hUw := Lib.hid ((hU.out 0).trans (Upd.drew _ _))
          have hsq := hRw.out.si
          rw [hnl] at hsq
          have HSQ := Lib.hid hsq
          have hRq := Lib.hid (hR5.out.upd hUw.out (fun i h1 h2 e => by omega))
          have hEq := Lib.hid (hE5.out.upd1 hUw.out (by omega))
          have hUz := hUw.out.size
          clear hsq d0 d1 f0 f1 w1 w3 w6 HST hU hR5 hE5
          go_wp2_with fail
          refine (ih _ (nsw p k) _ HNP.out (by omega) HNV.out (by omega) HSQ.out).mono ?_
          rintro e w7 ⟨b7, c7, rfl, hr7, he7⟩
          have hz7 := he7.size
          have hR7 := hRq.out.ext he7
          obtain ⟨LW, hLW⟩ : ∃ LW, LW = rwL (nsw p k) := ⟨_, rfl⟩
          have HLW := Lib.hid hLW
          rw [← hLW] at hr7 hrll ⊢
          obtain ⟨vw, hvl, hout⟩ := OutW.start hR7 hr7 (by omega) (by omega) (Nat.le_refl _)
          have HVL := Lib.hid hvl
          have hE7 := Lib.hid (hEq.out.trans he7)
          have HO7 : Hid (OutW w.heap.size b7 c7 vw LW 0 w7 b c (rwD p k 0)) := by rw [rwD_zero]; exact hout
          have HM7 : Hid (m = (rwD p k 0).length) := by rw [rwD_zero]; exact hm
          clear hR7 hr7 hout hLW hRq hEq hRw hUw HSQ hvl hm
          go_wp2_with fail
          obtain ⟨wp, hwp⟩ : ∃ wp, wp = w7 := ⟨_, rfl⟩
          subst hwp
          go_loopw [3, 7, 50] (fun o _ i wr => ∃ j : Nat, j ≤ LW.length ∧ i = .int .i64 j ∧ (∃ b c m, o = .slice (some ⟨b, 0, none⟩) m c ∧ Hid (m = (rwD p k j).length) ∧ Hid (OutW w.heap.size b7 c7 vw LW j wr b c (rwD p k j))) ∧ Hid (Ext w wr)) (fun _ _ i _ => LW.length - (intOf i).toNat)
          case atStart => exact ⟨0, Nat.zero_le _, rfl, ⟨b, c, m, rfl, HM7, HO7⟩, hE7⟩
          case round =>
            obtain ⟨j, hj, rfl, ⟨b, c, m, rfl, hm, hout⟩, he⟩ := hrel
            clear HM7 HO7 hE7
            by_cases hjl : j < LW.length
            · obtain ⟨hcw, how⟩ := hout.out.next HVL.out hjl
              have HOW := Lib.hid how
              obtain ⟨pu, cu, hnv⟩ := how.shape
              rw [hnv] at hcw
              have HNU := Lib.hid hnv
              have hwl : (nthL LW j).length ≤ 7 := by
                have := rwL_wlen HNP.out (w := nthL LW j) (by rw [← HLW.out]; exact nthL_mem hjl)
                have := HNV.out; omega
              have hdl := HDL.out j
              have hwz9 := he.out.size
              have HSU := Lib.hid (rwD_succ (p := p) (k := k) (j := j) (by rw [← HLW.out]; exact hjl))
              rw [← HLW.out] at HSU
              clear how hnv
              go_wp2_with (first | (at_builtin; go_loud (refine wpl_app1OB rfl (.tmp 55) (.tmp 57) rfl w.heap.size (.slice pu (nthL LW j).length cu) (nthL LW j) ((k : Int) + 1) rfl (by rw [← HNU.out]; exact HOW.out) hwz9 _ rfl (by simp) (by omega) ?_); intro g8 c8 w8 hr8 hg8 hg8' hu8; rw [← HNU.out] at hg8' hu8; obtain ⟨vs8, hv8, hvl8, hb8, hB8, hst8⟩ := hout.out.step HVL.out hjl hr8 hg8 hg8' hu8; have hl8 : Hid ((nthL LW j).length + 1 = (nthL LW j ++ [(k : Int) + 1]).length) := (by show _ = _; simp); have HV8 := Lib.hid hv8; have HST8 := Lib.hid hst8; have HM8 : Hid (m = vs8.length) := (by show _ = _; rw [hvl8]; exact hm.out); have hvs9 : vs8.length ≤ 1000000 := (by omega); have HE8 := Lib.hid (he.out.upd hu8 (fun i e => (HOW.out.own e).1)); clear hv8 hst8 hr8 hu8 hvl8) | (at_builtin; go_loud (refine wpl_appv rfl (.tmp 54) (.tmp 59) rfl b c m vs8 (some ⟨g8, 0, none⟩) _ c8 rfl HV8.out HM8.out rfl (by omega) ?_); intro b9 c9 w9 hr9 hb9 hu9))
              rw [hl8.out] at hr9
              have hO9 := HST8.out b9 c9 w9 hr9 (hb9.imp id (fun e => by omega)) hu9
              rw [← HSU.out] at hO9
              have HO9 := Lib.hid hO9
              have HE9 := Lib.hid (HE8.out.upd1 hu9 hB8)
              have HM9 : Hid (m + 1 = (rwD p k (j + 1)).length) := by show _ = _; rw [HSU.out, List.length_append, ← hm.out]; rfl
              clear hr9 hO9 hu9 hb9
              go_roundw
              case rel => exact ⟨j + 1, by omega, by go_num, ⟨b9, c9, m + 1, rfl, HM9, HO9⟩, HE9⟩
              case measure => simp [intOf]; omega
            · obtain rfl : j = LW.length := by omega
              have hRf := Lib.hid (hout.out.fin HVL.out)
              rw [HLW.out, HEND.out] at hRf hm
              clear hout
              go_wp2_with fail
              go_roundw
              case rel => exact ⟨k + 1, by omega, by go_num, ⟨b, c, m, rfl, hm, hRf⟩, he⟩
              case measure => simp [intOf]; omega
        · have HT : Hid (rwTo p (k + 1) = rwTo p k) := by show _ = _; rw [rwTo_succ, rwOne_f hup, List.append_nil]
          go_wp2_with fail
          go_quiet (fail)
          clear w1 w3 w6 c0 c1
          go_wp2_with fail
          go_roundw
          case rel => exact ⟨k + 1, by omega, by go_num, ⟨b, c, m, rfl, by rw [HT.out]; exact hm, by rw [HT.out]; exact (hr.out.ext (Upd.drewN _ _ _)).mono (by simp)⟩, he.out.drewN _⟩
          case measure => simp [intOf]; omega
      · have hki : ¬ (k : Int) + 1 < (p.length : Int) := by omega
        have HF : Hid (rwL p = rwTo p k) := by show _ = _; rw [HW.out, show p.length - 1 = k by omega]
        go_wp2_with fail
        go_ret
        exact ⟨b, c, by rw [HF.out, ← hm.out]; rfl, by rw [HF.out]; exact hr.out, he.out⟩
end Go.Proofs.Ytmnbdphfoonleaa
