/- A list of rows, of which some may be shared: appended to. Conditions: small lengths. -/
import Derived.Test.YtcifngcmdiokpaaSkw
import Derived.Test.YtcifngcmdiokpaaCopy
namespace Go.Proofs.Ytcifngcmdiokpaa
open Go.RowKit

def GR (B : Nat) (w : World) (b cap : Nat) (xss : List (List Int)) : Prop :=
  ∃ vs, Row 22 w b cap vs ∧ vs.length = xss.length ∧ B ≤ b ∧ ∀ i, i < xss.length → OI B w.heap.size w (nthV vs i) (nthL xss i) ∧ (nthV vs i).ownBlock ≠ some b
theorem GR.lt {B : Nat} {w : World} {b cap : Nat} {xss : List (List Int)} (h : GR B w b cap xss) : b < w.heap.size := by obtain ⟨vs, h1, _⟩ := h; exact h1.lt
theorem GR.lo {B : Nat} {w : World} {b cap : Nat} {xss : List (List Int)} (h : GR B w b cap xss) : B ≤ b := by obtain ⟨vs, _, _, h1, _⟩ := h; exact h1
theorem GR.upd {B : Nat} {D : Nat → Prop} {w w' : World} {b cap : Nat} {xss : List (List Int)} (h : GR B w b cap xss) (hu : Upd D w w') (hD : ∀ k, B ≤ k → ¬ D k) : GR B w' b cap xss := by
  obtain ⟨vs, h1, h2, h3, h4⟩ := h
  exact ⟨vs, h1.upd hu (hD b h3), h2, h3, fun i hi => ⟨((h4 i hi).1.upd hu (fun k _ hB _ => hD k hB)).mono (Nat.le_refl _) hu.size, (h4 i hi).2⟩⟩
theorem GR.ext {B : Nat} {w w' : World} {b cap : Nat} {xss : List (List Int)} (h : GR B w b cap xss) (hu : Ext w w') : GR B w' b cap xss := h.upd hu (fun _ _ => id)
theorem GR.mono {B B' : Nat} {w : World} {b cap : Nat} {xss : List (List Int)} (h : GR B w b cap xss) (hB : B' ≤ B) : GR B' w b cap xss := by
  obtain ⟨vs, h1, h2, h3, h4⟩ := h
  exact ⟨vs, h1, h2, by omega, fun i hi => ⟨(h4 i hi).1.mono hB (Nat.le_refl _), (h4 i hi).2⟩⟩
theorem GR.get {B : Nat} {w : World} {b cap : Nat} {xss : List (List Int)} (h : GR B w b cap xss) {k : Nat} (hk : k < xss.length) :
    ∃ u, w.cell? ⟨b, k, none⟩ = some u ∧ OI B w.heap.size w u (nthL xss k) ∧ u.ownBlock ≠ some b := by
  obtain ⟨vs, h1, h2, h3, h4⟩ := h
  exact ⟨nthV vs k, h1.cell (nthV_get (by omega)), h4 k hk⟩
theorem GR.sii {B : Nat} {w : World} {b cap n : Nat} {xss : List (List Int)} (h : GR B w b cap xss) (hn : n = xss.length) : SII w (.slice (some ⟨b, 0, none⟩) n cap) xss := by
  subst hn
  obtain ⟨vs, h1, h2, h3, h4⟩ := h
  exact ⟨_, cap, rfl, by have := h1.le; omega, h1.mx, by simp, .inr ⟨b, 0, rfl, fun i hi => ⟨nthV vs i, by rw [Nat.zero_add]; exact h1.cell (nthV_get (by omega)), (h4 i hi).1.si⟩⟩⟩
theorem GR.le {B : Nat} {w : World} {b cap : Nat} {xss : List (List Int)} (h : GR B w b cap xss) : xss.length ≤ cap ∧ cap ≤ maxLen := by
  obtain ⟨vs, h1, h2, _⟩ := h
  exact ⟨by have := h1.le; omega, h1.mx⟩
theorem nthL_take {xss : List (List Int)} {k i : Nat} (h : i < k) : nthL (xss.take k) i = nthL xss i := by simp [nthL, h]
theorem nthL_drop (xss : List (List Int)) (k i : Nat) : nthL (xss.drop k) i = nthL xss (k + i) := by simp [nthL, List.getElem?_drop]
theorem GR.take {B : Nat} {w : World} {b cap : Nat} {xss : List (List Int)} (h : GR B w b cap xss) {k : Nat} (hk : k ≤ xss.length) : SII w (.slice (some ⟨b, 0, none⟩) k cap) (xss.take k) := by
  have hl : (xss.take k).length = k := by rw [List.length_take]; omega
  have hle := h.le
  refine ⟨_, cap, by rw [hl], by omega, hle.2, by simp, .inr ⟨b, 0, rfl, fun i hi => ?_⟩⟩
  rw [hl] at hi
  obtain ⟨u, h1, h2, _⟩ := h.get (k := i) (by omega)
  exact ⟨u, by rw [Nat.zero_add]; exact h1, by rw [nthL_take hi]; exact h2.si⟩
def GI (B : Nat) (w : World) (v : Value) (xss : List (List Int)) : Prop :=
  (v = .slice none 0 0 ∧ xss = []) ∨ ∃ b cap, v = .slice (some ⟨b, 0, none⟩) xss.length cap ∧ GR B w b cap xss
theorem GI.upd {B : Nat} {D : Nat → Prop} {w w' : World} {v : Value} {xss : List (List Int)} (h : GI B w v xss) (hu : Upd D w w') (hD : ∀ k, B ≤ k → ¬ D k) : GI B w' v xss := by
  rcases h with h | ⟨b, cap, h1, h2⟩
  · exact .inl h
  · exact .inr ⟨b, cap, h1, h2.upd hu hD⟩
theorem GI.ext {B : Nat} {w w' : World} {v : Value} {xss : List (List Int)} (h : GI B w v xss) (hu : Ext w w') : GI B w' v xss := h.upd hu (fun _ _ => id)
theorem GI.mono {B B' : Nat} {w : World} {v : Value} {xss : List (List Int)} (h : GI B w v xss) (hB : B' ≤ B) : GI B' w v xss := by
  rcases h with h | ⟨b, cap, h1, h2⟩
  · exact .inl h
  · exact .inr ⟨b, cap, h1, h2.mono hB⟩
theorem GI.sii {B : Nat} {w : World} {v : Value} {xss : List (List Int)} (h : GI B w v xss) : SII w v xss := by
  rcases h with ⟨rfl, rfl⟩ | ⟨b, cap, rfl, h2⟩
  · exact SII.nil w
  · exact h2.sii rfl
theorem GR.gi {B : Nat} {w : World} {b cap n : Nat} {xss : List (List Int)} (h : GR B w b cap xss) (hn : n = xss.length) : GI B w (.slice (some ⟨b, 0, none⟩) n cap) xss := by
  subst hn; exact .inr ⟨b, cap, rfl, h⟩
theorem GI.own {B : Nat} {w : World} {v : Value} {xss : List (List Int)} (h : GI B w v xss) {k : Nat} (hk : v.ownBlock = some k) : B ≤ k ∧ k < w.heap.size := by
  rcases h with ⟨rfl, _⟩ | ⟨b, cap, rfl, h2⟩
  · simp [Value.ownBlock] at hk
  · simp [Value.ownBlock] at hk; subst hk; exact ⟨h2.lo, h2.lt⟩
theorem OII.gi {B H : Nat} {w : World} {v : Value} {xss : List (List Int)} (h : OII B H w v xss) (hH : H ≤ w.heap.size) : GI B w v xss := by
  rcases h with h | ⟨b, cap, vs, h1, h2, h3, h4, h5, h6⟩
  · exact .inl h
  · exact .inr ⟨b, cap, h1, vs, h4, h5.len, h2, fun i hi => ⟨(h5.el i hi).mono (Nat.le_refl _) hH, h6 i hi⟩⟩
theorem GR.new (B : Nat) (w : World) (hB : B ≤ w.heap.size) : GR B (w.alloc (.cells #[] 22)) w.heap.size 0 [] :=
  ⟨[], Row.new 22 w [] (by simp), rfl, hB, fun i hi => by simp at hi⟩
/-- a row after an append: the elements lie as they lay. -/
theorem GR.grown {B : Nat} {w w' : World} {b b' cap' : Nat} {xss yss : List (List Int)} {vs us : List Value} (h2 : vs.length = xss.length) (h3 : B ≤ b) (h4 : ∀ i, i < xss.length → OI B w.heap.size w (nthV vs i) (nthL xss i) ∧ (nthV vs i).ownBlock ≠ some b)
    (hu1 : us.length = yss.length) (hu2 : ∀ i, i < yss.length → OI B w.heap.size w (nthV us i) (nthL yss i) ∧ (nthV us i).ownBlock ≠ some b)
    (r1 : Row 22 w' b' cap' (vs ++ us)) (r2 : b' = b ∨ w.heap.size ≤ b') (r3 : Upd (· = b) w w') (hBw : B ≤ w.heap.size) : GR B w' b' cap' (xss ++ yss) := by
  have key : ∀ (u : Value) (ys : List Int), OI B w.heap.size w u ys → u.ownBlock ≠ some b → OI B w'.heap.size w' u ys ∧ u.ownBlock ≠ some b' := fun u ys h hb => by
    refine ⟨(h.upd r3 (fun k hk _ _ e => hb (by rw [hk, e]))).mono (Nat.le_refl _) r3.size, fun e => ?_⟩
    rcases r2 with r2 | r2
    · subst r2; exact hb e
    · have := (h.own e).2; omega
  refine ⟨vs ++ us, r1, by simp [h2, hu1], by rcases r2 with r2 | r2 <;> omega, fun i hi => ?_⟩
  rcases Nat.lt_or_ge i xss.length with e | e
  · rw [nthV_append_lt (by omega), nthL_append_lt e]; exact key _ _ (h4 i e).1 (h4 i e).2
  · have hi' : i - xss.length < yss.length := by rw [List.length_append] at hi; omega
    have e1 : nthV (vs ++ us) i = nthV us (i - xss.length) := by simp [nthV, List.getElem?_append, h2, Nat.not_lt.2 e]
    have e2 : nthL (xss ++ yss) i = nthL yss (i - xss.length) := by simp [nthL, List.getElem?_append, Nat.not_lt.2 e]
    rw [e1, e2]; exact key _ _ (hu2 _ hi').1 (hu2 _ hi').2
theorem run_appGR {w : World} (ty : TypeId) {B b cap : Nat} {xss yss : List (List Int)} (hr : GR B w b cap xss) (us : List Value) (hu1 : us.length = yss.length) (hu2 : ∀ i, i < yss.length → OI B w.heap.size w (nthV us i) (nthL yss i) ∧ (nthV us i).ownBlock ≠ some b)
    (ad : Addr) (c : Nat) (hc : ∀ j u, us[j]? = some u → w.cell? (ad.add j) = some u) (h1 : ∀ u ∈ us, u.oneCell' = true) (hBw : B ≤ w.heap.size) (hb : xss.length ≤ 1000000000) (hb2 : yss.length ≤ 1000000000) :
    ∃ b' cap' w', (Builtin.append_ #[35, 35] ty #[.slice (some ⟨b, 0, none⟩) xss.length cap, .slice (some ad) yss.length c]).run Try.prog w = .ok (.slice (some ⟨b', 0, none⟩) (xss.length + yss.length) cap') w' ∧
      GR B w' b' cap' (xss ++ yss) ∧ (b' = b ∨ w.heap.size ≤ b') ∧ Upd (· = b) w w' := by
  obtain ⟨vs, r1, r2, r3, r4⟩ := hr
  obtain ⟨i, hi, hz, hs1, hby⟩ := info_ints
  obtain ⟨b', cap', w', h, g1, g2, g3⟩ := run_append_row (P := Try.prog) w 35 ty 22 i (.slice none 0 0) Try.underlying35 hi hz hs1 rfl b cap vs r1 ad yss.length c us hu1 hc h1 (by rw [hby]; omega) (by unfold maxLen; omega)
  rw [r2] at h
  exact ⟨b', cap', w', h, GR.grown r2 r3 r4 hu1 hu2 g1 g2 g3 hBw, g2, g3⟩
/-- 'append(l, ad[0:m]...)' of rows, l a row of its own. -/
theorem wpl_appGR {w : World} {ops : Array Oper} {rest : List Oper} {o : Oper} {a : Act} {Q : Exit → Act → World → Prop} (hgd : o.guard = none) (s x : Operand)
    (ho : o.op = .call { callee := .builtin .append, args := #[s, x], argTypes := #[35, 35] })
    (B b cap n m c : Nat) (xss yss : List (List Int)) (us : List Value) (ad : Addr) (hs : a.eval s = .slice (some ⟨b, 0, none⟩) n cap) (hn : n = xss.length) (hr : GR B w b cap xss)
    (hx : a.eval x = .slice (some ad) m c) (hm : m = yss.length) (hu1 : us.length = yss.length) (hu2 : ∀ i, i < yss.length → OI B w.heap.size w (nthV us i) (nthL yss i) ∧ (nthV us i).ownBlock ≠ some b)
    (hc : ∀ j u, us[j]? = some u → w.cell? (ad.add j) = some u) (h1 : ∀ u ∈ us, u.oneCell' = true) (hBw : B ≤ w.heap.size) (hb : xss.length ≤ 1000000000) (hb2 : yss.length ≤ 1000000000)
    (h : ∀ b' cap' w', GR B w' b' cap' (xss ++ yss) → Upd (· = b) w w' → wpList Try.prog ops Q rest (a.put o.dst (.slice (some ⟨b', 0, none⟩) (n + m) cap')) w') :
    wpList Try.prog ops Q (o :: rest) a w := by
  subst hn hm
  obtain ⟨b', cap', w', hrun, h2, h3, h4⟩ := run_appGR o.type hr us hu1 hu2 ad c hc h1 hBw hb hb2
  refine wpList_plain hgd fun K hK => ?_
  unfold Oper.wp execOp
  simp only [ho, resolve, invoke, builtin, Sem.run_bind, Sem.run_pure, Result.andThen_ok, List.map_toArray, List.map_cons, List.map_nil, hs, hx, hrun]
  exact hK _ _ (h b' cap' w' h2 h4)
theorem step_appGR {w : World} {ops : Array Oper} {o : Oper} {a : Act} {K : Act → World → Prop} {Q : Exit → Act → World → Prop} {E : Prop} (hgd : o.guard = none) (s x : Operand)
    (ho : o.op = .call { callee := .builtin .append, args := #[s, x], argTypes := #[35, 35] })
    (B b cap n m c : Nat) (xss yss : List (List Int)) (us : List Value) (ad : Addr) (hs : a.eval s = .slice (some ⟨b, 0, none⟩) n cap) (hn : n = xss.length) (hr : GR B w b cap xss)
    (hx : a.eval x = .slice (some ad) m c) (hm : m = yss.length) (hu1 : us.length = yss.length) (hu2 : ∀ i, i < yss.length → OI B w.heap.size w (nthV us i) (nthL yss i) ∧ (nthV us i).ownBlock ≠ some b)
    (hc : ∀ j u, us[j]? = some u → w.cell? (ad.add j) = some u) (h1 : ∀ u ∈ us, u.oneCell' = true) (hBw : B ≤ w.heap.size) (hb : xss.length ≤ 1000000000) (hb2 : yss.length ≤ 1000000000)
    (h : ∀ b' cap' w', GR B w' b' cap' (xss ++ yss) → (b' = b ∨ w.heap.size ≤ b') → Upd (· = b) w w' → K (a.put o.dst (.slice (some ⟨b', 0, none⟩) (n + m) cap')) w') :
    if Region.wanted o (yielded ops a.tmps) = true then Oper.wp Try.prog o a w K Q else E := by
  have hw : Region.wanted o (yielded ops a.tmps) = true := by simp [Region.wanted, hgd]
  rw [if_pos hw]
  subst hn hm
  obtain ⟨b', cap', w', hrun, h2, h3, h4⟩ := run_appGR o.type hr us hu1 hu2 ad c hc h1 hBw hb hb2
  unfold Oper.wp execOp
  simp only [ho, resolve, invoke, builtin, Sem.run_bind, Sem.run_pure, Result.andThen_ok, List.map_toArray, List.map_cons, List.map_nil, hs, hx, hrun]
  exact h b' cap' w' h2 h3 h4
theorem OI.one {B H : Nat} {w : World} {v : Value} {xs : List Int} (h : OI B H w v xs) : v.oneCell' = true := by
  rcases h with ⟨rfl, rfl⟩ | ⟨b, cap, rfl, _⟩ <;> rfl
/-- 'append(l, v)' of one row, l a row of its own. -/
theorem wpl_app1GR {w : World} {ops : Array Oper} {rest : List Oper} {o : Oper} {a : Act} {Q : Exit → Act → World → Prop} (hgd : o.guard = none) (s x : Operand)
    (ho : o.op = .call { callee := .builtin .append, args := #[s, x], argTypes := #[35, 35] })
    (B b cap n : Nat) (xss : List (List Int)) (u : Value) (ys : List Int) (hs : a.eval s = .slice (some ⟨b, 0, none⟩) n cap) (hn : n = xss.length) (hr : GR B w b cap xss)
    (k : Nat) (hx : a.eval x = .slice (some ⟨k, 0, none⟩) 1 1) (hk : k = w.heap.size) (hv : OI B w.heap.size w u ys) (hv2 : u.ownBlock ≠ some b) (hBw : B ≤ w.heap.size) (hb : xss.length ≤ 1000000000)
    (h : ∀ b' cap' w', GR B w' b' cap' (xss ++ [ys]) → Upd (· = b) w w' → wpList Try.prog ops Q rest (a.put o.dst (.slice (some ⟨b', 0, none⟩) (n + 1) cap')) w') :
    wpList Try.prog ops Q (o :: rest) a (w.alloc (.cells #[u] 22)) := by
  subst hk
  have he : Ext w (w.alloc (.cells #[u] 22)) := Upd.alloc _ _ _
  refine wpl_appGR hgd s x ho B b cap n 1 1 xss [ys] [u] _ hs hn (hr.ext he) hx rfl rfl ?_ ?_ ?_ (by simp; omega) hb (by simp) ?_
  · intro i hi
    obtain rfl : i = 0 := by simpa using hi
    exact ⟨(hv.ext he).mono (Nat.le_refl _) he.size, hv2⟩
  · intro j z hj
    cases j with
    | zero => simp at hj; subst hj; exact World.cell?_alloc_at _ _ _ _ rfl
    | succ j => simp at hj
  · intro z hz; simp at hz; subst hz; exact hv.one
  · intro b' cap' w' h1 h2
    exact h b' cap' w' h1 ((Upd.alloc w _ _).trans h2)
/-- 'append(l, v)' of one row, l nil or a row of its own. -/
theorem wpl_app1GI {w : World} {ops : Array Oper} {rest : List Oper} {o : Oper} {a : Act} {Q : Exit → Act → World → Prop} (hgd : o.guard = none) (s x : Operand)
    (ho : o.op = .call { callee := .builtin .append, args := #[s, x], argTypes := #[35, 35] })
    (B : Nat) (v : Value) (xss : List (List Int)) (u : Value) (ys : List Int) (hs : a.eval s = v) (hr : GI B w v xss)
    (k : Nat) (hx : a.eval x = .slice (some ⟨k, 0, none⟩) 1 1) (hk : k = w.heap.size) (hv : OI B w.heap.size w u ys) (hv2 : ∀ b, v.ownBlock = some b → u.ownBlock ≠ some b) (hBw : B ≤ w.heap.size) (hb : xss.length ≤ 1000000000)
    (h : ∀ b' cap' w', GR B w' b' cap' (xss ++ [ys]) → Upd (fun k => v.ownBlock = some k) w w' → wpList Try.prog ops Q rest (a.put o.dst (.slice (some ⟨b', 0, none⟩) (xss.length + 1) cap')) w') :
    wpList Try.prog ops Q (o :: rest) a (w.alloc (.cells #[u] 22)) := by
  rcases hr with ⟨rfl, rfl⟩ | ⟨b, cap, rfl, hr⟩
  · subst hk
    obtain ⟨i, hi, hz, hs1, hby⟩ := info_ints
    have he : Ext w (w.alloc (.cells #[u] 22)) := Upd.alloc _ _ _
    refine wpList_append_own _ hgd s x 35 ho (w.heap.size + 1) 22 i (.slice none 0 0) 1 24 Try.underlying35 hi hz hs1 hby rfl (by decide) (.slice none 0 0) 0 [] hs ⟨rfl, .inl ⟨rfl, rfl⟩⟩ ⟨w.heap.size, 0, none⟩ 1 1 [u] hx rfl ?_ ?_ ?_ ?_ ?_ ?_
    · intro j z hj
      cases j with
      | zero => simp at hj; subst hj; exact World.cell?_alloc_at _ _ _ _ rfl
      | succ j => simp at hj
    · intro z hz; simp at hz; subst hz; exact hv.one
    · unfold maxLen; omega
    · omega
    · simp
    · intro v' w' h1 h2 h3
      have hne : v' ≠ .slice none 0 0 := fun e => by have := (h3.1 e).2; omega
      rcases h1.2 with ⟨e, _⟩ | ⟨g, cap, cur, rfl, hg, hgc, _⟩
      · exact absurd e hne
      · obtain ⟨r1, _, r3⟩ := Row.of_owns h1
        have hu : Ext (w.alloc (.cells #[u] 22)) w' := ⟨h2.os, h2.tape, h2.output, h2.size, fun k hk _ => h2.block k hk (by simp [Value.ownBlock])⟩
        have hE := he.trans hu
        refine h g cap w' ⟨[u], by simpa using r1, rfl, by omega, fun i hi => ?_⟩ (hE.mono (fun i _ hi => by cases hi))
        obtain rfl : i = 0 := by simpa using hi
        refine ⟨(hv.ext hE).mono (Nat.le_refl _) hE.size, fun e => ?_⟩
        have := (hv.own e).2; omega
  · exact wpl_app1GR hgd s x ho B b cap _ xss u ys hs rfl hr k hx hk hv (hv2 b rfl) hBw hb (fun b' cap' w' h1 h2 => h b' cap' w' h1 (h2.mono (fun i _ hi => by subst hi; rfl)))
/-- 'append(l, []int{..})', l nil or a row of its own. -/
theorem wpl_appLitGI {w : World} {ops : Array Oper} {rest : List Oper} {o : Oper} {a : Act} {Q : Exit → Act → World → Prop} (hgd : o.guard = none) (s x : Operand)
    (ho : o.op = .call { callee := .builtin .append, args := #[s, x], argTypes := #[35, 35] })
    (B : Nat) (v : Value) (k m : Nat) (xss : List (List Int)) (ys : List Int) (hs : a.eval s = v) (hr : GI B w v xss)
    (hB : B ≤ w.heap.size) (hl : ys.length ≤ 1000000000) (hk : k = w.heap.size) (hm : m = ys.length)
    (hx : a.eval x = .slice (some ⟨w.heap.size + 1, 0, none⟩) 1 1) (hb : xss.length ≤ 1000000000)
    (h : ∀ b' cap' w', GR B w' b' cap' (xss ++ [ys]) → Upd (fun k => v.ownBlock = some k) w w' → wpList Try.prog ops Q rest (a.put o.dst (.slice (some ⟨b', 0, none⟩) (xss.length + 1) cap')) w') :
    wpList Try.prog ops Q (o :: rest) a ((w.alloc (.cells (vals ys).toArray 3)).alloc (.cells #[.slice (some ⟨k, 0, none⟩) m m] 22)) := by
  subst hk hm
  have hsz : (w.alloc (.cells (vals ys).toArray 3)).heap.size = w.heap.size + 1 := by simp
  have hvl : (vals ys).length = ys.length := by simp [vals]
  have hrow := Row.new 3 w (vals ys) (by rw [hvl]; unfold maxLen; omega)
  rw [hvl] at hrow
  refine wpl_app1GI hgd s x ho B v xss _ ys hs (hr.ext (Upd.alloc _ _ _)) (w.heap.size + 1) hx (by rw [hsz]) (OI.row hrow hB rfl) ?_ (by omega) hb ?_
  · intro b hb e
    have h1 := (hr.own hb).2
    have : w.heap.size = b := by simpa [Value.ownBlock] using e
    omega
  · intro b' cap' w' h1 h2
    exact h b' cap' w' h1 ((Upd.alloc w _ _).trans h2)
end Go.Proofs.Ytcifngcmdiokpaa
