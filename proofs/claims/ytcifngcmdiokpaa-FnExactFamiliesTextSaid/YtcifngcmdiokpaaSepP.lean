/- Parts of permutations, split into root and parts, and the roots of the tree. No program text. Conditions: none. -/
import Derived.Test.YtcifngcmdiokpaaMxm
import Derived.Test.YtcifngcmdiokpaaPutP
namespace Go.Proofs.Ytcifngcmdiokpaa
open Go.RowKit

def cplL (p : List Int) : List Int := p.map fun v => (p.length : Int) + 1 - v
theorem cplL_len (p : List Int) : (cplL p).length = p.length := by simp [cplL]
theorem IsP.cpl {p : List Int} (h : IsP p) : IsP (cplL p) := by
  refine ⟨fun x hx => ?_, ?_⟩
  · obtain ⟨v, hv, rfl⟩ := List.mem_map.1 hx
    have := h.1 v hv
    rw [cplL_len]; omega
  · unfold cplL
    refine List.Pairwise.map _ ?_ h.2
    intro a b hab e
    exact hab (by omega)
theorem ltC_lt {l : List Int} {x y : Int} (hx : x ∈ l) (h : x < y) : ltC l x < ltC l y := by
  induction l with
  | nil => simp at hx
  | cons a l ih =>
    unfold ltC
    rw [List.countP_cons, List.countP_cons]
    have hm := ltC_mono l (x := x) (y := y) (by omega)
    unfold ltC at hm
    rcases List.mem_cons.1 hx with rfl | hx
    · simp [h]; omega
    · have := ih hx
      unfold ltC at this
      by_cases h1 : a < x
      · have h2 : a < y := by omega
        simp [h1, h2]; omega
      · simp [h1]; omega
theorem ltC_bd {l : List Int} {x : Int} (hx : x ∈ l) : ltC l x < l.length := by
  have h1 := ltC_lt hx (show x < x + 1 by omega)
  have h2 : ltC l (x + 1) ≤ l.length := List.countP_le_length
  omega
/-- the pattern of different numbers is a permutation. -/
theorem isP_pat {l : List Int} (h : l.Nodup) : IsP (patL l) := by
  refine ⟨fun x hx => ?_, ?_⟩
  · obtain ⟨v, hv, rfl⟩ := List.mem_map.1 hx
    have := ltC_bd hv
    rw [patL_len]; omega
  · unfold patL
    unfold List.Nodup
    rw [List.pairwise_map]
    refine List.Pairwise.imp_of_mem ?_ h
    intro a b ha hb hab e
    rcases Int.lt_trichotomy a b with h1 | h1 | h1
    · have := ltC_lt ha h1; omega
    · exact hab h1
    · have := ltC_lt hb h1; omega
theorem seg_nodup {p : List Int} (h : p.Nodup) (s t : Nat) : (seg p s t).Nodup := h.sublist ((List.take_sublist _ _).trans (List.drop_sublist _ _))
/-! ### the parts of a sum -/
theorem spP_isP {p : List Int} (h : IsP p) : ∀ k, ∀ l ∈ spP p k, IsP l := by
  intro k
  induction k with
  | zero => intro l hl; simp [spP] at hl
  | succ k ih =>
    intro l hl
    simp only [spP] at hl
    cases hc : cloB p k
    · rw [hc] at hl; exact ih l (by simpa using hl)
    · rw [hc] at hl
      simp only [cond_true, List.mem_append, List.mem_singleton] at hl
      rcases hl with hl | rfl
      · exact ih l hl
      · exact isP_pat (seg_nodup h.2 _ _)
def lenS (L : List (List Int)) : Nat := (L.map List.length).sum
theorem lenS_append (L M : List (List Int)) : lenS (L ++ M) = lenS L + lenS M := by simp [lenS]
theorem lenS_one (l : List Int) : lenS [l] = l.length := by simp [lenS]
theorem spP_lenS {p : List Int} : ∀ k, k ≤ p.length → lenS (spP p k) = spF p k := by
  intro k
  induction k with
  | zero => intro _; rfl
  | succ k ih =>
    intro hk
    have := ih (by omega)
    have hf := spF_le p k
    simp only [spP, spF]
    cases hc : cloB p k
    · simpa using this
    · simp only [cond_true]
      rw [lenS_append, lenS_one, this, patL_len, seg_len hk]; omega
theorem spP_pos {p : List Int} : ∀ k, k ≤ p.length → ∀ l ∈ spP p k, 0 < l.length := by
  intro k
  induction k with
  | zero => intro _ l hl; simp [spP] at hl
  | succ k ih =>
    intro hk l hl
    have hf := spF_le p k
    simp only [spP] at hl
    cases hc : cloB p k
    · rw [hc] at hl; exact ih (by omega) l (by simpa using hl)
    · rw [hc] at hl
      simp only [cond_true, List.mem_append, List.mem_singleton] at hl
      rcases hl with hl | rfl
      · exact ih (by omega) l hl
      · rw [patL_len, seg_len hk]; omega
theorem spP_lenS_le (p : List Int) : lenS (spP p p.length) ≤ p.length := by rw [spP_lenS _ (Nat.le_refl _)]; exact spF_le p _
def skP (p : List Int) : List (List Int) := (spP (cplL p) p.length).map cplL
theorem skP_mem {p l : List Int} (h : l ∈ skP p) : ∃ m ∈ spP (cplL p) (cplL p).length, l = cplL m := by
  obtain ⟨m, hm, rfl⟩ := List.mem_map.1 h
  exact ⟨m, by rw [cplL_len]; exact hm, rfl⟩
theorem skP_isP {p : List Int} (h : IsP p) : ∀ l ∈ skP p, IsP l := fun l hl => by
  obtain ⟨m, hm, rfl⟩ := skP_mem hl
  exact (spP_isP h.cpl _ m hm).cpl
theorem skP_pos {p : List Int} : ∀ l ∈ skP p, 0 < l.length := fun l hl => by
  obtain ⟨m, hm, rfl⟩ := skP_mem hl
  rw [cplL_len]; exact spP_pos _ (Nat.le_refl _) m hm
theorem lenS_cpl (L : List (List Int)) : lenS (L.map cplL) = lenS L := by
  unfold lenS
  rw [List.map_map]
  congr 1
  exact List.map_congr_left fun l _ => cplL_len l
theorem skP_lenS_le (p : List Int) : lenS (skP p) ≤ p.length := by
  unfold skP
  rw [lenS_cpl]
  have := spP_lenS_le (cplL p)
  rw [cplL_len] at this; exact this
/-! ### joins -/
def joinG (sk : Bool) (p q : List Int) : List Int := bif sk then upL p q.length ++ q else p ++ upL q p.length
def joinAll (sk : Bool) (L : List (List Int)) : List Int := L.foldl (joinG sk) []
theorem joinG_len (sk : Bool) (p q : List Int) : (joinG sk p q).length = p.length + q.length := by cases sk <;> simp [joinG, upL_len]
theorem upL_mem {q : List Int} {d x : Int} : x ∈ upL q d ↔ x - d ∈ q := by
  unfold upL
  rw [List.mem_map]
  constructor
  · rintro ⟨y, hy, rfl⟩; rw [show y + d - d = y by omega]; exact hy
  · intro h; exact ⟨x - d, h, by omega⟩
theorem upL_nodup {q : List Int} (d : Int) (h : q.Nodup) : (upL q d).Nodup := List.Pairwise.map _ (fun a b hab e => hab (by omega)) h
theorem IsP.join {p q : List Int} (hp : IsP p) (hq : IsP q) (sk : Bool) : IsP (joinG sk p q) := by
  refine ⟨fun x hx => ?_, ?_⟩
  · rw [joinG_len]
    cases sk
    · simp only [joinG, cond_false, List.mem_append] at hx
      rcases hx with hx | hx
      · have := hp.1 x hx; omega
      · have := hq.1 _ (upL_mem.1 hx); omega
    · simp only [joinG, cond_true, List.mem_append] at hx
      rcases hx with hx | hx
      · have := hp.1 _ (upL_mem.1 hx); omega
      · have := hq.1 x hx; omega
  · cases sk
    · simp only [joinG, cond_false]
      rw [List.nodup_append]
      refine ⟨hp.2, upL_nodup _ hq.2, fun a ha b hb e => ?_⟩
      have h1 := hp.1 a ha
      have h2 := hq.1 _ (upL_mem.1 hb)
      omega
    · simp only [joinG, cond_true]
      rw [List.nodup_append]
      refine ⟨upL_nodup _ hp.2, hq.2, fun a ha b hb e => ?_⟩
      have h1 := hp.1 _ (upL_mem.1 ha)
      have h2 := hq.1 b hb
      omega
theorem joinTo {sk : Bool} {L : List (List Int)} (h : ∀ l ∈ L, IsP l) : ∀ (o : List Int), IsP o → IsP (L.foldl (joinG sk) o) ∧ (L.foldl (joinG sk) o).length = o.length + lenS L := by
  induction L with
  | nil => intro o ho; exact ⟨ho, by simp [lenS]⟩
  | cons l L ih =>
    intro o ho
    have := ih (fun x hx => h x (List.mem_cons_of_mem _ hx)) (joinG sk o l) (ho.join (h l (List.mem_cons_self ..)) sk)
    refine ⟨this.1, ?_⟩
    rw [List.foldl_cons, this.2, joinG_len]
    simp [lenS]; omega
theorem isP_nil : IsP [] := ⟨fun x hx => by simp at hx, List.nodup_nil⟩
theorem joinAll_isP {sk : Bool} {L : List (List Int)} (h : ∀ l ∈ L, IsP l) : IsP (joinAll sk L) := (joinTo h [] isP_nil).1
theorem joinAll_len {sk : Bool} {L : List (List Int)} (h : ∀ l ∈ L, IsP l) : (joinAll sk L).length = lenS L := by have := (joinTo (sk := sk) h [] isP_nil).2; unfold joinAll; rw [this]; simp
theorem joinAll_snoc (sk : Bool) (L : List (List Int)) (l : List Int) : joinAll sk (L ++ [l]) = joinG sk (joinAll sk L) l := by simp [joinAll]
/-! ### the intervals of a permutation that is no sum -/
def goodK (p : List Int) (s k : Nat) : Bool := decide (s + 2 ≤ k) && (decide (k - s < p.length) && runB p s k)
def ivD (p : List Int) (s : Nat) : Nat → Nat
  | 0 => s + 1
  | k + 1 => bif goodK p s (k + 1) then k + 1 else ivD p s k
def ivE (p : List Int) (s : Nat) : Nat := ivD p s p.length
theorem ivD_low (p : List Int) (s : Nat) : ∀ k, k ≤ s + 1 → ivD p s k = s + 1 := by
  intro k
  induction k with
  | zero => intro _; rfl
  | succ k ih =>
    intro hk
    have h1 : goodK p s (k + 1) = false := by
      unfold goodK
      rw [decide_eq_false (by omega)]; rfl
    simp only [ivD, h1, cond_false]
    exact ih (by omega)
theorem ivD_bd (p : List Int) (s : Nat) : ∀ k, s + 1 ≤ ivD p s k ∧ (ivD p s k ≤ k ∨ ivD p s k = s + 1) ∧ (ivD p s k = s + 1 ∨ ivD p s k - s < p.length) := by
  intro k
  induction k with
  | zero => exact ⟨Nat.le_refl _, .inr rfl, .inl rfl⟩
  | succ k ih =>
    simp only [ivD]
    cases hg : goodK p s (k + 1)
    · simp only [cond_false]
      exact ⟨ih.1, by rcases ih.2.1 with h | h <;> omega, ih.2.2⟩
    · simp only [cond_true]
      unfold goodK at hg
      simp only [Bool.and_eq_true, decide_eq_true_eq] at hg
      exact ⟨by omega, by omega, .inr hg.2.1⟩
theorem ivE_bd {p : List Int} {s : Nat} (hs : s < p.length) : s + 1 ≤ ivE p s ∧ ivE p s ≤ p.length ∧ (2 ≤ p.length → ivE p s - s < p.length) := by
  have h := ivD_bd p s p.length
  unfold ivE
  refine ⟨h.1, ?_, fun h2 => ?_⟩
  · rcases h.2.1 with e | e <;> omega
  · rcases h.2.2 with e | e <;> omega
def cuts (p : List Int) : Nat → Nat → List Nat
  | 0, _ => []
  | f + 1, s => if s < p.length then s :: cuts p f (ivE p s) else []
def cutL (p : List Int) : List Nat := cuts p p.length 0
theorem cuts_t {p : List Int} {f s : Nat} (h : s < p.length) (hf : p.length - s ≤ f) : ∃ g, f = g + 1 ∧ cuts p f s = s :: cuts p g (ivE p s) ∧ p.length - ivE p s ≤ g := by
  obtain ⟨g, rfl⟩ : ∃ g, f = g + 1 := ⟨f - 1, by omega⟩
  have := (ivE_bd h).1
  refine ⟨g, rfl, by simp [cuts, h], by omega⟩
theorem cuts_f {p : List Int} {f s : Nat} (h : ¬ s < p.length) : cuts p f s = [] := by cases f <;> simp [cuts, h]
theorem cuts_lt (p : List Int) : ∀ f s, ∀ c ∈ cuts p f s, c < p.length := by
  intro f
  induction f with
  | zero => intro s c hc; simp [cuts] at hc
  | succ f ih =>
    intro s c hc
    by_cases h : s < p.length
    · simp only [cuts, if_pos h, List.mem_cons] at hc
      rcases hc with rfl | hc
      · exact h
      · exact ih _ c hc
    · simp [cuts, h] at hc
theorem cuts_len (p : List Int) : ∀ f s, (cuts p f s).length ≤ f := by
  intro f
  induction f with
  | zero => intro s; simp [cuts]
  | succ f ih =>
    intro s
    by_cases h : s < p.length
    · simp only [cuts, if_pos h, List.length_cons]
      have := ih (ivE p s); omega
    · simp [cuts, h]
/-! ### the tree -/
def splitR (p : List Int) : List Int := bif decide (1 < (spP p p.length).length) then [1, 2] else bif decide (1 < (skP p).length) then [2, 1] else patL ((cutL p).map (nth p))
def partI (p : List Int) (s : Nat) : List Int := patL (seg p s (ivE p s))
def splitQ (p : List Int) : List (List Int) :=
  bif decide (1 < (spP p p.length).length) then [nthL (spP p p.length) 0, joinAll false ((spP p p.length).drop 1)]
  else bif decide (1 < (skP p).length) then [nthL (skP p) 0, joinAll true ((skP p).drop 1)] else (cutL p).map (partI p)
def rootsF : Nat → List Int → List (List Int)
  | 0, _ => []
  | f + 1, p => if p.length < 2 then [] else splitR p :: ((splitQ p).map (rootsF f)).flatten
def sepB (p : List Int) : Bool := isP8 p && (rootsF p.length p).all fun r => decide (r.length ≤ 2)
theorem two_parts {L : List (List Int)} {n : Nat} (h1 : 1 < L.length) (hp : ∀ l ∈ L, IsP l) (h0 : ∀ l ∈ L, 0 < l.length) (hn : lenS L ≤ n) (sk : Bool) :
    (IsP (nthL L 0) ∧ 0 < (nthL L 0).length ∧ (nthL L 0).length < n) ∧ IsP (joinAll sk (L.drop 1)) ∧ 0 < (joinAll sk (L.drop 1)).length ∧ (joinAll sk (L.drop 1)).length < n := by
  cases L with
  | nil => simp at h1
  | cons a L =>
    cases L with
    | nil => simp at h1
    | cons b L =>
      have ha := h0 a (by simp)
      have hb := h0 b (by simp)
      have hd : ∀ l ∈ b :: L, IsP l := fun l hl => hp l (List.mem_cons_of_mem _ hl)
      have e0 : nthL (a :: b :: L) 0 = a := rfl
      have hl : lenS (a :: b :: L) = a.length + lenS (b :: L) := by simp [lenS]
      have hl2 : lenS (b :: L) = b.length + lenS L := by simp [lenS]
      rw [List.drop_one, List.tail_cons, joinAll_len hd, e0]
      exact ⟨⟨hp a (by simp), ha, by omega⟩, joinAll_isP hd, by omega, by omega⟩
/-- the parts are shorter permutations, none empty. -/
theorem splitQ_ok {p : List Int} (h : IsP p) (h2 : 2 ≤ p.length) : ∀ q ∈ splitQ p, IsP q ∧ 0 < q.length ∧ q.length < p.length := by
  intro q hq
  unfold splitQ at hq
  by_cases h3 : 1 < (spP p p.length).length
  · rw [decide_eq_true h3, cond_true] at hq
    have := two_parts h3 (spP_isP h _) (spP_pos _ (Nat.le_refl _)) (spP_lenS_le p) false
    simp only [List.mem_cons, List.not_mem_nil, or_false] at hq
    rcases hq with rfl | rfl
    · exact this.1
    · exact this.2
  · rw [decide_eq_false h3, cond_false] at hq
    by_cases h4 : 1 < (skP p).length
    · rw [decide_eq_true h4, cond_true] at hq
      have := two_parts h4 (skP_isP h) skP_pos (skP_lenS_le p) true
      simp only [List.mem_cons, List.not_mem_nil, or_false] at hq
      rcases hq with rfl | rfl
      · exact this.1
      · exact this.2
    · rw [decide_eq_false h4, cond_false] at hq
      obtain ⟨s, hs, rfl⟩ := List.mem_map.1 hq
      have hs2 := cuts_lt p _ _ s hs
      have := ivE_bd hs2
      unfold partI
      rw [patL_len, seg_len this.2.1]
      exact ⟨isP_pat (seg_nodup h.2 _ _), by omega, this.2.2 h2⟩
theorem splitQ_len {p : List Int} (h2 : 2 ≤ p.length) : (splitQ p).length ≤ p.length := by
  unfold splitQ
  cases decide (1 < (spP p p.length).length)
  · cases decide (1 < (skP p).length)
    · simp only [cond_false, List.length_map]; exact cuts_len p _ _
    · simp; omega
  · simp; omega
theorem splitR_len {p : List Int} (h2 : 2 ≤ p.length) : (splitR p).length ≤ p.length := by
  unfold splitR
  cases decide (1 < (spP p p.length).length)
  · cases decide (1 < (skP p).length)
    · simp only [cond_false, patL_len, List.length_map]; exact cuts_len p _ _
    · simp; omega
  · simp; omega
end Go.Proofs.Ytcifngcmdiokpaa
