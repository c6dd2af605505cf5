/- Layered permutations, without program text: a stack that is emptied sorts exactly these. Conditions: none. -/
import Derived.Test.YtcifngcmdiokpaaPopM
import Derived.Test.YtcifngcmdiokpaaPop2
import Derived.Test.YtcifngcmdiokpaaSurj
namespace Go.Proofs.Ytcifngcmdiokpaa
open Go.RowKit

/-! ### patterns -/
def ltC (l : List Int) (x : Int) : Nat := l.countP fun y => decide (y < x)
def patL (l : List Int) : List Int := l.map fun x => (ltC l x : Int) + 1
theorem patL_len (l : List Int) : (patL l).length = l.length := by simp [patL]
theorem patL_nth {l : List Int} {i : Nat} (h : i < l.length) : nth (patL l) i = (ltC l (nth l i) : Int) + 1 := by simp [nth, patL, h]
theorem ltC_mono (l : List Int) {x y : Int} (h : x ≤ y) : ltC l x ≤ ltC l y := by
  unfold ltC
  refine List.countP_mono_left fun z _ hz => ?_
  simp at hz ⊢; omega
/-- falls all the way. -/
def Fal (l : List Int) : Prop := ∀ i, i + 1 < l.length → nth l (i + 1) < nth l i
def falB (l : List Int) : Bool := decide ((patL l).reverse = idL l.length)
theorem rev_nth {l : List Int} {i : Nat} (h : i < l.length) : nth l.reverse i = nth l (l.length - 1 - i) := by
  rw [nth_get (by simpa using h), nth_get (by omega), List.getElem_reverse]
theorem pat_fal {l : List Int} (h : Fal l) : patL l = (idL l.length).reverse := by
  induction l with
  | nil => rfl
  | cons x r ih =>
    have hr : Fal r := fun i hi => by
      have := h (i + 1) (by simp; omega)
      simpa [nth] using this
    have hx : ∀ y ∈ r, y < x := by
      have key : ∀ i, i < r.length → nth r i < x := by
        intro i
        induction i with
        | zero => intro hi; have := h 0 (by simp; omega); simpa [nth] using this
        | succ i ihi =>
          intro hi
          have h1 := ihi (by omega)
          have h2 := hr i hi
          omega
      intro y hy
      obtain ⟨i, hi, rfl⟩ := List.getElem_of_mem hy
      have := key i hi
      rwa [nth_get hi] at this
    have e1 : ltC (x :: r) x = r.length := by
      unfold ltC
      rw [List.countP_cons, if_neg (by simp)]
      exact List.countP_eq_length.2 (fun y hy => by simpa using hx y hy)
    have e2 : ∀ y ∈ r, ltC (x :: r) y = ltC r y := fun y hy => by
      unfold ltC
      rw [List.countP_cons, if_neg (by have := hx y hy; simp; omega)]; rfl
    have e3 : patL (x :: r) = ((r.length : Int) + 1) :: patL r := by
      show ((ltC (x :: r) x : Int) + 1) :: r.map (fun y => (ltC (x :: r) y : Int) + 1) = _
      rw [e1]
      congr 1
      exact List.map_congr_left fun y hy => by rw [e2 y hy]
    rw [e3, ih hr, List.length_cons, idL_succ]; simp
theorem falB_iff {l : List Int} : falB l = true ↔ Fal l := by
  unfold falB
  rw [decide_eq_true_iff]
  constructor
  · intro h i hi
    have h1 : patL l = (idL l.length).reverse := by rw [← h, List.reverse_reverse]
    have e1 := patL_nth (l := l) (i := i) (by omega)
    have e2 := patL_nth hi
    rw [h1, rev_nth (by rw [idL_len]; omega), idL_len, idL_nth _ _ (by omega)] at e1 e2
    rcases Int.lt_or_le (nth l (i + 1)) (nth l i) with e | e
    · exact e
    · have := ltC_mono l e; omega
  · intro h; rw [pat_fal h, List.reverse_reverse]

/-! ### the parts of a sum -/
def spM (p : List Int) : Nat → Int
  | 0 => 0
  | k + 1 => max (spM p k) (nth p k)
def cloB (p : List Int) (k : Nat) : Bool := decide (spM p (k + 1) = (k : Int) + 1)
def spF (p : List Int) : Nat → Nat
  | 0 => 0
  | k + 1 => bif cloB p k then k + 1 else spF p k
def seg (p : List Int) (f i : Nat) : List Int := (p.drop f).take (i - f)
def spP (p : List Int) : Nat → List (List Int)
  | 0 => []
  | k + 1 => bif cloB p k then spP p k ++ [patL (seg p (spF p k) (k + 1))] else spP p k
def sumL (p : List Int) : List (List Int) := bif isP8 p then spP p p.length else []
def layB (p : List Int) : Bool := isP8 p && (sumL p).all fun l => decide (l.reverse = idL l.length)
theorem spF_le (p : List Int) (k : Nat) : spF p k ≤ k := by
  induction k with
  | zero => exact Nat.le_refl _
  | succ k ih => unfold spF; cases cloB p k <;> simp; omega
theorem seg_len {p : List Int} {f i : Nat} (h : i ≤ p.length) : (seg p f i).length = i - f := by unfold seg; simp; omega
theorem seg_nth {p : List Int} {f i t : Nat} (h : t < i - f) : nth (seg p f i) t = nth p (f + t) := nth_seg h
theorem spP_each (p : List Int) : ∀ k, k ≤ p.length → ∀ l ∈ spP p k, l.length ≤ p.length := by
  intro k
  induction k with
  | zero => intro _ l h; simp [spP] at h
  | succ k ih =>
    intro hk l h
    unfold spP at h
    cases hc : cloB p k
    · rw [hc] at h; exact ih (by omega) l h
    · rw [hc] at h
      rcases List.mem_append.1 h with h | h
      · exact ih (by omega) l h
      · simp at h; subst h; rw [patL_len, seg_len hk]; omega
theorem spP_len (p : List Int) (k : Nat) : (spP p k).length ≤ k := by
  induction k with
  | zero => simp [spP]
  | succ k ih => unfold spP; cases cloB p k <;> simp <;> omega

/-! ### towers -/
/-- the numbers at places f to i - 1 are i, i - 1, .., f + 1. -/
def Tow (p : List Int) (f i : Nat) : Prop := ∀ t, f ≤ t → t < i → nth p t = (f : Int) + i - t
/-- the first i places are towers. -/
inductive LayTo (p : List Int) : Nat → Prop
  | zero : LayTo p 0
  | tow {f i : Nat} : LayTo p f → f < i → i ≤ p.length → Tow p f i → LayTo p i
theorem LayTo.le {p : List Int} {i : Nat} (h : LayTo p i) : i ≤ p.length := by cases h with | zero => omega | tow _ _ h _ => exact h
theorem LayTo.cover {p : List Int} {i : Nat} (h : LayTo p i) : ∀ v : Nat, 1 ≤ v → v ≤ i → ∃ t, t < i ∧ nth p t = (v : Int) := by
  induction h with
  | zero => intro v h1 h2; omega
  | @tow f i h1 h2 h3 h4 ih =>
    intro v hv1 hv2
    rcases Nat.lt_or_ge f v with e | e
    · exact ⟨f + i - v, by omega, by rw [h4 _ (by omega) (by omega)]; omega⟩
    · obtain ⟨t, k1, k2⟩ := ih v hv1 e; exact ⟨t, by omega, k2⟩
theorem LayTo.low {p : List Int} {i : Nat} (h : LayTo p i) : ∀ t, t < i → 1 ≤ nth p t ∧ nth p t ≤ i := by
  induction h with
  | zero => intro t h; omega
  | @tow f i h1 h2 h3 h4 ih =>
    intro t ht
    rcases Nat.lt_or_ge t f with e | e
    · have := ih t e; omega
    · rw [h4 t e ht]; omega
theorem LayTo.above {p : List Int} (hp : IsP p) {i : Nat} (h : LayTo p i) {t : Nat} (h1 : i ≤ t) (h2 : t < p.length) : (i : Int) < nth p t := by
  have hb := hp.bd h2
  rcases Int.lt_or_le (i : Int) (nth p t) with e | e
  · exact e
  · obtain ⟨t', k1, k2⟩ := h.cover (nth p t).toNat (by omega) (by omega)
    have := hp.inj (i := t') (by have := h.le; omega) h2 (by rw [k2]; omega)
    omega
theorem spM_bd {p : List Int} {i : Nat} {m : Int} (h0 : 0 ≤ m) (h : ∀ t, t < i → nth p t ≤ m) : spM p i ≤ m := by
  induction i with
  | zero => exact h0
  | succ i ih =>
    unfold spM
    have := ih (fun t ht => h t (by omega))
    have := h i (by omega)
    omega
theorem spM_ge {p : List Int} {i t : Nat} (h : t < i) : nth p t ≤ spM p i := by
  induction i with
  | zero => omega
  | succ i ih =>
    unfold spM
    rcases Nat.lt_or_ge t i with e | e
    · have := ih e; omega
    · obtain rfl : t = i := by omega
      omega
theorem spM_0 (p : List Int) (i : Nat) : 0 ≤ spM p i := by
  induction i with
  | zero => exact Int.le_refl _
  | succ i ih => unfold spM; omega
/-- numbers that fall within as many bounds are a tower. -/
theorem tow_of {p : List Int} {f i : Nat} (hi : i ≤ p.length) (hfi : f < i) (hd : ∀ t, f ≤ t → t + 1 < i → nth p (t + 1) < nth p t) (hlo : ∀ t, f ≤ t → t < i → (f : Int) < nth p t) (hhi : ∀ t, f ≤ t → t < i → nth p t ≤ i) : Tow p f i := by
  have up : ∀ d, f + d < i → nth p (f + d) ≤ (i : Int) - d := by
    intro d
    induction d with
    | zero => intro h; have := hhi f (Nat.le_refl _) hfi; simpa using this
    | succ d ih =>
      intro h
      have h1 := ih (by omega)
      have h2 := hd (f + d) (by omega) (by omega)
      rw [← Nat.add_assoc]; push_cast; omega
  have dn : ∀ d t, f ≤ t → t + d + 1 = i → (f : Int) + d + 1 ≤ nth p t := by
    intro d
    induction d with
    | zero => intro t h1 h2; have := hlo t h1 (by omega); omega
    | succ d ih =>
      intro t h1 h2
      have h3 := ih (t + 1) (by omega) (by omega)
      have h4 := hd t h1 (by omega)
      push_cast; omega
  intro t h1 h2
  have a := up (t - f) (by omega)
  have b := dn (i - 1 - t) t h1 (by omega)
  rw [show f + (t - f) = t by omega] at a
  omega

/-! ### the pass -/
theorem scO_pre (xs : List Int) (i d : Nat) : ∃ B, scO xs (i + d) = scO xs i ++ B := by
  induction d with
  | zero => exact ⟨[], by simp⟩
  | succ d ih =>
    obtain ⟨B, h⟩ := ih
    cases hc : cutB xs (i + d)
    · exact ⟨B, by rw [← Nat.add_assoc, scO_f hc, h]⟩
    · exact ⟨_, by rw [← Nat.add_assoc, scO_t hc, h, List.append_assoc]⟩
theorem lay_of_srt {p : List Int} (hp : IsP p) (h : Srt (popL p)) : LayTo p p.length := by
  have hid : popL p = idL p.length := by
    have := (srt_iff_id (pop_ok.perm p hp)).1 h
    rwa [popL_len] at this
  have key : ∀ i, i ≤ p.length → LayTo p (scF p i) := by
    intro i
    induction i with
    | zero => intro _; exact LayTo.zero
    | succ i ih =>
      intro hi
      have h1 := ih (by omega)
      cases hc : cutB p i
      · rw [scF_f hc]; exact h1
      · rw [scF_t hc]
        have hle := scF_le p i
        refine LayTo.tow h1 (by omega) hi ?_
        obtain ⟨B, hB⟩ := scO_pre p (i + 1) (p.length - (i + 1))
        rw [show i + 1 + (p.length - (i + 1)) = p.length by omega] at hB
        have hl1 := scO_len p (i + 1) hi
        have hl0 := scO_len p i (by omega)
        rw [scF_t hc] at hl1
        rw [scO_t hc] at hB hl1
        have hB' : popL p = _ := hB
        rw [hid] at hB'
        intro t ht1 ht2
        -- place f + (i - t) of the output
        have e1 : nth (idL p.length) (scF p i + (i - t)) = ((scF p i + (i - t) : Nat) : Int) + 1 := idL_nth _ _ (by omega)
        rw [hB', List.append_assoc] at e1
        have e2 : nth (scO p i ++ (((p.drop (scF p i)).take (i + 1 - scF p i)).reverse ++ B)) (scF p i + (i - t)) = nth p t := by
          have hlen : ((p.drop (scF p i)).take (i + 1 - scF p i)).length = i + 1 - scF p i := by simp; omega
          unfold nth
          rw [List.getD_eq_getElem?_getD, List.getElem?_append_right (by omega), hl0, Nat.add_sub_cancel_left, List.getElem?_append_left (by simp; omega), List.getElem?_reverse (by omega), hlen, List.getElem?_take_of_lt (by omega), List.getElem?_drop, List.getD_eq_getElem?_getD]
          congr 2; omega
        rw [e2] at e1
        rw [e1]; push_cast; omega
  have := key p.length (Nat.le_refl _)
  rwa [scF_len] at this
/-- in a tower's places nothing is cut or closed but at its end. -/
theorem LayTo.both {p : List Int} (hp : IsP p) {i : Nat} (h : LayTo p i) : scF p i = i ∧ scO p i = idL i ∧ spF p i = i ∧ (spP p i).all (fun l => decide (l.reverse = idL l.length)) = true := by
  induction h with
  | zero => exact ⟨rfl, rfl, rfl, rfl⟩
  | @tow f i h1 h2 h3 h4 ih =>
    obtain ⟨a1, a2, a3, a4⟩ := ih
    have hlay : LayTo p i := LayTo.tow h1 h2 h3 h4
    have hmax : ∀ d, f + d < i → spM p (f + d + 1) = (i : Int) := by
      intro d hd
      have e1 : spM p (f + d + 1) ≤ (i : Int) := spM_bd (by omega) (fun t ht => by
        rcases Nat.lt_or_ge t f with e | e
        · have := h1.low t e; omega
        · rw [h4 t e (by omega)]; omega)
      have e2 := spM_ge (p := p) (i := f + d + 1) (t := f) (by omega)
      rw [h4 f (Nat.le_refl _) h2] at e2
      omega
    have hin : ∀ d, f + d < i → scF p (f + d) = f ∧ scO p (f + d) = idL f ∧ spF p (f + d) = f ∧ spP p (f + d) = spP p f := by
      intro d
      induction d with
      | zero => intro _; exact ⟨a1, a2, a3, rfl⟩
      | succ d ihd =>
        intro hd
        obtain ⟨b1, b2, b3, b4⟩ := ihd (by omega)
        have hnc : cutB p (f + d) = false := cutB_down (by omega) (by rw [h4 _ (by omega) (by omega), h4 _ (by omega) (by omega)]; push_cast; omega)
        have hnk : cloB p (f + d) = false := by
          unfold cloB; rw [hmax d (by omega)]; simp; omega
        rw [← Nat.add_assoc]
        refine ⟨by rw [scF_f hnc]; exact b1, by rw [scO_f hnc]; exact b2, ?_, ?_⟩
        · show (bif cloB p (f + d) then _ else _) = _; rw [hnk]; exact b3
        · show (bif cloB p (f + d) then _ else _) = _; rw [hnk]; exact b4
    obtain ⟨b1, b2, b3, b4⟩ := hin (i - 1 - f) (by omega)
    rw [show f + (i - 1 - f) = i - 1 by omega] at b1 b2 b3 b4
    obtain ⟨j, rfl⟩ : ∃ j, i = j + 1 := ⟨i - 1, by omega⟩
    rw [Nat.add_sub_cancel] at b1 b2 b3 b4
    have hc : cutB p j = true := by
      rcases Nat.lt_or_ge (j + 1) p.length with e | e
      · refine cutB_up ?_
        have := hlay.above hp (Nat.le_refl _) e
        have := hlay.low j (by omega)
        omega
      · exact cutB_last e
    have hk : cloB p j = true := by
      unfold cloB
      have := hmax (j - f) (by omega)
      rw [show f + (j - f) + 1 = j + 1 by omega] at this
      rw [this]; simp
    have hsl : (seg p f (j + 1)).length = j + 1 - f := seg_len h3
    have hfal : Fal (seg p f (j + 1)) := by
      intro t ht
      rw [hsl] at ht
      rw [seg_nth ht, seg_nth (by omega), h4 _ (by omega) (by omega), h4 _ (by omega) (by omega)]
      push_cast; omega
    refine ⟨scF_t hc, ?_, ?_, ?_⟩
    · rw [scO_t hc, b1, b2]
      refine nth_ext' (by simp [idL_len]; omega) (fun t ht => ?_)
      have ht' : t < j + 1 := by
        simp [idL_len] at ht; omega
      rw [idL_nth _ _ ht']
      have hlen : ((p.drop f).take (j + 1 - f)).length = j + 1 - f := hsl
      rcases Nat.lt_or_ge t f with e | e
      · unfold nth
        rw [List.getD_eq_getElem?_getD, List.getElem?_append_left (by rw [idL_len]; exact e)]
        have := idL_nth f t e
        unfold nth at this
        rwa [List.getD_eq_getElem?_getD] at this
      · have e2 := h4 (f + j - t) (by omega) (by omega)
        unfold nth at e2 ⊢
        rw [List.getD_eq_getElem?_getD, List.getElem?_append_right (by rw [idL_len]; exact e), idL_len, List.getElem?_reverse (by omega), hlen, List.getElem?_take_of_lt (by omega), List.getElem?_drop]
        rw [List.getD_eq_getElem?_getD] at e2
        rw [show f + (j + 1 - f - 1 - (t - f)) = f + j - t by omega, e2]
        push_cast; omega
    · show (bif cloB p j then _ else _) = _; rw [hk]; rfl
    · show (bif cloB p j then spP p j ++ [patL (seg p (spF p j) (j + 1))] else _).all _ = true
      rw [hk, b3, b4]
      simp only [cond_true, List.all_append, List.all_cons, List.all_nil, Bool.and_true]
      rw [a4, Bool.true_and, patL_len]
      exact falB_iff.2 hfal
theorem lay_of_parts {p : List Int} (hp : IsP p) (h : (spP p p.length).all (fun l => decide (l.reverse = idL l.length)) = true) : LayTo p p.length := by
  have pre : ∀ k, k ≤ p.length → (spP p k).all (fun l => decide (l.reverse = idL l.length)) = true := by
    have step : ∀ d k, k + d = p.length → (spP p k).all (fun l => decide (l.reverse = idL l.length)) = true := by
      intro d
      induction d with
      | zero => intro k hk; obtain rfl : k = p.length := by omega
                exact h
      | succ d ih =>
        intro k hk
        have h1 := ih (k + 1) (by omega)
        have e : spP p (k + 1) = bif cloB p k then spP p k ++ [patL (seg p (spF p k) (k + 1))] else spP p k := rfl
        rw [e] at h1
        cases hc : cloB p k
        · rw [hc] at h1; exact h1
        · rw [hc] at h1
          simp only [cond_true, List.all_append, Bool.and_eq_true] at h1
          exact h1.1
    intro k hk
    exact step (p.length - k) k (by omega)
  have key : ∀ i, i ≤ p.length → LayTo p (spF p i) := by
    intro i
    induction i with
    | zero => intro _; exact LayTo.zero
    | succ i ih =>
      intro hi
      have h1 := ih (by omega)
      have h2 := pre (i + 1) hi
      have e : spP p (i + 1) = bif cloB p i then spP p i ++ [patL (seg p (spF p i) (i + 1))] else spP p i := rfl
      have e2 : spF p (i + 1) = bif cloB p i then i + 1 else spF p i := rfl
      rw [e2]
      cases hc : cloB p i
      · exact h1
      · rw [e, hc] at h2
        simp only [cond_true, List.all_append, Bool.and_eq_true, List.all_cons, List.all_nil, Bool.and_true] at h2
        have hfal : Fal (seg p (spF p i) (i + 1)) := falB_iff.1 (by have := h2.2; rw [patL_len] at this; exact this)
        have hsl : (seg p (spF p i) (i + 1)).length = i + 1 - spF p i := seg_len hi
        have hle := spF_le p i
        unfold cloB at hc
        have hmx := of_decide_eq_true hc
        show LayTo p (i + 1)
        refine LayTo.tow h1 (by omega) hi (tow_of hi (by omega) ?_ ?_ ?_)
        · intro t ht1 ht2
          have := hfal (t - spF p i) (by omega)
          rw [seg_nth (by omega), seg_nth (by omega)] at this
          rw [show spF p i + (t - spF p i) = t by omega, show spF p i + (t - spF p i + 1) = t + 1 by omega] at this
          exact this
        · intro t ht1 ht2; exact h1.above hp ht1 (by omega)
        · intro t ht1 ht2
          have := spM_ge (p := p) (i := i + 1) (t := t) ht2
          push_cast; omega
  have := key p.length (Nat.le_refl _)
  have hfin : spF p p.length = p.length := by
    cases hn : p.length with
    | zero => rfl
    | succ n =>
      show (bif cloB p n then n + 1 else spF p n) = n + 1
      have : cloB p n = true := by
        unfold cloB
        rw [decide_eq_true_iff]
        have h1 : spM p (n + 1) ≤ (n : Int) + 1 := spM_bd (by omega) (fun t ht => by have := hp.bd (i := t) (by omega); omega)
        -- all values up to n + 1 occur
        rcases Int.lt_or_le (spM p (n + 1)) ((n : Int) + 1) with e | e
        · exfalso
          have := nodup_len n p hp.2 (fun x hx => by
            obtain ⟨t, ht, rfl⟩ := List.getElem_of_mem hx
            have h2 := spM_ge (p := p) (i := n + 1) (t := t) (by omega)
            have h3 := hp.bd ht
            rw [nth_get ht] at h2 h3
            omega)
          omega
        · omega
      rw [this]; rfl
  rwa [hfin] at this
theorem pop_lay (p : List Int) : popSortedB p = layB p := by
  unfold popSortedB layB sumL
  cases h : isP8 p
  · rfl
  have hp := (isP8_iff.1 h).2
  simp only [Bool.true_and, cond_true]
  rw [Bool.eq_iff_iff]
  constructor
  · intro hs; exact ((lay_of_srt hp (srtB_iff.1 hs)).both hp).2.2.2
  · intro hs
    have := ((lay_of_parts hp hs).both hp).2.1
    refine srtB_true ?_
    show Srt (scO p p.length)
    rw [this]; exact idL_srt _
end Go.Proofs.Ytcifngcmdiokpaa
