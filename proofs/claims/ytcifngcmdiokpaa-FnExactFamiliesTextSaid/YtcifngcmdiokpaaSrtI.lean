/- A row of rows sorted by the library's sort: what the row holds then, by the numbers of its elements. No program text. Conditions: none. -/
import Derived.Test.YtcifngcmdiokpaaRow2
import Derived.Test.YtcifngcmdiokpaaPutP
import Derived.Shelf.SlSortCmp.Whole1
namespace Go.Proofs.Ytcifngcmdiokpaa
open Go.RowKit Go.Sort

/-! ### an order, and what the sort is told of it -/
structure TotB (bf : List Int → List Int → Bool) : Prop where
  irr : ∀ a, bf a a = false
  trans : ∀ a b c, bf a b = true → bf b c = true → bf a c = true
  tot : ∀ a b, a = b ∨ bf a b = true ∨ bf b a = true
theorem befTot : TotB befB := ⟨befB_irr, fun _ _ _ => befB_trans, befB_tot⟩
theorem lexTot : TotB lexB := ⟨lexB_irr, lexB_trans, lexB_tot⟩
def cmpG (bf : List Int → List Int → Bool) (a b : List Int) : Int := bif bf a b then -1 else bif bf b a then 1 else 0
def cfN (bf : List Int → List Int → Bool) (L : List (List Int)) (x y : Nat) : Int := cmpG bf (nthL L x) (nthL L y)
theorem cfN_lt (bf : List Int → List Int → Bool) (L : List (List Int)) (x y : Nat) : ltOf (cfN bf L) x y = bf (nthL L x) (nthL L y) := by
  unfold ltOf cfN cmpG
  cases bf (nthL L x) (nthL L y)
  · cases bf (nthL L y) (nthL L x) <;> rfl
  · rfl
theorem cfN_swo {bf : List Int → List Int → Bool} (h : TotB bf) (L : List (List Int)) : SWO (ltOf (cfN bf L)) where
  irrefl x := by rw [cfN_lt]; exact h.irr _
  trans x y z h1 h2 := by rw [cfN_lt] at *; exact h.trans _ _ _ h1 h2
  ntrans x y z h1 h2 := by
    rw [cfN_lt] at *
    rw [Bool.eq_false_iff]
    intro h3
    rcases h.tot (nthL L x) (nthL L y) with e | e | e
    · rw [e] at h3; rw [h3] at h2; exact absurd h2 (by simp)
    · rw [e] at h1; exact absurd h1 (by simp)
    · have := h.trans _ _ _ e h3
      rw [this] at h2; exact absurd h2 (by simp)
/-! ### the row's values by number -/
def encV (vs : List Value) (i : Nat) : Value := vs.getD i (.slice none 0 0)
theorem encV_nth {vs : List Value} {i : Nat} (h : i < vs.length) : encV vs i = nthV vs i := by simp [encV, nthV, h]
theorem encV_far {vs : List Value} {i : Nat} (h : vs.length ≤ i) : encV vs i = .slice none 0 0 := by simp [encV, h]
theorem nthL_far {L : List (List Int)} {i : Nat} (h : L.length ≤ i) : nthL L i = [] := by simp [nthL, h]
def idxA (n : Nat) : Array Nat := (List.range n).toArray
theorem idxA_size (n : Nat) : (idxA n).size = n := by simp [idxA]
theorem idxA_get {n j : Nat} (h : j < n) : (idxA n)[j]! = j := by
  rw [getElem!_pos _ j (by rw [idxA_size]; exact h)]; simp [idxA]
theorem map_nthL_range (L : List (List Int)) : (List.range L.length).map (nthL L) = L := by
  apply List.ext_getElem
  · simp
  · intro i h1 h2
    simp at h1
    simp [nthL, h1]
theorem sorted_out {bf : List Int → List Int → Bool} {L : List (List Int)} {d : Array Nat} (hp : PermIn 0 (idxA L.length).size (idxA L.length) d) (hs : SortedIn (ltOf (cfN bf L)) 0 (idxA L.length).size d) :
    d.size = L.length ∧ d.toList.Nodup ∧ (∀ i ∈ d.toList, i < L.length) ∧ (d.toList.map (nthL L)).Perm L ∧ (d.toList.map (nthL L)).Pairwise (fun a b => bf b a = false) := by
  obtain ⟨h1, _, h3⟩ := hp
  rw [idxA_size] at h1 h3 hs
  have e1 : (d.extract 0 L.length).toList = d.toList := by rw [← h1]; simp
  have e2 : ((idxA L.length).extract 0 L.length).toList = List.range L.length := by
    have := idxA_size L.length
    rw [Array.toList_extract]; simp [idxA, List.extract]
  rw [e1, e2] at h3
  refine ⟨h1, h3.nodup_iff.2 List.nodup_range, fun i hi => by have := h3.mem_iff.1 hi; simpa using this, ?_, ?_⟩
  · have := h3.map (nthL L)
    rwa [map_nthL_range] at this
  · rw [List.pairwise_map, List.pairwise_iff_getElem]
    intro i j hi hj hij
    have := hs i j (Nat.zero_le _) hij (by simp at hj; omega)
    rw [cfN_lt] at this
    rw [getElem!_pos d i (by simpa using hi), getElem!_pos d j (by simpa using hj)] at this
    simpa using this
/-! ### elements taken by number -/
theorem Els.byN {B H : Nat} {w : World} {vs : List Value} {L : List (List Int)} (h : Els B H w vs L) (idx : List Nat) (hn : idx.Nodup) (hlt : ∀ i ∈ idx, i < L.length) : Els B H w (idx.map (nthV vs)) (idx.map (nthL L)) := by
  have g1 : ∀ i, i < idx.length → ∃ j, idx[i]? = some j ∧ j < L.length ∧ nthV (idx.map (nthV vs)) i = nthV vs j ∧ nthL (idx.map (nthL L)) i = nthL L j := by
    intro i hi
    refine ⟨idx[i], by simp [hi], hlt _ (List.getElem_mem hi), ?_, ?_⟩
    · simp [nthV, hi]
    · simp [nthL, hi]
  refine ⟨by simp, fun i hi => ?_, fun i j c hij hj hi => ?_⟩
  · obtain ⟨j, _, h2, h3, h4⟩ := g1 i (by simpa using hi)
    rw [h3, h4]; exact h.el j h2
  · have hj' : j < idx.length := by simpa using hj
    obtain ⟨a, a1, a2, a3, _⟩ := g1 i (by omega)
    obtain ⟨b, b1, b2, b3, _⟩ := g1 j hj'
    rw [a3] at hi
    rw [b3]
    have hab : a ≠ b := by
      intro e
      subst e
      have e1 : idx[i]'(by omega) = a := by have := a1; rw [List.getElem?_eq_getElem (by omega)] at this; simpa using this
      have e2 : idx[j]'hj' = a := by have := b1; rw [List.getElem?_eq_getElem hj'] at this; simpa using this
      exact (List.pairwise_iff_getElem.1 hn) i j (by omega) hj' hij (by rw [e1, e2])
    rcases Nat.lt_or_gt_of_ne hab with e | e
    · exact h.apart a b c e b2 hi
    · intro hc; exact h.apart b a c e a2 hc hi
/-! ### the sort's worlds -/
theorem heap_sortWorld (enc : Nat → Value) (w : World) (blk off m : Nat) (d : Array Nat) (os : Array Obj) (k : Nat) (hk : k < w.heap.size) (hne : k ≠ blk) : (sortWorld enc w blk off m d os).heap[k]? = w.heap[k]? := by
  unfold sortWorld Go.Sort.grow putRow mapBlock Go.Sort.ahead
  have hs : (w.heap.modify blk (onCells (putCells enc off d))).size = w.heap.size := by simp
  simp only [Array.getElem?_append, hs, if_pos hk]
  rw [Array.getElem?_modify, if_neg (fun e => hne e.symm)]
theorem upd_sortWorld (enc : Nat → Value) (w : World) (blk off m : Nat) (d : Array Nat) (os : Array Obj) : Upd (· = blk) w (sortWorld enc w blk off m d os) := by
  refine ⟨rfl, rfl, rfl, ?_, fun k hk hne => heap_sortWorld enc w blk off m d os k hk hne⟩
  unfold sortWorld Go.Sort.grow putRow mapBlock Go.Sort.ahead
  simp
theorem Row.sorted {e : TypeId} {w : World} {b cap : Nat} {vs : List Value} (h : Row e w b cap vs) (enc : Nat → Value) (d : Array Nat) (hd : d.size = vs.length) (m : Nat) (os : Array Obj) : Row e (sortWorld enc w b 0 m d os) b cap (d.toList.map enc) := by
  have hlt := h.lt
  obtain ⟨cur, h1, h2, h3⟩ := h.cur
  have hle := h.le
  refine ⟨by simp [hd, hle], h.mx, putCells enc 0 d cur, ?_, by simp [putCells, h2], ?_⟩
  · unfold sortWorld Go.Sort.grow putRow mapBlock Go.Sort.ahead
    have hs : (w.heap.modify b (onCells (putCells enc 0 d))).size = w.heap.size := by simp
    simp only [Array.getElem?_append, hs, if_pos hlt]
    rw [Array.getElem?_modify, if_pos rfl, h1]
    rfl
  · apply List.ext_getElem
    · simp [putCells, h2, hd]; omega
    · intro i hi hj
      simp at hj
      simp [putCells, hj]
theorem Row.holds {e : TypeId} {w : World} {b cap : Nat} {vs : List Value} (h : Row e w b cap vs) : Holds (encV vs) w b 0 (idxA vs.length) := by
  intro j hj
  rw [idxA_size] at hj
  rw [idxA_get hj, Nat.zero_add]
  exact ⟨by rw [encV_nth hj]; exact h.cell (nthV_get hj), h.free _ _⟩
/-- the row behind the sort. -/
theorem RR.sorted {bf : List Int → List Int → Bool} {B H : Nat} {w : World} {b cap : Nat} {vs : List Value} {L : List (List Int)} (h1 : Row 22 w b cap vs) (h2 : Els B H w vs L) (h3 : ∀ i, i < L.length → (nthV vs i).ownBlock ≠ some b) (h4 : B ≤ b) (h5 : b < H)
    {d : Array Nat} (hp : PermIn 0 (idxA L.length).size (idxA L.length) d) (hs : SortedIn (ltOf (cfN bf L)) 0 (idxA L.length).size d) (m : Nat) (os : Array Obj) :
    ∃ L', RR B H (sortWorld (encV vs) w b 0 m d os) b cap L' ∧ L'.Perm L ∧ L'.Pairwise (fun a b => bf b a = false) := by
  obtain ⟨e1, e2, e3, e4, e5⟩ := sorted_out hp hs
  have hu := upd_sortWorld (encV vs) w b 0 m d os
  have hl := h2.len
  have hmap : d.toList.map (encV vs) = d.toList.map (nthV vs) := List.map_congr_left fun i hi => encV_nth (by rw [hl]; exact e3 i hi)
  have hr := h1.sorted (encV vs) d (by omega) m os
  rw [hmap] at hr
  refine ⟨d.toList.map (nthL L), ⟨_, hr, (h2.byN d.toList e2 e3).upd hu (fun i c hi hc e => ?_), fun i hi => ?_, h4, h5⟩, e4, e5⟩
  · have hi' : i < d.toList.length := by simpa using hi
    have : nthV (d.toList.map (nthV vs)) i = nthV vs (d.toList[i]) := by simp [nthV, show i < d.size by simpa using hi']
    rw [this, e] at hc
    exact h3 _ (e3 _ (List.getElem_mem hi')) hc
  · have hi' : i < d.toList.length := by simpa using hi
    have : nthV (d.toList.map (nthV vs)) i = nthV vs (d.toList[i]) := by simp [nthV, show i < d.size by simpa using hi']
    rw [this]
    exact h3 _ (e3 _ (List.getElem_mem hi'))
/-! ### calls that lay blocks and draw, and turn nothing -/
def Lay (w w' : World) : Prop := ∃ q os, w' = Go.Sort.grow (w.drewN q) os
theorem Lay.refl (w : World) : Lay w w := ⟨0, #[], by rw [grow_empty]; rfl⟩
theorem Lay.trans {a b c : World} (h : Lay a b) (k : Lay b c) : Lay a c := by
  obtain ⟨q, os, rfl⟩ := h
  obtain ⟨q2, os2, rfl⟩ := k
  refine ⟨q + q2, os ++ os2, ?_⟩
  show Go.Sort.grow (Go.Sort.grow ((a.drewN q).drewN q2) os) os2 = _
  rw [grow_grow, World.drewN_drewN]
theorem Lay.alloc (w : World) (o : Obj) : Lay w (w.alloc o) := ⟨0, #[o], alloc_eq_grow w o⟩
theorem Lay.qt {w w' : World} (h : Qt w w') : Lay w w' := by obtain ⟨m, rfl⟩ := h; exact ⟨m, #[], by rw [grow_empty]⟩
theorem Lay.drewN (w : World) (n : Nat) : Lay w (w.drewN n) := ⟨n, #[], by rw [grow_empty]⟩
theorem Lay.drew (w : World) : Lay w w.drew := Lay.drewN w 1
theorem Lay.ext {w w' : World} (h : Lay w w') : Ext w w' := by
  obtain ⟨q, os, rfl⟩ := h
  refine ⟨rfl, rfl, rfl, by simp [Go.Sort.grow, World.drewN], fun k hk _ => ?_⟩
  show (w.heap ++ os)[k]? = _
  rw [Array.getElem?_append, if_pos hk]
/-- what the sort asks of a comparison of rows. -/
theorem cmp_lays {P : Program} {g : Nat} {bf : List Int → List Int → Bool} {B H : Nat} {w : World} {b : Nat} {vs : List Value} {L : List (List Int)} (h2 : Els B H w vs L) (h3 : ∀ i, i < L.length → (nthV vs i).ownBlock ≠ some b)
    (hc : ∀ (u v : Value) (xs ys : List Int) (W : World), SI W u xs → SI W v ys → (xs ∈ L ∨ xs = []) → (ys ∈ L ∨ ys = []) → Calls P g #[u, v] W fun e w' => e = .returned (.int .i64 (cmpG bf xs ys)) ∧ Lay W w') :
    CmpLays1 P g #[] (encV vs) (cfN bf L) b 0 (idxA L.length).size w := by
  intro m os dk _ x y
  have hu := upd_sortWorld (encV vs) w b 0 m dk os
  have hl := h2.len
  have key : ∀ x, SI (sortWorld (encV vs) w b 0 m dk os) (encV vs x) (nthL L x) ∧ (nthL L x ∈ L ∨ nthL L x = []) := by
    intro x
    rcases Nat.lt_or_ge x L.length with h | h
    · rw [encV_nth (by omega)]
      exact ⟨((h2.el x h).upd hu (fun c hc _ _ e => h3 x h (by rw [hc, e]))).si, .inl (nthL_mem h)⟩
    · rw [encV_far (by omega), nthL_far h]
      exact ⟨⟨none, 0, rfl, Nat.le_refl _, Nat.zero_le _, by simp, .inl rfl⟩, .inr rfl⟩
  exact hc _ _ _ _ _ (key x).1 (key y).1 (key x).2 (key y).2
end Go.Proofs.Ytcifngcmdiokpaa
