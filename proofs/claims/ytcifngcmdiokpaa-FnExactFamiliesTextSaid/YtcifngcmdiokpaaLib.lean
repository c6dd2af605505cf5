/- Small words on worlds and rows of memory for the proofs of this seat: what is kept (Upd, Ext), rows that a call owns (Row), slices that can be read (SI, SII). No program text is walked here. Conditions: none. -/
import Derived.Test.YtcifngcmdiokpaaRows
import Derived.WalkKit
import Derived.WalkSpells
import Derived.WalkLawsBesides
import Derived.Deep.QuietTactic
import Derived.BigQuiet
import Derived.Lib.Hide
import Derived.Handy
import Derived.Lib.SliceRun
namespace Go.Proofs.Ytcifngcmdiokpaa
open Go.RowKit

/-- Of the blocks of w all but those in D are in w' as they were. -/
structure Upd (D : Nat → Prop) (w w' : World) : Prop where
  os : w'.os = w.os
  tape : w'.tape = w.tape
  output : w'.output = w.output
  size : w.heap.size ≤ w'.heap.size
  block : ∀ k, k < w.heap.size → ¬ D k → w'.heap[k]? = w.heap[k]?

/-- All blocks of w are in w' as they were. -/
def Ext (w w' : World) : Prop := Upd (fun _ => False) w w'

theorem Upd.refl (D : Nat → Prop) (w : World) : Upd D w w := ⟨rfl, rfl, rfl, Nat.le_refl _, fun _ _ _ => rfl⟩
theorem Upd.comp {D D' E : Nat → Prop} {a b c : World} (h : Upd D a b) (k : Upd E b c) (hD : ∀ i, i < a.heap.size → D i → D' i) (hE : ∀ i, i < a.heap.size → E i → D' i) : Upd D' a c :=
  ⟨k.os.trans h.os, k.tape.trans h.tape, k.output.trans h.output, Nat.le_trans h.size k.size, fun i hi hn =>
    (k.block i (Nat.lt_of_lt_of_le hi h.size) (fun e => hn (hE i hi e))).trans (h.block i hi (fun e => hn (hD i hi e)))⟩
theorem Upd.trans {D : Nat → Prop} {a b c : World} (h : Upd D a b) (k : Upd D b c) : Upd D a c := h.comp k (fun _ _ h => h) (fun _ _ h => h)
theorem Upd.mono {D E : Nat → Prop} {a b : World} (h : Upd D a b) (hD : ∀ i, i < a.heap.size → D i → E i) : Upd E a b := h.comp (Upd.refl (fun _ => False) b) hD (fun _ _ h => h.elim)
theorem Upd.alloc (w : World) (o : Obj) (D : Nat → Prop) : Upd D w (w.alloc o) := ⟨rfl, rfl, rfl, by simp, fun k hk _ => Below.heap_alloc _ _ _ hk⟩
theorem Upd.setCell (w : World) (a : Addr) (v : Value) : Upd (· = a.block) w (w.setCell a v) := ⟨rfl, rfl, rfl, by simp, fun k _ hn => Below.heap_setCell _ _ _ _ hn⟩
theorem Upd.drewN (w : World) (n : Nat) (D : Nat → Prop) : Upd D w (w.drewN n) := ⟨rfl, rfl, rfl, Nat.le_refl _, fun _ _ _ => rfl⟩
theorem Upd.drew (w : World) (D : Nat → Prop) : Upd D w w.drew := ⟨rfl, rfl, rfl, Nat.le_refl _, fun _ _ _ => rfl⟩

/-- w' is w but for draws. -/
def Qt (w w' : World) : Prop := ∃ m, w' = w.drewN m
theorem Qt.refl (w : World) : Qt w w := ⟨0, rfl⟩
theorem Qt.drewN {w w' : World} (h : Qt w w') (n : Nat) : Qt w (w'.drewN n) := by obtain ⟨m, rfl⟩ := h; exact ⟨m + n, World.drewN_drewN ..⟩
theorem Qt.trans {a b c : World} (h : Qt a b) (k : Qt b c) : Qt a c := by obtain ⟨m, rfl⟩ := k; exact h.drewN m
theorem Qt.ext {w w' : World} (h : Qt w w') : Upd (fun _ => False) w w' := by obtain ⟨m, rfl⟩ := h; exact Upd.drewN w m _
theorem dr2 (w : World) (m n : Nat) : ∃ k, (w.drewN m).drewN n = w.drewN k := ⟨_, World.drewN_drewN ..⟩
theorem Ext.refl (w : World) : Ext w w := Upd.refl _ w
theorem Ext.trans {a b c : World} (h : Ext a b) (k : Ext b c) : Ext a c := Upd.trans h k
theorem Ext.size {a b : World} (h : Ext a b) : a.heap.size ≤ b.heap.size := Upd.size h
theorem Ext.alloc {a w : World} (h : Ext a w) (o : Obj) : Ext a (w.alloc o) := h.trans (Upd.alloc w o _)
theorem Ext.drewN {a w : World} (h : Ext a w) (n : Nat) : Ext a (w.drewN n) := h.trans (Upd.drewN w n _)
theorem Ext.drew {a w : World} (h : Ext a w) : Ext a w.drew := h.trans (Upd.drew w _)
theorem Ext.upd {a w w' : World} {D : Nat → Prop} (h : Ext a w) (k : Upd D w w') (hD : ∀ i, D i → a.heap.size ≤ i) : Ext a w' :=
  Upd.comp h k (fun _ _ h => h) (fun i hi hd => absurd (hD i hd) (by omega))
theorem Ext.upd1 {a w w' : World} {b : Nat} (h : Ext a w) (k : Upd (· = b) w w') (hb : a.heap.size ≤ b) : Ext a w' := h.upd k (fun i e => by subst e; exact hb)
theorem Ext.setCell {a w : World} (h : Ext a w) {p : Addr} (hp : a.heap.size ≤ p.block) (v : Value) : Ext a (w.setCell p v) := h.upd1 (Upd.setCell w p v) hp
theorem Ext.toUpd {a b : World} (h : Ext a b) (D : Nat → Prop) : Upd D a b := Upd.mono h (fun _ _ h => h.elim)
theorem Ext.below {a b : World} (h : Ext a b) : Below a.heap.size a b := ⟨h.os, h.tape, h.output, h.size, fun k hk => Upd.block h k hk id⟩

theorem Upd.cell {D : Nat → Prop} {w w' : World} (h : Upd D w w') {p : Addr} {v : Value} (hv : w.cell? p = some v) (hp : ¬ D p.block) : w'.cell? p = some v := by
  rw [World.cell?_of_block (h.block _ (World.block_lt_of_cell? _ _ hv) hp)]; exact hv
theorem Ext.cell {w w' : World} (h : Ext w w') {p : Addr} {v : Value} (hv : w.cell? p = some v) : w'.cell? p = some v := Upd.cell h hv id

/-! ### lists by number, behind names that the walk does not open -/
def nth (xs : List Int) (k : Nat) : Int := xs.getD k 0
def nthL (xs : List (List Int)) (k : Nat) : List Int := xs.getD k []
theorem nth_get {xs : List Int} {k : Nat} (h : k < xs.length) : nth xs k = xs[k] := by simp [nth, h]
theorem nthL_get {xs : List (List Int)} {k : Nat} (h : k < xs.length) : nthL xs k = xs[k] := by simp [nthL, h]
theorem take_nth {xs : List Int} {k : Nat} (h : k < xs.length) : xs.take (k + 1) = xs.take k ++ [nth xs k] := by
  rw [List.take_succ_eq_append_getElem h, nth_get h]
theorem take_nthL {xs : List (List Int)} {k : Nat} (h : k < xs.length) : xs.take (k + 1) = xs.take k ++ [nthL xs k] := by
  rw [List.take_succ_eq_append_getElem h, nthL_get h]
theorem drop_nth {xs : List Int} {k : Nat} (h : k < xs.length) : xs.drop k = nth xs k :: xs.drop (k + 1) := by
  rw [List.drop_eq_getElem_cons h, nth_get h]
theorem drop_nthL {xs : List (List Int)} {k : Nat} (h : k < xs.length) : xs.drop k = nthL xs k :: xs.drop (k + 1) := by
  rw [List.drop_eq_getElem_cons h, nthL_get h]
theorem nth_mem {xs : List Int} {k : Nat} (h : k < xs.length) : nth xs k ∈ xs := by rw [nth_get h]; exact List.getElem_mem h
theorem nthL_mem {xs : List (List Int)} {k : Nat} (h : k < xs.length) : nthL xs k ∈ xs := by rw [nthL_get h]; exact List.getElem_mem h
theorem take_all {α : Type} {xs : List α} {k : Nat} (h : xs.length ≤ k) : xs.take k = xs := List.take_of_length_le h

abbrev vals (xs : List Int) : List Value := xs.map (Value.int .i64)

/-! ### rows that the call owns -/
structure Row (e : TypeId) (w : World) (b cap : Nat) (xs : List Value) : Prop where
  le : xs.length ≤ cap
  mx : cap ≤ maxLen
  cur : ∃ cur, w.heap[b]? = some (.cells cur e (0, 0)) ∧ cur.size = cap ∧ cur.toList.take xs.length = xs

theorem Row.lt {e : TypeId} {w : World} {b cap : Nat} {xs : List Value} (h : Row e w b cap xs) : b < w.heap.size := by
  obtain ⟨cur, hb, _⟩ := h.cur
  rcases Nat.lt_or_ge b w.heap.size with h | h
  · exact h
  · simp [Array.getElem?_eq_none h] at hb
theorem Row.upd {e : TypeId} {w w' : World} {b cap : Nat} {xs : List Value} {D : Nat → Prop} (h : Row e w b cap xs) (hu : Upd D w w') (hb : ¬ D b) : Row e w' b cap xs :=
  ⟨h.le, h.mx, by obtain ⟨cur, h1, h2⟩ := h.cur; exact ⟨cur, (hu.block b h.lt hb).trans h1, h2⟩⟩
theorem Row.ext {e : TypeId} {w w' : World} {b cap : Nat} {xs : List Value} (h : Row e w b cap xs) (hu : Ext w w') : Row e w' b cap xs := h.upd hu id
theorem Row.cell {e : TypeId} {w : World} {b cap : Nat} {xs : List Value} (h : Row e w b cap xs) {j : Nat} {v : Value} (hj : xs[j]? = some v) : w.cell? ⟨b, j, none⟩ = some v := by
  obtain ⟨cur, h1, h2, h3⟩ := h.cur
  simp only [World.cell?, h1]
  have hl : j < xs.length := by
    rcases Nat.lt_or_ge j xs.length with h | h
    · exact h
    · simp [List.getElem?_eq_none h] at hj
  rw [← h3] at hj
  rw [List.getElem?_take_of_lt hl] at hj
  simpa using hj
theorem Row.spare {e : TypeId} {w : World} {b cap : Nat} {xs : List Value} (h : Row e w b cap xs) {j : Nat} (hj : j < cap) : ∃ v, w.cell? ⟨b, j, none⟩ = some v := by
  obtain ⟨cur, h1, h2, h3⟩ := h.cur
  exact ⟨cur[j]'(by omega), by simp [World.cell?, h1, show j < cur.size by omega]⟩
theorem Row.free {e : TypeId} {w : World} {b cap : Nat} {xs : List Value} (h : Row e w b cap xs) (j : Nat) (s : Option Nat) : w.frozen? ⟨b, j, s⟩ = false := by
  obtain ⟨cur, h1, _⟩ := h.cur
  simp [World.frozen?, h1]
theorem Row.set {e : TypeId} {w : World} {b cap : Nat} {xs : List Value} (h : Row e w b cap xs) (j : Nat) (v : Value) : Row e (w.setCell ⟨b, j, none⟩ v) b cap (xs.set j v) := by
  refine ⟨by simpa using h.le, h.mx, ?_⟩
  obtain ⟨cur, h1, h2, h3⟩ := h.cur
  refine ⟨cur.setIfInBounds j v, ?_, by simpa using h2, ?_⟩
  · exact heap_setCell_same w b j cur e v h1
  · rw [List.length_set, Array.toList_setIfInBounds, List.take_set, h3]
theorem Row.new (e : TypeId) (w : World) (xs : List Value) (h : xs.length ≤ maxLen) : Row e (w.alloc (.cells xs.toArray e)) w.heap.size xs.length xs :=
  ⟨Nat.le_refl _, h, ⟨xs.toArray, heap_alloc_new _ _, by simp, by simp⟩⟩
theorem Row.shrink {e : TypeId} {w : World} {b cap : Nat} {xs : List Value} (h : Row e w b cap xs) (n : Nat) : Row e w b cap (xs.take n) := by
  refine ⟨by have := h.le; simp; omega, h.mx, ?_⟩
  obtain ⟨cur, h1, h2, h3⟩ := h.cur
  refine ⟨cur, h1, h2, ?_⟩
  conv => rhs; rw [← h3]
  rw [List.take_take, List.length_take]

theorem run_append_row {P : Program} (w : World) (t ty e : TypeId) (i : TypeInfo) (z : Value) (ht : P.underlying t = some (.slice e)) (hi : P.info? e = some i) (hz : i.zero = some z)
    (hsize : i.size = 1) (hzs : z.cells.size = 1) (b cap : Nat) (xs : List Value) (hr : Row e w b cap xs)
    (a : Addr) (m c : Nat) (news : List Value) (hl : news.length = m) (hnews : ∀ j u, news[j]? = some u → w.cell? (a.add j) = some u) (h1 : ∀ u ∈ news, u.oneCell' = true)
    (hbytes : (xs.length + m) * i.bytes ≤ 140737488355328) (h63 : xs.length + m ≤ maxLen) :
    ∃ b' cap' w', (Builtin.append_ #[t, t] ty #[.slice (some ⟨b, 0, none⟩) xs.length cap, .slice (some a) m c]).run P w = .ok (.slice (some ⟨b', 0, none⟩) (xs.length + m) cap') w' ∧
      Row e w' b' cap' (xs ++ news) ∧ (b' = b ∨ w.heap.size ≤ b') ∧ Upd (· = b) w w' := by
  obtain ⟨cur, hg, hcs, htake⟩ := hr.cur
  have hle := hr.le
  have hlen : (xs ++ news).length = xs.length + m := by simp [hl]
  by_cases hroom : xs.length + m ≤ cap
  · have hx := run_append_room (P := P) w t ty e i ht hi b xs.length cap cur hg a m c news (by simp [hl, hsize]) hnews h1 hroom (by rw [hsize, hl]; omega)
    refine ⟨_, _, _, hx, ⟨by omega, hr.mx, ⟨_, setRow_heap w b cur _ e _ hg, ?_, ?_⟩⟩, .inl rfl, ⟨rfl, rfl, rfl, by simp, fun k _ hk => setRow_other w b k _ hk⟩⟩
    · simp only [hsize, List.size_toArray, List.length_append, List.length_take, List.length_drop, Array.length_toList]
      omega
    · rw [hsize, Nat.mul_one, htake]
      exact List.take_left
  · have hx := run_append_grow (P := P) w t ty e i z ht hi hz ⟨b, 0, none⟩ xs.length cap xs (by simp [hsize]) (fun j v hj => by
        rw [Addr.add_lit, Nat.zero_add]; exact hr.cell hj) a m c news (by simp [hl, hsize]) hnews (by omega) (by simp only [maxLen] at h63; omega) (growslice_fits (by omega) hbytes)
    have hge := grownCap_ge w (xs.length + m) cap e
    refine ⟨_, _, _, hx, ⟨by omega, grownCap_le_maxLen w _ cap e h63, ⟨_, heap_alloc_new w.drew _, ?_, ?_⟩⟩, .inr (Nat.le_refl _), ⟨rfl, rfl, rfl, by simp, fun k hk _ => Below.heap_alloc w.drew _ k hk⟩⟩
    · simp only [Array.size_append, List.size_toArray, size_zeroCells, hzs, hl]
      omega
    · simp only [Array.toList_append, List.append_assoc]
      rw [← List.append_assoc]
      exact List.take_left

/-- append, onto a row that the call owns, of what lies in memory: at the head of a list of operations. -/
theorem wpl_app {P : Program} {w : World} {ops : Array Oper} {rest : List Oper} {o : Oper} {a : Act} {Q : Exit → Act → World → Prop} (hgd : o.guard = none) (s x : Operand) (t : TypeId)
    (ho : o.op = .call { callee := .builtin .append, args := #[s, x], argTypes := #[t, t] })
    (e : TypeId) (i : TypeInfo) (z : Value) (ht : P.underlying t = some (.slice e)) (hi : P.info? e = some i) (hz : i.zero = some z) (hsize : i.size = 1) (hzs : z.cells.size = 1)
    (b cap n : Nat) (xs : List Value) (hs : a.eval s = .slice (some ⟨b, 0, none⟩) n cap) (hr : Row e w b cap xs) (hn : n = xs.length)
    (ad : Addr) (m c : Nat) (news : List Value) (hx : a.eval x = .slice (some ad) m c) (hl : news.length = m) (hnews : ∀ j u, news[j]? = some u → w.cell? (ad.add j) = some u) (h1 : ∀ u ∈ news, u.oneCell' = true)
    (hbytes : (n + m) * i.bytes ≤ 140737488355328) (h63 : n + m ≤ maxLen)
    (h : ∀ b' cap' w', Row e w' b' cap' (xs ++ news) → (b' = b ∨ w.heap.size ≤ b') → Upd (· = b) w w' → wpList P ops Q rest (a.put o.dst (.slice (some ⟨b', 0, none⟩) (n + m) cap')) w') :
    wpList P ops Q (o :: rest) a w := by
  subst hn
  obtain ⟨b', cap', w', hrun, h2, h3, h4⟩ := run_append_row (P := P) w t o.type e i z ht hi hz hsize hzs b cap xs hr ad m c news hl hnews h1 hbytes h63
  refine wpList_plain hgd fun K hK => ?_
  unfold Oper.wp execOp
  simp only [ho, resolve, invoke, builtin, Sem.run_bind, Sem.run_pure, Result.andThen_ok, List.map_toArray, List.map_cons, List.map_nil, hs, hx, hrun]
  exact hK _ _ (h b' cap' w' h2 h3 h4)

theorem Row.of_owns {w : World} {base : Nat} {e : TypeId} {g n cap : Nat} {xs : List Value} (h : w.ownsRow base e 1 (.slice (some ⟨g, 0, none⟩) n cap) n xs) : Row e w g cap xs ∧ xs.length = n ∧ base ≤ g := by
  obtain ⟨h1, h2⟩ := h
  rcases h2 with ⟨h2, _⟩ | ⟨g', cap', cur, h2, hb, hg, hn, hm, hs, ht⟩
  · simp at h2
  · simp only [Value.slice.injEq, Option.some.injEq, Addr.mk.injEq, and_true, true_and] at h2
    obtain ⟨rfl, rfl⟩ := h2
    have hl : xs.length = n := by omega
    exact ⟨⟨by omega, hm, ⟨cur, hg, by omega, by rw [hl]; simpa using ht⟩⟩, hl, hb⟩

theorem Upd.of_grown {w w' : World} (h : w.grownBy w' none) : Ext w w' := ⟨h.os, h.tape, h.output, h.size, fun k hk _ => h.block k hk (by simp)⟩

/-- 'make([]T, n)', T of one cell. -/
theorem wpl_make {P : Program} {w : World} {ops : Array Oper} {rest : List Oper} {o : Oper} {a : Act} {Q : Exit → Act → World → Prop}
    (hg : o.guard = none) (l c : Operand) (t : TypeId) (hop : o.op = Op.makeSlice t l c)
    (e : TypeId) (i : TypeInfo) (z : Value) (h1 : P.underlying t = some (.slice e)) (h2 : P.info? e = some i) (h3 : i.zero = some z) (h4 : i.size = 1) (hz : z.cells = #[z])
    (n : Nat) (kl kc : IntKind) (L C : Int) (hl : a.eval l = .int kl L) (hc : a.eval c = .int kc C) (hL : L = (n : Int)) (hC : C = (n : Int)) (b2 : i.bytes * n ≤ 281474976710656) (b3 : n ≤ maxLen)
    (hK : ∀ w', Row e w' w.heap.size n (List.replicate n z) → Ext w w' → w.heap.size < w'.heap.size → wpList P ops Q rest (a.put o.dst (.slice (some ⟨w.heap.size, 0, none⟩) n n)) w') :
    wpList P ops Q (o :: rest) a w := by
  refine wpList_make_full w hg l c t hop w.heap.size e i z 1 h1 h2 h3 h4 kl kc L C n hl hc hL hC b2 b3 (Nat.le_refl _) ?_
  intro w' r1 r2
  rw [hz, Nat.mul_one, toList_madeCells_one] at r1
  obtain ⟨r3, _, _⟩ := Row.of_owns r1
  exact hK w' r3 (Upd.of_grown r2) r3.lt

theorem vals_rep (n : Nat) : List.replicate n (Value.int .i64 0) = vals (List.replicate n 0) := by simp [vals]

/-! ### slices that can be read -/
def RI (w : World) (a : Option Addr) (xs : List Int) : Prop :=
  xs = [] ∨ ∃ b off, a = some ⟨b, off, none⟩ ∧ ∀ i, i < xs.length → w.cell? ⟨b, off + i, none⟩ = some (.int .i64 (nth xs i))

/-- v is a slice of ints in w that reads as xs. -/
def SI (w : World) (v : Value) (xs : List Int) : Prop :=
  ∃ a cap, v = .slice a xs.length cap ∧ xs.length ≤ cap ∧ cap ≤ maxLen ∧ (a = none → cap = 0) ∧ RI w a xs

theorem RI.upd {D : Nat → Prop} {w w' : World} {a : Option Addr} {xs : List Int} (h : RI w a xs) (hu : Upd D w w') (hD : ∀ b off s, a = some ⟨b, off, s⟩ → ¬ D b) : RI w' a xs := by
  rcases h with h | ⟨b, off, rfl, hc⟩
  · exact .inl h
  · exact .inr ⟨b, off, rfl, fun i hi => hu.cell (hc i hi) (hD b off none rfl)⟩
theorem RI.ext {w w' : World} {a : Option Addr} {xs : List Int} (h : RI w a xs) (hu : Ext w w') : RI w' a xs := h.upd hu (fun _ _ _ _ => id)
theorem SI.ext {w w' : World} {v : Value} {xs : List Int} (h : SI w v xs) (hu : Ext w w') : SI w' v xs := by
  obtain ⟨a, cap, h1, h2, h3, h4, h5⟩ := h
  exact ⟨a, cap, h1, h2, h3, h4, h5.ext hu⟩
theorem SI.nil (w : World) : SI w (.slice none 0 0) [] := ⟨none, 0, rfl, Nat.le_refl _, Nat.zero_le _, fun _ => rfl, .inl rfl⟩

theorem vals_get {xs : List Int} {j : Nat} (h : j < xs.length) : (vals xs)[j]? = some (.int .i64 (nth xs j)) := by
  simp [vals, h, nth_get h]
theorem vals_set (xs : List Int) (j : Nat) (x : Int) : (vals xs).set j (.int .i64 x) = vals (xs.set j x) := by simp [vals, List.map_set]
theorem vals_one (xs : List Int) : ∀ u ∈ vals xs, u.oneCell' = true := by
  intro u hu; obtain ⟨_, _, rfl⟩ := List.mem_map.1 hu; rfl

theorem Row.ri {e : TypeId} {w : World} {b cap : Nat} {xs : List Int} (h : Row e w b cap (vals xs)) : RI w (some ⟨b, 0, none⟩) xs :=
  .inr ⟨b, 0, rfl, fun i hi => by have := h.cell (vals_get hi); simpa using this⟩
theorem Row.si {e : TypeId} {w : World} {b cap : Nat} {xs : List Int} (h : Row e w b cap (vals xs)) : SI w (.slice (some ⟨b, 0, none⟩) xs.length cap) xs :=
  ⟨_, cap, rfl, by have := h.le; simpa using this, h.mx, by simp, h.ri⟩
theorem Row.icell {e : TypeId} {w : World} {b cap : Nat} {xs : List Int} (h : Row e w b cap (vals xs)) {j : Nat} (hj : j < xs.length) : w.cell? ⟨b, j, none⟩ = some (.int .i64 (nth xs j)) := h.cell (vals_get hj)

/-- v is a slice of ints that reads as xs and lies in a block of its own, from block B on and below block H (or is nil). -/
def OI (B H : Nat) (w : World) (v : Value) (xs : List Int) : Prop :=
  (v = .slice none 0 0 ∧ xs = []) ∨ ∃ b cap, v = .slice (some ⟨b, 0, none⟩) xs.length cap ∧ B ≤ b ∧ b < H ∧ Row 3 w b cap (vals xs)
theorem OI.si {B H : Nat} {w : World} {v : Value} {xs : List Int} (h : OI B H w v xs) : SI w v xs := by
  rcases h with ⟨rfl, rfl⟩ | ⟨b, cap, rfl, _, _, h⟩
  · exact SI.nil w
  · exact h.si
theorem OI.upd {B H : Nat} {D : Nat → Prop} {w w' : World} {v : Value} {xs : List Int} (h : OI B H w v xs) (hu : Upd D w w') (hD : ∀ b, v.ownBlock = some b → B ≤ b → b < H → ¬ D b) : OI B H w' v xs := by
  rcases h with h | ⟨b, cap, rfl, h2, h3, h4⟩
  · exact .inl h
  · exact .inr ⟨b, cap, rfl, h2, h3, h4.upd hu (hD b rfl h2 h3)⟩
theorem OI.ext {B H : Nat} {w w' : World} {v : Value} {xs : List Int} (h : OI B H w v xs) (hu : Ext w w') : OI B H w' v xs := h.upd hu (fun _ _ _ _ => id)
theorem OI.mono {B B' H H' : Nat} {w : World} {v : Value} {xs : List Int} (h : OI B H w v xs) (hB : B' ≤ B) (hH : H ≤ H') : OI B' H' w v xs := by
  rcases h with h | ⟨b, cap, h1, h2, h3, h4⟩
  · exact .inl h
  · exact .inr ⟨b, cap, h1, Nat.le_trans hB h2, Nat.lt_of_lt_of_le h3 hH, h4⟩
theorem OI.row {B : Nat} {w : World} {b cap n : Nat} {xs : List Int} (h : Row 3 w b cap (vals xs)) (hB : B ≤ b) (hn : n = xs.length) : OI B w.heap.size w (.slice (some ⟨b, 0, none⟩) n cap) xs := by
  subst hn; exact .inr ⟨b, cap, rfl, hB, h.lt, h⟩
theorem OI.nil (B H : Nat) (w : World) : OI B H w (.slice none 0 0) [] := .inl ⟨rfl, rfl⟩
theorem OI.own {B H : Nat} {w : World} {v : Value} {xs : List Int} (h : OI B H w v xs) {b : Nat} (hb : v.ownBlock = some b) : B ≤ b ∧ b < H := by
  rcases h with ⟨rfl, _⟩ | ⟨b', cap, rfl, h2, h3, _⟩
  · simp [Value.ownBlock] at hb
  · simp [Value.ownBlock] at hb; omega

/-! ### slices of slices -/
def nthV (vs : List Value) (k : Nat) : Value := vs.getD k undef
theorem nthV_get {vs : List Value} {k : Nat} (h : k < vs.length) : vs[k]? = some (nthV vs k) := by simp [nthV, h]
theorem nthV_append_lt {vs us : List Value} {k : Nat} (h : k < vs.length) : nthV (vs ++ us) k = nthV vs k := by simp [nthV, List.getElem?_append, h]
theorem nthV_append_last (vs : List Value) (u : Value) : nthV (vs ++ [u]) vs.length = u := by simp [nthV]
theorem nthL_append_lt {vs us : List (List Int)} {k : Nat} (h : k < vs.length) : nthL (vs ++ us) k = nthL vs k := by simp [nthL, List.getElem?_append, h]
theorem nthL_append_last (vs : List (List Int)) (u : List Int) : nthL (vs ++ [u]) vs.length = u := by simp [nthL]
theorem nthL_set_same {vs : List (List Int)} {k : Nat} (u : List Int) (h : k < vs.length) : nthL (vs.set k u) k = u := by simp [nthL, h]
theorem nthL_set_other {vs : List (List Int)} {k j : Nat} (u : List Int) (h : k ≠ j) : nthL (vs.set k u) j = nthL vs j := by simp [nthL, h]

def SII (w : World) (v : Value) (xss : List (List Int)) : Prop :=
  ∃ a cap, v = .slice a xss.length cap ∧ xss.length ≤ cap ∧ cap ≤ maxLen ∧ (a = none → cap = 0) ∧
    (xss = [] ∨ ∃ b off, a = some ⟨b, off, none⟩ ∧ ∀ i, i < xss.length → ∃ u, w.cell? ⟨b, off + i, none⟩ = some u ∧ SI w u (nthL xss i))
theorem SII.ext {w w' : World} {v : Value} {xss : List (List Int)} (h : SII w v xss) (hu : Ext w w') : SII w' v xss := by
  obtain ⟨a, cap, h1, h2, h3, h4, h5⟩ := h
  refine ⟨a, cap, h1, h2, h3, h4, ?_⟩
  rcases h5 with h5 | ⟨b, off, h5, h6⟩
  · exact .inl h5
  · exact .inr ⟨b, off, h5, fun i hi => by obtain ⟨u, h7, h8⟩ := h6 i hi; exact ⟨u, hu.cell h7, h8.ext hu⟩⟩

/-- the values vs are slices of their own, no two in one block, that read as xss. -/
structure Els (B H : Nat) (w : World) (vs : List Value) (xss : List (List Int)) : Prop where
  len : vs.length = xss.length
  el : ∀ i, i < xss.length → OI B H w (nthV vs i) (nthL xss i)
  apart : ∀ i j c, i < j → j < xss.length → (nthV vs i).ownBlock = some c → (nthV vs j).ownBlock ≠ some c

theorem Els.nil (B H : Nat) (w : World) : Els B H w [] [] := ⟨rfl, fun i h => by simp at h, fun i j c _ h => by simp at h⟩
theorem Els.upd {B H : Nat} {D : Nat → Prop} {w w' : World} {vs : List Value} {xss : List (List Int)} (h : Els B H w vs xss) (hu : Upd D w w') (hD : ∀ i b, i < xss.length → (nthV vs i).ownBlock = some b → ¬ D b) : Els B H w' vs xss :=
  ⟨h.len, fun i hi => (h.el i hi).upd hu (fun b hb _ _ => hD i b hi hb), h.apart⟩
theorem Els.ext {B H : Nat} {w w' : World} {vs : List Value} {xss : List (List Int)} (h : Els B H w vs xss) (hu : Ext w w') : Els B H w' vs xss := h.upd hu (fun _ _ _ _ => id)
theorem Els.mono {B B' H H' : Nat} {w : World} {vs : List Value} {xss : List (List Int)} (h : Els B H w vs xss) (hB : B' ≤ B) (hH : H ≤ H') : Els B' H' w vs xss := ⟨h.len, fun i hi => (h.el i hi).mono hB hH, h.apart⟩
theorem Els.push {B H H' : Nat} {w : World} {vs : List Value} {xss : List (List Int)} {v : Value} {ys : List Int} (h : Els B H w vs xss) (hv : OI B H' w v ys) (hH : H ≤ H') (hn : ∀ c, v.ownBlock = some c → H ≤ c) :
    Els B H' w (vs ++ [v]) (xss ++ [ys]) := by
  have hl := h.len
  refine ⟨by simp [hl], fun i hi => ?_, fun i j c hij hj hi => ?_⟩
  · rcases Nat.lt_or_ge i xss.length with h1 | h1
    · rw [nthV_append_lt (by omega), nthL_append_lt h1]; exact (h.el i h1).mono (Nat.le_refl _) hH
    · obtain rfl : i = xss.length := by simp at hi; omega
      rw [nthL_append_last, ← hl, nthV_append_last]; exact hv
  · have hj' : j < xss.length + 1 := by simpa using hj
    rw [nthV_append_lt (by omega)] at hi
    rcases Nat.lt_or_ge j xss.length with h1 | h1
    · rw [nthV_append_lt (by omega)]; exact h.apart i j c hij h1 hi
    · obtain rfl : j = xss.length := by omega
      rw [← hl, nthV_append_last]
      intro hc
      have := hn c hc
      have := (h.el i (by omega)).own hi
      omega
theorem Els.set {B H : Nat} {w w' : World} {vs : List Value} {xss : List (List Int)} {k : Nat} {ys : List Int} (h : Els B H w vs xss) (hk : k < xss.length) (hu : Upd (fun b => (nthV vs k).ownBlock = some b) w w') (hv : OI B H w' (nthV vs k) ys) :
    Els B H w' vs (xss.set k ys) := by
  refine ⟨by simp [h.len], fun i hi => ?_, fun i j c hij hj hi => h.apart i j c hij (by simpa using hj) hi⟩
  have hi' : i < xss.length := by simpa using hi
  by_cases e : k = i
  · subst e; rw [nthL_set_same ys hk]; exact hv
  · rw [nthL_set_other ys e]
    refine (h.el i hi').upd hu (fun b hb _ _ hc => ?_)
    rcases Nat.lt_or_ge k i with h1 | h1
    · exact h.apart k i b h1 hi' hc hb
    · exact h.apart i k b (by omega) hk hb hc

theorem nthV_set_same {vs : List Value} {k : Nat} (u : Value) (h : k < vs.length) : nthV (vs.set k u) k = u := by simp [nthV, h]
theorem nthV_set_other {vs : List Value} {k j : Nat} (u : Value) (h : k ≠ j) : nthV (vs.set k u) j = nthV vs j := by simp [nthV, h]
/-- a slice of its own put in the place of another one. -/
theorem Els.put {B H H' : Nat} {w : World} {vs : List Value} {xss : List (List Int)} {k : Nat} {v : Value} {ys : List Int} (h : Els B H w vs xss) (hk : k < xss.length) (hv : OI B H' w v ys) (hH : H ≤ H') (hn : ∀ c, v.ownBlock = some c → H ≤ c) :
    Els B H' w (vs.set k v) (xss.set k ys) := by
  have hl := h.len
  refine ⟨by simp [hl], fun i hi => ?_, fun i j c hij hj hi => ?_⟩
  · have hi' : i < xss.length := by simpa using hi
    by_cases e : k = i
    · subst e; rw [nthL_set_same ys hk, nthV_set_same v (by omega)]; exact hv
    · rw [nthL_set_other ys e, nthV_set_other v e]; exact (h.el i hi').mono (Nat.le_refl _) hH
  · have hj' : j < xss.length := by simpa using hj
    by_cases e : k = i
    · subst e
      rw [nthV_set_same v (by omega)] at hi
      rw [nthV_set_other v (by omega)]
      intro hc
      have := hn c hi
      have := (h.el j hj').own hc
      omega
    · rw [nthV_set_other v e] at hi
      by_cases e2 : k = j
      · subst e2
        rw [nthV_set_same v (by omega)]
        intro hc
        have := hn c hc
        have := (h.el i (by omega)).own hi
        omega
      · rw [nthV_set_other v e2]; exact h.apart i j c hij hj' hi

def OII (B H : Nat) (w : World) (v : Value) (xss : List (List Int)) : Prop :=
  (v = .slice none 0 0 ∧ xss = []) ∨ ∃ b cap vs, v = .slice (some ⟨b, 0, none⟩) xss.length cap ∧ B ≤ b ∧ b < H ∧ Row 22 w b cap vs ∧ Els B H w vs xss ∧ ∀ i, i < xss.length → (nthV vs i).ownBlock ≠ some b
theorem SII.nil (w : World) : SII w (.slice none 0 0) [] := ⟨none, 0, rfl, Nat.le_refl _, Nat.zero_le _, fun _ => rfl, .inl rfl⟩
theorem Row.sii {e : TypeId} {B H : Nat} {w : World} {b cap : Nat} {vs : List Value} {xss : List (List Int)} (h : Row e w b cap vs) (he : Els B H w vs xss) : SII w (.slice (some ⟨b, 0, none⟩) xss.length cap) xss :=
  ⟨_, cap, rfl, by have := h.le; rw [he.len] at this; exact this, h.mx, by simp, .inr ⟨b, 0, rfl, fun i hi => ⟨nthV vs i, by rw [Nat.zero_add]; exact h.cell (nthV_get (by rw [he.len]; exact hi)), (he.el i hi).si⟩⟩⟩
theorem OII.sii {B H : Nat} {w : World} {v : Value} {xss : List (List Int)} (h : OII B H w v xss) : SII w v xss := by
  rcases h with ⟨rfl, rfl⟩ | ⟨b, cap, vs, rfl, _, _, h, he, _⟩
  · exact SII.nil w
  · exact h.sii he
theorem OII.upd {B H : Nat} {D : Nat → Prop} {w w' : World} {v : Value} {xss : List (List Int)} (h : OII B H w v xss) (hu : Upd D w w') (hD : ∀ b, B ≤ b → b < H → ¬ D b) : OII B H w' v xss := by
  rcases h with h | ⟨b, cap, vs, h1, h2, h3, h4, h5, h6⟩
  · exact .inl h
  · exact .inr ⟨b, cap, vs, h1, h2, h3, h4.upd hu (hD b h2 h3), h5.upd hu (fun i c hi hc => by have := (h5.el i hi).own hc; exact hD c this.1 this.2), h6⟩
theorem OII.ext {B H : Nat} {w w' : World} {v : Value} {xss : List (List Int)} (h : OII B H w v xss) (hu : Ext w w') : OII B H w' v xss := h.upd hu (fun _ _ _ => id)
theorem OII.mono {B B' H H' : Nat} {w : World} {v : Value} {xss : List (List Int)} (h : OII B H w v xss) (hB : B' ≤ B) (hH : H ≤ H') : OII B' H' w v xss := by
  rcases h with h | ⟨b, cap, vs, h1, h2, h3, h4, h5, h6⟩
  · exact .inl h
  · exact .inr ⟨b, cap, vs, h1, Nat.le_trans hB h2, Nat.lt_of_lt_of_le h3 hH, h4, h5.mono hB hH, h6⟩
theorem OII.nil (B H : Nat) (w : World) : OII B H w (.slice none 0 0) [] := .inl ⟨rfl, rfl⟩
theorem OII.row {B : Nat} {w : World} {b cap n : Nat} {vs : List Value} {xss : List (List Int)} (h : Row 22 w b cap vs) (he : Els B w.heap.size w vs xss) (hB : B ≤ b) (hn : n = xss.length) (hs : ∀ i, i < xss.length → (nthV vs i).ownBlock ≠ some b) :
    OII B w.heap.size w (.slice (some ⟨b, 0, none⟩) n cap) xss := by
  subst hn; exact .inr ⟨b, cap, vs, rfl, hB, h.lt, h, he, hs⟩

theorem Try.infoInt : (Try.prog.info? 3).map (fun i => (i.zero, i.size, i.bytes)) = some (some (.int .i64 0), 1, 8) := by kernel_rfl
theorem info_int : ∃ i, Try.prog.info? 3 = some i ∧ i.zero = some (.int .i64 0) ∧ i.size = 1 ∧ i.bytes = 8 := by
  have h := Try.infoInt
  cases hi : Try.prog.info? 3 with
  | none => rw [hi] at h; simp at h
  | some i => rw [hi] at h; simp at h; exact ⟨i, rfl, h.1, h.2.1, h.2.2⟩

/-- 'out = append(out, x)', x an int: the new one lies in a block of one cell that the operation before has laid. -/
theorem wpl_app1 {w : World} {ops : Array Oper} {rest : List Oper} {o : Oper} {a : Act} {Q : Exit → Act → World → Prop} (hgd : o.guard = none) (s x : Operand)
    (ho : o.op = .call { callee := .builtin .append, args := #[s, x], argTypes := #[22, 22] })
    (b cap n : Nat) (xs : List Int) (y : Int) (hs : a.eval s = .slice (some ⟨b, 0, none⟩) n cap) (hr : Row 3 w b cap (vals xs)) (hn : n = xs.length)
    (hx : a.eval x = .slice (some ⟨w.heap.size, 0, none⟩) 1 1) (hb : xs.length ≤ 1000000000)
    (h : ∀ b' cap' w', Row 3 w' b' cap' (vals (xs ++ [y])) → (b' = b ∨ w.heap.size < b') → Upd (· = b) w w' → wpList Try.prog ops Q rest (a.put o.dst (.slice (some ⟨b', 0, none⟩) (n + 1) cap')) w') :
    wpList Try.prog ops Q (o :: rest) a (w.alloc (.cells #[.int .i64 y] 3)) := by
  obtain ⟨i, hi, hz, hs1, hby⟩ := info_int
  refine wpl_app hgd s x 22 ho 3 i (.int .i64 0) Try.underlying22 hi hz hs1 rfl b cap n (vals xs) hs (hr.upd (Upd.alloc w _ (fun _ => False)) id) (by simpa using hn) ⟨w.heap.size, 0, none⟩ 1 1 [.int .i64 y] hx rfl ?_ ?_ ?_ ?_ ?_
  · intro j u hj
    cases j with
    | zero => simp at hj; subst hj; exact World.cell?_alloc_at _ _ _ _ rfl
    | succ j => simp at hj
  · intro u hu; simp at hu; subst hu; rfl
  · rw [hby]; omega
  · unfold maxLen; omega
  · intro b' cap' w' h1 h2 h3
    refine h b' cap' w' (by simpa [vals] using h1) ?_ ?_
    · rcases h2 with h2 | h2
      · exact .inl h2
      · simp at h2; exact .inr (by omega)
    · exact (Upd.alloc w _ _).trans h3

theorem Try.infoInts : (Try.prog.info? 22).map (fun i => (i.zero, i.size, i.bytes)) = some (some (.slice none 0 0), 1, 24) := by kernel_rfl
theorem info_ints : ∃ i, Try.prog.info? 22 = some i ∧ i.zero = some (.slice none 0 0) ∧ i.size = 1 ∧ i.bytes = 24 := by
  have h := Try.infoInts
  cases hi : Try.prog.info? 22 with
  | none => rw [hi] at h; simp at h
  | some i => rw [hi] at h; simp at h; exact ⟨i, rfl, h.1, h.2.1, h.2.2⟩

/-- 'make([][]int, n)'. -/
theorem wpl_make_ints {w : World} {ops : Array Oper} {rest : List Oper} {o : Oper} {a : Act} {Q : Exit → Act → World → Prop}
    (hg : o.guard = none) (l c : Operand) (hop : o.op = Op.makeSlice 35 l c)
    (n : Nat) (kl kc : IntKind) (L C : Int) (hl : a.eval l = .int kl L) (hc : a.eval c = .int kc C) (hL : L = (n : Int)) (hC : C = (n : Int)) (hb : n ≤ 1000000000)
    (hK : ∀ w', Row 22 w' w.heap.size n (List.replicate n (.slice none 0 0)) → Ext w w' → w.heap.size < w'.heap.size → wpList Try.prog ops Q rest (a.put o.dst (.slice (some ⟨w.heap.size, 0, none⟩) n n)) w') :
    wpList Try.prog ops Q (o :: rest) a w := by
  obtain ⟨i, hi, hz, hs1, hby⟩ := info_ints
  exact wpl_make hg l c 35 hop 22 i (.slice none 0 0) Try.underlying35 hi hz hs1 rfl n kl kc L C hl hc hL hC (by rw [hby]; omega) (by unfold maxLen; omega) hK

/-- 'out = append(out, v)', v a slice of ints: the new one lies in a block of one cell that the operation before has laid. -/
theorem wpl_appv {w : World} {ops : Array Oper} {rest : List Oper} {o : Oper} {a : Act} {Q : Exit → Act → World → Prop} (hgd : o.guard = none) (s x : Operand)
    (ho : o.op = .call { callee := .builtin .append, args := #[s, x], argTypes := #[35, 35] })
    (b cap n : Nat) (vs : List Value) (p : Option Addr) (l c : Nat) (hs : a.eval s = .slice (some ⟨b, 0, none⟩) n cap) (hr : Row 22 w b cap vs) (hn : n = vs.length)
    (hx : a.eval x = .slice (some ⟨w.heap.size, 0, none⟩) 1 1) (hb : vs.length ≤ 1000000000)
    (h : ∀ b' cap' w', Row 22 w' b' cap' (vs ++ [.slice p l c]) → (b' = b ∨ w.heap.size < b') → Upd (· = b) w w' → wpList Try.prog ops Q rest (a.put o.dst (.slice (some ⟨b', 0, none⟩) (n + 1) cap')) w') :
    wpList Try.prog ops Q (o :: rest) a (w.alloc (.cells #[.slice p l c] 22)) := by
  obtain ⟨i, hi, hz, hs1, hby⟩ := info_ints
  refine wpl_app hgd s x 35 ho 22 i (.slice none 0 0) Try.underlying35 hi hz hs1 rfl b cap n vs hs (hr.upd (Upd.alloc w _ (fun _ => False)) id) hn ⟨w.heap.size, 0, none⟩ 1 1 [.slice p l c] hx rfl ?_ ?_ ?_ ?_ ?_
  · intro j u hj
    cases j with
    | zero => simp at hj; subst hj; exact World.cell?_alloc_at _ _ _ _ rfl
    | succ j => simp at hj
  · intro u hu; simp at hu; subst hu; rfl
  · rw [hby]; omega
  · unfold maxLen; omega
  · intro b' cap' w' h1 h2 h3
    refine h b' cap' w' h1 ?_ ?_
    · rcases h2 with h2 | h2
      · exact .inl h2
      · simp at h2; exact .inr (by omega)
    · exact (Upd.alloc w _ _).trans h3

/-- 'append(row, src...)' of ints, the source a slice that can be read. -/
theorem wpl_appSrc {w : World} {ops : Array Oper} {rest : List Oper} {o : Oper} {a : Act} {Q : Exit → Act → World → Prop} (hgd : o.guard = none) (s x : Operand)
    (ho : o.op = .call { callee := .builtin .append, args := #[s, x], argTypes := #[22, 22] })
    (b cap n : Nat) (xs ys : List Int) (hs : a.eval s = .slice (some ⟨b, 0, none⟩) n cap) (hr : Row 3 w b cap (vals xs)) (hn : n = xs.length)
    (ad : Addr) (m c : Nat) (hx : a.eval x = .slice (some ad) m c) (hm : m = ys.length) (hy : RI w (some ad) ys) (hb : xs.length ≤ 1000000000) (hb2 : ys.length ≤ 1000000000)
    (h : ∀ b' cap' w', Row 3 w' b' cap' (vals (xs ++ ys)) → (b' = b ∨ w.heap.size ≤ b') → Upd (· = b) w w' → wpList Try.prog ops Q rest (a.put o.dst (.slice (some ⟨b', 0, none⟩) (n + m) cap')) w') :
    wpList Try.prog ops Q (o :: rest) a w := by
  obtain ⟨i, hi, hz, hs1, hby⟩ := info_int
  refine wpl_app hgd s x 22 ho 3 i (.int .i64 0) Try.underlying22 hi hz hs1 rfl b cap n (vals xs) hs hr (by simpa using hn) ad m c (vals ys) hx (by simp [hm]) ?_ (vals_one ys) ?_ ?_ ?_
  · intro j u hj
    rcases hy with rfl | ⟨b1, off, e, hc⟩
    · simp at hj
    · simp only [Option.some.injEq] at e
      subst e
      have hl : j < ys.length := by
        rcases Nat.lt_or_ge j ys.length with h1 | h1
        · exact h1
        · simp [vals, h1] at hj
      rw [vals_get hl] at hj
      rw [Addr.add_lit, hc j hl]; exact hj
  · rw [hby]; omega
  · unfold maxLen; omega
  · intro b' cap' w' h1 h2 h3
    exact h b' cap' w' (by simpa [vals] using h1) h2 h3

/-- the same as one step of a region that draws its order. -/
theorem step_appSrc {w : World} {ops : Array Oper} {o : Oper} {a : Act} {K : Act → World → Prop} {Q : Exit → Act → World → Prop} {E : Prop} (hgd : o.guard = none) (s x : Operand)
    (ho : o.op = .call { callee := .builtin .append, args := #[s, x], argTypes := #[22, 22] })
    (b cap n : Nat) (xs ys : List Int) (hs : a.eval s = .slice (some ⟨b, 0, none⟩) n cap) (hr : Row 3 w b cap (vals xs)) (hn : n = xs.length)
    (ad : Addr) (m c : Nat) (hx : a.eval x = .slice (some ad) m c) (hm : m = ys.length) (hy : RI w (some ad) ys) (hb : xs.length ≤ 1000000000) (hb2 : ys.length ≤ 1000000000)
    (h : ∀ b' cap' w', Row 3 w' b' cap' (vals (xs ++ ys)) → (b' = b ∨ w.heap.size ≤ b') → Upd (· = b) w w' → K (a.put o.dst (.slice (some ⟨b', 0, none⟩) (n + m) cap')) w') :
    if Region.wanted o (yielded ops a.tmps) = true then Oper.wp Try.prog o a w K Q else E := by
  have hw : Region.wanted o (yielded ops a.tmps) = true := by simp [Region.wanted, hgd]
  rw [if_pos hw]
  obtain ⟨i, hi, hz, hs1, hby⟩ := info_int
  subst hn
  have hnews : ∀ j u, (vals ys)[j]? = some u → w.cell? (ad.add j) = some u := by
    intro j u hj
    rcases hy with rfl | ⟨b1, off, e, hc⟩
    · simp at hj
    · simp only [Option.some.injEq] at e
      subst e
      have hl : j < ys.length := by
        rcases Nat.lt_or_ge j ys.length with h1 | h1
        · exact h1
        · simp [vals, h1] at hj
      rw [vals_get hl] at hj
      rw [Addr.add_lit, hc j hl]; exact hj
  obtain ⟨b', cap', w', hrun, h2, h3, h4⟩ := run_append_row (P := Try.prog) w 22 o.type 3 i (.int .i64 0) Try.underlying22 hi hz hs1 rfl b cap (vals xs) hr ad m c (vals ys) (by simp [hm]) hnews (vals_one ys)
    (by rw [hby]; simp [hm]; omega) (by unfold maxLen; simp [hm]; omega)
  unfold Oper.wp execOp
  simp only [List.length_map] at hrun
  simp only [ho, resolve, invoke, builtin, Sem.run_bind, Sem.run_pure, Result.andThen_ok, List.map_toArray, List.map_cons, List.map_nil, hs, hx, hrun]
  exact h b' cap' w' (by simpa [vals] using h2) h3 h4

/-- 'make([]int, n)'. -/
theorem wpl_make_int {w : World} {ops : Array Oper} {rest : List Oper} {o : Oper} {a : Act} {Q : Exit → Act → World → Prop}
    (hg : o.guard = none) (l c : Operand) (hop : o.op = Op.makeSlice 22 l c)
    (n : Nat) (kl kc : IntKind) (L C : Int) (hl : a.eval l = .int kl L) (hc : a.eval c = .int kc C) (hL : L = (n : Int)) (hC : C = (n : Int)) (hb : n ≤ 1000000000)
    (hK : ∀ w', Row 3 w' w.heap.size n (vals (List.replicate n 0)) → Ext w w' → w.heap.size < w'.heap.size → wpList Try.prog ops Q rest (a.put o.dst (.slice (some ⟨w.heap.size, 0, none⟩) n n)) w') :
    wpList Try.prog ops Q (o :: rest) a w := by
  obtain ⟨i, hi, hz, hs1, hby⟩ := info_int
  refine wpl_make hg l c 22 hop 3 i (.int .i64 0) Try.underlying22 hi hz hs1 rfl n kl kc L C hl hc hL hC (by rw [hby]; omega) (by unfold maxLen; omega) ?_
  intro w' h1 h2 h3
  exact hK w' (by rw [← vals_rep]; exact h1) h2 h3

/-- function n has a body: a call of it enters it. -/
def Enters (n : Nat) : Prop := ∀ (args : Array Value) (w : World), (callFunc n args).run Try.prog w = .ok (.enter n args) w
theorem enters_of {n : Nat} {fn : Func} {c : Code} (hf : Try.prog.funcs[n]? = some fn) (hname : (fn.name == "runtime.NumGoroutine") = false) (hb : fn.body = some c) : Enters n := fun args w => by
  have h1 : fn.name ≠ "runtime.NumGoroutine" := by simpa using hname
  simp [callFunc, hf, h1, hb]

end Go.Proofs.Ytcifngcmdiokpaa
