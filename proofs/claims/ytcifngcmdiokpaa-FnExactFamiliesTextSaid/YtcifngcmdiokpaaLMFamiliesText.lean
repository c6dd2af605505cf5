/- Several texts in one. Conditions: as each says. -/
import Derived.Test.YtcifngcmdiokpaaLib
import Derived.Test.YtcifngcmdiokpaaOpen
import Derived.Shelf.Strings.OnBuilder
import Derived.KernelRfl
import Derived.Deep.AppendSrc
import Derived.Laws.IdiomStrings
import Derived.Test.YtcifngcmdiokpaaSpl3
import Derived.Test.YtcifngcmdiokpaaFunc
import Derived.Laws.OwnMore
import Derived.Test.YtcifngcmdiokpaaSpl6
import Derived.Test.YtcifngcmdiokpaaPut
import Derived.Test.YtcifngcmdiokpaaMxm
import Derived.Test.YtcifngcmdiokpaaBase2
import Derived.Test.YtcifngcmdiokpaaSort
import Derived.Test.YtcifngcmdiokpaaFree
import Derived.Test.YtcifngcmdiokpaaLyw
import Derived.Test.YtcifngcmdiokpaaFma
import Derived.Laws.EntriesVeiled
import Derived.Test.YtcifngcmdiokpaaHarnL
namespace Go.Proofs.Ytcifngcmdiokpaa
open Go.RowKit
def joinN_ren : Go.Shelf.Ren := ⟨fun | 156 => 46 | 165 => 69 | 166 => 70 | 169 => 71 | 240 => 85 | 241 => 86 | 276 => 97 | 277 => 98 | n => n, fun | 0 => 0 | 3 => 3 | 4 => 4 | 5 => 5 | 9 => 9 | 20 => 20 | 31 => 29 | 37 => 46 | 70 => 48 | 72 => 50 | 75 => 53 | 76 => 54 | 80 => 56 | 127 => 68 | 164 => 72 | n => n, fun | n => n⟩
theorem joinN : Go.Proofs.Lays.n156 Try.prog joinN_ren := {
  mixed := by kernel_rfl
  f156 := Try.func46.trans (congrArg some (by kernel_rfl))
  f165 := Try.func69.trans (congrArg some (by kernel_rfl))
  f166 := Try.func70.trans (congrArg some (by kernel_rfl))
  f169 := Try.func71.trans (congrArg some (by kernel_rfl))
  f240 := Try.func85.trans (congrArg some (by kernel_rfl))
  f241 := Try.func86.trans (congrArg some (by kernel_rfl))
  f276 := Try.func97.trans (congrArg some (by kernel_rfl))
  f277 := Try.func98.trans (congrArg some (by kernel_rfl))
  t0 := Try.underlying0
  a0 := Try.isAgg0
  z0 := Try.sizeOf0
  v0 := Try.zeroValue0
  t3 := Try.underlying3
  a3 := Try.isAgg3
  z3 := Try.sizeOf3
  v3 := Try.zeroValue3
  t4 := Try.underlying4
  a4 := Try.isAgg4
  z4 := Try.sizeOf4
  v4 := Try.zeroValue4
  t9 := Try.underlying9
  a9 := Try.isAgg9
  z9 := Try.sizeOf9
  v9 := Try.zeroValue9
  t20 := Try.underlying20
  a20 := Try.isAgg20
  z20 := Try.sizeOf20
  v20 := Try.zeroValue20
  t31 := Try.underlying29
  a31 := Try.isAgg29
  z31 := Try.sizeOf29
  v31 := Try.zeroValue29
  t37 := Try.underlying46
  a37 := Try.isAgg46
  z37 := Try.sizeOf46
  v37 := Try.zeroValue46
  t70 := Try.underlying48
  a70 := Try.isAgg48
  z70 := Try.sizeOf48
  v70 := Try.zeroValue48
  t72 := Try.underlying50
  a72 := Try.isAgg50
  z72 := Try.sizeOf50
  v72 := Try.zeroValue50
  t75 := Try.underlying53
  a75 := Try.isAgg53
  z75 := Try.sizeOf53
  v75 := Try.zeroValue53
  t76 := Try.underlying54
  a76 := Try.isAgg54
  z76 := Try.sizeOf54
  v76 := Try.zeroValue54
  t127 := Try.underlying68
  a127 := Try.isAgg68
  z127 := Try.sizeOf68
  v127 := Try.zeroValue68
  t164 := Try.underlying72
  a164 := Try.isAgg72
  z164 := Try.sizeOf72
  v164 := Try.zeroValue72 }
theorem joinX : Go.Proofs.Builder.Extra Try.prog joinN_ren := {
  sizeBuilder := by kernel_rfl
  liesBuilder := by kernel_rfl
  t5 := Try.underlying5
  a5 := Try.isAgg5
  z5 := Try.sizeOf5
  v5 := Try.zeroValue5
  infoByte := by kernel_rfl
  cellsByte := by kernel_rfl
  sizeByte := by kernel_rfl
  neB5 := by decide }
def joinB (xs : List ByteArray) (sep : ByteArray) : ByteArray := ⟨(Lib.join (xs.map (·.data.toList)) sep.data.toList).toArray⟩
theorem lib_Join_ok (b c n : Nat) (xs : List ByteArray) (sep : ByteArray) (w : World) (hr : Row 9 w b c (xs.map .string)) (hn : n = xs.length) (hN : xs.length ≤ 100) (hl : (Lib.join (xs.map (·.data.toList)) sep.data.toList).length ≤ 1000000) :
    Calls Try.prog 46 #[.slice (some ⟨b, 0, none⟩) n c, .string sep] w fun e w' => e = .returned (.string (joinB xs sep)) ∧ Ext w w' := by
  subst hn
  have hle := hr.le
  rw [List.length_map] at hle
  refine (Any.strings_Join joinN joinX b 0 c xs sep w (fun j x hj => ?_) hr.lt (by omega) hle (by omega)).mono ?_
  · rw [Nat.zero_add]
    exact hr.cell (by rw [List.getElem?_map, hj]; rfl)
  · rintro e w' ⟨rfl, h⟩
    exact ⟨rfl, ⟨h.os, h.tape, h.output, h.size, fun k hk _ => h.block k hk⟩⟩
end Go.Proofs.Ytcifngcmdiokpaa
namespace Go.Proofs.Ytcifngcmdiokpaa
open Go.RowKit

theorem Row.put {e : TypeId} {w : World} {b cap : Nat} {xs : List Value} (h : Row e w b cap xs) (hc : xs.length < cap) (v : Value) : Row e (w.setCell ⟨b, xs.length, none⟩ v) b cap (xs ++ [v]) := by
  obtain ⟨cur, h1, h2, h3⟩ := h.cur
  refine ⟨by simp; omega, h.mx, cur.setIfInBounds xs.length v, heap_setCell_same w b xs.length cur e v h1, by simpa using h2, ?_⟩
  rw [Array.toList_setIfInBounds, List.length_append, List.length_singleton]
  have hl : xs.length < cur.toList.length := by have := Array.length_toList (xs := cur); omega
  rw [List.take_succ_eq_append_getElem (by rw [List.length_set]; exact hl), List.take_set_of_le (Nat.le_refl _), h3, List.getElem_set_self]
theorem Row.puts {e : TypeId} {b cap : Nat} : ∀ (vs : List Value) {w : World} {xs : List Value}, Row e w b cap xs → xs.length + vs.length ≤ cap → Row e (w.setCells b xs.length vs) b cap (xs ++ vs) ∧ Upd (· = b) w (w.setCells b xs.length vs) := by
  intro vs
  induction vs with
  | nil => intro w xs h _; exact ⟨by rw [List.append_nil]; exact h, Upd.refl _ _⟩
  | cons v vs ih =>
    intro w xs h hc
    simp only [List.length_cons] at hc
    have h1 := h.put (by omega) v
    have h2 := ih h1 (by simp; omega)
    have e1 : (xs ++ [v]).length = xs.length + 1 := by simp
    rw [e1] at h2
    unfold World.setCells
    refine ⟨by rw [show xs ++ v :: vs = (xs ++ [v]) ++ vs by simp]; exact h2.1, (Upd.setCell w ⟨b, xs.length, none⟩ v).trans h2.2⟩
theorem run_append_rowS {P : Program} (w : World) (t tx ty e : TypeId) (i : TypeInfo) (z : Value) (ht : P.underlying t = some (.slice e)) (hk : P.underlying tx = some .string) (hi : P.info? e = some i) (hz : i.zero = some z)
    (hsize : i.size = 1) (hzs : z.cells.size = 1) (b cap : Nat) (xs : List Value) (hr : Row e w b cap xs) (s : ByteArray) (hbytes : (xs.length + s.size) * i.bytes ≤ 140737488355328) (h63 : xs.length + s.size ≤ maxLen) :
    ∃ b' cap' w', (Builtin.append_ #[t, tx] ty #[.slice (some ⟨b, 0, none⟩) xs.length cap, .string s]).run P w = .ok (.slice (some ⟨b', 0, none⟩) (xs.length + s.size) cap') w' ∧
      Row e w' b' cap' (xs ++ byteCells s) ∧ (b' = b ∨ w.heap.size ≤ b') ∧ Upd (· = b) w w' := by
  have hle := hr.le
  have hbl := byteCells_length s
  have hsrc := Src.ofString (P := P) w hk s
  rw [← hsize] at hsrc
  by_cases hroom : xs.length + s.size ≤ cap
  · have hx := run_append_room_src (P := P) w t tx ty e i ht hi b 0 xs.length cap (.string s) s.size (byteCells s) hsrc hroom (fun j hj => by
        obtain ⟨v, hv⟩ := hr.spare (j := xs.length + j) (by omega)
        rw [hsize, Nat.mul_one, Nat.zero_add, hv]; rfl) (fun j hj => hr.free _ _)
    rw [hsize, Nat.mul_one, Nat.zero_add] at hx
    obtain ⟨h1, h2⟩ := hr.puts (byteCells s) (by omega)
    exact ⟨_, _, _, hx, h1, .inl rfl, h2⟩
  · have hx := run_append_grow_src (P := P) w t tx ty e i z ht hi hz (some ⟨b, 0, none⟩) xs.length cap xs (by
        exact run_firstCells_some w.drew i.size xs.length ⟨b, 0, none⟩ xs.length cap xs (by simp [hsize]) (fun j v hj => by
          rw [Addr.add_lit, Nat.zero_add]; exact (hr.ext ⟨rfl, rfl, rfl, Nat.le_refl _, fun _ _ _ => rfl⟩).cell hj)) (.string s) s.size (byteCells s) hsrc (by omega) (by simp only [maxLen] at h63; omega) (growslice_fits (by omega) hbytes)
    have hge := grownCap_ge w (xs.length + s.size) cap e
    refine ⟨_, _, _, hx, ⟨by simp [hbl]; omega, grownCap_le_maxLen w _ cap e h63, ⟨_, heap_alloc_new w.drew _, ?_, ?_⟩⟩, .inr (Nat.le_refl _), ⟨rfl, rfl, rfl, by simp, fun k hk _ => Below.heap_alloc w.drew _ k hk⟩⟩
    · simp only [Array.size_append, List.size_toArray, size_zeroCells, hzs, List.length_append, hbl]
      omega
    · simp only [Array.toList_append, List.append_assoc]
      rw [← List.append_assoc]
      exact List.take_left
theorem Try.infoByteF : (Try.prog.info? 5).map (fun i => (i.zero, i.size, i.bytes)) = some (some (.int .u8 0), 1, 1) := by kernel_rfl
theorem info_byteF : ∃ i, Try.prog.info? 5 = some i ∧ i.zero = some (.int .u8 0) ∧ i.size = 1 ∧ i.bytes = 1 := by
  have h := Try.infoByteF
  cases hi : Try.prog.info? 5 with
  | none => rw [hi] at h; simp at h
  | some i => rw [hi] at h; simp at h; exact ⟨i, rfl, h.1, h.2.1, h.2.2⟩
theorem Try.infoStrF : (Try.prog.info? 9).map (fun i => (i.zero, i.size, i.bytes)) = some (some (.string ⟨#[]⟩), 1, 16) := by kernel_rfl
theorem info_strF : ∃ i, Try.prog.info? 9 = some i ∧ i.zero = some (.string ⟨#[]⟩) ∧ i.size = 1 ∧ i.bytes = 16 := by
  have h := Try.infoStrF
  cases hi : Try.prog.info? 9 with
  | none => rw [hi] at h; simp at h
  | some i => rw [hi] at h; simp at h; exact ⟨i, rfl, h.1, h.2.1, h.2.2⟩
/-- 'append(out, s...)' of a text. -/
theorem wpl_appS {w : World} {ops : Array Oper} {rest : List Oper} {o : Oper} {a : Act} {Q : Exit → Act → World → Prop} (hgd : o.guard = none) (s x : Operand)
    (ho : o.op = .call { callee := .builtin .append, args := #[s, x], argTypes := #[46, 9] })
    (b cap n : Nat) (l : List UInt8) (T : ByteArray) (hs : a.eval s = .slice (some ⟨b, 0, none⟩) n cap) (hx : a.eval x = .string T) (hr : Row 5 w b cap (byteCells ⟨l.toArray⟩)) (hn : n = l.length) (hb : l.length ≤ 1000000) (hT : T.size ≤ 1000000)
    (h : ∀ b' cap' w', Row 5 w' b' cap' (byteCells ⟨(l ++ T.data.toList).toArray⟩) → (b' = b ∨ w.heap.size ≤ b') → Upd (· = b) w w' → wpList Try.prog ops Q rest (a.put o.dst (.slice (some ⟨b', 0, none⟩) (n + T.size) cap')) w') :
    wpList Try.prog ops Q (o :: rest) a w := by
  obtain ⟨i, hi, hz, hs1, hby⟩ := info_byteF
  have hl : (byteCells ⟨l.toArray⟩).length = n := by rw [byteCells_length, hn]; rfl
  obtain ⟨b', cap', w', hrun, h2, h3, h4⟩ := run_append_rowS (P := Try.prog) w 46 9 o.type 5 i (.int .u8 0) Try.underlying46 Try.underlying9 hi hz hs1 rfl b cap _ hr T (by rw [hby, hl]; omega) (by rw [hl]; unfold maxLen; omega)
  rw [hl] at hrun
  refine wpList_plain hgd fun K hK => ?_
  unfold Oper.wp execOp
  simp only [ho, resolve, invoke, builtin, Sem.run_bind, Sem.run_pure, Result.andThen_ok, List.map_toArray, List.map_cons, List.map_nil, hs, hx, hrun]
  exact hK _ _ (h b' cap' w' (by unfold byteCells at h2 ⊢; simpa using h2) h3 h4)
/-- 'append(texts, t)'. -/
theorem wpl_app1sF {w : World} {ops : Array Oper} {rest : List Oper} {o : Oper} {a : Act} {Q : Exit → Act → World → Prop} (hgd : o.guard = none) (s x : Operand)
    (ho : o.op = .call { callee := .builtin .append, args := #[s, x], argTypes := #[29, 29] })
    (b cap n : Nat) (L : List ByteArray) (T : ByteArray) (hs : a.eval s = .slice (some ⟨b, 0, none⟩) n cap) (hr : Row 9 w b cap (L.map Value.string)) (hn : n = L.length)
    (hx : a.eval x = .slice (some ⟨w.heap.size, 0, none⟩) 1 1) (hb : L.length ≤ 1000000000000)
    (h : ∀ b' cap' w', Row 9 w' b' cap' ((L ++ [T]).map Value.string) → (b' = b ∨ w.heap.size ≤ b') → Upd (· = b) w w' → wpList Try.prog ops Q rest (a.put o.dst (.slice (some ⟨b', 0, none⟩) (n + 1) cap')) w') :
    wpList Try.prog ops Q (o :: rest) a (w.alloc (.cells #[.string T] 9)) := by
  obtain ⟨i, hi, hz, hs1, hby⟩ := info_strF
  refine wpl_app hgd s x 29 ho 9 i (.string ⟨#[]⟩) Try.underlying29 hi hz hs1 rfl b cap n (L.map Value.string) hs (hr.upd (Upd.alloc w _ (fun _ => False)) id) (by rw [List.length_map]; exact hn) ⟨w.heap.size, 0, none⟩ 1 1 [.string T] hx rfl ?_ ?_ ?_ ?_ ?_
  · intro j u hj
    cases j with
    | zero => simp at hj; subst hj; exact World.cell?_alloc_at _ _ _ _ rfl
    | succ j => simp at hj
  · intro u hu; simp at hu; subst hu; rfl
  · rw [hby]; omega
  · unfold maxLen; omega
  · intro b' cap' w' h1 h2 h3
    refine h b' cap' w' (by rw [List.map_append]; exact h1) ?_ ?_
    · rcases h2 with h2 | h2
      · exact .inl h2
      · simp at h2; exact .inr (by omega)
    · exact (Upd.alloc w _ _).trans h3
def addW (L : List ByteArray) (ok : Bool) (x : ByteArray) : List ByteArray := bif ok then L ++ [x] else L
theorem addW_len {L : List ByteArray} {ok : Bool} {x : ByteArray} {n : Nat} (h : L.length ≤ n) : (addW L ok x).length ≤ n + 1 := by
  unfold addW; cases ok <;> simp <;> omega
theorem addW_each {L : List ByteArray} {ok : Bool} {x : ByteArray} {n : Nat} (h : ∀ y ∈ L, y.size ≤ n) (hx : x.size ≤ n) : ∀ y ∈ addW L ok x, y.size ≤ n := by
  unfold addW
  cases ok
  · exact h
  · intro y hy
    rcases List.mem_append.1 hy with e | e
    · exact h y e
    · rw [List.mem_singleton.1 e]; exact hx
/-- what Join has made of the first k texts. -/
def jT (xs : List ByteArray) (sep : ByteArray) (k : Nat) : List UInt8 := Lib.join ((xs.take k).map (·.data.toList)) sep.data.toList
theorem jT_one {xs : List ByteArray} {sep x : ByteArray} (h : xs[0]? = some x) : jT xs sep 1 = x.data.toList := by
  unfold jT
  cases xs with
  | nil => simp at h
  | cons a r => simp at h; subst h; simp [Lib.join_one]
theorem jT_succ {xs : List ByteArray} {sep x : ByteArray} {k : Nat} (hk : 0 < k) (h : xs[k]? = some x) : jT xs sep (k + 1) = jT xs sep k ++ sep.data.toList ++ x.data.toList := by
  cases xs with
  | nil => simp at h
  | cons a r =>
    cases k with
    | zero => omega
    | succ k =>
      have hr : (r.map (·.data.toList))[k]? = some x.data.toList := by rw [List.getElem?_map]; simp at h; rw [h]; rfl
      have h2 := Lib.joinTail_take_succ sep.data.toList (r.map (·.data.toList)) k _ hr
      unfold jT
      rw [List.take_succ_cons, List.take_succ_cons, List.map_cons, List.map_cons, Lib.join_cons, Lib.join_cons, List.map_take, List.map_take, h2]
      simp [List.append_assoc]
theorem jT_all (xs : List ByteArray) (sep : ByteArray) : jT xs sep xs.length = Lib.join (xs.map (·.data.toList)) sep.data.toList := by unfold jT; rw [List.take_length]
theorem jT_len {xs : List ByteArray} {sep : ByteArray} (hx : ∀ x ∈ xs, x.size ≤ 100) (hs : sep.size ≤ 100) : ∀ k, k ≤ xs.length → (jT xs sep k).length ≤ 200 * k := by
  intro k
  induction k with
  | zero => intro _; simp [jT, Lib.join_nil]
  | succ k ih =>
    intro hk
    have h1 := ih (by omega)
    have hg : xs[k]? = some xs[k] := List.getElem?_eq_getElem (by omega)
    have h2 := hx _ (List.getElem_mem (show k < xs.length by omega))
    have e1 : xs[k].data.toList.length = xs[k].size := Array.length_toList
    have e2 : sep.data.toList.length = sep.size := Array.length_toList
    rcases Nat.eq_zero_or_pos k with rfl | h0
    · rw [jT_one hg]; omega
    · rw [jT_succ h0 hg, List.length_append, List.length_append]; omega
theorem l29Add_ok (b c n : Nat) (L : List ByteArray) (ok : Bool) (x : ByteArray) (w : World) (hr : Row 9 w b c (L.map Value.string)) (hn : n = L.length) (hl : L.length ≤ 100) :
    Calls Try.prog 33 #[.slice (some ⟨b, 0, none⟩) n c, .bool ok, .string x] w fun e w' => ∃ b' c' n', e = .returned (.slice (some ⟨b', 0, none⟩) n' c') ∧ n' = (addW L ok x).length ∧ Row 9 w' b' c' ((addW L ok x).map Value.string) ∧ (b' = b ∨ w.heap.size ≤ b') ∧ Upd (· = b) w w' := by
  have HR := Lib.hid hr
  have HN := Lib.hid hn
  have HL := Lib.hid hl
  clear hr hn hl
  cases ok
  · go_enter Try.func33, Try.ntmps33
    go_wp2_with fail
    go_ret
    exact ⟨b, c, n, rfl, HN.out, HR.out, .inl rfl, Upd.refl _ _⟩
  · go_enter Try.func33, Try.ntmps33
    go_wp2_with (at_builtin; go_loud (refine wpl_app1sF rfl _ _ rfl b c n L x rfl HR.out HN.out rfl (by have := HL.out; omega) ?_); intro b8 c8 w8 hr8 hb8 hu8; have HR8 := Lib.hid hr8; have HB8 := Lib.hid hb8; have HU8 := Lib.hid hu8; clear hr8 hb8 hu8)
    go_ret
    exact ⟨b8, c8, _, rfl, by rw [HN.out]; simp [addW], HR8.out, HB8.out, HU8.out⟩
end Go.Proofs.Ytcifngcmdiokpaa
namespace Go.Proofs.Ytcifngcmdiokpaa
open Go.RowKit

theorem rootsF_len : ∀ (f : Nat) (p : List Int), IsP p → p.length ≤ 8 → (rootsF f p).length ≤ 9 ^ f ∧ ∀ r ∈ rootsF f p, r.length ≤ 8 := by
  intro f
  induction f with
  | zero => intro p _ _; simp [rootsF]
  | succ f ih =>
    intro p hp h8
    by_cases h2 : p.length < 2
    · simp [rootsF, h2]
    · have hq := splitQ_ok hp (by omega)
      have hql := splitQ_len (p := p) (by omega)
      have hrl := splitR_len (p := p) (by omega)
      simp only [rootsF, if_neg h2, List.length_cons]
      have key : ∀ (L : List (List Int)), (∀ q ∈ L, (rootsF f q).length ≤ 9 ^ f) → ((L.map (rootsF f)).flatten).length ≤ L.length * 9 ^ f := by
        intro L
        induction L with
        | nil => intro _; simp
        | cons a L ihL =>
          intro hL
          have h1 := hL a (by simp)
          have h3 := ihL (fun q hq => hL q (List.mem_cons_of_mem _ hq))
          rw [List.map_cons, List.flatten_cons, List.length_append, List.length_cons, Nat.succ_mul]
          omega
      refine ⟨?_, fun r hr => ?_⟩
      · have h1 := key (splitQ p) (fun q hqm => (ih q (hq q hqm).1 (by have := (hq q hqm).2.2; omega)).1)
        have h3 : (splitQ p).length * 9 ^ f ≤ 8 * 9 ^ f := Nat.mul_le_mul_right _ (by omega)
        have h4 : 1 ≤ 9 ^ f := Nat.one_le_pow _ _ (by omega)
        rw [Nat.pow_succ]; omega
      · rcases List.mem_cons.1 hr with rfl | hr
        · omega
        · obtain ⟨l, hl, hrl⟩ := List.mem_flatten.1 hr
          obtain ⟨q, hqm, rfl⟩ := List.mem_map.1 hl
          exact (ih q (hq q hqm).1 (by have := (hq q hqm).2.2; omega)).2 r hrl
theorem rootsF_len8 {f : Nat} {p : List Int} (hf : f ≤ 8) (hp : IsP p) (h8 : p.length ≤ 8) : (rootsF f p).length ≤ 100000000 := by
  have h1 := (rootsF_len f p hp h8).1
  have h2 : 9 ^ f ≤ 9 ^ 8 := Nat.pow_le_pow_right (by omega) hf
  have h3 : (9 : Nat) ^ 8 = 43046721 := by decide
  omega
/-- the roots of the first k parts. -/
def rtTo (p : List Int) (f k : Nat) : List (List Int) := splitR p :: (((splitQ p).take k).map (rootsF f)).flatten
theorem rtTo_succ {p : List Int} {f k : Nat} (h : k < (splitQ p).length) : rtTo p f (k + 1) = rtTo p f k ++ rootsF f (nthL (splitQ p) k) := by
  unfold rtTo
  rw [take_nthL h, List.map_append, List.flatten_append]; simp
theorem rtTo_all {p : List Int} {f : Nat} (h2 : 2 ≤ p.length) : rtTo p f (splitQ p).length = rootsF (f + 1) p := by
  unfold rtTo
  rw [List.take_length]
  simp only [rootsF, if_neg (show ¬ p.length < 2 by omega)]
theorem rtTo_len {p : List Int} {f : Nat} (hf : f ≤ 7) (hp : IsP p) (h8 : p.length ≤ 8) (h2 : 2 ≤ p.length) : ∀ k, k ≤ (splitQ p).length → (rtTo p f k).length ≤ 1 + k * 10000000 := by
  intro k
  induction k with
  | zero => intro _; simp [rtTo]
  | succ k ih =>
    intro hk
    have h1 := ih (by omega)
    have hq := splitQ_ok hp h2 _ (nthL_mem (show k < (splitQ p).length by omega))
    have h3 := (rootsF_len f _ hq.1 (by omega)).1
    have h4 : 9 ^ f ≤ 9 ^ 7 := Nat.pow_le_pow_right (by omega) hf
    have h5 : (9 : Nat) ^ 7 = 4782969 := by decide
    rw [rtTo_succ (by omega), List.length_append]; omega
theorem isplit_ok (v : Value) (p : List Int) (w : World) (h : SI w v p) (hp : IsP p) (h8 : p.length ≤ 8) (h2 : 2 ≤ p.length) : Calls Try.prog 82 #[v] w (SpPost p w) := by
  by_cases h3 : 1 < (spP p p.length).length
  · exact split_sum v p w h hp h8 h2 h3
  · by_cases h4 : 1 < (skP p).length
    · exact split_skew v p w h hp h8 h2 h3 h4
    · exact split_iv v p w h hp h8 h2 h3 h4
theorem GI.shape' {B : Nat} {w : World} {v : Value} {xss : List (List Int)} (h : GI B w v xss) : ∃ a c, v = .slice a xss.length c := by
  obtain ⟨a, c, e, _⟩ := h.sii; exact ⟨a, c, e⟩
/-- 'append(l, ad[0:m]...)' of rows, l a row of its own. -/
theorem wpl_appGR2 {w : World} {ops : Array Oper} {rest : List Oper} {o : Oper} {a : Act} {Q : Exit → Act → World → Prop} (hgd : o.guard = none) (s x : Operand)
    (ho : o.op = .call { callee := .builtin .append, args := #[s, x], argTypes := #[35, 35] })
    (B b cap n m c : Nat) (xss yss : List (List Int)) (us : List Value) (ad : Addr) (hs : a.eval s = .slice (some ⟨b, 0, none⟩) n cap) (hn : n = xss.length) (hr : GR B w b cap xss)
    (hx : a.eval x = .slice (some ad) m c) (hm : m = yss.length) (hu1 : us.length = yss.length) (hu2 : ∀ i, i < yss.length → OI B w.heap.size w (nthV us i) (nthL yss i) ∧ (nthV us i).ownBlock ≠ some b)
    (hc : ∀ j u, us[j]? = some u → w.cell? (ad.add j) = some u) (h1 : ∀ u ∈ us, u.oneCell' = true) (hBw : B ≤ w.heap.size) (hb : xss.length ≤ 1000000000) (hb2 : yss.length ≤ 1000000000)
    (h : ∀ b' cap' w', GR B w' b' cap' (xss ++ yss) → (b' = b ∨ w.heap.size ≤ b') → Upd (· = b) w w' → wpList Try.prog ops Q rest (a.put o.dst (.slice (some ⟨b', 0, none⟩) (n + m) cap')) w') :
    wpList Try.prog ops Q (o :: rest) a w := by
  subst hn hm
  obtain ⟨b', cap', w', hrun, h2, h3, h4⟩ := run_appGR o.type hr us hu1 hu2 ad c hc h1 hBw hb hb2
  refine wpList_plain hgd fun K hK => ?_
  unfold Oper.wp execOp
  simp only [ho, resolve, invoke, builtin, Sem.run_bind, Sem.run_pure, Result.andThen_ok, List.map_toArray, List.map_cons, List.map_nil, hs, hx, hrun]
  exact hK _ _ (h b' cap' w' h2 h3 h4)
def RtPost (f : Nat) (p : List Int) (w : World) (e : Ending) (w' : World) : Prop := ∃ v', e = .returned v' ∧ GI w.heap.size w' v' (rootsF f p) ∧ Ext w w'
set_option maxHeartbeats 4000000 in
theorem roots_ok : ∀ (f : Nat) (v : Value) (p : List Int) (w : World), f ≤ 8 → p.length ≤ f → SI w v p → IsP p → Calls Try.prog 63 #[v] w (RtPost f p w) := by
  intro f
  induction f with
  | zero =>
    intro v p w _ hl h hp
    obtain ⟨a, cap, rfl, -⟩ := h.elim
    have hlI : (p.length : Int) < 2 := by omega
    clear h hp
    go_enter Try.func63, Try.ntmps63
    go_wp2_with fail
    go_ret
    exact ⟨_, rfl, .inl ⟨rfl, rfl⟩, Ext.refl _⟩
  | succ f ih =>
    intro v p w hf8 hl h hp
    have h00 := h
    obtain ⟨a, cap, rfl, -⟩ := h00.elim
    have HIH := Lib.hid ih
    have HH := Lib.hid h
    have HP := Lib.hid hp
    clear h h00 hp ih
    by_cases h2 : p.length < 2
    · have hlI : (p.length : Int) < 2 := by omega
      have HR : Hid (rootsF (f + 1) p = []) := by show _ = _; simp [rootsF, h2]
      go_enter Try.func63, Try.ntmps63
      go_wp2_with fail
      go_ret
      exact ⟨_, rfl, by rw [HR.out]; exact .inl ⟨rfl, rfl⟩, Ext.refl _⟩
    · have hlI : ¬ (p.length : Int) < 2 := by omega
      have h2' : 2 ≤ p.length := by omega
      have h8 : p.length ≤ 8 := by omega
      go_enter Try.func63, Try.ntmps63
      go_wp2_with fail
      refine (isplit_ok _ p _ HH.out HP.out h8 h2').mono ?_
      rintro e w1 ⟨rv, pv, rfl, ho1, hg1, h1⟩
      obtain ⟨ap, cp, hrv⟩ := ho1.shape
      obtain ⟨aq, cq, hpv⟩ := hg1.shape'
      obtain ⟨lp, hlp⟩ : ∃ l, l = (splitR p).length := ⟨_, rfl⟩
      obtain ⟨n, hn⟩ : ∃ l, l = (splitQ p).length := ⟨_, rfl⟩
      rw [← hlp] at hrv
      rw [← hn] at hpv
      subst hrv hpv
      have HN := Lib.hid hn
      have hn8 : n ≤ 8 := by have := splitQ_len h2'; omega
      have HS1 := Lib.hid hg1.sii
      have HE1 := Lib.hid h1
      have hz1 := h1.size
      have e2 : Ext w1 ((w1.alloc (.cells #[.slice ap lp cp, .slice aq n cq] 65)).alloc (.cells #[.slice ap lp cp] 22)) := ((Ext.refl w1).alloc _).alloc _
      have HE12 := Lib.hid e2
      have HGR0 : Hid (GR w.heap.size ((w1.alloc (.cells #[.slice ap lp cp, .slice aq n cq] 65)).alloc (.cells #[.slice ap lp cp] 22)) (w1.heap.size + 1) 1 (rtTo p f 0)) := by
        have hr := Row.new 22 (w1.alloc (.cells #[.slice ap lp cp, .slice aq n cq] 65)) [.slice ap lp cp] (by simp [maxLen])
        rw [show (w1.alloc (.cells #[.slice ap lp cp, .slice aq n cq] 65)).heap.size = w1.heap.size + 1 by simp] at hr
        refine ⟨_, hr, rfl, by omega, fun i hi => ?_⟩
        obtain rfl : i = 0 := by simp [rtTo] at hi; omega
        have ho := (ho1.ext e2).mono (Nat.le_refl _) e2.size
        refine ⟨ho, fun e => ?_⟩
        have := (ho1.own (b := w1.heap.size + 1) e).2
        omega
      have hr1 := Row.new 65 w1 [.slice ap lp cp, .slice aq n cq] (by simp [maxLen])
      have d0 := hr1.cell (j := 0) rfl
      have d1 := hr1.cell (j := 1) rfl
      have d2 := (hr1.ext (Upd.alloc _ (.cells #[.slice ap lp cp] 22) _)).cell (j := 1) rfl
      obtain ⟨_, _, ee, hrd⟩ := HS1.out.elim
      have HRD : Hid (∀ k, k < n → ∃ b off, aq = some ⟨b, off, none⟩ ∧ ∃ u, w1.cell? ⟨b, off + k, none⟩ = some u ∧ SI w1 u (nthL (splitQ p) k)) := by
        injection ee with e3 _ _
        intro k hk
        rw [e3]; exact hrd k (by rw [← hn]; exact hk)
      clear ho1 hg1 h1 e2 hr1 hlp hn ee hrd
      go_wp2_with fail
      go_loopw [4, 18] (fun o i wr => ∃ k : Nat, k ≤ n ∧ i = .int .i64 ((k : Nat) : Int) ∧ (∃ b c m, o = .slice (some ⟨b, 0, none⟩) m c ∧ Hid (m = (rtTo p f k).length) ∧ Hid (GR w.heap.size wr b c (rtTo p f k)) ∧ w1.heap.size ≤ b) ∧ Hid (Ext w1 wr)) (fun _ i _ => n - (intOf i).toNat)
      case atStart => exact ⟨0, Nat.zero_le _, rfl, ⟨w1.heap.size + 1, 1, 1, by first | rfl | go_num, Lib.hid rfl, HGR0, by omega⟩, HE12⟩
      case round =>
        obtain ⟨k, hk, rfl, ⟨b, c, m, rfl, hm, hgr, hb1⟩, he⟩ := hrel
        clear HGR0 HE12 d0 d1 d2
        have hwz := he.out.size
        by_cases hlt : k < n
        · have hkI : (k : Int) < (n : Int) := by omega
          have hkQ : k < (splitQ p).length := by rw [← HN.out]; exact hlt
          obtain ⟨bq, offq, rfl, u, hu, hsu⟩ := HRD.out k hlt
          replace hu := he.out.cell hu
          replace hsu := hsu.ext he.out
          obtain ⟨q1, q2, q3⟩ := splitQ_ok HP.out h2' _ (nthL_mem hkQ)
          have HT := Lib.hid (rtTo_succ (f := f) hkQ)
          have hlen := rtTo_len (f := f) (by omega) HP.out h8 h2' k (by rw [← HN.out]; exact hk)
          have hrl := rootsF_len8 (f := f) (by omega) q1 (by omega)
          have hcall := HIH.out u (nthL (splitQ p) k) wr (by omega) (by omega) hsu q1
          obtain ⟨Y, hY⟩ : ∃ Y, Y = rootsF f (nthL (splitQ p) k) := ⟨_, rfl⟩
          have HCALL := Lib.hid hcall
          have HY := Lib.hid hY
          have HLB : Hid ((rtTo p f k).length ≤ 1000000000) := by show _ ≤ _; omega
          have HYB : Hid (Y.length ≤ 1000000000) := by show _ ≤ _; rw [hY]; omega
          clear hsu q1 q2 q3 hcall hlen hrl hY
          go_wp2_with fail
          refine HCALL.out.mono ?_
          rintro e w5 ⟨v5, rfl, hg5, h5⟩
          rw [← HY.out] at hg5
          rw [← HY.out] at HT
          have hz5 := h5.size
          have HGR5 := Lib.hid (hgr.out.ext h5)
          have HE5 := Lib.hid (he.out.trans h5)
          rcases hg5 with ⟨rfl, hnil⟩ | ⟨b5, c5, rfl, hgr5⟩
          · have HT2 : Hid (rtTo p f (k + 1) = rtTo p f k) := by show _ = _; rw [HT.out, hnil, List.append_nil]
            obtain ⟨i0, hi0, hz0, hs0, hb0⟩ := info_ints
            obtain ⟨vs5, hrow5, hvl5, -, -⟩ := HGR5.out
            have howns : w5.ownsRow 0 22 1 (.slice (some ⟨b, 0, none⟩) m c) m vs5 := by
              obtain ⟨cur, p1, p2, p3⟩ := hrow5.cur
              have hle := hrow5.le
              have hmx := hrow5.mx
              have hmv : m = vs5.length := by rw [hvl5]; exact hm.out
              exact ⟨by omega, .inr ⟨b, c, cur, rfl, by omega, p1, by omega, hmx, by omega, by rw [Nat.mul_one, hmv]; exact p3⟩⟩
            have HRUN := Lib.hid (fun ty => run_append_owned_none (P := Try.prog) w5 0 35 ty 22 i0 1 Try.underlying35 hi0 _ m vs5 howns)
            clear hi0 hz0 hs0 hb0 hrow5 hvl5 howns h5 hnil
            go_wp2_with (at_builtin; go_loud (refine Lib.wpList_append_run _ rfl _ _ _ _ rfl _ _ rfl rfl _ _ (HRUN.out _) ?_))
            go_roundw
            case rel => exact ⟨k + 1, by omega, by go_num, ⟨b, c, m, rfl, by show _ = _; rw [HT2.out]; exact hm.out, by show GR _ _ _ _ _; rw [HT2.out]; exact HGR5.out, hb1⟩, HE5⟩
            case measure => simp [intOf]; omega
          · obtain ⟨us, hru, hul, hlo5, hou⟩ := hgr5
            have HGU := Lib.hid (show ∀ i, i < Y.length → OI w.heap.size w5.heap.size w5 (nthV us i) (nthL Y i) ∧ (nthV us i).ownBlock ≠ some b from fun i hi => ⟨(hou i hi).1.mono (by omega) (Nat.le_refl _), fun e => by have h1 := ((hou i hi).1.own e).1; have h2 := hgr.out.lt; omega⟩)
            have HCE := Lib.hid (show ∀ j u, us[j]? = some u → w5.cell? ((⟨b5, 0, none⟩ : Addr).add j) = some u from fun j u hj => by rw [Addr.add_lit, Nat.zero_add]; exact hru.cell hj)
            have HON := Lib.hid (show ∀ u ∈ us, u.oneCell' = true from fun u hu => by
              obtain ⟨i, hi, rfl⟩ := List.getElem_of_mem hu
              have h1 := (hou i (by omega)).1.oneC
              have e2 : nthV us i = us[i] := by simp [nthV, hi]
              rw [← e2]; exact h1)
            have HUL := Lib.hid hul
            have hB5 : w.heap.size ≤ w5.heap.size := by omega
            clear hru hul hlo5 hou h5
            go_wp2_with (at_builtin; go_loud (refine wpl_appGR2 rfl (.tmp 22) (.tmp 24) rfl w.heap.size b c m _ c5 (rtTo p f k) Y us ⟨b5, 0, none⟩ rfl hm.out HGR5.out rfl rfl HUL.out HGU.out HCE.out HON.out hB5 HLB.out HYB.out ?_); intro b8 c8 w8 hr8 hc8 hu8)
            have HR8 : Hid (GR w.heap.size w8 b8 c8 (rtTo p f (k + 1))) := by show GR _ _ _ _ _; rw [HT.out]; exact hr8
            have HE8 := Lib.hid (HE5.out.upd1 hu8 hb1)
            have HM8 : Hid (m + Y.length = (rtTo p f (k + 1)).length) := by show _ = _; rw [HT.out, List.length_append, ← hm.out]
            have hb8 : w1.heap.size ≤ b8 := by rcases hc8 with h | h <;> omega
            clear hr8 hu8 hc8
            go_roundw
            case rel => exact ⟨k + 1, by omega, by go_num, ⟨b8, c8, _, rfl, HM8, HR8, hb8⟩, HE8⟩
            case measure => simp [intOf]; omega
        · obtain rfl : k = n := by omega
          have HFIN : Hid (rtTo p f k = rootsF (f + 1) p) := by show _ = _; rw [HN.out]; exact rtTo_all h2'
          go_wp2_with fail
          go_ret
          exact ⟨_, rfl, by rw [← HFIN.out]; exact hgr.out.gi hm.out, HE1.out.trans he.out⟩
end Go.Proofs.Ytcifngcmdiokpaa
namespace Go.Proofs.Ytcifngcmdiokpaa
open Go.RowKit

def long2 (r : List Int) : Bool := decide (2 < r.length)
theorem sepB_any {p : List Int} (h : isP8 p = true) : sepB p = !anyL long2 (rootsF p.length p) := by
  unfold sepB anyL
  rw [h, Bool.true_and, List.all_eq_not_any_not]
  congr 2
  funext r
  unfold long2
  by_cases e : r.length ≤ 2
  · rw [decide_eq_true e, decide_eq_false (by omega)]; rfl
  · rw [decide_eq_false e, decide_eq_true (by omega)]; rfl
theorem long2_ok (v : Value) (q : List Int) (w : World) (h : SI w v q) :
    Calls Try.prog 64 #[v] w fun e w' => e = .returned (.bool (long2 q)) ∧ Ext w w' := by
  obtain ⟨a, cap, rfl, -⟩ := h.elim
  obtain ⟨r, hr⟩ : ∃ r, r = long2 q := ⟨_, rfl⟩
  have HR : Hid (decide (2 < (q.length : Int)) = r) := by show _ = _; rw [hr]; unfold long2; by_cases e : 2 < q.length
                                                          · rw [decide_eq_true e, decide_eq_true (by omega)]
                                                          · rw [decide_eq_false e, decide_eq_false (by omega)]
  rw [← hr]
  clear h hr
  go_enter Try.func64, Try.ntmps64
  go_wp2_with fail
  go_ret
  exact ⟨by rw [HR.out]; rfl, Ext.refl _⟩
set_option maxHeartbeats 1000000 in
theorem impl_IsSeparable_ok (v : Value) (p : List Int) (w : World) (h : SI w v p) :
    Calls Try.prog 42 #[v] w fun e w' => e = .returned (.bool (sepB p)) ∧ Ext w w' := by
  have h00 := h
  obtain ⟨a, cap, rfl, -⟩ := h00.elim
  have HH := Lib.hid h
  cases hp : isP8 p
  · have HP := Lib.hid hp
    have HR : Hid (sepB p = false) := by show _ = _; unfold sepB; rw [hp]; rfl
    clear h h00 hp
    go_enter Try.func42, Try.ntmps42
    go_wp2_with fail
    refine (impl_IsPerm_ok _ p _ HH.out).mono ?_
    rintro e w1 ⟨rfl, he⟩
    rw [HP.out]
    have HE := Lib.hid he
    clear he
    go_wp2_with fail
    go_ret
    exact ⟨by rw [HR.out]; rfl, HE.out⟩
  · have HP := Lib.hid hp
    obtain ⟨h8, hpp⟩ := isP8_iff.1 hp
    have HPP := Lib.hid hpp
    obtain ⟨r, hr⟩ : ∃ r, r = anyL long2 (rootsF p.length p) := ⟨_, rfl⟩
    have HR := Lib.hid hr
    have HL : Hid (sepB p = !r) := by show _ = _; rw [sepB_any hp, hr]
    have HLEN : Hid ((rootsF p.length p).length ≤ 100000000) := rootsF_len8 h8 hpp h8
    have hen : Enters 64 := enters_of Try.func64 rfl rfl
    have HEN := Lib.hid hen
    clear h h00 hp hpp hr hen
    go_enter Try.func42, Try.ntmps42
    go_wp2_with fail
    refine (impl_IsPerm_ok _ p _ HH.out).mono ?_
    rintro e w1 ⟨rfl, he⟩
    rw [HP.out]
    have HE := Lib.hid he
    clear he
    go_wp2_with fail
    refine (roots_ok p.length _ p _ h8 (Nat.le_refl _) (HH.out.ext HE.out) HPP.out).mono ?_
    rintro e w2 ⟨v2, rfl, ho, h2⟩
    have HO := Lib.hid ho.sii
    have HE2 := Lib.hid (HE.out.trans h2)
    clear ho h2
    go_wp2_with fail
    refine (containsFuncL_ok _ (rootsF p.length p) 64 #[] long2 _ HO.out (by have := HLEN.out; omega) HEN.out (fun i hi u w1 hw hu => long2_ok u _ w1 hu)).mono ?_
    rintro e w3 ⟨rfl, h3⟩
    rw [← HR.out]
    have HE3 := Lib.hid (HE2.out.trans h3)
    clear h3
    go_wp2_with fail
    go_ret
    exact ⟨by rw [HL.out]; rfl, HE3.out⟩
end Go.Proofs.Ytcifngcmdiokpaa
namespace Go.Proofs.Ytcifngcmdiokpaa
open Go.RowKit

def rtN : Nat → Nat
  | 0 => 0
  | n + 1 => 1 + (n + 1) * rtN n
theorem rtN_up (n : Nat) : rtN n ≤ rtN (n + 1) := by
  have h1 : 1 * rtN n ≤ (n + 1) * rtN n := Nat.mul_le_mul_right _ (by omega)
  rw [rtN]; omega
theorem rtN_mono {a b : Nat} (h : a ≤ b) : rtN a ≤ rtN b := by
  induction b with
  | zero => obtain rfl : a = 0 := by omega
            exact Nat.le_refl _
  | succ b ih =>
    rcases Nat.lt_or_ge b a with e | e
    · obtain rfl : a = b + 1 := by omega
      exact Nat.le_refl _
    · exact Nat.le_trans (ih e) (rtN_up b)
theorem flat_len {f : List Int → List (List Int)} {m : Nat} : ∀ (L : List (List Int)), (∀ q ∈ L, (f q).length ≤ m) → ((L.map f).flatten).length ≤ L.length * m := by
  intro L
  induction L with
  | nil => intro _; simp
  | cons a L ihL =>
    intro hL
    have h1 := hL a (by simp)
    have h3 := ihL (fun q hq => hL q (List.mem_cons_of_mem _ hq))
    rw [List.map_cons, List.flatten_cons, List.length_append, List.length_cons, Nat.succ_mul]
    omega
theorem rootsF_rtN : ∀ (f : Nat) (p : List Int), IsP p → (rootsF f p).length ≤ rtN p.length := by
  intro f
  induction f with
  | zero => intro p _; simp [rootsF]
  | succ f ih =>
    intro p hp
    by_cases h2 : p.length < 2
    · simp [rootsF, h2]
    · have hq := splitQ_ok hp (by omega)
      have hql := splitQ_len (p := p) (by omega)
      obtain ⟨n, hn⟩ : ∃ n, p.length = n + 1 := ⟨p.length - 1, by omega⟩
      simp only [rootsF, if_neg h2, List.length_cons]
      have h1 := flat_len (f := rootsF f) (m := rtN n) (splitQ p) (fun q hqm => Nat.le_trans (ih q (hq q hqm).1) (rtN_mono (by have := (hq q hqm).2.2; omega)))
      have h3 : (splitQ p).length * rtN n ≤ (n + 1) * rtN n := Nat.mul_le_mul_right _ (by omega)
      rw [hn, rtN]; omega
theorem putsL_len (R L : List (List Int)) : (R.foldl putL L).length ≤ L.length + R.length := by
  induction R generalizing L with
  | nil => simp
  | cons a R ih =>
    have h1 := ih (putL L a)
    have h2 := putL_len L a
    rw [List.foldl_cons, List.length_cons]; omega
theorem putL_each {L : List (List Int)} {p : List Int} {n : Nat} (h : ∀ x ∈ L, x.length ≤ n) (hp : p.length ≤ n) : ∀ x ∈ putL L p, x.length ≤ n := by
  intro x hx
  unfold putL at hx
  cases hh : hitB L p <;> rw [hh] at hx
  · rw [cond_false] at hx
    rcases List.mem_append.1 hx with h1 | h1
    · exact h x (List.mem_of_mem_take h1)
    · rcases List.mem_cons.1 h1 with rfl | h1
      · exact hp
      · exact h x (List.mem_of_mem_drop h1)
  · exact h x hx
theorem putsL_each {n : Nat} (R : List (List Int)) : ∀ (L : List (List Int)), (∀ x ∈ L, x.length ≤ n) → (∀ x ∈ R, x.length ≤ n) → ∀ x ∈ R.foldl putL L, x.length ≤ n := by
  induction R with
  | nil => intro L h _; exact h
  | cons a R ih =>
    intro L h hR
    rw [List.foldl_cons]
    exact ih _ (putL_each h (hR a (by simp))) (fun x hx => hR x (List.mem_cons_of_mem _ hx))
theorem splitR_pos {p : List Int} (h2 : 2 ≤ p.length) : 0 < (splitR p).length := by
  unfold splitR
  cases decide (1 < (spP p p.length).length)
  · cases decide (1 < (skP p).length)
    · simp only [cond_false, patL_len, List.length_map]; obtain ⟨g, _, e, _⟩ := cuts_t (p := p) (f := p.length) (s := 0) (by omega) (by omega); unfold cutL; rw [e]; simp
    · simp
  · simp
/-- the list L after the root and the roots of the first k parts. -/
def lrTo (L : List (List Int)) (p : List Int) (f k : Nat) : List (List Int) := (rtTo p f k).foldl putL L
theorem lrTo_succ {L : List (List Int)} {p : List Int} {f k : Nat} (h : k < (splitQ p).length) : lrTo L p f (k + 1) = (rootsF f (nthL (splitQ p) k)).foldl putL (lrTo L p f k) := by
  unfold lrTo
  rw [rtTo_succ h, List.foldl_append]
theorem rtTo_rtN {p : List Int} {f n : Nat} (hp : IsP p) (hn : p.length = n + 1) (h2 : 2 ≤ p.length) : ∀ k, k ≤ (splitQ p).length → (rtTo p f k).length ≤ 1 + k * rtN n := by
  intro k
  induction k with
  | zero => intro _; simp [rtTo]
  | succ k ih =>
    intro hk
    have h1 := ih (by omega)
    have hq := splitQ_ok hp h2 _ (nthL_mem (show k < (splitQ p).length by omega))
    have h3 := rootsF_rtN f _ hq.1
    have h4 : rtN (nthL (splitQ p) k).length ≤ rtN n := rtN_mono (by omega)
    rw [rtTo_succ (by omega), List.length_append, Nat.succ_mul]; omega
theorem rtTo_each {p : List Int} {f : Nat} (hp : IsP p) (h8 : p.length ≤ 8) (h2 : 2 ≤ p.length) (k : Nat) : ∀ x ∈ rtTo p f k, x.length ≤ 8 := by
  intro x hx
  unfold rtTo at hx
  rcases List.mem_cons.1 hx with rfl | hx
  · have := splitR_len h2; omega
  · obtain ⟨l, hl, hxl⟩ := List.mem_flatten.1 hx
    obtain ⟨q, hqm, rfl⟩ := List.mem_map.1 hl
    have hq := splitQ_ok hp h2 q (List.mem_of_mem_take hqm)
    exact (rootsF_len f q hq.1 (by omega)).2 x hxl
theorem l6Split_ok (v : Value) (p : List Int) (w : World) (h : SI w v p) (hp : IsP p) (h8 : p.length ≤ 8) (h2 : 2 ≤ p.length) : Calls Try.prog 90 #[v] w (SpPost p w) := by
  by_cases h3 : 1 < (spP p p.length).length
  · exact l6Split_sum v p w h hp h8 h2 h3
  · by_cases h4 : 1 < (skP p).length
    · exact l6Split_skew v p w h hp h8 h2 h3 h4
    · exact l6Split_iv v p w h hp h8 h2 h3 h4

def LrPost (B b : Nat) (f : Nat) (L : List (List Int)) (p : List Int) (w : World) (e : Ending) (w' : World) : Prop :=
  ∃ b' c', e = .returned (.slice (some ⟨b', 0, none⟩) ((rootsF f p).foldl putL L).length c') ∧ RR B w'.heap.size w' b' c' ((rootsF f p).foldl putL L) ∧ (b' = b ∨ w.heap.size ≤ b') ∧ Upd (· = b) w w'
set_option maxHeartbeats 4000000 in
theorem l6Roots_ok : ∀ (f : Nat) (v : Value) (p : List Int) (w : World) (B b cap : Nat) (L : List (List Int)), f ≤ 8 → p.length ≤ f → SI w v p → IsP p → RR B w.heap.size w b cap L → (∀ x ∈ L, x.length ≤ 8) → L.length + rtN p.length ≤ 1000000 →
    Calls Try.prog 77 #[v, .slice (some ⟨b, 0, none⟩) L.length cap] w (LrPost B b f L p w) := by
  intro f
  induction f with
  | zero =>
    intro v p w B b cap L _ hl h hp hr _ _
    obtain ⟨a, c1, rfl, -⟩ := h.elim
    have hlI : (p.length : Int) < 2 := by omega
    have HR := Lib.hid hr
    clear h hp hr
    go_enter Try.func77, Try.ntmps77
    go_wp2_with fail
    go_ret
    exact ⟨b, cap, rfl, HR.out, .inl rfl, Upd.refl _ _⟩
  | succ f ih =>
    intro v p w B b cap L hf8 hl h hp hr h8L hlen
    have h00 := h
    obtain ⟨a, c1, rfl, -⟩ := h00.elim
    have HIH := Lib.hid ih
    have HH := Lib.hid h
    have HP := Lib.hid hp
    have HR := Lib.hid hr
    have H8L := Lib.hid h8L
    have HLEN := Lib.hid hlen
    clear h h00 hp ih hr h8L hlen
    by_cases h2 : p.length < 2
    · have hlI : (p.length : Int) < 2 := by omega
      have HRF : Hid (rootsF (f + 1) p = []) := by show _ = _; simp [rootsF, h2]
      go_enter Try.func77, Try.ntmps77
      go_wp2_with fail
      go_ret
      exact ⟨b, cap, by rw [HRF.out]; rfl, by rw [HRF.out]; exact HR.out, .inl rfl, Upd.refl _ _⟩
    · have hlI : ¬ (p.length : Int) < 2 := by omega
      have h2' : 2 ≤ p.length := by omega
      have h8 : p.length ≤ 8 := by omega
      go_enter Try.func77, Try.ntmps77
      go_wp2_with fail
      refine (l6Split_ok _ p _ HH.out HP.out h8 h2').mono ?_
      rintro e w1 ⟨rv, pv, rfl, ho1, hg1, h1⟩
      obtain ⟨bp, cp, hrv, hbp1, hbp2, hrp⟩ := ho1.full (splitR_pos h2')
      obtain ⟨aq, cq, hpv⟩ := hg1.shape'
      obtain ⟨lp, hlp⟩ : ∃ l, l = (splitR p).length := ⟨_, rfl⟩
      obtain ⟨n, hn⟩ : ∃ l, l = (splitQ p).length := ⟨_, rfl⟩
      rw [← hlp] at hrv
      rw [← hn] at hpv
      subst hrv hpv
      have HN := Lib.hid hn
      have HLP := Lib.hid hlp
      have hn8 : n ≤ 8 := by have := splitQ_len h2'; omega
      have hlp8 : Hid (lp ≤ 8) := by show _ ≤ _; have := splitR_len h2'; omega
      have hz1 := h1.size
      have e2 : Ext w1 (w1.alloc (.cells #[.slice (some ⟨bp, 0, none⟩) lp cp, .slice aq n cq] 65)) := (Ext.refl w1).alloc _
      have hr1 := Row.new 65 w1 [.slice (some ⟨bp, 0, none⟩) lp cp, .slice aq n cq] (by simp [maxLen])
      obtain ⟨ds, hds⟩ : ∃ ds, ds = w1.heap.size := ⟨_, rfl⟩
      obtain ⟨ws, hws⟩ : ∃ ws, ws = w1.alloc (.cells #[.slice (some ⟨bp, 0, none⟩) lp cp, .slice aq n cq] 65) := ⟨_, rfl⟩
      have hzs : ws.heap.size = ds + 1 := by rw [hws, hds]; simp
      rw [← hws] at e2
      have hrs : Row 65 ws ds 2 [.slice (some ⟨bp, 0, none⟩) lp cp, .slice aq n cq] := by rw [hws, hds]; exact hr1
      have hblt := HR.out.lt
      have d0 := hrs.cell (j := 0) rfl
      have d1 := hrs.cell (j := 1) rfl
      have HRS := Lib.hid hrs
      have HES := Lib.hid (h1.trans e2)
      have HRV : Hid (SI ws (.slice (some ⟨bp, 0, none⟩) (splitR p).length cp) (splitR p)) := by rw [← HLP.out]; exact (ho1.ext e2).si
      have HRW := Lib.hid (HR.out.ext HES.out)
      have HRD : Hid (∀ k, k < n → ∃ bq, aq = some ⟨bq, 0, none⟩ ∧ w.heap.size ≤ bq ∧ bq < ws.heap.size ∧ ∃ u, ws.cell? ⟨bq, k, none⟩ = some u ∧ OI w.heap.size ws.heap.size ws u (nthL (splitQ p) k)) := by
        intro k hk
        rcases hg1.ext e2 with ⟨e, _⟩ | ⟨bq, cq', e, hgr⟩
        · injection e with _ e3 _; omega
        · injection e with e3 _ _
          obtain ⟨u, hu, hou, _⟩ := hgr.get (k := k) (by rw [← hn]; exact hk)
          exact ⟨bq, e3, hgr.lo, hgr.lt, u, hu, hou⟩
      have hput := l3Put_ok B w.heap.size b cap L ⟨bp, 0, none⟩ cp (splitR p) ws HRW.out HR.out.lo (by omega) HRV.out (by have := HLEN.out; omega) (by rw [← hlp]; have := hlp8.out; omega) (fun x hx => by have := H8L.out x hx; omega)
      rw [← hlp] at hput
      have HPUT := Lib.hid hput
      clear ho1 hg1 h1 e2 hr1 hlp hn hrs hrp hput
      go_wp2_with fail
      rw [← hws, ← hds]
      have hdlo : w.heap.size ≤ ds := by omega
      clear hws hds
      go_wp2_with fail
      refine HPUT.out.mono ?_
      rintro e w2 ⟨b2, c2, rfl, hr2, hb2, hu2⟩
      obtain ⟨m2, hm2⟩ : ∃ m, m = (putL L (splitR p)).length := ⟨_, rfl⟩
      rw [← hm2]
      have HM2 := Lib.hid hm2
      have HR2 := Lib.hid hr2
      have HU2 := Lib.hid hu2
      clear hr2 hu2 hm2
      go_wp2_with fail
      go_loopw [1, 6] (fun o i wr => ∃ k : Nat, k ≤ n ∧ i = .int .i64 ((k : Nat) : Int) ∧ (∃ b' c m, o = .slice (some ⟨b', 0, none⟩) m c ∧ Hid (m = (lrTo L p f k).length) ∧ Hid (RR B wr.heap.size wr b' c (lrTo L p f k)) ∧ (b' = b ∨ ws.heap.size ≤ b')) ∧ Hid (Upd (· = b) ws wr)) (fun _ i _ => n - (intOf i).toNat)
      case atStart => exact ⟨0, Nat.zero_le _, rfl, ⟨b2, c2, m2, by first | rfl | go_num, HM2, HR2, hb2⟩, HU2⟩
      case round =>
        obtain ⟨k, hk, rfl, ⟨b', c, m, rfl, hm, hrr, hb1⟩, he⟩ := hrel
        clear HM2 HR2 HU2 d0 d1
        have hwz := he.out.size
        have hrw := HRS.out.upd he.out (fun e => by have e2 : ds = b := e; omega)
        have d0 := hrw.cell (j := 0) rfl
        have d1 := hrw.cell (j := 1) rfl
        clear hrw
        by_cases hlt : k < n
        · have hkI : (k : Int) < (n : Int) := by omega
          have hkQ : k < (splitQ p).length := by rw [← HN.out]; exact hlt
          obtain ⟨bq, rfl, hbq1, hbq2, u, hu, hou⟩ := HRD.out k hlt
          replace hu := he.out.cell hu (fun e => by have e2 : bq = b := e; omega)
          have hsu := (hou.upd he.out (fun x _ h1 h2 e => by have e2 : x = b := e; omega)).si
          obtain ⟨q1, q2, q3⟩ := splitQ_ok HP.out h2' _ (nthL_mem hkQ)
          have HT := Lib.hid (lrTo_succ (L := L) (f := f) hkQ)
          obtain ⟨n', hn'⟩ : ∃ n', p.length = n' + 1 := ⟨p.length - 1, by omega⟩
          have hll : (lrTo L p f k).length + rtN (nthL (splitQ p) k).length ≤ 1000000 := by
            have g1 := putsL_len (rtTo p f k) L
            have g2 := rtTo_rtN (f := f) HP.out hn' h2' k (by omega)
            have g3 : rtN (nthL (splitQ p) k).length ≤ rtN n' := rtN_mono (by omega)
            have g4 := HLEN.out
            rw [hn', rtN] at g4
            have g5 := splitQ_len h2'
            have g6 : (k + 1) * rtN n' ≤ (n' + 1) * rtN n' := Nat.mul_le_mul_right _ (by omega)
            rw [Nat.succ_mul] at g6
            show ((rtTo p f k).foldl putL L).length + _ ≤ _
            omega
          have hcall := HIH.out u (nthL (splitQ p) k) wr B b' c (lrTo L p f k) (by omega) (by omega) hsu q1 hrr.out (putsL_each _ _ H8L.out (rtTo_each HP.out h8 h2' k)) hll
          rw [← hm.out] at hcall
          have HCALL := Lib.hid hcall
          clear hsu hou q1 q2 q3 hcall hll hn'
          go_wp2_with fail
          refine HCALL.out.mono ?_
          rintro e w5 ⟨b5, c5, rfl, hr5, hb5, hu5⟩
          have hT := HT.out
          rw [← hT] at hr5
          rw [← hT]
          have hz5 := hu5.size
          have HR5 := Lib.hid hr5
          have HU5 : Hid (Upd (· = b) ws w5) := Upd.comp he.out hu5 (fun _ _ h => h) (fun i hi e => by have e2 : i = b' := e; show i = b; omega)
          obtain ⟨m5, hm5⟩ : ∃ m, m = (lrTo L p f (k + 1)).length := ⟨_, rfl⟩
          rw [← hm5]
          have HM5 := Lib.hid hm5
          have hb5' : b5 = b ∨ ws.heap.size ≤ b5 := by omega
          clear hr5 hu5 hT hm5 hu
          go_wp2_with fail
          go_roundw
          case rel => exact ⟨k + 1, by omega, by go_num, ⟨b5, c5, m5, rfl, HM5, HR5, hb5'⟩, HU5⟩
          case measure => simp [intOf]; omega
        · obtain rfl : k = n := by omega
          have HFIN : Hid (lrTo L p f k = (rootsF (f + 1) p).foldl putL L) := by show _ = _; unfold lrTo; rw [HN.out, rtTo_all h2']
          have hkI : ¬ (k : Int) < (k : Int) := by omega
          go_wp2_with fail
          go_ret
          refine ⟨b', c, by rw [← HFIN.out, ← hm.out]; rfl, by rw [← HFIN.out]; exact hrr.out, ?_, Upd.comp HES.out he.out (fun _ _ h => h.elim) (fun _ _ h => h)⟩
          have hzz := HES.out.size
          omega
end Go.Proofs.Ytcifngcmdiokpaa
namespace Go.Proofs.Ytcifngcmdiokpaa
open Go.RowKit

theorem sepB_put {p : List Int} (h : isP8 p = true) : sepB p = !anyL long2 (putAll (rootsF p.length p)) := by
  rw [sepB_any h]
  unfold anyL
  congr 1
  rw [Bool.eq_iff_iff, List.any_eq_true, List.any_eq_true]
  constructor
  · rintro ⟨x, h1, h2⟩; exact ⟨x, (putAll_mem _ x).2 h1, h2⟩
  · rintro ⟨x, h1, h2⟩; exact ⟨x, (putAll_mem _ x).1 h1, h2⟩
def rtsB (p : List Int) : List (List Int) := bif isP8 p then putAll (rootsF p.length p) else []
theorem rtsB_len (p : List Int) : (rtsB p).length ≤ 1000000 := by
  unfold rtsB
  cases hp : isP8 p
  · simp
  · obtain ⟨h8, hpp⟩ := isP8_iff.1 hp
    have h1 := putsL_len (rootsF p.length p) []
    have h2 := rootsF_rtN p.length p hpp
    have h3 := rtN_mono h8
    have h4 : rtN 8 = 69281 := by decide
    simp only [cond_true]
    show ((rootsF p.length p).foldl putL []).length ≤ _
    simp only [List.length_nil] at h1
    omega
theorem rtsB_each (p : List Int) : ∀ x ∈ rtsB p, x.length ≤ 8 := by
  unfold rtsB
  cases hp : isP8 p
  · simp
  · obtain ⟨h8, hpp⟩ := isP8_iff.1 hp
    intro x hx
    exact (rootsF_len p.length p hpp h8).2 x ((putAll_mem _ x).1 hx)
set_option maxHeartbeats 1000000 in
theorem spec_RootsIn_ok (v : Value) (p : List Int) (w : World) (h : SI w v p) (hl : p.length ≤ 1048576) :
    Calls Try.prog 56 #[v] w fun e w' => ∃ v', e = .returned v' ∧ SII w' v' (rtsB p) ∧ Ext w w' := by
  have h00 := h
  obtain ⟨a, cap, rfl, -⟩ := h00.elim
  have HH := Lib.hid h
  cases hp : isP8 p
  · have HP := Lib.hid hp
    have HR : Hid (rtsB p = []) := by show _ = _; unfold rtsB; rw [hp]; rfl
    clear h h00 hp
    go_enter Try.func56, Try.ntmps56
    go_wp2_with fail
    refine (spec_IsPerm_qt _ p _ HH.out (by omega)).mono ?_
    rintro e w1 ⟨rfl, he⟩
    rw [HP.out]
    have HE := Lib.hid he.ext
    clear he
    go_wp2_with fail
    go_ret
    refine ⟨_, rfl, ?_, HE.out.trans (Upd.alloc _ _ _)⟩
    rw [HR.out]
    exact (RR.new w1).sii rfl
  · have HP := Lib.hid hp
    obtain ⟨h8, hpp⟩ := isP8_iff.1 hp
    have HPP := Lib.hid hpp
    have HR : Hid (rtsB p = (rootsF p.length p).foldl putL []) := by show _ = _; unfold rtsB; rw [hp]; rfl
    clear h h00 hp hpp
    go_enter Try.func56, Try.ntmps56
    go_wp2_with fail
    refine (spec_IsPerm_qt _ p _ HH.out (by omega)).mono ?_
    rintro e w1 ⟨rfl, he⟩
    rw [HP.out]
    have HE := Lib.hid he.ext
    have HE1 := Lib.hid (he.ext.trans (Upd.alloc w1 (.cells #[] 22) _))
    have HCALL := Lib.hid (l6Roots_ok p.length (.slice a p.length cap) p (w1.alloc (.cells #[] 22)) w1.heap.size w1.heap.size 0 [] h8 (Nat.le_refl _) (HH.out.ext HE1.out) HPP.out (by have h := RR.new w1; rw [show w1.heap.size + 1 = (w1.alloc (.cells #[] 22)).heap.size by simp] at h; exact h) (by simp) (by
      have h3 := rtN_mono h8
      have h4 : rtN 8 = 69281 := by decide
      simp only [List.length_nil]
      omega))
    clear he
    go_wp2_with fail
    refine HCALL.out.mono ?_
    rintro e w2 ⟨b2, c2, rfl, hr2, hb2, hu2⟩
    rw [← HR.out] at hr2 ⊢
    have HR2 := Lib.hid (hr2.sii rfl)
    have hz := HE.out.size
    have HE2 := Lib.hid (show Ext w w2 from Ext.upd1 HE1.out hu2 hz)
    clear hr2 hu2
    go_wp2_with fail
    go_ret
    exact ⟨_, rfl, HR2.out, HE2.out⟩
def sepTo (L : List (List Int)) (k : Nat) : Bool := (L.take k).any long2
set_option maxHeartbeats 1000000 in
theorem spec_IsSeparable_ok (v : Value) (p : List Int) (w : World) (h : SI w v p) (hl : p.length ≤ 1048576) :
    Calls Try.prog 35 #[v] w fun e w' => e = .returned (.bool (sepB p)) ∧ Ext w w' := by
  have h00 := h
  obtain ⟨a, cap, rfl, -⟩ := h00.elim
  have HH := Lib.hid h
  obtain ⟨pb, hpb⟩ : ∃ b, b = isP8 p := ⟨_, rfl⟩
  obtain ⟨L, hL⟩ : ∃ L, L = rtsB p := ⟨_, rfl⟩
  have hlen : L.length ≤ 1000000 := by rw [hL]; exact rtsB_len p
  have HAN : Hid (sepB p = (pb && !L.any long2)) := by
    show _ = _
    rw [hpb, hL]
    cases hp : isP8 p
    · unfold sepB; rw [hp]; rfl
    · rw [sepB_put hp, Bool.true_and]
      unfold rtsB anyL
      rw [hp]; rfl
  have HPB := Lib.hid hpb
  have HLL := Lib.hid hL
  clear h h00 hpb hL
  go_enter Try.func35, Try.ntmps35
  go_wp2_with fail
  refine (spec_RootsIn_ok _ p _ HH.out hl).mono ?_
  rintro e w1 ⟨v1, rfl, ho, he⟩
  rw [← HLL.out] at ho
  have HS := Lib.hid ho
  obtain ⟨a1, c1, rfl, hrd⟩ := ho.elim
  have HRD := Lib.hid hrd
  have HE := Lib.hid he
  clear ho hrd he
  go_wp2_with fail
  go_loopw [4] (fun i wr => ∃ k : Nat, k ≤ L.length ∧ i = .int .i64 ((k : Nat) : Int) ∧ Hid ((L.take k).any long2 = false) ∧ wr = w1) (fun i _ => L.length - (intOf i).toNat)
  case atStart => exact ⟨0, Nat.zero_le _, rfl, by show _ = _; simp, rfl⟩
  case round =>
    obtain ⟨k, hk, rfl, hn, rfl⟩ := hrel
    by_cases hlt : k < L.length
    · have hkI : (k : Int) < (L.length : Int) := by omega
      obtain ⟨b, off, rfl, u, hu, hsu⟩ := HRD.out k hlt
      obtain ⟨au, cu, rfl, -⟩ := hsu.elim
      have HT : Hid (L.take (k + 1) = L.take k ++ [nthL L k]) := take_nthL hlt
      obtain ⟨x, hx⟩ : ∃ x, x = nthL L k := ⟨_, rfl⟩
      rw [← hx] at hu HT
      have HM : Hid (x ∈ L) := by show _ ∈ _; rw [hx]; exact nthL_mem hlt
      clear hsu hx
      by_cases h2 : 2 < x.length
      · have h2I : (2 : Int) < (x.length : Int) := by omega
        have HF : Hid (sepB p = false) := by
          show _ = _
          rw [HAN.out, show L.any long2 = true from List.any_eq_true.2 ⟨x, HM.out, by unfold long2; exact decide_eq_true h2⟩]
          simp
        go_wp2_with fail
        go_ret
        exact ⟨by rw [HF.out]; rfl, HE.out⟩
      · have h2I : ¬ (2 : Int) < (x.length : Int) := by omega
        have HN2 : Hid ((L.take (k + 1)).any long2 = false) := by
          show _ = _
          rw [HT.out, List.any_append, hn.out]
          simp [long2]; omega
        go_wp2_with fail
        go_roundw
        case rel => exact ⟨k + 1, by omega, by go_num, HN2, trivial⟩
        case measure => simp [intOf]; omega
    · obtain rfl : k = L.length := by omega
      have hkI : ¬ (L.length : Int) < (L.length : Int) := by omega
      have HF : Hid (sepB p = pb) := by
        show _ = _
        have h := hn.out
        rw [List.take_length] at h
        rw [HAN.out, h]; simp
      clear hn
      go_wp2_with fail
      refine (spec_IsPerm_qt _ p _ (HH.out.ext HE.out) (by omega)).mono ?_
      rintro e w3 ⟨rfl, q3⟩
      rw [← HPB.out]
      have HE3 := Lib.hid (HE.out.trans q3.ext)
      clear q3
      go_wp2_with fail
      go_ret
      exact ⟨by rw [HF.out]; rfl, HE3.out⟩
end Go.Proofs.Ytcifngcmdiokpaa
namespace Go.Proofs.Ytcifngcmdiokpaa
open Go.RowKit

def noIv (p : List Int) : Bool := (List.range p.length).all fun f => (List.range (p.length + 1)).all fun t => !(decide (f + 2 ≤ t) && (decide (t - f < p.length) && runB p f t))
theorem noIv_t {p : List Int} (h : ∀ f t, f < p.length → f + 2 ≤ t → t ≤ p.length → t - f < p.length → runB p f t = false) : noIv p = true := by
  simp only [noIv, List.all_eq_true, List.mem_range]
  intro f hf t ht
  by_cases h1 : f + 2 ≤ t
  · by_cases h2 : t - f < p.length
    · rw [h f t hf h1 (by omega) h2]; simp
    · simp [h2]
  · simp [h1]
theorem noIv_f {p : List Int} {f t : Nat} (hf : f < p.length) (h1 : f + 2 ≤ t) (h2 : t ≤ p.length) (h3 : t - f < p.length) (h : runB p f t = true) : noIv p = false := by
  rw [Bool.eq_false_iff]
  intro hh
  simp only [noIv, List.all_eq_true, List.mem_range] at hh
  have := hh f hf t (by omega)
  rw [h] at this; simp [h1, h3] at this
/-- what has been found among the places before (f, t). -/
def Flag (p : List Int) (f t m : Nat) : Prop :=
  (m = 0 ∧ ∀ f' t', (f' < f ∨ (f' = f ∧ t' < t)) → f' + 2 ≤ t' → t' ≤ p.length → t' - f' < p.length → runB p f' t' = false) ∨ (0 < m ∧ noIv p = false)
theorem Flag.zero (p : List Int) : Flag p 0 0 0 := .inl ⟨rfl, fun f' t' h => by omega⟩
theorem Flag.start {p : List Int} {f m : Nat} (h : Flag p f 0 m) : Flag p f (f + 2) m := h.imp (fun ⟨h1, h2⟩ => ⟨h1, fun f' t' h3 h4 => h2 f' t' (by omega) h4⟩) id
theorem Flag.line {p : List Int} {f m : Nat} (h : Flag p f (p.length + 1) m) : Flag p (f + 1) 0 m := h.imp (fun ⟨h1, h2⟩ => ⟨h1, fun f' t' h3 h4 h5 => h2 f' t' (by omega) h4 h5⟩) id
theorem Flag.none {p : List Int} {f t m : Nat} (h : Flag p f t m) (hr : ¬ t - f < p.length ∨ runB p f t = false) : Flag p f (t + 1) m := by
  rcases h with ⟨h1, h2⟩ | h
  · refine .inl ⟨h1, fun f' t' h3 h4 h5 h6 => ?_⟩
    by_cases e : f' = f ∧ t' = t
    · obtain ⟨rfl, rfl⟩ := e
      rcases hr with e | e
      · exact absurd h6 e
      · exact e
    · exact h2 f' t' (by omega) h4 h5 h6
  · exact .inr h
theorem Flag.one {p : List Int} {f t m : Nat} (hf : f < p.length) (h1 : f + 2 ≤ t) (h2 : t ≤ p.length) (h3 : t - f < p.length) (h : runB p f t = true) : Flag p f (t + 1) (m + 1) := .inr ⟨by omega, noIv_f hf h1 h2 h3 h⟩
theorem Flag.done {p : List Int} {m : Nat} (h : Flag p p.length 0 m) : decide (m = 0) = noIv p := by
  rcases h with ⟨h1, h2⟩ | ⟨h1, h2⟩
  · rw [noIv_t (fun f t hf h3 h4 h5 => h2 f t (.inl hf) h3 h4 h5), h1]; rfl
  · rw [h2, decide_eq_false (by omega)]
def simB (p : List Int) : Bool := isP8 p && (decide (0 < p.length) && noIv p)
set_option maxHeartbeats 4000000 in
theorem intervals_ok (v : Value) (p : List Int) (w : World) (h : SI w v p) (hp : ∀ x ∈ p, 1 ≤ x ∧ x ≤ 8) (h8 : p.length ≤ 8) :
    Calls Try.prog 80 #[v] w fun e w' => ∃ b c m, e = .returned (.slice (some ⟨b, 0, none⟩) m c) ∧ decide (m = 0) = noIv p ∧ Ext w w' := by
  have h00 := h
  obtain ⟨a, cap, rfl, -⟩ := h00.elim
  have HH := Lib.hid h
  have HP := Lib.hid hp
  have hr0 : Hid (RR w.heap.size (w.alloc (.cells #[] 22)).heap.size (w.alloc (.cells #[] 22)) w.heap.size 0 []) := (RR.new w).mono (by simp)
  have hE0 : Hid (Ext w (w.alloc (.cells #[] 22))) := Upd.alloc _ _ _
  clear h h00 hp
  go_enter Try.func80, Try.ntmps80
  go_wp2_with fail
  go_loopw [3, 9] (fun o i wr => ∃ f : Nat, f ≤ p.length ∧ i = .int .i64 f ∧ (∃ b c m xss, o = .slice (some ⟨b, 0, none⟩) m c ∧ Hid (m = xss.length) ∧ Hid (RR w.heap.size wr.heap.size wr b c xss) ∧ m ≤ 16 * f ∧ Hid (Flag p f 0 m)) ∧ Hid (Ext w wr)) (fun _ i _ => p.length - (intOf i).toNat)
  case atStart => exact ⟨0, Nat.zero_le _, rfl, ⟨_, 0, 0, [], rfl, Lib.hid rfl, hr0, by omega, Flag.zero p⟩, hE0⟩
  case round =>
    obtain ⟨f, hf, rfl, ⟨b, c, m, xss, rfl, hm, hr, hm16, hfl⟩, he⟩ := hrel
    clear hr0 hE0
    by_cases hlt : f < p.length
    · have hltI : (f : Int) < (p.length : Int) := by omega
      go_wp2_with fail
      obtain ⟨wq, hwq⟩ : ∃ wq, wq = wr := ⟨_, rfl⟩
      subst hwq
      go_loopw [3, 5] (fun o i wr => ∃ t : Nat, f + 2 ≤ t ∧ t ≤ p.length + 1 ∧ i = .int .i64 t ∧ (∃ b c m xss, o = .slice (some ⟨b, 0, none⟩) m c ∧ Hid (m = xss.length) ∧ Hid (RR w.heap.size wr.heap.size wr b c xss) ∧ m ≤ 16 * f + t ∧ Hid (Flag p f t m)) ∧ Hid (Ext w wr)) (fun _ i _ => p.length + 1 - (intOf i).toNat)
      case atStart => exact ⟨f + 2, by omega, by omega, by go_num, ⟨b, c, m, xss, rfl, hm, hr, by omega, hfl.out.start⟩, he⟩
      case round =>
        obtain ⟨t, ht2, ht, rfl, ⟨b, c, m, xss, rfl, hm, hr, hm16, hfl⟩, he⟩ := hrel
        have hwz := he.out.size
        by_cases htn : t ≤ p.length
        · have g1 : (t : Int) ≤ (p.length : Int) := by omega
          have g2 : IntKind.i64.wrap ((t : Int) - (f : Int)) = (t : Int) - (f : Int) := IntWalk.i64_in _ (by omega)
          by_cases hg : t - f < p.length
          · have g3 : (t : Int) - (f : Int) < (p.length : Int) := by omega
            have HI := Lib.hid (isInterval_ok _ p f t wr (HH.out.ext he.out) HP.out (by omega) htn h8)
            cases hb : runB p f t
            · have HF : Hid (Flag p f (t + 1) m) := hfl.out.none (.inr hb)
              have HB := Lib.hid hb
              clear hb
              go_wp2_with fail
              refine HI.out.mono ?_
              rintro e w1 ⟨rfl, q1⟩
              rw [HB.out]
              have HR1 := Lib.hid ((hr.out.ext q1.ext).mono q1.ext.size)
              have HE1 := Lib.hid (he.out.trans q1.ext)
              clear q1
              go_wp2_with fail
              go_roundw
              case rel => exact ⟨t + 1, by omega, by omega, by go_num, ⟨b, c, m, xss, rfl, hm, HR1, by omega, HF⟩, HE1⟩
              case measure => simp [intOf]; omega
            · have HF : Hid (Flag p f (t + 1) (m + 1)) := Flag.one hlt ht2 htn hg hb
              have HB := Lib.hid hb
              clear hb
              go_wp2_with fail
              refine HI.out.mono ?_
              rintro e w1 ⟨rfl, q1⟩
              rw [HB.out]
              have HR1 := Lib.hid ((hr.out.ext q1.ext).mono q1.ext.size)
              have HE1 := Lib.hid (he.out.trans q1.ext)
              have hz1 := HE1.out.size
              have hxl : xss.length ≤ 1000000000 := by rw [← hm.out]; omega
              have HXL := Lib.hid hxl
              clear q1 hxl
              go_wp2_with (at_builtin; go_loud (refine wpl_appLit rfl _ _ rfl w.heap.size b c m _ _ xss [(f : Int) + 1, (t : Int)] rfl HR1.out hm.out hz1 (by simp) rfl rfl rfl HXL.out ?_); intro b3 c3 w3 hr3 hu3; have HR3 := Lib.hid hr3; have HU3 := Lib.hid hu3; clear hr3 hu3)
              have HE3 := Lib.hid (HE1.out.upd1 HU3.out HR1.out.lo)
              have HM3 : Hid (m + 1 = (xss ++ [[(f : Int) + 1, (t : Int)]]).length) := by show _ = _; rw [List.length_append, ← hm.out]; rfl
              go_roundw
              case rel => exact ⟨t + 1, by omega, by omega, by go_num, ⟨b3, c3, m + 1, _, rfl, HM3, HR3, by omega, HF⟩, HE3⟩
              case measure => simp [intOf]; omega
          · have g3 : ¬ (t : Int) - (f : Int) < (p.length : Int) := by omega
            have HF : Hid (Flag p f (t + 1) m) := hfl.out.none (.inl hg)
            go_wp2_with fail
            go_roundw
            case rel => exact ⟨t + 1, by omega, by omega, by go_num, ⟨b, c, m, xss, rfl, hm, hr, by omega, HF⟩, he⟩
            case measure => simp [intOf]; omega
        · obtain rfl : t = p.length + 1 := by omega
          have g1 : ¬ ((p.length + 1 : Nat) : Int) ≤ (p.length : Int) := by omega
          have HF : Hid (Flag p (f + 1) 0 m) := hfl.out.line
          go_wp2_with fail
          go_roundw
          case rel => exact ⟨f + 1, by omega, by go_num, ⟨b, c, m, xss, rfl, hm, hr, by omega, HF⟩, he⟩
          case measure => simp [intOf]; omega
    · obtain rfl : f = p.length := by omega
      go_wp2_with fail
      go_ret
      exact ⟨b, c, m, rfl, hfl.out.done, he.out⟩
set_option maxHeartbeats 4000000 in
theorem IntervalsOf_ok (v : Value) (p : List Int) (w : World) (h : SI w v p) (hp8 : isP8 p = true) :
    Calls Try.prog 55 #[v] w fun e w' => ∃ b c m, e = .returned (.slice (some ⟨b, 0, none⟩) m c) ∧ decide (m = 0) = noIv p ∧ Ext w w' := by
  have h00 := h
  obtain ⟨a, cap, rfl, -⟩ := h00.elim
  have HH := Lib.hid h
  have HP8 := Lib.hid hp8
  have h8 := (isP8_iff.1 hp8).1
  have HP : Hid (∀ x ∈ p, 1 ≤ x ∧ x ≤ 8) := fun x hx => by have := (isP8_iff.1 HP8.out).2.1 x hx; omega
  have hr0 : Hid (RR w.heap.size (w.alloc (.cells #[] 22)).heap.size (w.alloc (.cells #[] 22)) w.heap.size 0 []) := (RR.new w).mono (by simp)
  have hE0 : Hid (Ext w (w.alloc (.cells #[] 22))) := Upd.alloc _ _ _
  clear h h00 hp8
  go_enter Try.func55, Try.ntmps55
  go_wp2_with fail
  go_loopw [3, 4] (fun o i wr => ∃ f : Nat, f ≤ p.length ∧ i = .int .i64 f ∧ (∃ b c m xss, o = .slice (some ⟨b, 0, none⟩) m c ∧ Hid (m = xss.length) ∧ Hid (RR w.heap.size wr.heap.size wr b c xss) ∧ m ≤ 16 * f ∧ Hid (Flag p f 0 m)) ∧ Hid (Ext w wr)) (fun _ i _ => p.length - (intOf i).toNat)
  case atStart => exact ⟨0, Nat.zero_le _, rfl, ⟨_, 0, 0, [], rfl, Lib.hid rfl, hr0, by omega, Flag.zero p⟩, hE0⟩
  case round =>
    obtain ⟨f, hf, rfl, ⟨b, c, m, xss, rfl, hm, hr, hm16, hfl⟩, he⟩ := hrel
    clear hr0 hE0
    by_cases hlt : f < p.length
    · have hltI : (f : Int) < (p.length : Int) := by omega
      go_wp2_with fail
      refine (spec_IsPerm_qt _ p _ (HH.out.ext he.out) (by omega)).mono ?_
      rintro e w9 ⟨rfl, q9⟩
      rw [HP8.out]
      replace hr := Lib.hid ((hr.out.ext q9.ext).mono q9.ext.size)
      replace he := Lib.hid (he.out.trans q9.ext)
      obtain ⟨wr, hwr⟩ : ∃ wr, wr = w9 := ⟨_, rfl⟩
      subst hwr
      clear q9
      go_wp2_with fail
      obtain ⟨wq, hwq⟩ : ∃ wq, wq = wr := ⟨_, rfl⟩
      subst hwq
      go_loopw [3, 5] (fun o i wr => ∃ t : Nat, f + 2 ≤ t + 1 ∧ t + 1 ≤ p.length + 1 ∧ i = .int .i64 ((t : Nat) : Int) ∧ (∃ b c m xss, o = .slice (some ⟨b, 0, none⟩) m c ∧ Hid (m = xss.length) ∧ Hid (RR w.heap.size wr.heap.size wr b c xss) ∧ m ≤ 16 * f + t ∧ Hid (Flag p f (t + 1) m)) ∧ Hid (Ext w wr)) (fun _ i _ => p.length + 1 - (intOf i).toNat)
      case atStart => exact ⟨f + 1, by omega, by omega, by go_num, ⟨b, c, m, xss, rfl, hm, hr, by omega, hfl.out.start⟩, he⟩
      case round =>
        obtain ⟨t, ht2, ht, rfl, ⟨b, c, m, xss, rfl, hm, hr, hm16, hfl⟩, he⟩ := hrel
        have hwz := he.out.size
        by_cases htn : t < p.length
        · have g1 : (t : Int) < (p.length : Int) := by omega
          have g2 : IntKind.i64.wrap ((t : Int) - (f : Int)) = (t : Int) - (f : Int) := IntWalk.i64_in _ (by omega)
          have g2b : IntKind.i64.wrap ((t : Int) - (f : Int) + 1) = (t : Int) - (f : Int) + 1 := IntWalk.i64_in _ (by omega)
          by_cases hg : t + 1 - f < p.length
          · have g3 : (t : Int) - (f : Int) + 1 < (p.length : Int) := by omega
            have hI := l5Run_ok _ p f (t - f) wr (HH.out.ext he.out) HP.out (by omega) h8
            rw [show f + (t - f) = t by omega] at hI
            have HI := Lib.hid hI
            clear hI
            cases hb : runB p f (t + 1)
            · have HF : Hid (Flag p f (t + 1 + 1) m) := hfl.out.none (.inr hb)
              have HB := Lib.hid hb
              clear hb
              go_wp2_with fail
              refine HI.out.mono ?_
              rintro e w1 ⟨rfl, q1⟩
              rw [HB.out]
              have HR1 := Lib.hid ((hr.out.ext q1.ext).mono q1.ext.size)
              have HE1 := Lib.hid (he.out.trans q1.ext)
              clear q1
              go_wp2_with fail
              go_roundw
              case rel => exact ⟨t + 1, by omega, by omega, by go_num, ⟨b, c, m, xss, rfl, hm, HR1, by omega, HF⟩, HE1⟩
              case measure => simp [intOf]; omega
            · have HF : Hid (Flag p f (t + 1 + 1) (m + 1)) := Flag.one hlt ht2 (by omega) hg hb
              have HB := Lib.hid hb
              clear hb
              go_wp2_with fail
              refine HI.out.mono ?_
              rintro e w1 ⟨rfl, q1⟩
              rw [HB.out]
              have HR1 := Lib.hid ((hr.out.ext q1.ext).mono q1.ext.size)
              have HE1 := Lib.hid (he.out.trans q1.ext)
              have hz1 := HE1.out.size
              have hxl : xss.length ≤ 1000000000 := by rw [← hm.out]; omega
              have HXL := Lib.hid hxl
              clear q1 hxl
              go_wp2_with (at_builtin; go_loud (refine wpl_appLit rfl _ _ rfl w.heap.size b c m _ _ xss [(f : Int) + 1, (t : Int) + 1] rfl HR1.out hm.out hz1 (by simp) rfl rfl rfl HXL.out ?_); intro b3 c3 w3 hr3 hu3; have HR3 := Lib.hid hr3; have HU3 := Lib.hid hu3; clear hr3 hu3)
              have HE3 := Lib.hid (HE1.out.upd1 HU3.out HR1.out.lo)
              have HM3 : Hid (m + 1 = (xss ++ [[(f : Int) + 1, (t : Int) + 1]]).length) := by show _ = _; rw [List.length_append, ← hm.out]; rfl
              go_roundw
              case rel => exact ⟨t + 1, by omega, by omega, by go_num, ⟨b3, c3, m + 1, _, rfl, HM3, HR3, by omega, HF⟩, HE3⟩
              case measure => simp [intOf]; omega
          · have g3 : ¬ (t : Int) - (f : Int) + 1 < (p.length : Int) := by omega
            have HF : Hid (Flag p f (t + 1 + 1) m) := hfl.out.none (.inl hg)
            go_wp2_with fail
            go_roundw
            case rel => exact ⟨t + 1, by omega, by omega, by go_num, ⟨b, c, m, xss, rfl, hm, hr, by omega, HF⟩, he⟩
            case measure => simp [intOf]; omega
        · obtain rfl : t = p.length := by omega
          have HF : Hid (Flag p (f + 1) 0 m) := hfl.out.line
          go_wp2_with fail
          go_roundw
          case rel => exact ⟨f + 1, by omega, by go_num, ⟨b, c, m, xss, rfl, hm, hr, by omega, HF⟩, he⟩
          case measure => simp [intOf]; omega
    · obtain rfl : f = p.length := by omega
      go_wp2_with fail
      go_ret
      exact ⟨b, c, m, rfl, hfl.out.done, he.out⟩
set_option maxHeartbeats 1000000 in
theorem isSimple_ok (v : Value) (p : List Int) (w : World) (h : SI w v p) (hp : isP8 p = true) :
    Calls Try.prog 61 #[v] w fun e w' => e = .returned (.bool (decide (0 < p.length) && noIv p)) ∧ Ext w w' := by
  have h00 := h
  obtain ⟨a, cap, rfl, -⟩ := h00.elim
  have HH := Lib.hid h
  have h8 := (isP8_iff.1 hp).1
  have HP : Hid (∀ x ∈ p, 1 ≤ x ∧ x ≤ 8) := fun x hx => by have := (isP8_iff.1 hp).2.1 x hx; omega
  clear h h00
  by_cases h0 : 0 < p.length
  · rw [decide_eq_true h0]
    have h0I : (0 : Int) < (p.length : Int) := by omega
    obtain ⟨q, hq⟩ : ∃ q, q = noIv p := ⟨_, rfl⟩
    have HQ := Lib.hid hq
    rw [← hq, Bool.true_and]
    clear hq
    go_enter Try.func61, Try.ntmps61
    go_wp2_with fail
    refine (intervals_ok _ p _ HH.out HP.out h8).mono ?_
    rintro e w1 ⟨b, c, m, rfl, hm, he⟩
    rw [← HQ.out] at hm
    have HE := Lib.hid he
    have HM : Hid (((m : Int) == 0) = q) := by
      show _ = _
      rw [← hm]
      by_cases e : m = 0
      · subst e; rfl
      · rw [decide_eq_false e, beq_eq_false_iff_ne]; omega
    clear he hm
    go_wp2_with fail
    go_ret
    exact ⟨by rw [← HM.out]; rfl, HE.out⟩
  · rw [decide_eq_false h0]
    have h0I : ¬ (0 : Int) < (p.length : Int) := by omega
    go_enter Try.func61, Try.ntmps61
    go_wp2_with fail
    go_ret
    exact ⟨rfl, Ext.refl _⟩
set_option maxHeartbeats 1000000 in
theorem impl_IsSimple_ok (v : Value) (p : List Int) (w : World) (h : SI w v p) :
    Calls Try.prog 41 #[v] w fun e w' => e = .returned (.bool (simB p)) ∧ Ext w w' := by
  have h00 := h
  obtain ⟨a, cap, rfl, -⟩ := h00.elim
  have HH := Lib.hid h
  cases hp : isP8 p
  · have HP := Lib.hid hp
    have HR : Hid (simB p = false) := by show _ = _; unfold simB; rw [hp]; rfl
    clear h h00 hp
    go_enter Try.func41, Try.ntmps41
    go_wp2_with fail
    refine (impl_IsPerm_ok _ p _ HH.out).mono ?_
    rintro e w1 ⟨rfl, he⟩
    rw [HP.out]
    have HE := Lib.hid he
    clear he
    go_wp2_with fail
    go_ret
    exact ⟨by rw [HR.out]; rfl, HE.out⟩
  · have HP := Lib.hid hp
    obtain ⟨q, hq⟩ : ∃ q, q = (decide (0 < p.length) && noIv p) := ⟨_, rfl⟩
    have HQ := Lib.hid hq
    have HR : Hid (simB p = q) := by show _ = _; unfold simB; rw [hp, hq]; rfl
    clear h h00 hp hq
    go_enter Try.func41, Try.ntmps41
    go_wp2_with fail
    refine (impl_IsPerm_ok _ p _ HH.out).mono ?_
    rintro e w1 ⟨rfl, he⟩
    rw [HP.out]
    have HE := Lib.hid he
    clear he
    go_wp2_with fail
    refine (isSimple_ok _ p _ (HH.out.ext HE.out) HP.out).mono ?_
    rintro e w2 ⟨rfl, h2⟩
    rw [← HQ.out]
    have HE2 := Lib.hid (HE.out.trans h2)
    clear h2
    go_wp2_with fail
    go_ret
    exact ⟨by rw [HR.out]; rfl, HE2.out⟩
set_option maxHeartbeats 1000000 in
theorem spec_IsSimple_ok (v : Value) (p : List Int) (w : World) (h : SI w v p) (hl : p.length ≤ 1048576) :
    Calls Try.prog 34 #[v] w fun e w' => e = .returned (.bool (simB p)) ∧ Ext w w' := by
  have h00 := h
  obtain ⟨a, cap, rfl, -⟩ := h00.elim
  have HH := Lib.hid h
  cases hp : isP8 p
  · have HP := Lib.hid hp
    have HR : Hid (simB p = false) := by show _ = _; unfold simB; rw [hp]; rfl
    clear h h00 hp
    go_enter Try.func34, Try.ntmps34
    go_wp2_with fail
    refine (spec_IsPerm_qt _ p _ HH.out (by omega)).mono ?_
    rintro e w1 ⟨rfl, he⟩
    rw [HP.out]
    have HE := Lib.hid he.ext
    clear he
    go_wp2_with fail
    go_ret
    exact ⟨by rw [HR.out]; rfl, HE.out⟩
  · have HP := Lib.hid hp
    by_cases h0 : 0 < p.length
    · have h0I : (0 : Int) < (p.length : Int) := by omega
      obtain ⟨q, hq⟩ : ∃ q, q = noIv p := ⟨_, rfl⟩
      have HQ := Lib.hid hq
      have HR : Hid (simB p = q) := by show _ = _; unfold simB; rw [hp, hq, decide_eq_true h0]; rfl
      clear h h00 hp hq
      go_enter Try.func34, Try.ntmps34
      go_wp2_with fail
      refine (spec_IsPerm_qt _ p _ HH.out (by omega)).mono ?_
      rintro e w1 ⟨rfl, he⟩
      rw [HP.out]
      have HE := Lib.hid he.ext
      clear he
      go_wp2_with fail
      refine (IntervalsOf_ok _ p _ (HH.out.ext HE.out) HP.out).mono ?_
      rintro e w2 ⟨b, c, m, rfl, hm, h2⟩
      rw [← HQ.out] at hm
      have HE2 := Lib.hid (HE.out.trans h2)
      have HM : Hid (((m : Int) == 0) = q) := by
        show _ = _
        rw [← hm]
        by_cases e : m = 0
        · subst e; rfl
        · rw [decide_eq_false e, beq_eq_false_iff_ne]; omega
      clear h2 hm
      go_wp2_with fail
      go_ret
      exact ⟨by rw [HR.out, ← HM.out]; rfl, HE2.out⟩
    · have h0I : ¬ (0 : Int) < (p.length : Int) := by omega
      have HR : Hid (simB p = false) := by show _ = _; unfold simB; rw [hp, decide_eq_false h0]; rfl
      clear h h00 hp
      go_enter Try.func34, Try.ntmps34
      go_wp2_with fail
      refine (spec_IsPerm_qt _ p _ HH.out (by omega)).mono ?_
      rintro e w1 ⟨rfl, he⟩
      rw [HP.out]
      have HE := Lib.hid he.ext
      clear he
      go_wp2_with fail
      go_ret
      exact ⟨by rw [HR.out]; rfl, HE.out⟩
end Go.Proofs.Ytcifngcmdiokpaa
namespace Go.Proofs.Ytcifngcmdiokpaa
open Go.RowKit

def altAt (p : List Int) (i : Nat) : Bool := decide (nth p (i + 1) < nth p i) == decide ((i + 1) % 2 = 1)
def altTo (p : List Int) (k : Nat) : Bool := (List.range k).all (altAt p)
theorem altTo_succ (p : List Int) (k : Nat) : altTo p (k + 1) = (altTo p k && altAt p k) := by simp [altTo, List.range_succ]
theorem altTo_bad {p : List Int} {k n : Nat} (h : altAt p k = false) (hk : k < n) : altTo p n = false := by
  unfold altTo
  rw [List.all_eq_false]
  exact ⟨k, List.mem_range.2 hk, by rw [h]; simp⟩
def altB (p : List Int) : Bool := isP8 p && altTo p (p.length - 1)
theorem altAt_int (p : List Int) (k : Nat) : (decide (nth p (k + 1) < nth p k) == (((k : Int) + 1) % 2 == 1)) = altAt p k := by
  unfold altAt
  congr 1
  by_cases h : (k + 1) % 2 = 1
  · rw [decide_eq_true h, beq_iff_eq]; omega
  · rw [decide_eq_false h, beq_eq_false_iff_ne]; omega
set_option maxHeartbeats 1000000 in
theorem impl_IsAlternating_ok (v : Value) (p : List Int) (w : World) (h : SI w v p) :
    Calls Try.prog 45 #[v] w fun e w' => e = .returned (.bool (altB p)) ∧ Ext w w' := by
  have h00 := h
  obtain ⟨a, cap, rfl, hri⟩ := h00.elim
  have HH := Lib.hid h
  have HRI := Lib.hid hri
  cases hp : isP8 p
  · have HP := Lib.hid hp
    have HR : Hid (altB p = false) := by show _ = _; unfold altB; rw [hp]; rfl
    clear h h00 hp hri
    go_enter Try.func45, Try.ntmps45
    go_wp2_with fail
    refine (impl_IsPerm_ok _ p _ HH.out).mono ?_
    rintro e w1 ⟨rfl, he⟩
    rw [HP.out]
    have HE := Lib.hid he
    clear he
    go_wp2_with fail
    go_ret
    exact ⟨by rw [HR.out]; rfl, HE.out⟩
  · have HP := Lib.hid hp
    obtain ⟨h8, hpp⟩ := isP8_iff.1 hp
    clear h h00 hp hri hpp
    go_enter Try.func45, Try.ntmps45
    go_wp2_with fail
    refine (impl_IsPerm_ok _ p _ HH.out).mono ?_
    rintro e w1 ⟨rfl, he⟩
    rw [HP.out]
    have HE := Lib.hid he
    clear he
    go_wp2_with fail
    go_loopw [3] (fun i wr => ∃ k : Nat, k ≤ p.length ∧ i = .int .i64 ((k : Int) + 1) ∧ Hid (altTo p k = true) ∧ Hid (Ext w wr)) (fun i _ => p.length + 1 - (intOf i).toNat)
    case atStart => exact ⟨0, Nat.zero_le _, rfl, Lib.hid rfl, HE⟩
    case round =>
      obtain ⟨k, hk, rfl, hA, he⟩ := hrel
      by_cases hlt : k + 1 < p.length
      · obtain ⟨b, off, rfl, hc⟩ := (HRI.out.ext he.out).get (show k < p.length by omega)
        have c1 := hc (k + 1) hlt
        have c0 := hc k (by omega)
        have w1 : IntKind.i64.wrap ((k : Int) + 1 - 1) = (k : Int) := by rw [IntWalk.i64_in _ (by omega)]; omega
        have w1b : IntKind.i64.wrap (k : Int) = (k : Int) := IntWalk.i64_in _ (by omega)
        have w2 : ((k : Int) + 1).toNat = k + 1 := by omega
        have w3 : 0 ≤ (k : Int) + 1 := by omega
        have w4 : (k : Int) + 1 < (p.length : Int) := by omega
        have w5 : (k : Int) < (p.length : Int) := by omega
        clear hc
        cases hb : altAt p k
        · have hT := altAt_int p k
          rw [hb] at hT
          have HB := Lib.hid hb
          clear hb
          go_wp2_with fail
          go_region
          go_wp2_with fail
          go_ret
          exact ⟨by rw [show altB p = false from by unfold altB; rw [altTo_bad HB.out (by omega)]; simp]; rfl, he.out.drew⟩
        · have hT := altAt_int p k
          rw [hb] at hT
          have HA2 : Hid (altTo p (k + 1) = true) := by show _ = _; rw [altTo_succ, hA.out, hb]; rfl
          clear hb
          go_wp2_with fail
          go_region
          clear w1 w1b
          go_wp2_with fail
          go_roundw
          case rel => exact ⟨k + 1, by omega, by rw [Value.int.injEq]; exact ⟨rfl, by push_cast; rfl⟩, HA2, Lib.hid he.out.drew⟩
          case measure => simp [intOf]; omega
      · have hnI : ¬ (k : Int) + 1 < (p.length : Int) := by omega
        have HF : Hid (altTo p (p.length - 1) = true) := by
          show _ = _
          rcases Nat.eq_zero_or_pos p.length with e | e
          · rw [show p.length - 1 = 0 by omega]; rfl
          · have e2 : k = p.length - 1 ∨ k = p.length := by omega
            rcases e2 with e2 | e2
            · rw [← e2]; exact hA.out
            · have h3 := hA.out
              rw [e2, show p.length = p.length - 1 + 1 by omega, altTo_succ] at h3
              exact (Bool.and_eq_true_iff.1 h3).1
        go_wp2_with fail
        go_ret
        exact ⟨by rw [show altB p = true from by unfold altB; rw [HP.out, HF.out]; rfl]; rfl, he.out⟩
set_option maxHeartbeats 1000000 in
theorem spec_IsAlternating_ok (v : Value) (p : List Int) (w : World) (h : SI w v p) (hl : p.length ≤ 1048576) :
    Calls Try.prog 38 #[v] w fun e w' => e = .returned (.bool (altB p)) ∧ Ext w w' := by
  have h00 := h
  obtain ⟨a, cap, rfl, hri⟩ := h00.elim
  have HH := Lib.hid h
  have HRI := Lib.hid hri
  clear h h00 hri
  go_enter Try.func38, Try.ntmps38
  go_wp2_with fail
  go_loopw [3] (fun i wr => ∃ k : Nat, k ≤ p.length ∧ i = .int .i64 ((k : Int) + 1) ∧ Hid (altTo p k = true) ∧ Hid (Ext w wr)) (fun i _ => p.length + 1 - (intOf i).toNat)
  case atStart => exact ⟨0, Nat.zero_le _, rfl, Lib.hid rfl, Ext.refl _⟩
  case round =>
    obtain ⟨k, hk, rfl, hA, he⟩ := hrel
    by_cases hlt : k + 1 < p.length
    · obtain ⟨b, off, rfl, hc⟩ := (HRI.out.ext he.out).get (show k < p.length by omega)
      have c1 := hc (k + 1) hlt
      have c0 := hc k (by omega)
      have w1 : IntKind.i64.wrap ((k : Int) + 1 - 1) = (k : Int) := by rw [IntWalk.i64_in _ (by omega)]; omega
      have w1b : IntKind.i64.wrap (k : Int) = (k : Int) := IntWalk.i64_in _ (by omega)
      have w2 : ((k : Int) + 1).toNat = k + 1 := by omega
      have w3 : 0 ≤ (k : Int) + 1 := by omega
      have w4 : (k : Int) + 1 < (p.length : Int) := by omega
      have w5 : (k : Int) < (p.length : Int) := by omega
      clear hc
      cases hb : altAt p k
      · have hT := altAt_int p k
        rw [hb] at hT
        have HB := Lib.hid hb
        clear hb
        go_wp2_with fail
        go_region
        go_wp2_with fail
        go_ret
        exact ⟨by rw [show altB p = false from by unfold altB; rw [altTo_bad HB.out (by omega)]; simp]; rfl, he.out.drew⟩
      · have hT := altAt_int p k
        rw [hb] at hT
        have HA2 : Hid (altTo p (k + 1) = true) := by show _ = _; rw [altTo_succ, hA.out, hb]; rfl
        clear hb
        go_wp2_with fail
        go_region
        clear w1 w1b
        go_wp2_with fail
        go_roundw
        case rel => exact ⟨k + 1, by omega, by rw [Value.int.injEq]; exact ⟨rfl, by push_cast; rfl⟩, HA2, Lib.hid he.out.drew⟩
        case measure => simp [intOf]; omega
    · have hnI : ¬ (k : Int) + 1 < (p.length : Int) := by omega
      have HF : Hid (altTo p (p.length - 1) = true) := by
        show _ = _
        rcases Nat.eq_zero_or_pos p.length with e | e
        · rw [show p.length - 1 = 0 by omega]; rfl
        · have e2 : k = p.length - 1 ∨ k = p.length := by omega
          rcases e2 with e2 | e2
          · rw [← e2]; exact hA.out
          · have h3 := hA.out
            rw [e2, show p.length = p.length - 1 + 1 by omega, altTo_succ] at h3
            exact (Bool.and_eq_true_iff.1 h3).1
      obtain ⟨q, hq⟩ : ∃ q, q = isP8 p := ⟨_, rfl⟩
      have HQ := Lib.hid hq
      have HR : Hid (altB p = q) := by show _ = _; unfold altB; rw [HF.out, hq]; simp
      clear hq
      go_wp2_with fail
      refine (spec_IsPerm_qt _ p _ (HH.out.ext he.out) (by omega)).mono ?_
      rintro e w1 ⟨rfl, q1⟩
      rw [← HQ.out]
      have HE := Lib.hid (he.out.trans q1.ext)
      clear q1
      go_wp2_with fail
      go_ret
      exact ⟨by rw [HR.out]; rfl, HE.out⟩
end Go.Proofs.Ytcifngcmdiokpaa
namespace Go.Proofs.Ytcifngcmdiokpaa
open Go.RowKit

theorem BasOK.of {L : List (List Int)} (h1 : L.length ≤ 8) (h2 : ∀ k, k < L.length → isP8 (nthL L k) = true ∧ 0 < (nthL L k).length ∧ (nthL L k).length ≤ 5)
    (h3 : ∀ k, k < L.length → k + 1 < L.length → (nthL L k).length = (nthL L (k + 1)).length ∧ nth (nthL L k) 0 < nth (nthL L (k + 1)) 0) (h4 : ∀ k, k < L.length → ∀ i, i < k → occB (nthL L k) (nthL L i) = false) : BasOK L :=
  ⟨h1, h2, fun k hk => h3 k (by omega) hk, fun k i hi hk => h4 k hk i hi⟩
def t3412 : ByteArray := ⟨#[51, 52, 49, 50]⟩
def t4231 : ByteArray := ⟨#[52, 50, 51, 49]⟩
def t2143 : ByteArray := ⟨#[50, 49, 52, 51]⟩
def t321 : ByteArray := ⟨#[51, 50, 49]⟩
theorem tx3412 : TxOK t3412 := ⟨by decide +kernel, by decide +kernel, by decide +kernel, by decide +kernel⟩
theorem tx4231 : TxOK t4231 := ⟨by decide +kernel, by decide +kernel, by decide +kernel, by decide +kernel⟩
theorem tx2143 : TxOK t2143 := ⟨by decide +kernel, by decide +kernel, by decide +kernel, by decide +kernel⟩
theorem tx321 : TxOK t321 := ⟨by decide +kernel, by decide +kernel, by decide +kernel, by decide +kernel⟩
theorem frB_swap (s t : ByteArray) (p : List Int) : frB [s, t] p = frB [t, s] p := by
  unfold frB avB; simp [Bool.and_comm]
def smoothB (p : List Int) : Bool := frB [t3412, t4231] p
theorem tex_IsSmooth : TexOK ⟨#[51, 52, 49, 50, 32, 52, 50, 51, 49]⟩ [t3412, t4231] where
  spl := by decide +kernel
  ne := by decide +kernel
  small := by decide +kernel
  each := by
    intro t ht
    simp only [List.mem_cons, List.not_mem_nil, or_false] at ht
    rcases ht with rfl | rfl
    · exact tx3412
    · exact tx4231
  bas := BasOK.of (by decide +kernel) (by decide +kernel) (by decide +kernel) (by decide +kernel)
set_option maxHeartbeats 400000 in
theorem impl_IsSmooth_ok (v : Value) (p : List Int) (w : World) (h : SI w v p) (_hl : p.length ≤ 1048576) (_hb : I64s p) :
    Calls Try.prog 17 #[v] w fun e w' => e = .returned (.bool (smoothB p)) ∧ Ext w w' := by
  obtain ⟨a, cap, rfl, -⟩ := h.elim
  have hr := Row.new 9 w ([t3412, t4231].map Value.string) (by decide)
  have hss : SS _ (.slice (some ⟨w.heap.size, 0, none⟩) 2 2) [t3412, t4231] := hr.ss
  have he : Ext w (w.alloc (.cells #[.string ⟨#[51, 52, 49, 50]⟩, .string ⟨#[52, 50, 51, 49]⟩] 9)) := Upd.alloc _ _ _
  have HS := Lib.hid hss
  clear hr hss
  go_enter Try.func17, Try.ntmps17
  go_wp2_with fail
  refine (isFreeOf_ok [t3412, t4231] p _ _ _ (h.ext he) HS.out (by decide) (fun t ht => by
    simp only [List.mem_cons, List.not_mem_nil, or_false] at ht
    rcases ht with rfl | rfl
    · exact tx3412
    · exact tx4231)).mono ?_
  rintro e w1 ⟨rfl, he1⟩
  go_wp2_with fail
  go_ret
  exact ⟨rfl, he.trans he1⟩
set_option maxHeartbeats 400000 in
theorem spec_IsSmooth_ok (v : Value) (p : List Int) (w : World) (h : SI w v p) (hl : p.length ≤ 1048576) (_hb : I64s p) :
    Calls Try.prog 16 #[v] w fun e w' => e = .returned (.bool (smoothB p)) ∧ Ext w w' := by
  obtain ⟨a, cap, rfl, -⟩ := h.elim
  go_enter Try.func16, Try.ntmps16
  go_wp2_with fail
  refine (l29Avoids_ok _ _ p _ _ tex_IsSmooth h hl).mono ?_
  rintro e w1 ⟨rfl, he1⟩
  go_wp2_with fail
  go_ret
  exact ⟨rfl, he1⟩
def vexB (p : List Int) : Bool := frB [t2143] p
theorem tex_IsVexillary : TexOK ⟨#[50, 49, 52, 51]⟩ [t2143] where
  spl := by decide +kernel
  ne := by decide +kernel
  small := by decide +kernel
  each := by
    intro t ht
    simp only [List.mem_cons, List.not_mem_nil, or_false] at ht
    subst ht
    exact tx2143
  bas := BasOK.of (by decide +kernel) (by decide +kernel) (by decide +kernel) (by decide +kernel)
set_option maxHeartbeats 400000 in
theorem impl_IsVexillary_ok (v : Value) (p : List Int) (w : World) (h : SI w v p) (_hl : p.length ≤ 1048576) (_hb : I64s p) :
    Calls Try.prog 19 #[v] w fun e w' => e = .returned (.bool (vexB p)) ∧ Ext w w' := by
  obtain ⟨a, cap, rfl, -⟩ := h.elim
  have hr := Row.new 9 w ([t2143].map Value.string) (by decide)
  have hss : SS _ (.slice (some ⟨w.heap.size, 0, none⟩) 1 1) [t2143] := hr.ss
  have he : Ext w (w.alloc (.cells #[.string ⟨#[50, 49, 52, 51]⟩] 9)) := Upd.alloc _ _ _
  have HS := Lib.hid hss
  clear hr hss
  go_enter Try.func19, Try.ntmps19
  go_wp2_with fail
  refine (isFreeOf_ok [t2143] p _ _ _ (h.ext he) HS.out (by decide) (fun t ht => by
    simp only [List.mem_cons, List.not_mem_nil, or_false] at ht
    subst ht
    exact tx2143)).mono ?_
  rintro e w1 ⟨rfl, he1⟩
  go_wp2_with fail
  go_ret
  exact ⟨rfl, he.trans he1⟩
set_option maxHeartbeats 400000 in
theorem spec_IsVexillary_ok (v : Value) (p : List Int) (w : World) (h : SI w v p) (hl : p.length ≤ 1048576) (_hb : I64s p) :
    Calls Try.prog 18 #[v] w fun e w' => e = .returned (.bool (vexB p)) ∧ Ext w w' := by
  obtain ⟨a, cap, rfl, -⟩ := h.elim
  go_enter Try.func18, Try.ntmps18
  go_wp2_with fail
  refine (l29Avoids_ok _ _ p _ _ tex_IsVexillary h hl).mono ?_
  rintro e w1 ⟨rfl, he1⟩
  go_wp2_with fail
  go_ret
  exact ⟨rfl, he1⟩
def comB (p : List Int) : Bool := frB [t321] p
theorem tex_IsCommutative : TexOK ⟨#[51, 50, 49]⟩ [t321] where
  spl := by decide +kernel
  ne := by decide +kernel
  small := by decide +kernel
  each := by
    intro t ht
    simp only [List.mem_cons, List.not_mem_nil, or_false] at ht
    subst ht
    exact tx321
  bas := BasOK.of (by decide +kernel) (by decide +kernel) (by decide +kernel) (by decide +kernel)
set_option maxHeartbeats 400000 in
theorem impl_IsCommutative_ok (v : Value) (p : List Int) (w : World) (h : SI w v p) (_hl : p.length ≤ 1048576) (_hb : I64s p) :
    Calls Try.prog 21 #[v] w fun e w' => e = .returned (.bool (comB p)) ∧ Ext w w' := by
  obtain ⟨a, cap, rfl, -⟩ := h.elim
  have hr := Row.new 9 w ([t321].map Value.string) (by decide)
  have hss : SS _ (.slice (some ⟨w.heap.size, 0, none⟩) 1 1) [t321] := hr.ss
  have he : Ext w (w.alloc (.cells #[.string ⟨#[51, 50, 49]⟩] 9)) := Upd.alloc _ _ _
  have HS := Lib.hid hss
  clear hr hss
  go_enter Try.func21, Try.ntmps21
  go_wp2_with fail
  refine (isFreeOf_ok [t321] p _ _ _ (h.ext he) HS.out (by decide) (fun t ht => by
    simp only [List.mem_cons, List.not_mem_nil, or_false] at ht
    subst ht
    exact tx321)).mono ?_
  rintro e w1 ⟨rfl, he1⟩
  go_wp2_with fail
  go_ret
  exact ⟨rfl, he.trans he1⟩
set_option maxHeartbeats 400000 in
theorem spec_IsCommutative_ok (v : Value) (p : List Int) (w : World) (h : SI w v p) (hl : p.length ≤ 1048576) (_hb : I64s p) :
    Calls Try.prog 20 #[v] w fun e w' => e = .returned (.bool (comB p)) ∧ Ext w w' := by
  obtain ⟨a, cap, rfl, -⟩ := h.elim
  go_enter Try.func20, Try.ntmps20
  go_wp2_with fail
  refine (l29Avoids_ok _ _ p _ _ tex_IsCommutative h hl).mono ?_
  rintro e w1 ⟨rfl, he1⟩
  go_wp2_with fail
  go_ret
  exact ⟨rfl, he1⟩
def skewB (p : List Int) : Bool := frB [t3412, t2143] p
theorem tex_IsSkewMerged : TexOK ⟨#[50, 49, 52, 51, 32, 51, 52, 49, 50]⟩ [t2143, t3412] where
  spl := by decide +kernel
  ne := by decide +kernel
  small := by decide +kernel
  each := by
    intro t ht
    simp only [List.mem_cons, List.not_mem_nil, or_false] at ht
    rcases ht with rfl | rfl
    · exact tx2143
    · exact tx3412
  bas := BasOK.of (by decide +kernel) (by decide +kernel) (by decide +kernel) (by decide +kernel)
set_option maxHeartbeats 400000 in
theorem impl_IsSkewMerged_ok (v : Value) (p : List Int) (w : World) (h : SI w v p) (_hl : p.length ≤ 1048576) (_hb : I64s p) :
    Calls Try.prog 23 #[v] w fun e w' => e = .returned (.bool (skewB p)) ∧ Ext w w' := by
  obtain ⟨a, cap, rfl, -⟩ := h.elim
  have hr := Row.new 9 w ([t3412, t2143].map Value.string) (by decide)
  have hss : SS _ (.slice (some ⟨w.heap.size, 0, none⟩) 2 2) [t3412, t2143] := hr.ss
  have he : Ext w (w.alloc (.cells #[.string ⟨#[51, 52, 49, 50]⟩, .string ⟨#[50, 49, 52, 51]⟩] 9)) := Upd.alloc _ _ _
  have HS := Lib.hid hss
  clear hr hss
  go_enter Try.func23, Try.ntmps23
  go_wp2_with fail
  refine (isFreeOf_ok [t3412, t2143] p _ _ _ (h.ext he) HS.out (by decide) (fun t ht => by
    simp only [List.mem_cons, List.not_mem_nil, or_false] at ht
    rcases ht with rfl | rfl
    · exact tx3412
    · exact tx2143)).mono ?_
  rintro e w1 ⟨rfl, he1⟩
  go_wp2_with fail
  go_ret
  exact ⟨rfl, he.trans he1⟩
set_option maxHeartbeats 400000 in
theorem spec_IsSkewMerged_ok (v : Value) (p : List Int) (w : World) (h : SI w v p) (hl : p.length ≤ 1048576) (_hb : I64s p) :
    Calls Try.prog 22 #[v] w fun e w' => e = .returned (.bool (skewB p)) ∧ Ext w w' := by
  obtain ⟨a, cap, rfl, -⟩ := h.elim
  go_enter Try.func22, Try.ntmps22
  go_wp2_with fail
  refine (l29Avoids_ok _ _ p _ _ tex_IsSkewMerged h hl).mono ?_
  rintro e w1 ⟨rfl, he1⟩
  rw [frB_swap]
  go_wp2_with fail
  go_ret
  exact ⟨rfl, he1⟩
end Go.Proofs.Ytcifngcmdiokpaa
namespace Go.Proofs.Ytcifngcmdiokpaa
open Go.RowKit

set_option maxHeartbeats 2000000 in
theorem spec_Join_ok (bl cl n : Nat) (xs : List ByteArray) (sep : ByteArray) (w : World) (hr : Row 9 w bl cl (xs.map Value.string)) (hn : n = xs.length) (hx : ∀ x ∈ xs, x.size ≤ 100) (hl : xs.length ≤ 100) (hs : sep.size ≤ 100) :
    Calls Try.prog 39 #[.slice (some ⟨bl, 0, none⟩) n cl, .string sep] w fun e w' => e = .returned (.string (joinB xs sep)) ∧ Ext w w' := by
  have HR := Lib.hid hr
  have HN := Lib.hid hn
  have HX := Lib.hid hx
  have HJ := Lib.hid (jT_len hx hs)
  have hn100 : n ≤ 100 := by omega
  have hA : Ext w (w.alloc (.cells #[] 5)) := Upd.alloc _ _ _
  have HA := Lib.hid hA
  have HR0 : Hid (Row 5 (w.alloc (.cells #[] 5)) w.heap.size 0 (byteCells ⟨(jT xs sep 0).toArray⟩)) := Row.new 5 w [] (by simp)
  clear hr hn hx hl hA
  go_enter Try.func39, Try.ntmps39
  go_wp2_with fail
  go_loopw [5, 6] (fun o i wr => ∃ k : Nat, k ≤ n ∧ i = .int .i64 ((k : Nat) : Int) ∧ (∃ b c m, o = .slice (some ⟨b, 0, none⟩) m c ∧ Hid (m = (jT xs sep k).length) ∧ Hid (Row 5 wr b c (byteCells ⟨(jT xs sep k).toArray⟩)) ∧ w.heap.size ≤ b) ∧ Hid (Ext w wr)) (fun _ i _ => n - (intOf i).toNat)
  case atStart => exact ⟨0, Nat.zero_le _, rfl, ⟨w.heap.size, 0, 0, rfl, Lib.hid rfl, HR0, Nat.le_refl _⟩, HA⟩
  case round =>
    obtain ⟨k, hk, rfl, ⟨b, c, m, rfl, hm, hro, hb⟩, he⟩ := hrel
    clear HR0 HA
    have hwz := he.out.size
    by_cases hlt : k < n
    · have hkI : (k : Int) < (n : Int) := by omega
      have hkx : k < xs.length := by rw [← HN.out]; exact hlt
      obtain ⟨x, hxe⟩ : ∃ x, x = xs[k] := ⟨_, rfl⟩
      have HG : Hid (xs[k]? = some x) := by show _ = _; rw [hxe]; exact List.getElem?_eq_getElem hkx
      have hxs := HX.out x (by rw [hxe]; exact List.getElem_mem hkx)
      have hck : wr.cell? ⟨bl, k, none⟩ = some (.string x) := (HR.out.ext he.out).cell (by rw [List.getElem?_map, HG.out]; rfl)
      have hj := HJ.out k (by omega)
      have HJB : Hid ((jT xs sep k).length ≤ 1000000) := by show _ ≤ _; omega
      clear hxe hj hkx
      rcases Nat.eq_zero_or_pos k with rfl | h0
      · have hkZ : ¬ (0 : Int) < ((0 : Nat) : Int) := by omega
        go_wp2_with (at_builtin; go_loud (refine wpl_appS rfl _ _ rfl b c m (jT xs sep 0) x rfl rfl hro.out hm.out HJB.out (by omega) ?_); intro b8 c8 w8 hr8 hb8 hu8; have HR8 := Lib.hid hr8; have HB8 := Lib.hid hb8; have HU8 := Lib.hid hu8; clear hr8 hb8 hu8)
        have HT : Hid (jT xs sep 1 = jT xs sep 0 ++ x.data.toList) := by show _ = _; rw [jT_one HG.out]; simp [jT, Lib.join_nil]
        have HR9 : Hid (Row 5 w8 b8 c8 (byteCells ⟨(jT xs sep 1).toArray⟩)) := by show Row _ _ _ _ _; rw [HT.out]; exact HR8.out
        have HM9 : Hid (m + x.size = (jT xs sep 1).length) := by show _ = _; rw [HT.out, List.length_append, ← hm.out]; rfl
        have HE9 := Lib.hid (he.out.upd1 HU8.out hb)
        have hb9 : w.heap.size ≤ b8 := by have := HB8.out; omega
        go_roundw
        case rel => exact ⟨1, by omega, by go_num, ⟨b8, c8, _, rfl, HM9, HR9, hb9⟩, HE9⟩
        case measure => simp [intOf]; omega
      · have hkZ : (0 : Int) < (k : Int) := by omega
        have HT : Hid (jT xs sep (k + 1) = jT xs sep k ++ sep.data.toList ++ x.data.toList) := jT_succ h0 HG.out
        have HL7 : Hid (m + sep.size = (jT xs sep k ++ sep.data.toList).length) := by show _ = _; rw [List.length_append, ← hm.out]; rfl
        have HJ7 : Hid ((jT xs sep k ++ sep.data.toList).length ≤ 1000000) := by show _ ≤ _; rw [← HL7.out]; have := hm.out; have := HJ.out k (by have := HN.out; omega); omega
        go_wp2_with (first | (at_builtin; go_loud (refine wpl_appS rfl _ _ rfl b c m (jT xs sep k) sep rfl rfl hro.out hm.out HJB.out (by omega) ?_); intro b7 c7 w7 hr7 hb7 hu7; have hck7 : w7.cell? ⟨bl, k, none⟩ = some (.string x) := (HR.out.ext (he.out.upd1 hu7 hb)).cell (by rw [List.getElem?_map, HG.out]; rfl); have HR7 := Lib.hid hr7; have HB7 := Lib.hid hb7; have HU7 := Lib.hid hu7; clear hr7 hb7 hu7) | (at_builtin; go_loud (refine wpl_appS rfl _ _ rfl b7 c7 (m + sep.size) (jT xs sep k ++ sep.data.toList) x rfl rfl HR7.out HL7.out HJ7.out (by omega) ?_); intro b8 c8 w8 hr8 hb8 hu8; have HR8 := Lib.hid hr8; have HB8 := Lib.hid hb8; have HU8 := Lib.hid hu8; clear hr8 hb8 hu8))
        have HR9 : Hid (Row 5 w8 b8 c8 (byteCells ⟨(jT xs sep (k + 1)).toArray⟩)) := by show Row _ _ _ _ _; rw [HT.out]; exact HR8.out
        have HM9 : Hid (m + sep.size + x.size = (jT xs sep (k + 1)).length) := by show _ = _; rw [HT.out, List.length_append, ← HL7.out]; rfl
        have hz7 := HU7.out.size
        have hb7' : w.heap.size ≤ b7 := by have := HB7.out; omega
        have HE9 := Lib.hid ((he.out.upd1 HU7.out hb).upd1 HU8.out hb7')
        have hb9 : w.heap.size ≤ b8 := by have := HB8.out; omega
        go_roundw
        case rel => exact ⟨k + 1, by omega, by go_num, ⟨b8, c8, _, rfl, HM9, HR9, hb9⟩, HE9⟩
        case measure => simp [intOf]; omega
    · obtain rfl : k = n := by omega
      have hkI : ¬ (k : Int) < (k : Int) := by omega
      have HJA : Hid ((⟨(jT xs sep k).toArray⟩ : ByteArray) = joinB xs sep) := by show _ = _; unfold joinB; rw [HN.out, jT_all]
      have hcv := run_convert_bytes_back (P := Try.prog) wr 46 9 5 ⟨b, 0, none⟩ c (jT xs sep k) Try.underlying46 Try.underlying5 Try.underlying9 (fun j hj => by
        rw [Addr.add_lit, Nat.zero_add]
        exact hro.out.cell (by simp [byteCells, hj]))
      rw [← hm.out, HJA.out] at hcv
      go_wp2_with fail
      go_ret
      exact ⟨rfl, he.out⟩
end Go.Proofs.Ytcifngcmdiokpaa
namespace Go.Proofs.Ytcifngcmdiokpaa
open Go.RowKit

/-- the words, the reference's order, and what each asks. -/
def famL : List (ByteArray × (List Int → Bool)) := [(⟨#[115, 105, 109, 112, 108, 101]⟩, simB), (⟨#[115, 101, 112, 97, 114, 97, 98, 108, 101]⟩, sepB), (⟨#[108, 97, 121, 101, 114, 101, 100]⟩, layB), (⟨#[115, 109, 111, 111, 116, 104]⟩, smoothB), (⟨#[118, 101, 120, 105, 108, 108, 97, 114, 121]⟩, vexB), (⟨#[99, 111, 109, 109, 117, 116, 97, 116, 105, 118, 101]⟩, comB), (⟨#[109, 101, 114, 103, 101, 100]⟩, skewB), (⟨#[105, 110, 118, 111, 108, 117, 116, 105, 111, 110]⟩, invoB), (⟨#[97, 108, 116, 101, 114, 110, 97, 116, 105, 110, 103]⟩, altB)]
def famTo (p : List Int) (k : Nat) : List ByteArray := (famL.take k).foldl (fun L e => addW L (e.2 p) e.1) []
def famT (p : List Int) : ByteArray := bif isP8 p then (if (famTo p 9).length = 0 then ⟨#[45]⟩ else joinB (famTo p 9) ⟨#[32]⟩) else ⟨#[]⟩
theorem famTo_zero (p : List Int) : famTo p 0 = [] := rfl
theorem famTo_succ (p : List Int) {k : Nat} {e : ByteArray × (List Int → Bool)} (h : famL[k]? = some e) : famTo p (k + 1) = addW (famTo p k) (e.2 p) e.1 := by
  unfold famTo
  rw [List.take_add_one, h, List.foldl_append]; rfl
theorem famL_small : ∀ (k : Nat) (e : ByteArray × (List Int → Bool)), famL[k]? = some e → e.1.size ≤ 12 := by
  intro k e h
  have h1 : e ∈ famL := List.mem_of_getElem? h
  simp only [famL, List.mem_cons, List.not_mem_nil, or_false] at h1
  rcases h1 with h1 | h1 | h1 | h1 | h1 | h1 | h1 | h1 | h1 <;> rw [h1] <;> decide
theorem famTo_ok (p : List Int) : ∀ k, k ≤ 9 → (famTo p k).length ≤ k ∧ ∀ x ∈ famTo p k, x.size ≤ 100 := by
  intro k
  induction k with
  | zero => intro _; rw [famTo_zero]; simp
  | succ k ih =>
    intro hk
    obtain ⟨h1, h2⟩ := ih (by omega)
    obtain ⟨e, he⟩ : ∃ e, famL[k]? = some e := ⟨famL[k]'(by show k < 9; omega), List.getElem?_eq_getElem _⟩
    rw [famTo_succ p he]
    exact ⟨addW_len h1, addW_each h2 (by have := famL_small k e he; omega)⟩
set_option maxHeartbeats 4000000 in
theorem spec_FamiliesText_ok (v : Value) (p : List Int) (w : World) (h : SI w v p) (hl : p.length ≤ 1048576) (hb : I64s p) :
    Calls Try.prog 24 #[v] w fun e w' => e = .returned (.string (famT p)) ∧ Ext w w' := by
  have h00 := h
  obtain ⟨a, cap, rfl, -⟩ := h00.elim
  have HH := Lib.hid h
  have HI := Lib.hid hb
  cases hp : isP8 p
  · have HP := Lib.hid hp
    have HF : Hid (famT p = ⟨#[]⟩) := by show _ = _; unfold famT; rw [hp]; rfl
    clear h h00 hp hb
    go_enter Try.func24, Try.ntmps24
    go_wp2_with fail
    refine (spec_IsPerm_qt _ p _ HH.out (by omega)).mono ?_
    rintro e w1 ⟨rfl, he⟩
    rw [HP.out]
    have HE := Lib.hid he.ext
    clear he
    go_wp2_with fail
    go_ret
    exact ⟨by rw [HF.out]; rfl, HE.out⟩
  · have HP := Lib.hid hp
    clear h h00 hp hb
    go_enter Try.func24, Try.ntmps24
    go_wp2_with fail
    refine (spec_IsPerm_qt _ p _ HH.out (by omega)).mono ?_
    rintro e w1 ⟨rfl, he⟩
    rw [HP.out]
    have hA : Ext w1 (w1.alloc (.cells #[] 9)) := Upd.alloc _ _ _
    have HE0 := Lib.hid (he.ext.trans hA)
    have HR0 : Hid (Row 9 (w1.alloc (.cells #[] 9)) w1.heap.size 0 ((famTo p 0).map Value.string)) := Row.new 9 w1 [] (by simp)
    have hlo0 : w.heap.size ≤ w1.heap.size := he.ext.size
    have HN0 : Hid (0 = (famTo p 0).length) := rfl
    obtain ⟨wz0, hwz0⟩ : ∃ x, x = w1.alloc (.cells #[] 9) := ⟨_, rfl⟩
    rw [← hwz0] at HE0 HR0
    obtain ⟨b0, hb0⟩ : ∃ x, x = w1.heap.size := ⟨_, rfl⟩
    rw [← hb0] at HR0 hlo0
    clear he hA
    go_wp2_with fail
    rw [← hwz0, ← hb0]
    clear hwz0 hb0
    -- simple
    refine (spec_IsSimple_ok _ p _ (HH.out.ext HE0.out) hl).mono ?_
    rintro e wp0 ⟨rfl, q0⟩
    have HQ0 := Lib.hid (show Ext w _ from HE0.out.trans q0)
    have HS0 := Lib.hid (HR0.out.ext q0)
    clear q0 HE0 HR0
    go_wp2_with fail
    refine (l29Add_ok b0 0 0 (famTo p 0) (simB p) ⟨#[115, 105, 109, 112, 108, 101]⟩ _ HS0.out HN0.out (by have := (famTo_ok p 0 (by omega)).1; omega)).mono ?_
    rintro e wz1 ⟨b1, c1, n1, rfl, hn, hr, hb, hu⟩
    rw [← famTo_succ p (k := 0) (e := (⟨#[115, 105, 109, 112, 108, 101]⟩, simB)) rfl] at hn hr
    have HN1 := Lib.hid hn
    have HR1 := Lib.hid hr
    have HE1 := Lib.hid (show Ext w _ from Ext.upd1 HQ0.out hu hlo0)
    have hlo1 : w.heap.size ≤ b1 := by have := HQ0.out.size; omega
    clear hn hr hb hu HQ0 HS0 HN0
    go_wp2_with fail
    -- separable
    refine (spec_IsSeparable_ok _ p _ (HH.out.ext HE1.out) hl).mono ?_
    rintro e wp1 ⟨rfl, q1⟩
    have HQ1 := Lib.hid (show Ext w _ from HE1.out.trans q1)
    have HS1 := Lib.hid (HR1.out.ext q1)
    clear q1 HE1 HR1
    go_wp2_with fail
    refine (l29Add_ok b1 c1 n1 (famTo p 1) (sepB p) ⟨#[115, 101, 112, 97, 114, 97, 98, 108, 101]⟩ _ HS1.out HN1.out (by have := (famTo_ok p 1 (by omega)).1; omega)).mono ?_
    rintro e wz2 ⟨b2, c2, n2, rfl, hn, hr, hb, hu⟩
    rw [← famTo_succ p (k := 1) (e := (⟨#[115, 101, 112, 97, 114, 97, 98, 108, 101]⟩, sepB)) rfl] at hn hr
    have HN2 := Lib.hid hn
    have HR2 := Lib.hid hr
    have HE2 := Lib.hid (show Ext w _ from Ext.upd1 HQ1.out hu hlo1)
    have hlo2 : w.heap.size ≤ b2 := by have := HQ1.out.size; omega
    clear hn hr hb hu HQ1 HS1 HN1
    go_wp2_with fail
    -- layered
    refine (spec_IsLayered_ok _ p _ (HH.out.ext HE2.out) hl).mono ?_
    rintro e wp2 ⟨rfl, q2⟩
    have HQ2 := Lib.hid (show Ext w _ from HE2.out.trans q2)
    have HS2 := Lib.hid (HR2.out.ext q2)
    clear q2 HE2 HR2
    go_wp2_with fail
    refine (l29Add_ok b2 c2 n2 (famTo p 2) (layB p) ⟨#[108, 97, 121, 101, 114, 101, 100]⟩ _ HS2.out HN2.out (by have := (famTo_ok p 2 (by omega)).1; omega)).mono ?_
    rintro e wz3 ⟨b3, c3, n3, rfl, hn, hr, hb, hu⟩
    rw [← famTo_succ p (k := 2) (e := (⟨#[108, 97, 121, 101, 114, 101, 100]⟩, layB)) rfl] at hn hr
    have HN3 := Lib.hid hn
    have HR3 := Lib.hid hr
    have HE3 := Lib.hid (show Ext w _ from Ext.upd1 HQ2.out hu hlo2)
    have hlo3 : w.heap.size ≤ b3 := by have := HQ2.out.size; omega
    clear hn hr hb hu HQ2 HS2 HN2
    go_wp2_with fail
    -- smooth
    refine (spec_IsSmooth_ok _ p _ (HH.out.ext HE3.out) hl HI.out).mono ?_
    rintro e wp3 ⟨rfl, q3⟩
    have HQ3 := Lib.hid (show Ext w _ from HE3.out.trans q3)
    have HS3 := Lib.hid (HR3.out.ext q3)
    clear q3 HE3 HR3
    go_wp2_with fail
    refine (l29Add_ok b3 c3 n3 (famTo p 3) (smoothB p) ⟨#[115, 109, 111, 111, 116, 104]⟩ _ HS3.out HN3.out (by have := (famTo_ok p 3 (by omega)).1; omega)).mono ?_
    rintro e wz4 ⟨b4, c4, n4, rfl, hn, hr, hb, hu⟩
    rw [← famTo_succ p (k := 3) (e := (⟨#[115, 109, 111, 111, 116, 104]⟩, smoothB)) rfl] at hn hr
    have HN4 := Lib.hid hn
    have HR4 := Lib.hid hr
    have HE4 := Lib.hid (show Ext w _ from Ext.upd1 HQ3.out hu hlo3)
    have hlo4 : w.heap.size ≤ b4 := by have := HQ3.out.size; omega
    clear hn hr hb hu HQ3 HS3 HN3
    go_wp2_with fail
    -- vexillary
    refine (spec_IsVexillary_ok _ p _ (HH.out.ext HE4.out) hl HI.out).mono ?_
    rintro e wp4 ⟨rfl, q4⟩
    have HQ4 := Lib.hid (show Ext w _ from HE4.out.trans q4)
    have HS4 := Lib.hid (HR4.out.ext q4)
    clear q4 HE4 HR4
    go_wp2_with fail
    refine (l29Add_ok b4 c4 n4 (famTo p 4) (vexB p) ⟨#[118, 101, 120, 105, 108, 108, 97, 114, 121]⟩ _ HS4.out HN4.out (by have := (famTo_ok p 4 (by omega)).1; omega)).mono ?_
    rintro e wz5 ⟨b5, c5, n5, rfl, hn, hr, hb, hu⟩
    rw [← famTo_succ p (k := 4) (e := (⟨#[118, 101, 120, 105, 108, 108, 97, 114, 121]⟩, vexB)) rfl] at hn hr
    have HN5 := Lib.hid hn
    have HR5 := Lib.hid hr
    have HE5 := Lib.hid (show Ext w _ from Ext.upd1 HQ4.out hu hlo4)
    have hlo5 : w.heap.size ≤ b5 := by have := HQ4.out.size; omega
    clear hn hr hb hu HQ4 HS4 HN4
    go_wp2_with fail
    -- commutative
    refine (spec_IsCommutative_ok _ p _ (HH.out.ext HE5.out) hl HI.out).mono ?_
    rintro e wp5 ⟨rfl, q5⟩
    have HQ5 := Lib.hid (show Ext w _ from HE5.out.trans q5)
    have HS5 := Lib.hid (HR5.out.ext q5)
    clear q5 HE5 HR5
    go_wp2_with fail
    refine (l29Add_ok b5 c5 n5 (famTo p 5) (comB p) ⟨#[99, 111, 109, 109, 117, 116, 97, 116, 105, 118, 101]⟩ _ HS5.out HN5.out (by have := (famTo_ok p 5 (by omega)).1; omega)).mono ?_
    rintro e wz6 ⟨b6, c6, n6, rfl, hn, hr, hb, hu⟩
    rw [← famTo_succ p (k := 5) (e := (⟨#[99, 111, 109, 109, 117, 116, 97, 116, 105, 118, 101]⟩, comB)) rfl] at hn hr
    have HN6 := Lib.hid hn
    have HR6 := Lib.hid hr
    have HE6 := Lib.hid (show Ext w _ from Ext.upd1 HQ5.out hu hlo5)
    have hlo6 : w.heap.size ≤ b6 := by have := HQ5.out.size; omega
    clear hn hr hb hu HQ5 HS5 HN5
    go_wp2_with fail
    -- merged
    refine (spec_IsSkewMerged_ok _ p _ (HH.out.ext HE6.out) hl HI.out).mono ?_
    rintro e wp6 ⟨rfl, q6⟩
    have HQ6 := Lib.hid (show Ext w _ from HE6.out.trans q6)
    have HS6 := Lib.hid (HR6.out.ext q6)
    clear q6 HE6 HR6
    go_wp2_with fail
    refine (l29Add_ok b6 c6 n6 (famTo p 6) (skewB p) ⟨#[109, 101, 114, 103, 101, 100]⟩ _ HS6.out HN6.out (by have := (famTo_ok p 6 (by omega)).1; omega)).mono ?_
    rintro e wz7 ⟨b7, c7, n7, rfl, hn, hr, hb, hu⟩
    rw [← famTo_succ p (k := 6) (e := (⟨#[109, 101, 114, 103, 101, 100]⟩, skewB)) rfl] at hn hr
    have HN7 := Lib.hid hn
    have HR7 := Lib.hid hr
    have HE7 := Lib.hid (show Ext w _ from Ext.upd1 HQ6.out hu hlo6)
    have hlo7 : w.heap.size ≤ b7 := by have := HQ6.out.size; omega
    clear hn hr hb hu HQ6 HS6 HN6
    go_wp2_with fail
    -- involution
    refine (spec_IsInvolution_ok _ p _ (HH.out.ext HE7.out) hl).mono ?_
    rintro e wp7 ⟨rfl, q7⟩
    have HQ7 := Lib.hid (show Ext w _ from HE7.out.trans q7)
    have HS7 := Lib.hid (HR7.out.ext q7)
    clear q7 HE7 HR7
    go_wp2_with fail
    refine (l29Add_ok b7 c7 n7 (famTo p 7) (invoB p) ⟨#[105, 110, 118, 111, 108, 117, 116, 105, 111, 110]⟩ _ HS7.out HN7.out (by have := (famTo_ok p 7 (by omega)).1; omega)).mono ?_
    rintro e wz8 ⟨b8, c8, n8, rfl, hn, hr, hb, hu⟩
    rw [← famTo_succ p (k := 7) (e := (⟨#[105, 110, 118, 111, 108, 117, 116, 105, 111, 110]⟩, invoB)) rfl] at hn hr
    have HN8 := Lib.hid hn
    have HR8 := Lib.hid hr
    have HE8 := Lib.hid (show Ext w _ from Ext.upd1 HQ7.out hu hlo7)
    have hlo8 : w.heap.size ≤ b8 := by have := HQ7.out.size; omega
    clear hn hr hb hu HQ7 HS7 HN7
    go_wp2_with fail
    -- alternating
    refine (spec_IsAlternating_ok _ p _ (HH.out.ext HE8.out) hl).mono ?_
    rintro e wp8 ⟨rfl, q8⟩
    have HQ8 := Lib.hid (show Ext w _ from HE8.out.trans q8)
    have HS8 := Lib.hid (HR8.out.ext q8)
    clear q8 HE8 HR8
    go_wp2_with fail
    refine (l29Add_ok b8 c8 n8 (famTo p 8) (altB p) ⟨#[97, 108, 116, 101, 114, 110, 97, 116, 105, 110, 103]⟩ _ HS8.out HN8.out (by have := (famTo_ok p 8 (by omega)).1; omega)).mono ?_
    rintro e wz9 ⟨b9, c9, n9, rfl, hn, hr, hb, hu⟩
    rw [← famTo_succ p (k := 8) (e := (⟨#[97, 108, 116, 101, 114, 110, 97, 116, 105, 110, 103]⟩, altB)) rfl] at hn hr
    have HN9 := Lib.hid hn
    have HR9 := Lib.hid hr
    have HE9 := Lib.hid (show Ext w _ from Ext.upd1 HQ8.out hu hlo8)
    have hlo9 : w.heap.size ≤ b9 := by have := HQ8.out.size; omega
    clear hn hr hb hu HQ8 HS8 HN8
    by_cases hz : n9 = 0
    · have hzb : ((n9 : Int) == 0) = true := by rw [beq_iff_eq]; omega
      have HF : Hid (famT p = ⟨#[45]⟩) := by show _ = _; unfold famT; rw [HP.out, cond_true, if_pos (by rw [← HN9.out]; exact hz)]
      go_wp2_with fail
      go_ret
      exact ⟨by rw [HF.out]; rfl, HE9.out⟩
    · have hzb : ((n9 : Int) == 0) = false := by rw [beq_eq_false_iff_ne]; omega
      have HF : Hid (famT p = joinB (famTo p 9) ⟨#[32]⟩) := by show _ = _; unfold famT; rw [HP.out, cond_true, if_neg (by rw [← HN9.out]; exact hz)]
      go_wp2_with fail
      refine (spec_Join_ok b9 c9 n9 (famTo p 9) ⟨#[32]⟩ _ HR9.out HN9.out (famTo_ok p 9 (by omega)).2 (by have := (famTo_ok p 9 (by omega)).1; omega) (by decide)).mono ?_
      rintro e wq ⟨rfl, hq⟩
      have HEQ := Lib.hid (HE9.out.trans hq)
      clear hq
      go_wp2_with fail
      go_ret
      exact ⟨by rw [HF.out]; rfl, HEQ.out⟩
end Go.Proofs.Ytcifngcmdiokpaa
namespace Go.Proofs.Ytcifngcmdiokpaa
open Go.RowKit

def famC : List Value := [.string ⟨#[115, 105, 109, 112, 108, 101]⟩, .func (.func 41) #[] #[], .string ⟨#[115, 101, 112, 97, 114, 97, 98, 108, 101]⟩, .func (.func 42) #[] #[], .string ⟨#[108, 97, 121, 101, 114, 101, 100]⟩, .func (.func 43) #[] #[], .string ⟨#[115, 109, 111, 111, 116, 104]⟩, .func (.func 17) #[] #[], .string ⟨#[118, 101, 120, 105, 108, 108, 97, 114, 121]⟩, .func (.func 19) #[] #[], .string ⟨#[99, 111, 109, 109, 117, 116, 97, 116, 105, 118, 101]⟩, .func (.func 21) #[] #[], .string ⟨#[109, 101, 114, 103, 101, 100]⟩, .func (.func 23) #[] #[], .string ⟨#[105, 110, 118, 111, 108, 117, 116, 105, 111, 110]⟩, .func (.func 44) #[] #[], .string ⟨#[97, 108, 116, 101, 114, 110, 97, 116, 105, 110, 103]⟩, .func (.func 45) #[] #[]]
theorem fam_ent {p : List Int} (hl : p.length ≤ 1048576) (hb : I64s p) : ∀ k, k < 9 → ∃ s q fn, famL[k]? = some (s, q) ∧ famC[k * 2]? = some (.string s) ∧ famC[k * 2 + 1]? = some (.func (.func fn) #[] #[]) ∧ Enters fn ∧
    ∀ (w1 : World) (u : Value), SI w1 u p → Calls Try.prog fn #[u] w1 fun e w2 => e = .returned (.bool (q p)) ∧ Ext w1 w2 := by
  intro k hk
  obtain rfl | rfl | rfl | rfl | rfl | rfl | rfl | rfl | rfl : k = 0 ∨ k = 1 ∨ k = 2 ∨ k = 3 ∨ k = 4 ∨ k = 5 ∨ k = 6 ∨ k = 7 ∨ k = 8 := by omega
  · exact ⟨_, _, 41, rfl, rfl, rfl, enters_of Try.func41 rfl rfl, fun w1 u hu => impl_IsSimple_ok u p w1 hu⟩
  · exact ⟨_, _, 42, rfl, rfl, rfl, enters_of Try.func42 rfl rfl, fun w1 u hu => impl_IsSeparable_ok u p w1 hu⟩
  · exact ⟨_, _, 43, rfl, rfl, rfl, enters_of Try.func43 rfl rfl, fun w1 u hu => impl_IsLayered_ok u p w1 hu⟩
  · exact ⟨_, _, 17, rfl, rfl, rfl, enters_of Try.func17 rfl rfl, fun w1 u hu => impl_IsSmooth_ok u p w1 hu hl hb⟩
  · exact ⟨_, _, 19, rfl, rfl, rfl, enters_of Try.func19 rfl rfl, fun w1 u hu => impl_IsVexillary_ok u p w1 hu hl hb⟩
  · exact ⟨_, _, 21, rfl, rfl, rfl, enters_of Try.func21 rfl rfl, fun w1 u hu => impl_IsCommutative_ok u p w1 hu hl hb⟩
  · exact ⟨_, _, 23, rfl, rfl, rfl, enters_of Try.func23 rfl rfl, fun w1 u hu => impl_IsSkewMerged_ok u p w1 hu hl hb⟩
  · exact ⟨_, _, 44, rfl, rfl, rfl, enters_of Try.func44 rfl rfl, fun w1 u hu => impl_IsInvolution_ok u p w1 hu⟩
  · exact ⟨_, _, 45, rfl, rfl, rfl, enters_of Try.func45 rfl rfl, fun w1 u hu => impl_IsAlternating_ok u p w1 hu⟩
set_option maxHeartbeats 4000000 in
theorem impl_FamiliesText_ok (v : Value) (p : List Int) (w : World) (h : SI w v p) (hl : p.length ≤ 1048576) (hb : I64s p) :
    Calls Try.prog 25 #[v] w fun e w' => e = .returned (.string (famT p)) ∧ Ext w w' := by
  have h00 := h
  obtain ⟨a, cap, rfl, -⟩ := h00.elim
  have HH := Lib.hid h
  have HI := Lib.hid hb
  cases hp : isP8 p
  · have HP := Lib.hid hp
    have HF : Hid (famT p = ⟨#[]⟩) := by show _ = _; unfold famT; rw [hp]; rfl
    clear h h00 hp hb
    go_enter Try.func25, Try.ntmps25
    go_wp2_with fail
    refine (impl_IsPerm_ok _ p _ HH.out).mono ?_
    rintro e w1 ⟨rfl, he⟩
    rw [HP.out]
    have HE := Lib.hid he
    clear he
    go_wp2_with fail
    go_ret
    exact ⟨by rw [HF.out]; rfl, HE.out⟩
  · have HP := Lib.hid hp
    clear h h00 hp hb
    go_enter Try.func25, Try.ntmps25
    go_wp2_with fail
    refine (impl_IsPerm_ok _ p _ HH.out).mono ?_
    rintro e w1 ⟨rfl, he⟩
    rw [HP.out]
    have HE := Lib.hid he
    clear he
    have hEA : Ext w1 (w1.alloc (.cells famC.toArray 32)) := Upd.alloc _ _ _
    have hRA := Row.new 32 w1 famC (by simp [famC, maxLen])
    have hES : Ext (w1.alloc (.cells famC.toArray 32)) ((w1.alloc (.cells famC.toArray 32)).alloc (.cells #[] 9)) := Upd.alloc _ _ _
    have hRS : Row 9 ((w1.alloc (.cells famC.toArray 32)).alloc (.cells #[] 9)) (w1.heap.size + 1) 0 ((famTo p 0).map Value.string) := by
      have h := Row.new 9 (w1.alloc (.cells famC.toArray 32)) [] (by simp)
      rw [show (w1.alloc (.cells famC.toArray 32)).heap.size = w1.heap.size + 1 by simp] at h
      exact h
    have hzA : (w1.alloc (.cells famC.toArray 32)).heap.size = w1.heap.size + 1 := by simp
    have HEW := Lib.hid (show Ext w _ from HE.out.trans hEA)
    obtain ⟨ws, hws⟩ : ∃ ws, ws = (w1.alloc (.cells famC.toArray 32)).alloc (.cells #[] 9) := ⟨_, rfl⟩
    rw [← hws] at hES hRS
    obtain ⟨wA, hwA⟩ : ∃ wA, wA = w1.alloc (.cells famC.toArray 32) := ⟨_, rfl⟩
    rw [← hwA] at hES hRA HEW hzA
    rw [← hwA] at hws
    obtain ⟨ba, hba⟩ : ∃ x, x = w1.heap.size := ⟨_, rfl⟩
    rw [← hba] at hRA hRS hzA
    have HRA := Lib.hid hRA
    have HES := Lib.hid hES
    have HRS := Lib.hid hRS
    have HENT := Lib.hid (fam_ent hl HI.out)
    have HWS : Hid (ws = (w1.alloc (.cells famC.toArray 32)).alloc (.cells #[] 9)) := by show _ = _; rw [hws, hwA]
    clear hEA hRA hES hRS hws hwA
    go_wp2_with fail
    rw [← hba]
    have e5 := HWS.out
    unfold famC at e5
    rw [← e5]
    clear e5 hba HWS
    go_loopw [4, 23] (fun o i wr => ∃ k : Nat, k ≤ 9 ∧ i = .int .i64 ((k : Nat) : Int) ∧ (∃ b c n, o = .slice (some ⟨b, 0, none⟩) n c ∧ Hid (n = (famTo p k).length) ∧ Hid (Row 9 wr b c ((famTo p k).map Value.string)) ∧ ba < b) ∧ Hid (Ext wA wr)) (fun _ i _ => 9 - (intOf i).toNat)
    case atStart => exact ⟨0, by omega, rfl, ⟨ba + 1, 0, 0, rfl, Lib.hid rfl, HRS, by omega⟩, HES⟩
    case round =>
      obtain ⟨k, hk, rfl, ⟨b, c, n, rfl, hn, hr, hbb⟩, he⟩ := hrel
      clear HES HRS
      have hwz := he.out.size
      have HEW2 := Lib.hid (show Ext w wr from HEW.out.trans he.out)
      by_cases hlt : k < 9
      · have hkI : (k : Int) < 9 := by omega
        obtain ⟨s, q, fn, g1, g2, g3, hen, hcall⟩ := HENT.out k hlt
        have dA := (HRA.out.ext he.out).cell g2
        have dB := (HRA.out.ext he.out).cell g3
        have HG := Lib.hid (famTo_succ p g1)
        have HS := Lib.hid (famL_small k _ g1)
        obtain ⟨qb, hqb⟩ : ∃ x, x = q p := ⟨_, rfl⟩
        rw [show (s, q).2 p = qb from hqb.symm] at HG
        have HCALL : Hid (∀ (w1 : World) (u : Value), SI w1 u p → Calls Try.prog fn #[u] w1 fun e w2 => e = .returned (.bool qb) ∧ Ext w1 w2) := by rw [hqb]; exact hcall
        clear g1 g2 g3 hcall hqb
        unfold Enters at hen
        go_wp2_with fail
        have hx : Ext wr (wr.alloc (.cells #[.string s, .func (.func fn) #[] #[]] 32)) := Upd.alloc _ _ _
        have HX := Lib.hid (show Ext wA _ from he.out.trans hx)
        have HXW := Lib.hid (show Ext w _ from HEW2.out.trans hx)
        have hrx := Row.new 32 wr [.string s, .func (.func fn) #[] #[]] (by simp [maxLen])
        have d0x := hrx.cell (j := 0) rfl
        have D0 := Lib.hid d0x
        have HRX := Lib.hid (hr.out.ext hx)
        have hzx : (wr.alloc (.cells #[.string s, .func (.func fn) #[] #[]] 32)).heap.size = wr.heap.size + 1 := by simp
        clear hx hrx d0x
        refine (HCALL.out _ _ (HH.out.ext HXW.out)).mono ?_
        rintro e w2 ⟨rfl, h2⟩
        have d0 := h2.cell D0.out
        have HE2 := Lib.hid (show Ext wA _ from HX.out.trans h2)
        have HR2 := Lib.hid (HRX.out.ext h2)
        have hz2 := h2.size
        have hlen := (famTo_ok p k (by omega)).1
        have HLEN : Hid ((famTo p k).length ≤ 1000000000000) := by show _ ≤ _; omega
        clear h2 dA dB hr hlen hen
        cases qb
        · have HK : Hid (famTo p (k + 1) = famTo p k) := HG.out
          go_wp2_with fail
          go_roundw
          case rel => exact ⟨k + 1, by omega, by go_num, ⟨b, c, n, rfl, by rw [HK.out]; exact hn, by rw [HK.out]; exact HR2, hbb⟩, HE2⟩
          case measure => simp [intOf]; omega
        · have HK : Hid (famTo p (k + 1) = famTo p k ++ [s]) := HG.out
          go_wp2_with (at_builtin; go_loud (refine wpl_app1sF rfl _ _ rfl b c n (famTo p k) s rfl HR2.out hn.out rfl HLEN.out ?_); intro b8 c8 w8 hr8 hb8 hu8; rw [← HK.out] at hr8; have HR8 := Lib.hid hr8; have HB8 := Lib.hid hb8; have HU8 := Lib.hid hu8; clear hr8 hb8 hu8)
          have HE8 := Lib.hid (show Ext wA _ from Ext.upd1 HE2.out HU8.out (by omega))
          have HN8 : Hid (n + 1 = (famTo p (k + 1)).length) := by show _ = _; rw [HK.out, List.length_append, ← hn.out]; rfl
          have hb9 : ba < b8 := by have := HB8.out; omega
          go_roundw
          case rel => exact ⟨k + 1, by omega, by go_num, ⟨b8, c8, n + 1, rfl, HN8, HR8, hb9⟩, HE8⟩
          case measure => simp [intOf]; omega
      · obtain rfl : k = 9 := by omega
        by_cases hz : n = 0
        · have hzb : ((n : Int) == 0) = true := by rw [beq_iff_eq]; omega
          have HF : Hid (famT p = ⟨#[45]⟩) := by show _ = _; unfold famT; rw [HP.out, cond_true, if_pos (by rw [← hn.out]; exact hz)]
          go_wp2_with fail
          go_ret
          exact ⟨by rw [HF.out]; rfl, HEW2.out⟩
        · have hzb : ((n : Int) == 0) = false := by rw [beq_eq_false_iff_ne]; omega
          have HF : Hid (famT p = joinB (famTo p 9) ⟨#[32]⟩) := by show _ = _; unfold famT; rw [HP.out, cond_true, if_neg (by rw [← hn.out]; exact hz)]
          go_wp2_with fail
          refine (lib_Join_ok b c n (famTo p 9) ⟨#[32]⟩ _ hr.out hn.out (by have := (famTo_ok p 9 (by omega)).1; omega) (by
            have h9 := famTo_ok p 9 (by omega)
            have := jT_len (sep := ⟨#[32]⟩) h9.2 (by decide) _ (Nat.le_refl _)
            rw [jT_all] at this
            omega)).mono ?_
          rintro e wq ⟨rfl, hq⟩
          have HEQ := Lib.hid (show Ext w _ from HEW2.out.trans hq)
          clear hq
          go_wp2_with fail
          go_ret
          exact ⟨by rw [HF.out]; rfl, HEQ.out⟩
end Go.Proofs.Ytcifngcmdiokpaa
namespace Go.Proofs.Ytcifngcmdiokpaa
open Go.RowKit

set_option maxHeartbeats 4000000 in
theorem law_FamiliesText_ok (v0 : Value) (x0 : List Int) (w : World) (s0 : SI w v0 x0) (b0 : I64s x0) :
    Calls Try.prog 9 #[v0] w fun e w' => e = .returned (.bool true) ∧ Ext w w' := by
  have E : Ext w w := Ext.refl w
  have t0 := s0
  obtain ⟨a0, c0, rfl, _⟩ := t0.elim
  by_cases g0 : 1048576 < x0.length
  · go_enter Try.func9, Try.ntmps9
    go_wp2_with fail
    go_ret
    exact ⟨rfl, E⟩
  go_enter Try.func9, Try.ntmps9
  go_wp2_with fail
  refine (toIntS_ok _ x0 _ (s0.ext E) (by omega)).mono ?_
  rintro e w1 ⟨b_cs0, c_cs0, rfl, hb_cs0, hr_cs0, hw1⟩
  replace E := E.trans hw1
  have cs0 : OI w.heap.size w1.heap.size w1 _ x0 := OI.row hr_cs0 hb_cs0 rfl
  clear hr_cs0 hb_cs0
  have zw1 := hw1.size
  go_wp2_with fail
  refine (spec_FamiliesText_ok _ x0 _ cs0.si (by omega) b0).mono ?_
  rintro e w2 ⟨rfl, hw2⟩
  replace cs0 := cs0.ext hw2
  replace E := E.trans hw2
  clear cs0
  go_wp2_with fail
  refine (toIntS_ok _ x0 _ (s0.ext E) (by omega)).mono ?_
  rintro e w3 ⟨b_cx0, c_cx0, rfl, hb_cx0, hr_cx0, hw3⟩
  replace E := E.trans hw3
  have cx0 : OI w2.heap.size w3.heap.size w3 _ x0 := OI.row hr_cx0 hb_cx0 rfl
  clear hr_cx0 hb_cx0
  have zw3 := hw3.size
  go_wp2_with fail
  refine (impl_FamiliesText_ok _ x0 _ cx0.si (by omega) b0).mono ?_
  rintro e w4 ⟨rfl, hw4⟩
  replace cx0 := cx0.ext hw4
  replace E := E.trans hw4
  go_wp2_with fail
  refine (toIntS_ok _ x0 _ (s0.ext E) (by omega)).mono ?_
  rintro e w5 ⟨b_cy0, c_cy0, rfl, hb_cy0, hr_cy0, hw5⟩
  replace cx0 := cx0.ext hw5
  replace E := E.trans hw5
  have cy0 : OI w4.heap.size w5.heap.size w5 _ x0 := OI.row hr_cy0 hb_cy0 rfl
  clear hr_cy0 hb_cy0
  have zw5 := hw5.size
  go_wp2_with fail
  refine (eqIntS_same _ _ x0 _ cx0.si cy0.si (by omega)).mono ?_
  rintro e w6 ⟨rfl, hw6⟩
  replace hw6 : Ext w5 w6 := hw6.ext
  replace cx0 := cx0.ext hw6
  replace cy0 := cy0.ext hw6
  replace E := E.trans hw6
  clear cy0
  go_wp2_with fail
  go_ret
  exact ⟨rfl, E⟩
end Go.Proofs.Ytcifngcmdiokpaa
