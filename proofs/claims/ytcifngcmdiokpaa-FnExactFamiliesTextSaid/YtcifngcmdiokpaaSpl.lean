/- The reference's SplitByte, and slices of texts. Conditions: a length below a bound. -/
import Derived.Test.YtcifngcmdiokpaaText
namespace Go.Proofs.Ytcifngcmdiokpaa
open Go.RowKit

theorem ieq_t {a b : Int} (h : a = b) : (a == b) = true := by subst h; simp
theorem ieq_f {a b : Int} (h : a ≠ b) : (a == b) = false := by simpa using h
def nthT (L : List ByteArray) (k : Nat) : ByteArray := L.getD k ⟨#[]⟩
def SS (w : World) (v : Value) (L : List ByteArray) : Prop := ∃ b cap, v = .slice (some ⟨b, 0, none⟩) L.length cap ∧ L.length ≤ cap ∧ cap ≤ maxLen ∧ ∀ i, i < L.length → w.cell? ⟨b, i, none⟩ = some (.string (nthT L i))
theorem SS.ext {w w' : World} {v : Value} {L : List ByteArray} (h : SS w v L) (hu : Ext w w') : SS w' v L := by
  obtain ⟨b, cap, h1, h2, h3, h4⟩ := h
  exact ⟨b, cap, h1, h2, h3, fun i hi => hu.cell (h4 i hi)⟩
theorem Row.ss {w : World} {b cap : Nat} {L : List ByteArray} (h : Row 9 w b cap (L.map Value.string)) : SS w (.slice (some ⟨b, 0, none⟩) L.length cap) L :=
  ⟨b, cap, rfl, by simpa using h.le, h.mx, fun i hi => h.cell (by simp [nthT, hi])⟩
theorem Try.infoStr : (Try.prog.info? 9).map (fun i => (i.zero, i.size, i.bytes)) = some (some (.string ⟨#[]⟩), 1, 16) := by kernel_rfl
theorem info_str : ∃ i, Try.prog.info? 9 = some i ∧ i.zero = some (.string ⟨#[]⟩) ∧ i.size = 1 ∧ i.bytes = 16 := by
  have h := Try.infoStr
  cases hi : Try.prog.info? 9 with
  | none => rw [hi] at h; simp at h
  | some i => rw [hi] at h; simp at h; exact ⟨i, rfl, h.1, h.2.1, h.2.2⟩
/-- 'out = append(out, s)', s a text. -/
theorem wpl_apps {w : World} {ops : Array Oper} {rest : List Oper} {o : Oper} {a : Act} {Q : Exit → Act → World → Prop} (hgd : o.guard = none) (s x : Operand)
    (ho : o.op = .call { callee := .builtin .append, args := #[s, x], argTypes := #[29, 29] })
    (b cap n : Nat) (L : List ByteArray) (T : ByteArray) (hs : a.eval s = .slice (some ⟨b, 0, none⟩) n cap) (hr : Row 9 w b cap (L.map Value.string)) (hn : n = L.length)
    (hx : a.eval x = .slice (some ⟨w.heap.size, 0, none⟩) 1 1) (hb : L.length ≤ 1000000000)
    (h : ∀ b' cap' w', Row 9 w' b' cap' ((L ++ [T]).map Value.string) → (b' = b ∨ w.heap.size < b') → Upd (· = b) w w' → wpList Try.prog ops Q rest (a.put o.dst (.slice (some ⟨b', 0, none⟩) (n + 1) cap')) w') :
    wpList Try.prog ops Q (o :: rest) a (w.alloc (.cells #[.string T] 9)) := by
  obtain ⟨i, hi, hz, hs1, hby⟩ := info_str
  refine wpl_app hgd s x 29 ho 9 i (.string ⟨#[]⟩) Try.underlying29 hi hz hs1 rfl b cap n (L.map Value.string) hs (hr.upd (Upd.alloc w _ (fun _ => False)) id) (by simpa using hn) ⟨w.heap.size, 0, none⟩ 1 1 [.string T] hx rfl ?_ ?_ ?_ ?_ ?_
  · intro j u hj
    cases j with
    | zero => simp at hj; subst hj; exact World.cell?_alloc_at _ _ _ _ rfl
    | succ j => simp at hj
  · intro u hu; simp at hu; subst hu; rfl
  · rw [hby]; omega
  · unfold maxLen; omega
  · intro b' cap' w' h1 h2 h3
    refine h b' cap' w' (by simpa using h1) ?_ ?_
    · rcases h2 with h2 | h2
      · exact .inl h2
      · simp at h2; exact .inr (by omega)
    · exact (Upd.alloc w _ _).trans h3
def atB (T : ByteArray) (c : Nat) (k : Nat) : Bool := decide (k = T.size) || decide ((T.data.toList.getD k 0).toNat = c)
def splN (T : ByteArray) (c : Nat) : Nat → Nat × List ByteArray
  | 0 => (0, [])
  | k + 1 => bif atB T c k then (k + 1, (splN T c k).2 ++ [T.extract (splN T c k).1 k]) else splN T c k
theorem splN_t {T : ByteArray} {c k : Nat} (h : atB T c k = true) : splN T c (k + 1) = (k + 1, (splN T c k).2 ++ [T.extract (splN T c k).1 k]) := by simp [splN, h]
theorem splN_f {T : ByteArray} {c k : Nat} (h : atB T c k = false) : splN T c (k + 1) = splN T c k := by simp [splN, h]
theorem splN_le (T : ByteArray) (c k : Nat) : (splN T c k).1 ≤ k ∧ (splN T c k).2.length ≤ k := by
  induction k with
  | zero => simp [splN]
  | succ k ih =>
    cases h : atB T c k
    · rw [splN_f h]; omega
    · rw [splN_t h]; simp; omega
theorem atB_get {T : ByteArray} {c k : Nat} (h : k < T.size) : atB T c k = decide (T[k].toNat = c) := by
  have e : T.data.toList.getD k 0 = T[k] := by
    have h1 : k < T.data.size := h
    rw [show T.data.toList.getD k 0 = T.data[k]?.getD 0 by simp]
    rw [Array.getElem?_eq_getElem h1]; rfl
  unfold atB
  rw [e, decide_eq_false (by omega)]; rfl
set_option maxHeartbeats 1000000 in
theorem split_ok (T : ByteArray) (w : World) (h8 : T.size ≤ 1000) :
    Calls Try.prog 72 #[.string T, .int .u8 32] w fun e w' => ∃ b c n, e = .returned (.slice (some ⟨b, 0, none⟩) n c) ∧ n = (splN T 32 (T.size + 1)).2.length ∧ w.heap.size ≤ b ∧ Row 9 w' b c ((splN T 32 (T.size + 1)).2.map Value.string) ∧ Ext w w' := by
  have hr0 := Row.new 9 w [] (by simp)
  have he0 : Ext w (w.alloc (.cells #[] 9)) := Upd.alloc _ _ _
  go_enter Try.func72, Try.ntmps72
  go_wp2_with fail
  go_loopw [5, 6, 7] (fun o f i wr => ∃ k : Nat, k ≤ T.size + 1 ∧ i = .int .i64 k ∧ (∃ g : Nat, f = .int .i64 g ∧ Hid (g = (splN T 32 k).1) ∧ g ≤ k) ∧ (∃ b c m, o = .slice (some ⟨b, 0, none⟩) m c ∧ Hid (m = (splN T 32 k).2.length) ∧ w.heap.size ≤ b ∧ Row 9 wr b c ((splN T 32 k).2.map Value.string)) ∧ Ext w wr) (fun _ _ i _ => T.size + 1 - (intOf i).toNat)
  case atStart => exact ⟨0, Nat.zero_le _, rfl, ⟨0, rfl, Lib.hid rfl, Nat.zero_le _⟩, ⟨_, 0, 0, rfl, Lib.hid rfl, Nat.le_refl _, hr0⟩, he0⟩
  case round =>
    obtain ⟨k, hk, rfl, ⟨g, rfl, hg, hgk⟩, ⟨b, c, m, rfl, hm, hb, hr⟩, he⟩ := hrel
    clear hr0 he0
    have hle := splN_le T 32 k
    have hll : Hid ((splN T 32 k).2.length ≤ 2000) := by show _ ≤ _; omega
    have hlt3 := hr.lt
    have HR := Lib.hid hr
    clear hr hle
    by_cases hlt : (k : Int) ≤ (T.size : Int)
    · by_cases heq : k = T.size
      · have hat : atB T 32 k = true := by unfold atB; rw [decide_eq_true heq]; rfl
        have hst : Hid (splN T 32 (k + 1) = (k + 1, (splN T 32 k).2 ++ [T.extract g k])) := by show _ = _; rw [splN_t hat, hg.out]
        have heI : ((k : Int) == (T.size : Int)) = true := ieq_t (by omega)
        clear hat heq
        go_wp2_with (at_builtin; go_loud (refine wpl_apps rfl _ _ rfl b c m ((splN T 32 k).2) (T.extract g k) rfl HR.out hm.out rfl (by have := hll.out; omega) ?_); intro b6 c6 w6 hr6 hb6 hu6)
        go_roundw
        case rel => exact ⟨k + 1, by omega, by go_num, ⟨k + 1, by go_num, Lib.hid (by rw [hst.out]), Nat.le_refl _⟩, ⟨b6, c6, m + 1, rfl, Lib.hid (by rw [hst.out, hm.out]; simp), by omega, by rw [hst.out]; exact hr6⟩, he.upd1 hu6 hb⟩
        case measure => simp [intOf]; omega
      · have hks : k < T.size := by omega
        have heI : ((k : Int) == (T.size : Int)) = false := ieq_f (by omega)
        have hget := atB_get (c := 32) hks
        by_cases h32 : T[k].toNat = 32
        · have hst : Hid (splN T 32 (k + 1) = (k + 1, (splN T 32 k).2 ++ [T.extract g k])) := by show _ = _; rw [splN_t (by rw [hget]; exact decide_eq_true h32), hg.out]
          have h32I : ((T[k].toNat : Int) == 32) = true := ieq_t (by omega)
          clear hget heq h32
          go_wp2_with (at_builtin; go_loud (refine wpl_apps rfl _ _ rfl b c m ((splN T 32 k).2) (T.extract g k) rfl HR.out hm.out rfl (by have := hll.out; omega) ?_); intro b6 c6 w6 hr6 hb6 hu6)
          go_roundw
          case rel => exact ⟨k + 1, by omega, by go_num, ⟨k + 1, by go_num, Lib.hid (by rw [hst.out]), Nat.le_refl _⟩, ⟨b6, c6, m + 1, rfl, Lib.hid (by rw [hst.out, hm.out]; simp), by omega, by rw [hst.out]; exact hr6⟩, he.upd1 hu6 hb⟩
          case measure => simp [intOf]; omega
        · have hst : Hid (splN T 32 (k + 1) = splN T 32 k) := by show _ = _; rw [splN_f (by rw [hget]; exact decide_eq_false h32)]
          have h32I : ((T[k].toNat : Int) == 32) = false := ieq_f (by omega)
          clear hget heq h32
          go_wp2_with fail
          go_roundw
          case rel => exact ⟨k + 1, by omega, by go_num, ⟨g, rfl, Lib.hid (by rw [hst.out]; exact hg.out), by omega⟩, ⟨b, c, m, rfl, Lib.hid (by rw [hst.out]; exact hm.out), hb, by rw [hst.out]; exact HR.out⟩, he⟩
          case measure => simp [intOf]; omega
    · obtain rfl : k = T.size + 1 := by omega
      go_wp2_with fail
      go_ret
      exact ⟨b, c, m, rfl, hm.out, hb, HR.out, he⟩
end Go.Proofs.Ytcifngcmdiokpaa
