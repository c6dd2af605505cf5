/- Several texts in one. Conditions: as each says. -/
import Derived.Test.YtmnbdphfoonleaaCov
import Derived.Laws.BytesArg
import Derived.Test.YtmnbdphfoonleaaRws
import Derived.Maps.OwnSet
import Derived.Maps.OwnOps
import Derived.WalkArith
import Derived.OwnWalk
import Derived.Carry
import Derived.Test.YtmnbdphfoonleaaDrStr
import Derived.Test.YtmnbdphfoonleaaWcov
import Derived.Test.YtmnbdphfoonleaaStrG
import Derived.Test.YtmnbdphfoonleaaChn
import Derived.Test.YtmnbdphfoonleaaWeak
import Derived.Test.YtmnbdphfoonleaaRed
import Derived.Test.YtmnbdphfoonleaaGreat
import Derived.Test.YtmnbdphfoonleaaHarnL
import Derived.Deep.RegionHeld3
import Derived.Deep.Cut
import Derived.Deep.CutRange
namespace Go.Proofs.Ytmnbdphfoonleaa
open Go.RowKit

/-- the digits. -/
def txN (p : List Int) : List Int := p.map fun v => 48 + v
def txt (p : List Int) : ByteArray := strOfNums (txN p)
def u8s (xs : List Int) : List Value := xs.map (Value.int .u8)
theorem txN_len (p : List Int) : (txN p).length = p.length := by simp [txN]
theorem txt_nil : txt [] = ⟨#[]⟩ := by simp [txt, txN, strOfNums]
theorem txt_take {p : List Int} {k : Nat} (h : k < p.length) : txt (p.take k) ++ strOfNums [48 + nth p k] = txt (p.take (k + 1)) := by
  rw [List.take_succ_eq_append_getElem h]
  have : p[k] = nth p k := by simp [nth, List.getD, h]
  rw [this]
  apply ByteArray.ext
  simp [txt, txN, strOfNums, ByteArray.data_append]
theorem txN_take {p : List Int} {k : Nat} (h : k < p.length) : txN (p.take k) ++ [48 + nth p k] = txN (p.take (k + 1)) := by
  rw [List.take_succ_eq_append_getElem h]
  have : p[k] = nth p k := by simp [nth, List.getD, h]
  simp [txN, this]
theorem txt_inj {p q : List Int} (hp : ∀ x ∈ p, 1 ≤ x ∧ x ≤ 8) (hq : ∀ x ∈ q, 1 ≤ x ∧ x ≤ 8) (h : txt p = txt q) : p = q := by
  have h2 := congrArg (fun s : ByteArray => s.data.toList) h
  simp only [txt, strOfNums_data] at h2
  have key : ∀ r : List Int, (∀ x ∈ r, 1 ≤ x ∧ x ≤ 8) → ((txN r).map fun n => UInt8.ofNat n.toNat).map (fun b => (b.toNat : Int) - 48) = r := by
    intro r hr
    rw [List.map_map, txN, List.map_map]
    conv => rhs; rw [← List.map_id r]
    refine List.map_congr_left fun x hx => ?_
    have := hr x hx
    simp only [Function.comp, id]
    rw [UInt8.toNat_ofNat']
    omega
  rw [← key p hp, ← key q hq, h2]
theorem txN_u8 {p : List Int} (hp : ∀ x ∈ p, 1 ≤ x ∧ x ≤ 8) : ∀ x ∈ txN p, 0 ≤ x ∧ x ≤ 255 := by
  intro x hx
  simp only [txN, List.mem_map] at hx
  obtain ⟨v, hv, rfl⟩ := hx
  have := hp v hv; omega

theorem Try.infoByte : (Try.prog.info? 5).map (fun i => (i.zero, i.size, i.bytes)) = some (some (.int .u8 0), 1, 1) := by kernel_rfl
theorem info_byte : ∃ i, Try.prog.info? 5 = some i ∧ i.zero = some (.int .u8 0) ∧ i.size = 1 ∧ i.bytes = 1 := by
  have h := Try.infoByte
  cases hi : Try.prog.info? 5 with
  | none => rw [hi] at h; simp at h
  | some i => rw [hi] at h; simp at h; exact ⟨i, rfl, h.1, h.2.1, h.2.2⟩
/-- 'out = append(out, x)', x a byte. -/
theorem wpl_app1u {w : World} {ops : Array Oper} {rest : List Oper} {o : Oper} {a : Act} {Q : Exit → Act → World → Prop} (hgd : o.guard = none) (s x : Operand)
    (ho : o.op = .call { callee := .builtin .append, args := #[s, x], argTypes := #[22, 22] })
    (b cap n : Nat) (xs : List Int) (y : Int) (hs : a.eval s = .slice (some ⟨b, 0, none⟩) n cap) (hr : Row 5 w b cap (u8s xs)) (hn : n = xs.length)
    (hx : a.eval x = .slice (some ⟨w.heap.size, 0, none⟩) 1 1) (hb : xs.length ≤ 1000000000)
    (h : ∀ b' cap' w', Row 5 w' b' cap' (u8s (xs ++ [y])) → (b' = b ∨ w.heap.size < b') → Upd (· = b) w w' → wpList Try.prog ops Q rest (a.put o.dst (.slice (some ⟨b', 0, none⟩) (n + 1) cap')) w') :
    wpList Try.prog ops Q (o :: rest) a (w.alloc (.cells #[.int .u8 y] 5)) := by
  obtain ⟨i, hi, hz, hs1, hby⟩ := info_byte
  refine wpl_app hgd s x 22 ho 5 i (.int .u8 0) Try.underlying22 hi hz hs1 rfl b cap n (u8s xs) hs (hr.upd (Upd.alloc w _ (fun _ => False)) id) (by simpa [u8s] using hn) ⟨w.heap.size, 0, none⟩ 1 1 [.int .u8 y] hx rfl ?_ ?_ ?_ ?_ ?_
  · intro j u hj
    cases j with
    | zero => simp at hj; subst hj; exact World.cell?_alloc_at _ _ _ _ rfl
    | succ j => simp at hj
  · intro u hu; simp at hu; subst hu; rfl
  · rw [hby]; omega
  · unfold maxLen; omega
  · intro b' cap' w' h1 h2 h3
    refine h b' cap' w' (by simpa [u8s] using h1) ?_ ?_
    · rcases h2 with h2 | h2
      · exact .inl h2
      · simp at h2; exact .inr (by omega)
    · exact (Upd.alloc w _ _).trans h3
theorem u8s_cell {w : World} {b cap : Nat} {xs : List Int} (h : Row 5 w b cap (u8s xs)) (i : Nat) (hi : i < xs.length) : w.cell? ⟨b, 0 + i, none⟩ = some (.int .u8 (xs.getD i 0)) := by
  rw [Nat.zero_add]
  exact h.cell (by simp [u8s, List.getD, List.getElem?_eq_getElem hi])

theorem impl_PermText_ok (v : Value) (p : List Int) (w : World) (h : SI w v p) (hp : IsP p) (h1 : 1 ≤ p.length) (h8 : p.length ≤ 8) :
    Calls Try.prog 114 #[v] w fun e w' => e = .returned (.string (txt p)) ∧ Ext w w' := by
  have hin : ∀ k, k < p.length → 1 ≤ nth p k ∧ nth p k ≤ 8 := fun k hk => by
    have := hp.1 _ (nth_mem hk); omega
  have HIN := Lib.hid hin
  have hP := Lib.hid (isP8_iff.2 ⟨h8, hp⟩)
  have h00 := h
  obtain ⟨a, cap, rfl, hri⟩ := h00.elim
  have hs0 := Lib.hid h
  have HRI := Lib.hid hri
  have h0 : ((p.length : Int) == 0) = false := by simp; intro e; simp [e] at h1
  clear hp hin h h00 hri
  go_enter Try.func114, Try.ntmps114
  go_wp2_with fail
  refine (impl_IsPerm_ok _ p _ hs0.out).mono ?_
  rintro e w1 ⟨rfl, q1⟩
  rw [hP.out]
  have hq1 := Lib.hid q1
  have hA : Ext w1 (w1.alloc (.cells #[] 5)) := Upd.alloc _ _ _
  have hs1 := Lib.hid ((hs0.out.ext hq1.out).ext hA)
  have hE1 := Lib.hid (hq1.out.trans hA)
  have hr1 := Lib.hid (Row.new 5 w1 [] (by simp))
  clear q1 hA
  go_wp2_with fail
  go_loopw [3, 15] (fun o i wr => ∃ k : Nat, k ≤ p.length ∧ i = .int .i64 k ∧ (∃ b c, o = .slice (some ⟨b, 0, none⟩) k c ∧ Hid (Row 5 wr b c (u8s (txN (p.take k))))  ∧ w.heap.size ≤ b) ∧ Hid (Ext w wr)) (fun _ i _ => p.length - (intOf i).toNat)
  case atStart => exact ⟨0, Nat.zero_le _, rfl, ⟨_, 0, rfl, by simpa [u8s, txN] using hr1, hq1.out.size⟩, hE1⟩
  case round =>
    obtain ⟨k, hk, rfl, ⟨b, c, rfl, hr, hb⟩, he⟩ := hrel
    clear hE1 hr1
    by_cases hlt : k < p.length
    · obtain ⟨b1, off1, rfl, hc⟩ := (HRI.out.ext he.out).get hlt
      have hcell := hc k hlt
      have hv := HIN.out k hlt
      obtain ⟨x, hx⟩ : ∃ x, x = nth p k := ⟨_, rfl⟩
      have HX := Lib.hid hx
      rw [← hx] at hcell hv
      have w1x : IntKind.i64.wrap (48 + x) = 48 + x := IntWalk.i64_in _ (by omega)
      have w2x : IntKind.u8.wrap (48 + x) = 48 + x := IntWalk.u8_in _ (by omega)
      have HT := Lib.hid (txN_take hlt)
      have hl : Hid (k = (txN (p.take k)).length) := by show _ = _; rw [txN_len, List.length_take]; omega
      have hlb : (txN (p.take k)).length ≤ 1000000000 := by rw [← hl.out]; omega
      clear hx hc
      go_wp2_with (first | (at_builtin; go_loud (refine wpl_app1u rfl (.tmp 19) (.tmp 23) rfl b c k _ (48 + x) rfl hr.out hl.out rfl hlb ?_); intro b8 c8 w8 hr8 hb8 hu8))
      rw [HX.out, HT.out] at hr8
      have HR8 := Lib.hid hr8
      have HE8 := Lib.hid (he.out.upd1 hu8 hb)
      have hb9 : w.heap.size ≤ b8 := by have := he.out.size; rcases hb8 with e | e <;> omega
      clear hr8 hu8 hb8
      go_roundw
      case rel => exact ⟨k + 1, by omega, by go_num, ⟨b8, c8, rfl, HR8, hb9⟩, HE8⟩
      case measure => simp [intOf]; omega
    · obtain rfl : k = p.length := by omega
      rw [List.take_length] at hr
      have hcv := run_convert_bytes_arg (P := Try.prog) wr 22 5 Try.underlying22 Try.underlying5 b 0 p.length c (txN p) (txN_len p) (fun i hi => u8s_cell hr.out i (by rw [txN_len]; exact hi)) 9 Try.underlying9
      go_wp2_with fail
      go_ret
      exact ⟨rfl, he.out⟩

set_option maxRecDepth 100000 in
theorem FormatInt_ok (x : Int) (w : World) (h1 : 1 ≤ x) (h8 : x ≤ 8) :
    Calls Try.prog 134 #[.int .i64 x] w fun e w' => e = .returned (.string (strOfNums [48 + x])) ∧ Ext w w' := by
  have w1x : IntKind.i64.wrap (48 + x) = 48 + x := IntWalk.i64_in _ (by omega)
  have w2x : IntKind.u8.wrap (48 + x) = 48 + x := IntWalk.u8_in _ (by omega)
  have w3x : x.tmod 10 = x := Int.tmod_eq_of_lt (by omega) (by omega)
  have w4x : x.tdiv 10 = 0 := Int.tdiv_eq_zero_of_lt (by omega) (by omega)
  have w5x : (x == 0) = false := by simp; omega
  have w6x : decide (x < 0) = false := decide_eq_false (by omega)
  have w7x : IntKind.i64.wrap x = x := IntWalk.i64_in _ (by omega)
  have HE : Hid (strOfNums [48 + x] ++ (⟨#[]⟩ : ByteArray) = strOfNums [48 + x]) := by
    show _ = _; apply ByteArray.ext; simp [strOfNums, ByteArray.data_append]
  have hE0 : Ext w w := Ext.refl _
  have HE0 := Lib.hid hE0
  clear hE0
  go_enter Try.func134, Try.ntmps134
  go_wp2_with fail
  go_loopw [0, 4] (fun n s wr => ((n = .int .i64 x ∧ s = .string ⟨#[]⟩) ∨ (n = .int .i64 0 ∧ s = .string (strOfNums [48 + x]))) ∧ Hid (Ext w wr)) (fun n _ _ => (intOf n).toNat)
  case atStart => exact ⟨.inl ⟨rfl, rfl⟩, HE0⟩
  case round =>
    obtain ⟨⟨rfl, rfl⟩ | ⟨rfl, rfl⟩, he⟩ := hrel
    · have hA : Ext wr (wr.alloc (.cells #[.int .u8 (48 + x)] 5)) := Upd.alloc _ _ _
      have HA := Lib.hid (he.out.trans hA)
      have hr1 := Row.new 5 wr (u8s [48 + x]) (by simp [u8s, maxLen])
      have hcv := run_convert_bytes_arg (P := Try.prog) _ 22 5 Try.underlying22 Try.underlying5 wr.heap.size 0 1 1 [48 + x] rfl (fun i hi => u8s_cell hr1 i hi) 9 Try.underlying9
      simp only [u8s, List.map_cons, List.map_nil] at hcv
      have hsz1 : (strOfNums [48 + x]).size ≤ 1 := by rw [strOfNums_size]; simp
      clear hA hr1
      go_wp2_with fail
      go_roundw
      case rel => exact ⟨.inr ⟨by go_num, by rw [HE.out]⟩, HA⟩
      case measure => simp [intOf]; omega
    · go_wp2_with fail
      go_ret
      exact ⟨rfl, he.out⟩
theorem spec_PermText_ok (v : Value) (p : List Int) (w : World) (h : SI w v p) (hp : IsP p) (h1 : 1 ≤ p.length) (h8 : p.length ≤ 8) :
    Calls Try.prog 115 #[v] w fun e w' => e = .returned (.string (txt p)) ∧ Ext w w' := by
  have hin : ∀ k, k < p.length → 1 ≤ nth p k ∧ nth p k ≤ 8 := fun k hk => by
    have := hp.1 _ (nth_mem hk); omega
  have HIN := Lib.hid hin
  have hP := Lib.hid (isP8_iff.2 ⟨h8, hp⟩)
  have h00 := h
  obtain ⟨a, cap, rfl, hri⟩ := h00.elim
  have hs0 := Lib.hid h
  have HRI := Lib.hid hri
  have h0 : ((p.length : Int) == 0) = false := by simp; intro e; simp [e] at h1
  clear hp hin h h00 hri
  go_enter Try.func115, Try.ntmps115
  go_wp2_with fail
  refine (spec_IsPerm_qt _ p _ hs0.out (by omega)).mono ?_
  rintro e w1 ⟨rfl, q1⟩
  rw [hP.out]
  have hE1 := Lib.hid q1.ext
  clear q1
  go_wp2_with fail
  go_loopw [3, 4] (fun o i wr => ∃ k : Nat, k ≤ p.length ∧ i = .int .i64 k ∧ (∃ s, o = .string s ∧ Hid (s = txt (p.take k))) ∧ Hid (Ext w wr)) (fun _ i _ => p.length - (intOf i).toNat)
  case atStart => exact ⟨0, Nat.zero_le _, rfl, ⟨_, rfl, txt_nil.symm⟩, hE1⟩
  case round =>
    obtain ⟨k, hk, rfl, ⟨s, rfl, hs⟩, he⟩ := hrel
    clear hE1
    by_cases hlt : k < p.length
    · obtain ⟨b1, off1, rfl, hc⟩ := (HRI.out.ext he.out).get hlt
      have hcell := hc k hlt
      have hv := HIN.out k hlt
      obtain ⟨x, hx⟩ : ∃ x, x = nth p k := ⟨_, rfl⟩
      have HX := Lib.hid hx
      rw [← hx] at hcell hv
      have HT := Lib.hid (txt_take hlt)
      have hsz : s.size ≤ 8 := by rw [hs.out]; simp [txt, strOfNums_size, txN_len]; omega
      have hsz1 : (strOfNums [48 + x]).size ≤ 1 := by rw [strOfNums_size]; simp
      clear hx hc
      go_wp2_with fail
      refine (FormatInt_ok x _ hv.1 hv.2).mono ?_
      rintro e w2 ⟨rfl, h2⟩
      have HE2 := Lib.hid (he.out.trans h2)
      have HS2 : Hid (s ++ strOfNums [48 + x] = txt (p.take (k + 1))) := by show _ = _; rw [hs.out, HX.out]; exact HT.out
      clear h2
      go_wp2_with fail
      trace_state; trace_state
      go_roundw
      case rel => exact ⟨k + 1, by omega, by go_num, ⟨_, rfl, HS2⟩, HE2⟩
      case measure => simp [intOf]; omega
    · obtain rfl : k = p.length := by omega
      rw [List.take_length] at hs
      go_wp2_with fail
      go_ret
      exact ⟨by rw [hs.out]; rfl, he.out⟩
end Go.Proofs.Ytmnbdphfoonleaa
namespace Go.Proofs.Ytmnbdphfoonleaa
open Go.RowKit Go.Maps

def cnt (p : List Int) : Int := ((rwL p).length : Int)
def cntTo (p : List Int) (k : Nat) : Int := ((rwTo p k).length : Int)
theorem cntTo_zero (p : List Int) : cntTo p 0 = 0 := by simp [cntTo, rwTo]
theorem cntTo_t {p : List Int} {k : Nat} (h : nth p (k + 1) < nth p k) : cntTo p (k + 1) = cntTo p k + cnt (nsw p k) := by
  unfold cntTo cnt; rw [rwTo_succ, rwOne_t h, List.length_append, List.length_map]; omega
theorem cntTo_f {p : List Int} {k : Nat} (h : ¬ nth p (k + 1) < nth p k) : cntTo p (k + 1) = cntTo p k := by
  unfold cntTo; rw [rwTo_succ, rwOne_f h, List.append_nil]
theorem cnt_step {p : List Int} (h : srtB p = false) : cnt p = cntTo p (p.length - 1) := by unfold cnt cntTo; rw [rwL_step h]
theorem cnt_srt {p : List Int} (h : srtB p = true) : cnt p = 1 := by unfold cnt; rw [rwL_srt h]; rfl
theorem cnt_rng {p : List Int} (hp : IsP p) (h6 : p.length ≤ 6) : 0 ≤ cnt p ∧ cnt p ≤ 470184984576 := by
  have := cr_small hp h6; unfold cnt; omega
theorem cntTo_rng {p : List Int} {k : Nat} (hp : IsP p) (h6 : p.length ≤ 6) (hs : srtB p = false) (hk : k ≤ p.length - 1) : 0 ≤ cntTo p k ∧ cntTo p k ≤ 470184984576 := by
  have h1 := cr_small hp h6
  have h2 := rwTo_le (p := p) hk
  rw [← rwL_step hs] at h2
  unfold cntTo; omega
theorem six_pos (d : Nat) : 1 ≤ 6 ^ d := Nat.one_le_pow _ _ (by omega)
/-- the rounds' room. -/
theorem six_room {N k d : Nat} (hk : k ≤ 5) : N + k * 6 ^ d + 1 ≤ N + 6 ^ (d + 1) := by
  have h1 := six_pos d
  have h2 : k * 6 ^ d ≤ 5 * 6 ^ d := Nat.mul_le_mul_right _ hk
  rw [Nat.pow_succ]; omega
theorem six_room2 {N k d : Nat} (hk : k + 1 ≤ 5) : N + k * 6 ^ d + 6 ^ d ≤ N + 6 ^ (d + 1) := by
  have h2 : (k + 1) * 6 ^ d ≤ 5 * 6 ^ d := Nat.mul_le_mul_right _ hk
  rw [Nat.add_mul, Nat.one_mul] at h2
  rw [Nat.pow_succ]; omega

theorem six_next {N N' k d : Nat} (h : N' ≤ N + k * 6 ^ d) : N' + 6 ^ d ≤ N + (k + 1) * 6 ^ d := by rw [Nat.add_mul, Nat.one_mul]; omega
/-! ### the map -/
def keyT (p : List Int) : Lit := .string (txt p).data.toList
theorem isP_rng {p : List Int} (hp : IsP p) (h8 : p.length ≤ 8) : ∀ x ∈ p, 1 ≤ x ∧ x ≤ 8 := fun x hx => by have := hp.1 x hx; omega
theorem keyT_ne {p q : List Int} (hp : IsP p) (hq : IsP q) (h8 : p.length ≤ 8) (h9 : q.length ≤ 8) (h : p ≠ q) : keyT p ≠ keyT q := by
  intro e
  refine h (txt_inj (isP_rng hp h8) (isP_rng hq h9) ?_)
  injection e with e
  exact ByteArray.ext (Array.toList_inj.1 e)
theorem key_ok {p : List Int} (h8 : p.length ≤ 8) : keyOf Try.prog 9 (.string (txt p)) = some (keyT p) :=
  Go.WideMaps.keyOf_string_mk Try.underlying9 (by rw [show (txt p).size = p.length by unfold txt; rw [strOfNums_size, txN_len]]; unfold maxLen; omega)
theorem keyed9 : Keyed Try.prog 9 := string_keyed Try.underlying9
theorem zero_int (w : World) : (zeroValue 3).run Try.prog w = .ok (.int .i64 0) w := by kernel_rfl
def OM (b N : Nat) (D : DataW Unit) (w : World) : Prop := w.ownsMap Try.prog 9 (plainElem Try.prog 3) b N D
def Good (n : Nat) (D : DataW Unit) : Prop := IsMap D ∧ ∀ q, IsP q → q.length = n → has D (keyT q) = true → D.atKey (keyT q) (.lit (.int .i64 0)) = .lit (.int .i64 (cnt q))
theorem Good.nil (n : Nat) : Good n (.map []) := ⟨isMap_empty, fun q _ _ h => by simp [has] at h⟩
theorem Good.put {n : Nat} {D : DataW Unit} (h : Good n D) {p : List Int} (hp : IsP p) (hl : p.length = n) (h8 : n ≤ 8) : Good n (D.put (keyT p) (.lit (.int .i64 (cnt p)))) := by
  refine ⟨h.1.put _ _, fun q hq hql hh => ?_⟩
  by_cases e : q = p
  · subst e; exact atKey_put_same h.1 (show WideAt.IsKeyLit (.string _) from trivial) _ _
  · have hne := keyT_ne hq hp (by omega) (by omega) e
    rw [has_put_other hne] at hh
    rw [atKey_put_other hne]; exact h.2 q hq hql hh
theorem OM.upd {b N : Nat} {D : DataW Unit} {E : Nat → Prop} {w w' : World} (h : OM b N D w) (hu : Upd E w w') (hb : ¬ E b) : OM b N D w' := by
  have hlt := World.ownsMap.lt h
  obtain ⟨es, clock, hh, F, hs, hD⟩ := h
  exact ⟨es, clock, (hu.block b hlt hb).trans hh, F, hs, hD⟩
theorem OM.ext {b N : Nat} {D : DataW Unit} {w w' : World} (h : OM b N D w) (hu : Ext w w') : OM b N D w' := h.upd hu id
theorem OM.lt {b N : Nat} {D : DataW Unit} {w : World} (h : OM b N D w) : b < w.heap.size := World.ownsMap.lt h
def CRP (n b M : Nat) (w w' : World) : Prop := ∃ N' D', OM b N' D' w' ∧ Good n D' ∧ N' ≤ M ∧ Upd (· = b) w w'
theorem CRP.ext {n b M : Nat} {w w1 w2 : World} (h : CRP n b M w w1) (hu : Ext w1 w2) : CRP n b M w w2 := by
  obtain ⟨N', D', h1, h2, h3, h4⟩ := h
  exact ⟨N', D', h1.ext hu, h2, h3, h4.trans (Ext.toUpd hu _)⟩
theorem CRP.mono {n b M M' : Nat} {w w1 : World} (h : CRP n b M w w1) (hM : M ≤ M') : CRP n b M' w w1 := by
  obtain ⟨N', D', h1, h2, h3, h4⟩ := h
  exact ⟨N', D', h1, h2, by omega, h4⟩
theorem CRP.upd {n b M : Nat} {w w1 : World} (h : CRP n b M w w1) : Upd (· = b) w w1 := by obtain ⟨N', D', h1, h2, h3, h4⟩ := h; exact h4
theorem CRP.off {n b M c : Nat} {w w1 w2 : World} (h : CRP n b M w w1) (hu : Upd (· = c) w1 w2) (hc : w.heap.size ≤ c) (hb : b < w.heap.size) : CRP n b M w w2 := by
  obtain ⟨N', D', h1, h2, h3, h4⟩ := h
  exact ⟨N', D', h1.upd hu (by omega), h2, h3, h4.comp hu (D' := (· = b)) (fun _ _ h => h) (fun i hi e => by omega)⟩
theorem CRP.comp {n m b M M' : Nat} {w w1 w2 : World} (hu : Upd (· = b) w w1) (h : CRP m b M w1 w2) (hm : m = n) (hM : M ≤ M') : CRP n b M' w w2 := by
  subst hm
  obtain ⟨N', D', h1, h2, h3, h4⟩ := h
  exact ⟨N', D', h1, h2, by omega, hu.trans h4⟩
theorem grown_upd {w w' : World} {b : Nat} (h : w.grownBy w' (some b)) : Upd (· = b) w w' := ⟨h.os, h.tape, h.output, h.size, fun k hk hn => h.block k hk (fun e => hn (by injection e))⟩
/-- a slice that can be read lies off a map's block. -/
theorem OM.off {b N : Nat} {D : DataW Unit} {w : World} (h : OM b N D w) {v : Value} {xs : List Int} (hs : SI w v xs) : Off b v xs := by
  obtain ⟨a, cap, rfl, h2, h3, h4, h5⟩ := hs
  rcases h5 with h5 | ⟨b1, off, rfl, hc⟩
  · exact .inl h5
  · by_cases e : xs = []
    · exact .inl e
    · refine .inr (fun b' off' s n c e2 e3 => ?_)
      have hl : 0 < xs.length := by cases xs with | nil => exact absurd rfl e | cons _ _ => simp
      have hc0 := hc 0 hl
      injection e2 with e4
      injection e4 with e4
      injection e4 with e5
      subst e3 e5
      obtain ⟨es, clock, hh, _⟩ := h
      simp [World.cell?, hh] at hc0
end Go.Proofs.Ytmnbdphfoonleaa
namespace Go.Proofs.Ytmnbdphfoonleaa
open Go.RowKit Go.Maps

set_option maxHeartbeats 2000000 in
set_option maxRecDepth 100000 in
theorem countReduced_ok : ∀ (d : Nat) (v : Value) (p : List Int) (b N : Nat) (D : DataW Unit) (w : World), IsP p → p.length ≤ 6 → 1 ≤ p.length → inv p = d → SI w v p → OM b N D w → Good p.length D → N + 6 ^ d ≤ 470184984576 →
    Calls Try.prog 87 #[v, .map (some b)] w fun e w' => e = .returned (.int .i64 (cnt p)) ∧ CRP p.length b (N + 6 ^ d) w w' := by
  intro d
  induction d with
  | zero =>
    intro v p b N D w hp h6 h1 hd h hom hgd hN
    have HS : Hid (srtB p = true) := srtB_true (inv_zero_srt hd)
    have HW := Lib.hid (cnt_srt HS.out)
    have HOM := Lib.hid hom
    have HGD := Lib.hid hgd
    obtain ⟨a, cap, rfl, -⟩ := h.elim
    clear hom hgd hp hd
    go_enter Try.func87, Try.ntmps87
    go_wp2_with (go_at_call 105; refine (isRising_ok _ p _ h (by omega)).mono ?_; rintro e w1 ⟨rfl, q1⟩; rw [HS.out])
    have HC : Hid (CRP p.length b (N + 6 ^ 0) w w1) := ⟨N, D, HOM.out.ext q1.ext, HGD.out, by omega, Ext.toUpd q1.ext _⟩
    go_ret
    exact ⟨by rw [HW.out]; rfl, HC.out⟩
  | succ d ih =>
    intro v p b N D w hp h6 h1 hd h hom hgd hN
    have hns : srtB p = false := by
      rw [Bool.eq_false_iff]; intro hh
      have := inv_srt (srt_pairwise (srtB_iff.1 hh)); omega
    have HS := Lib.hid hns
    have HW := Lib.hid (cnt_step hns)
    have HP := Lib.hid hp
    have HD := Lib.hid hd
    have hkey := key_ok (p := p) (by omega)
    have HOM := Lib.hid hom
    have HGD := Lib.hid hgd
    have HN := Lib.hid hN
    have HH := Lib.hid h
    have hblt := hom.lt
    have hoff := Lib.hid (hom.off h)
    obtain ⟨a, cap, rfl, hri⟩ := h.elim
    obtain ⟨hs1, hHS⟩ : ∃ x, x = has D (keyT p) := ⟨_, rfl⟩
    have HHS := Lib.hid hHS
    have HRNG := cnt_rng hp h6
    clear hns hp hd hom hgd hN h hHS
    cases hs1
    · -- not yet known
      go_enter Try.func87, Try.ntmps87
      go_wp2_with (first
        | (go_at_call 105; refine (isRising_ok _ p _ HH.out (by omega)).mono ?_; rintro e w1 ⟨rfl, q1⟩; rw [HS.out])
        | (go_at_call 114; refine (impl_PermText_ok _ p _ (HH.out.ext q1.ext) HP.out h1 (by omega)).mono ?_; rintro e w2 ⟨rfl, he2⟩; have HOM2 := Lib.hid (HOM.out.ext (q1.ext.trans he2)))
        | (at_lookup; go_loud (refine wpList_lookup_own_ok_int _ rfl _ _ 64 rfl 9 3 .i64 keyed9 Try.underlying64 Try.underlying3 (zero_int _) b N D rfl HOM2.out _ _ rfl hkey ?_); intro c hat hwc; rw [← HHS.out]))
      have HC0 : Hid (CRP p.length b (N + 0 * 6 ^ d) w w2) := ⟨N, D, HOM2.out, HGD.out, Nat.le_add_right _ _, Ext.toUpd (q1.ext.trans he2) _⟩
      have HOM3 := HOM2
      clear HOM2 hat hwc HOM q1 he2
      go_loopw [8, 9, 10] (fun s i _ wr => ∃ k : Nat, k ≤ p.length - 1 ∧ i = .int .i64 ((k : Int) + 1) ∧ (∃ z, s = .int .i64 z ∧ Hid (z = cntTo p k)) ∧ Hid (CRP p.length b (N + k * 6 ^ d) w wr)) (fun _ i _ _ => p.length + 1 - (intOf i).toNat)
      case atStart => exact ⟨0, Nat.zero_le _, rfl, ⟨0, rfl, (cntTo_zero p).symm⟩, HC0⟩
      case round =>
        obtain ⟨k, hk, rfl, ⟨z, rfl, hz⟩, hC⟩ := hrel
        clear HC0 HOM3
        have hU := Lib.hid hC.out.upd
        by_cases hlt : k + 1 < p.length
        · obtain ⟨b1, off1, rfl, hc0⟩ := hri.get hlt
          have hb1b : b1 ≠ b := by
            rcases hoff.out with e | e
            · rw [e] at hlt; simp at hlt
            · exact e b1 off1 none _ _ rfl
          have c0 := hU.out.cell (hc0 k (by omega)) hb1b
          have c1 := hU.out.cell (hc0 (k + 1) hlt) hb1b
          have hki : (k : Int) + 1 < (p.length : Int) := by omega
          have w1 : IntKind.i64.wrap ((k : Int) + 1 - 1) = (k : Int) := by rw [IntWalk.i64_in _ (by omega)]; omega
          have w2 : 0 ≤ (k : Int) + 1 := by omega
          have w3 : ((k : Int) + 1).toNat = k + 1 := by omega
          have w4 : (k : Int) < (p.length : Int) := by omega
          have w6 : (k : Int) + 1 - 1 = (k : Int) := by omega
          have hs := Lib.hid (HH.out.off hU.out hoff.out)
          have hzr := cntTo_rng HP.out h6 HS.out hk
          rw [← hz.out] at hzr
          clear hc0
          by_cases hup : nth p (k + 1) < nth p k
          · have hnv := nsw_inv hlt hup
            have hnp := nsw_isP HP.out hlt
            have hnl := nsw_len p k
            have HNP := Lib.hid hnp
            have HNV : Hid (inv (nsw p k) = d) := by show _ = _; have := HD.out; omega
            have HST1 := Lib.hid (cntTo_t hup)
            have hur := cnt_rng hnp (by omega)
            have wz : IntKind.i64.wrap (z + cnt (nsw p k)) = z + cnt (nsw p k) := IntWalk.i64_in _ (by omega)
            clear hnv hnp
            go_wp2_with fail
            go_quiet (fail)
            clear w1 w3 w6 c0 c1
            go_wp2_with fail
            refine (slicesClone_ok _ p _ (hs.out.ext (Upd.drewN _ _ _)) (by omega)).mono ?_
            rintro e w5 ⟨v5, rfl, ho5, he5⟩
            rcases ho5 with ⟨rfl, hx⟩ | ⟨b5, c5, rfl, hb5, hb5z, hr5⟩
            · rw [hx] at hlt; simp at hlt
            simp at hb5
            have hz5 := he5.size
            simp at hz5
            have d0 := hr5.icell (j := k) (by omega)
            have d1 := hr5.icell (j := k + 1) hlt
            have f0 := hr5.free k none
            have f1 := hr5.free (k + 1) none
            have hset := fun m => ((hr5.ext (Upd.drewN w5 m _)).set k (.int .i64 (nth p (k + 1)))).set (k + 1) (.int .i64 (nth p k))
            simp only [vals_set] at hset
            have HST := Lib.hid hset
            have hUs := Lib.hid (fun m => ((Upd.drewN w5 m (· = b5)).trans (Upd.setCell _ ⟨b5, k, none⟩ (.int .i64 (nth p (k + 1))))).trans (Upd.setCell _ ⟨b5, k + 1, none⟩ (.int .i64 (nth p k))))
            have hC5 := Lib.hid ((hC.out.ext (show Ext wr (wr.drewN nq) from Upd.drewN _ _ _)).ext he5)
            have hwz := hU.out.size
            have hcl := hr5.le
            simp at hcl
            have w1 : IntKind.i64.wrap ((k : Int) + 1 - 1) = (k : Int) := by rw [IntWalk.i64_in _ (by omega)]; omega
            have w3 : ((k : Int) + 1).toNat = k + 1 := by omega
            have w6 : (k : Int) + 1 - 1 = (k : Int) := by omega
            clear hr5 hset hC hU hs
            go_wp2_with fail
            go_region
            have hRw : Hid (Row 3 _ b5 c5 (vals (nsw p k))) := (HST.out 0).ext (Upd.drew _ _)
            have hUw := Lib.hid ((hUs.out 0).trans (Upd.drew _ _))
            have hsq := hRw.out.si
            rw [hnl] at hsq
            have HSQ := Lib.hid hsq
            have hC6 := Lib.hid (hC5.out.off hUw.out (by omega) hblt)
            clear hsq d0 d1 f0 f1 w1 w3 w6 HST hUs hC5
            obtain ⟨N6, D6, o6, g6, n6, u6⟩ := hC6.out
            have HO6 := Lib.hid o6
            have HG6 := Lib.hid g6
            have HU6 := Lib.hid u6
            have HN6 := Lib.hid (six_next n6)
            have HR6 : Hid (N6 + 6 ^ d ≤ 470184984576) := by
              show _ ≤ _
              have e1 := six_room2 (N := N) (k := k) (d := d) (by omega)
              have e2 := HN.out
              omega
            clear o6 g6 n6 u6 hC6
            go_wp2_with fail
            refine (ih _ (nsw p k) b N6 D6 _ HNP.out (by omega) (by omega) HNV.out HSQ.out HO6.out (by rw [hnl]; exact HG6.out) HR6.out).mono ?_
            rintro e w7 ⟨rfl, hc7⟩
            have HC7 := Lib.hid (CRP.comp HU6.out hc7 hnl HN6.out)
            clear hc7 hnl
            go_wp2_with fail
            go_roundw
            case rel => exact ⟨k + 1, by omega, by go_num, ⟨_, rfl, by show _ = _; rw [HST1.out, hz.out]⟩, HC7⟩
            case measure => simp [intOf]; omega
          · have HT := Lib.hid (cntTo_f hup)
            have HC7 : Hid (CRP p.length b (N + (k + 1) * 6 ^ d) w wr) := hC.out.mono (Nat.add_le_add_left (Nat.mul_le_mul_right _ (by omega)) _)
            go_wp2_with fail
            go_quiet (fail)
            clear w1 w3 w6 c0 c1
            go_wp2_with fail
            go_roundw
            case rel => exact ⟨k + 1, by omega, by go_num, ⟨_, rfl, by show _ = _; rw [HT.out]; exact hz.out⟩, HC7.out.ext (Upd.drewN _ _ _)⟩
            case measure => simp [intOf]; omega
        · have hki : ¬ (k : Int) + 1 < (p.length : Int) := by omega
          have HZ : Hid (z = cnt p) := by show _ = _; rw [HW.out, show p.length - 1 = k by omega]; exact hz.out
          have hzr : 0 ≤ z ∧ z ≤ 470184984576 := by rw [HZ.out]; exact HRNG
          obtain ⟨N6, D6, o6, g6, n6, u6⟩ := hC.out
          have HO6 := Lib.hid o6
          have HG6 := Lib.hid g6
          have HU6 := Lib.hid u6
          have HN6 : Hid (N6 + 1 ≤ N + 6 ^ (d + 1)) := by
            show _ ≤ _
            have := six_room (N := N) (k := k) (d := d) (by omega)
            omega
          have HM6 : Hid (N6 < maxLen) := by show _ < _; have := HN.out; have := HN6.out; unfold maxLen; omega
          clear o6 g6 n6 u6 hC hU hz
          go_wp2_with (at_mapUpdate; go_loud (refine wpList_mapUpdate_own _ rfl _ _ _ 64 rfl 9 3 keyed9 Try.underlying64 _ b N6 D6 rfl HO6.out HM6.out _ _ _ rfl rfl hkey _ [] (plainElem_int Try.underlying3 (WalkArith.wf_i64 (by omega))) ?_); intro w8 hown8 hgrow8)
          rw [HZ.out] at hown8
          have HC8 : Hid (CRP p.length b (N + 6 ^ (d + 1)) w w8) := ⟨_, _, hown8, HG6.out.put HP.out rfl (by omega), HN6.out, HU6.out.trans (grown_upd hgrow8)⟩
          clear hown8 hgrow8
          go_ret
          exact ⟨by rw [← HZ.out]; rfl, HC8.out⟩
    · -- known
      go_enter Try.func87, Try.ntmps87
      go_wp2_with (first
        | (go_at_call 105; refine (isRising_ok _ p _ HH.out (by omega)).mono ?_; rintro e w1 ⟨rfl, q1⟩; rw [HS.out])
        | (go_at_call 114; refine (impl_PermText_ok _ p _ (HH.out.ext q1.ext) HP.out h1 (by omega)).mono ?_; rintro e w2 ⟨rfl, he2⟩; have HOM2 := Lib.hid (HOM.out.ext (q1.ext.trans he2)); have HE2 := Lib.hid (q1.ext.trans he2))
        | (at_lookup; go_loud (refine wpList_lookup_own_ok_int _ rfl _ _ 64 rfl 9 3 .i64 keyed9 Try.underlying64 Try.underlying3 (zero_int _) b N D rfl HOM2.out _ _ rfl hkey ?_); intro c hat hwc; rw [← HHS.out]; have HAT := Lib.hid hat; clear hat hwc))
      have hc : c = cnt p := by
        have e1 := HGD.out.2 p HP.out rfl HHS.out.symm
        rw [HAT.out] at e1
        exact (Lit.int.inj (DataW.lit.inj e1)).2
      have HC2 : Hid (CRP p.length b (N + 6 ^ (d + 1)) w w2) := ⟨N, D, HOM2.out, HGD.out, Nat.le_add_right _ _, Ext.toUpd HE2.out _⟩
      go_ret
      exact ⟨by rw [hc]; rfl, HC2.out⟩
end Go.Proofs.Ytmnbdphfoonleaa
namespace Go.Proofs.Ytmnbdphfoonleaa
open Go.RowKit

theorem Try.infoStr : (Try.prog.info? 9).map (fun i => (i.zero, i.size, i.bytes)) = some (some (.string ⟨#[]⟩), 1, 16) := by kernel_rfl
theorem info_str : ∃ i, Try.prog.info? 9 = some i ∧ i.zero = some (.string ⟨#[]⟩) ∧ i.size = 1 ∧ i.bytes = 16 := by
  have h := Try.infoStr
  cases hi : Try.prog.info? 9 with
  | none => rw [hi] at h; simp at h
  | some i => rw [hi] at h; simp at h; exact ⟨i, rfl, h.1, h.2.1, h.2.2⟩
/-- 'append(texts, t)'. -/
theorem wpl_app1s {w : World} {ops : Array Oper} {rest : List Oper} {o : Oper} {a : Act} {Q : Exit → Act → World → Prop} (hgd : o.guard = none) (s x : Operand)
    (ho : o.op = .call { callee := .builtin .append, args := #[s, x], argTypes := #[65, 65] })
    (b cap n : Nat) (L : List Value) (T : ByteArray) (hs : a.eval s = .slice (some ⟨b, 0, none⟩) n cap) (hr : Row 9 w b cap L) (hn : n = L.length)
    (hx : a.eval x = .slice (some ⟨w.heap.size, 0, none⟩) 1 1) (hb : L.length ≤ 1000000000000)
    (h : ∀ b' cap' w', Row 9 w' b' cap' (L ++ [.string T]) → (b' = b ∨ w.heap.size < b') → Upd (· = b) w w' → wpList Try.prog ops Q rest (a.put o.dst (.slice (some ⟨b', 0, none⟩) (n + 1) cap')) w') :
    wpList Try.prog ops Q (o :: rest) a (w.alloc (.cells #[.string T] 9)) := by
  obtain ⟨i, hi, hz, hs1, hby⟩ := info_str
  refine wpl_app hgd s x 65 ho 9 i (.string ⟨#[]⟩) Try.underlying65 hi hz hs1 rfl b cap n L hs (hr.upd (Upd.alloc w _ (fun _ => False)) id) hn ⟨w.heap.size, 0, none⟩ 1 1 [.string T] hx rfl ?_ ?_ ?_ ?_ ?_
  · intro j u hj
    cases j with
    | zero => simp at hj; subst hj; exact World.cell?_alloc_at _ _ _ _ rfl
    | succ j => simp at hj
  · intro u hu; simp at hu; subst hu; rfl
  · rw [hby]; omega
  · unfold maxLen; omega
  · intro b' cap' w' h1 h2 h3
    refine h b' cap' w' h1 ?_ ?_
    · rcases h2 with h2 | h2
      · exact .inl h2
      · simp at h2; exact .inr (by omega)
    · exact (Upd.alloc w _ _).trans h3
/-- 'append(counts, n)', a long list too. -/
theorem wpl_app1c {w : World} {ops : Array Oper} {rest : List Oper} {o : Oper} {a : Act} {Q : Exit → Act → World → Prop} (hgd : o.guard = none) (s x : Operand)
    (ho : o.op = .call { callee := .builtin .append, args := #[s, x], argTypes := #[24, 24] })
    (b cap n : Nat) (L : List Value) (y : Int) (hs : a.eval s = .slice (some ⟨b, 0, none⟩) n cap) (hr : Row 3 w b cap L) (hn : n = L.length)
    (hx : a.eval x = .slice (some ⟨w.heap.size, 0, none⟩) 1 1) (hb : L.length ≤ 1000000000000)
    (h : ∀ b' cap' w', Row 3 w' b' cap' (L ++ [.int .i64 y]) → (b' = b ∨ w.heap.size < b') → Upd (· = b) w w' → wpList Try.prog ops Q rest (a.put o.dst (.slice (some ⟨b', 0, none⟩) (n + 1) cap')) w') :
    wpList Try.prog ops Q (o :: rest) a (w.alloc (.cells #[.int .i64 y] 3)) := by
  obtain ⟨i, hi, hz, hs1, hby⟩ := info_int
  refine wpl_app hgd s x 24 ho 3 i (.int .i64 0) Try.underlying24 hi hz hs1 rfl b cap n L hs (hr.upd (Upd.alloc w _ (fun _ => False)) id) hn ⟨w.heap.size, 0, none⟩ 1 1 [.int .i64 y] hx rfl ?_ ?_ ?_ ?_ ?_
  · intro j u hj
    cases j with
    | zero => simp at hj; subst hj; exact World.cell?_alloc_at _ _ _ _ rfl
    | succ j => simp at hj
  · intro u hu; simp at hu; subst hu; rfl
  · rw [hby]; omega
  · unfold maxLen; omega
  · intro b' cap' w' h1 h2 h3
    refine h b' cap' w' h1 ?_ ?_
    · rcases h2 with h2 | h2
      · exact .inl h2
      · simp at h2; exact .inr (by omega)
    · exact (Upd.alloc w _ _).trans h3
theorem SI.off2 {w w' : World} {v : Value} {xs : List Int} {b c : Nat} (h : SI w v xs) (hu : Upd (fun k => k = b ∨ k = c) w w') (hf : Off b v xs) (hg : Off c v xs) : SI w' v xs := by
  obtain ⟨a, cap, rfl, h2, h3, h4, h5⟩ := h
  refine ⟨a, cap, rfl, h2, h3, h4, ?_⟩
  rcases hf with hf | hf
  · exact .inl hf
  · rcases hg with hg | hg
    · exact .inl hg
    · refine h5.upd hu (fun b' off s e e2 => ?_)
      rcases e2 with e2 | e2
      · exact hf b' off s _ _ (by rw [e]) e2
      · exact hg b' off s _ _ (by rw [e]) e2
theorem Off.ne {b b5 n c : Nat} {xs : List Int} (h : b5 ≠ b) : Off b (.slice (some ⟨b5, 0, none⟩) n c) xs := .inr fun b' off s n c e => by
  injection e with e1; injection e1 with e1; injection e1 with e1; omega

def txV (qs : List (List Int)) : List Value := qs.map fun q => .string (txt q)
def cnV (qs : List (List Int)) : List Value := qs.map fun q => .int .i64 (cnt q)
/-- the two tables. -/
def TC (n bt ct bc cc : Nat) (qs : List (List Int)) (w : World) : Prop :=
  Row 9 w bt ct (txV qs) ∧ Row 3 w bc cc (cnV qs) ∧ ∀ q ∈ qs, IsP q ∧ q.length = n
theorem TC.upd {n bt ct bc cc : Nat} {qs : List (List Int)} {E : Nat → Prop} {w w' : World} (h : TC n bt ct bc cc qs w) (hu : Upd E w w') (h1 : ¬ E bt) (h2 : ¬ E bc) : TC n bt ct bc cc qs w' := ⟨h.1.upd hu h1, h.2.1.upd hu h2, h.2.2⟩
theorem TC.ext {n bt ct bc cc : Nat} {qs : List (List Int)} {w w' : World} (h : TC n bt ct bc cc qs w) (hu : Ext w w') : TC n bt ct bc cc qs w' := h.upd hu id id
theorem TC.new (n : Nat) (w : World) : TC n w.heap.size 0 (w.heap.size + 1) 0 [] ((w.alloc (.cells #[] 9)).alloc (.cells #[] 3)) := by
  have h1 := Row.new 9 w [] (by simp)
  have h2 := Row.new 3 (w.alloc (.cells #[] 9)) [] (by simp)
  have e : (w.alloc (.cells #[] 9)).heap.size = w.heap.size + 1 := by simp
  rw [e] at h2
  exact ⟨h1.upd (Upd.alloc (w.alloc (.cells #[] 9)) _ (fun _ => False)) id, h2, fun q hq => by simp at hq⟩
theorem TC.cells {n bt ct bc cc : Nat} {qs : List (List Int)} {w : World} (h : TC n bt ct bc cc qs w) {k : Nat} (hk : k < qs.length) :
    w.cell? ⟨bt, k, none⟩ = some (.string (txt (nthL qs k))) ∧ w.cell? ⟨bc, k, none⟩ = some (.int .i64 (cnt (nthL qs k))) := by
  have e : qs[k]? = some (nthL qs k) := by rw [nthL_get hk]; exact List.getElem?_eq_getElem hk
  exact ⟨h.1.cell (by simp [txV, e]), h.2.1.cell (by simp [cnV, e])⟩
theorem TC.snoc {n bt ct bc cc : Nat} {qs : List (List Int)} {p : List Int} {w : World} (h1 : Row 9 w bt ct (txV qs ++ [.string (txt p)])) (h2 : Row 3 w bc cc (cnV qs ++ [.int .i64 (cnt p)]))
    (h3 : ∀ q ∈ qs, IsP q ∧ q.length = n) (hp : IsP p) (hl : p.length = n) : TC n bt ct bc cc (qs ++ [p]) w :=
  ⟨by simpa [txV] using h1, by simpa [cnV] using h2, fun q hq => by
    rcases List.mem_append.1 hq with e | e
    · exact h3 q e
    · simp at e; subst e; exact ⟨hp, hl⟩⟩
theorem TC.ne {n bt ct bc cc : Nat} {qs : List (List Int)} {w : World} (h : TC n bt ct bc cc qs w) : bt ≠ bc := h.1.apart h.2.1 (by decide)
theorem TC.lt {n bt ct bc cc : Nat} {qs : List (List Int)} {w : World} (h : TC n bt ct bc cc qs w) : bt < w.heap.size ∧ bc < w.heap.size := ⟨h.1.lt, h.2.1.lt⟩

def LPost (p : List Int) (bt bc M : Nat) (w : World) (e : Ending) (w' : World) : Prop := ∃ bt' ct' bc' cc' m' qs', e = .returned (.tuple #[.int .i64 (cnt p), .slice (some ⟨bt', 0, none⟩) m' ct', .slice (some ⟨bc', 0, none⟩) m' cc']) ∧ m' = qs'.length ∧ TC p.length bt' ct' bc' cc' qs' w' ∧ m' ≤ M ∧ (bt' = bt ∨ w.heap.size ≤ bt') ∧ (bc' = bc ∨ w.heap.size ≤ bc') ∧ Upd (fun k => k = bt ∨ k = bc) w w'
theorem LPost.of {p : List Int} {bt bc M : Nat} {w w' : World} {e : Ending} (bt' ct' bc' cc' m' : Nat) (qs' : List (List Int)) (h1 : e = .returned (.tuple #[.int .i64 (cnt p), .slice (some ⟨bt', 0, none⟩) m' ct', .slice (some ⟨bc', 0, none⟩) m' cc'])) (h2 : m' = qs'.length) (h3 : TC p.length bt' ct' bc' cc' qs' w') (h4 : m' ≤ M)
    (h5 : bt' = bt ∨ w.heap.size ≤ bt') (h6 : bc' = bc ∨ w.heap.size ≤ bc') (h7 : Upd (fun k => k = bt ∨ k = bc) w w') : LPost p bt bc M w e w' := ⟨bt', ct', bc', cc', m', qs', h1, h2, h3, h4, h5, h6, h7⟩

set_option maxHeartbeats 4000000 in
set_option maxRecDepth 100000 in
theorem l27Count_ok : ∀ (d : Nat) (v : Value) (p : List Int) (bt ct bc cc m : Nat) (qs : List (List Int)) (w : World), m = qs.length → IsP p → p.length ≤ 6 → 1 ≤ p.length → inv p = d → SI w v p → Off bt v p → Off bc v p → TC p.length bt ct bc cc qs w → m + 6 ^ d ≤ 470184984576 →
    Calls Try.prog 88 #[v, .slice (some ⟨bt, 0, none⟩) m ct, .slice (some ⟨bc, 0, none⟩) m cc] w fun e w' => LPost p bt bc (m + 6 ^ d) w e w' := by
  intro d
  induction d with
  | zero =>
    intro v p bt ct bc cc m qs w hm hp h6 h1 hd h hot hoc htc hN
    have hS := srtB_true (inv_zero_srt hd)
    have HSD : Hid (decide (p = idL p.length) = true) := by show _ = _; rw [srtB_eq hp]; exact hS
    have HW := Lib.hid (cnt_srt hS)
    have HTC := Lib.hid htc
    have HM := Lib.hid hm
    clear hm htc hp hd hS
    go_enter Try.func88, Try.ntmps88
    go_wp2_with (go_at_call 112; refine (l13Straight_ok _ p _ h (by omega)).mono ?_; rintro e w1 ⟨rfl, q1⟩; rw [HSD.out])
    have HU := Lib.hid (Ext.toUpd q1 (fun k => k = bt ∨ k = bc))
    have HT := Lib.hid (HTC.out.ext q1)
    go_ret3
    exact LPost.of bt ct bc cc m qs (by rw [HW.out]; rfl) HM.out HT.out (Nat.le_add_right _ _) (.inl rfl) (.inl rfl) HU.out
  | succ d ih =>
    intro v p bt ct bc cc m qs w hm hp h6 h1 hd h hot hoc htc hN
    have hns : srtB p = false := by
      rw [Bool.eq_false_iff]; intro hh
      have := inv_srt (srt_pairwise (srtB_iff.1 hh)); omega
    have HS := Lib.hid hns
    have HSD : Hid (decide (p = idL p.length) = false) := by show _ = _; rw [srtB_eq hp]; exact hns
    have HW := Lib.hid (cnt_step hns)
    have HP := Lib.hid hp
    have HD := Lib.hid hd
    have HM := Lib.hid hm
    have HN := Lib.hid hN
    have hm9 : m ≤ 470184984576 := Nat.le_trans (Nat.le_add_right _ _) hN
    have HTC := Lib.hid htc
    have HOT := Lib.hid hot
    have HOC := Lib.hid hoc
    have HH := Lib.hid h
    obtain ⟨a, cap, rfl, hri⟩ := h.elim
    obtain ⟨tp, hTP⟩ : ∃ x, x = txt p := ⟨_, rfl⟩
    have HTP := Lib.hid hTP
    clear hns hp hd hm htc hN hot hoc h hTP
    go_enter Try.func88, Try.ntmps88
    go_wp2_with (first
      | (go_at_call 112; refine (l13Straight_ok _ p _ HH.out (by omega)).mono ?_; rintro e w1 ⟨rfl, q1⟩; rw [HSD.out])
      | (go_at_call 115; refine (spec_PermText_ok _ p _ (HH.out.ext q1) HP.out h1 (by omega)).mono ?_; rintro e w2 ⟨rfl, he2⟩; have HE2 := Lib.hid (q1.trans he2); have HT2 := Lib.hid (HTC.out.ext HE2.out); rw [← HTP.out]; clear q1 he2))
    go_loopw [10] (fun i wr => ∃ k : Nat, k ≤ m ∧ i = .int .i64 k ∧ wr = w2) (fun i _ => m - (intOf i).toNat)
    case atStart => exact ⟨0, Nat.zero_le _, rfl, rfl⟩
    case round =>
      obtain ⟨k, hk, rfl, rfl⟩ := hrel
      by_cases hlt : k < m
      · obtain ⟨ca, cb⟩ := HT2.out.cells (k := k) (by rw [← HM.out]; exact hlt)
        obtain ⟨tq, hTQ⟩ : ∃ x, x = txt (nthL qs k) := ⟨_, rfl⟩
        obtain ⟨cq, hCQ⟩ : ∃ x, x = cnt (nthL qs k) := ⟨_, rfl⟩
        have HTQ := Lib.hid hTQ
        have HCQ := Lib.hid hCQ
        rw [← hTQ] at ca
        rw [← hCQ] at cb
        clear hTQ hCQ
        by_cases heq : tq = tp
        · have hb : (tq.toList == tp.toList) = true := by rw [heq]; exact beq_self_eq_true _
          have HF : Hid (cq = cnt p) := by
            have hm8 : nthL qs k ∈ qs := nthL_mem (by rw [← HM.out]; exact hlt)
            obtain ⟨e1, e2⟩ := HT2.out.2.2 _ hm8
            have e3 := txt_inj (isP_rng e1 (by omega)) (isP_rng HP.out (by omega)) (show txt (nthL qs k) = txt p by rw [← HTQ.out, ← HTP.out]; exact heq)
            show _ = _; rw [HCQ.out, e3]
          have HU := Lib.hid (Ext.toUpd HE2.out (fun k => k = bt ∨ k = bc))
          clear heq
          go_wp2_with fail
          go_ret3
          exact LPost.of bt ct bc cc m qs (by rw [← HF.out]; rfl) HM.out HT2.out (Nat.le_add_right _ _) (.inl rfl) (.inl rfl) HU.out
        · have hb : (tq.toList == tp.toList) = false := by
            rw [beq_eq_false_iff_ne]; intro e; rw [ByteArray.toList_eq, ByteArray.toList_eq] at e; exact heq (ByteArray.ext (Array.toList_inj.1 e))
          clear heq
          go_wp2_with fail
          go_roundw
          case rel => exact ⟨k + 1, by omega, by go_num, trivial⟩
          case measure => simp [intOf]; omega
      · obtain ⟨wp, hwp⟩ : ∃ wp, wp = wr := ⟨_, rfl⟩
        subst hwp
        have HU0 := Lib.hid (Ext.toUpd HE2.out (fun k => k = bt ∨ k = bc))
        have HRNG := cnt_rng HP.out h6
        go_wp2_with fail
        go_loopw [1, 2, 11, 12] (fun t c s i wr => ∃ k : Nat, k ≤ p.length - 1 ∧ i = .int .i64 k ∧ (∃ z, s = .int .i64 z ∧ Hid (z = cntTo p k)) ∧ (∃ b1 c1 b2 c2 m9 qs9, t = .slice (some ⟨b1, 0, none⟩) m9 c1 ∧ c = .slice (some ⟨b2, 0, none⟩) m9 c2 ∧ Hid (m9 = qs9.length) ∧ Hid (TC p.length b1 c1 b2 c2 qs9 wr) ∧ Hid (m9 ≤ m + k * 6 ^ d) ∧ (b1 = bt ∨ w.heap.size ≤ b1) ∧ (b2 = bc ∨ w.heap.size ≤ b2)) ∧ Hid (Upd (fun k => k = bt ∨ k = bc) w wr)) (fun _ _ _ i _ => p.length + 1 - (intOf i).toNat)
        case atStart => exact ⟨0, Nat.zero_le _, rfl, ⟨0, rfl, (cntTo_zero p).symm⟩, ⟨bt, ct, bc, cc, m, qs, rfl, rfl, HM, HT2, Nat.le_add_right _ _, .inl rfl, .inl rfl⟩, HU0⟩
        case round =>
          obtain ⟨k, hk, rfl, ⟨z, rfl, hz⟩, ⟨b8, c8, b9, c9, m9, qs9, rfl, rfl, hm9', ht9, hle9, hb8, hb9⟩, hU⟩ := hrel
          clear HU0 HT2 HE2
          have hwz := hU.out.size
          have hlt9 := ht9.out.lt
          by_cases hlt : k + 1 < p.length
          · obtain ⟨b1, off1, rfl, hc0⟩ := hri.get hlt
            have hpne : p ≠ [] := fun e => by rw [e] at hlt; simp at hlt
            have hb1 : ¬ (b1 = bt ∨ b1 = bc) := by
              rintro (e | e)
              · rcases HOT.out with h | h
                · exact hpne h
                · exact h b1 off1 none _ _ rfl e
              · rcases HOC.out with h | h
                · exact hpne h
                · exact h b1 off1 none _ _ rfl e
            have hbw : b1 < w.heap.size := by have := World.block_lt_of_cell? _ _ (hc0 (k + 1) hlt); simpa using this
            have c0 := hU.out.cell (hc0 k (by omega)) hb1
            have c1 := hU.out.cell (hc0 (k + 1) hlt) hb1
            have C0 := Lib.hid c0
            have C1 := Lib.hid c1
            have hki : (k : Int) + 1 < (p.length : Int) := by omega
            have w1 : IntKind.i64.wrap ((k : Int) + 1) = (k : Int) + 1 := IntWalk.i64_in _ (by omega)
            have w2 : 0 ≤ (k : Int) + 1 := by omega
            have w3 : ((k : Int) + 1).toNat = k + 1 := by omega
            have w4 : (k : Int) < (p.length : Int) := by omega
            have hs := Lib.hid (HH.out.off2 hU.out HOT.out HOC.out)
            have hzr := cntTo_rng HP.out h6 HS.out hk
            rw [← hz.out] at hzr
            clear hc0 hpne hb1
            by_cases hup : nth p (k + 1) < nth p k
            · have hnv := nsw_inv hlt hup
              have hnp := nsw_isP HP.out hlt
              have hnl := nsw_len p k
              have HNP := Lib.hid hnp
              have HNV : Hid (inv (nsw p k) = d) := by show _ = _; have := HD.out; omega
              have HST1 := Lib.hid (cntTo_t hup)
              have hur := cnt_rng hnp (by omega)
              have wz : IntKind.i64.wrap (z + cnt (nsw p k)) = z + cnt (nsw p k) := IntWalk.i64_in _ (by omega)
              have HR6 : Hid (m9 + 6 ^ d ≤ 470184984576) := by
                show _ ≤ _
                have e1 := six_room2 (N := m) (k := k) (d := d) (by omega)
                have e2 := HN.out
                have e3 := hle9.out
                omega
              have HLE7 := Lib.hid (six_next hle9.out)
              clear hnv hnp
              go_wp2_with fail
              go_quiet (fail)
              clear w1 w3 c0 c1
              have hsd := Lib.hid (hs.out.ext (show Ext wr (wr.drewN nq) from Upd.drewN _ _ _))
              have ht9d := Lib.hid (ht9.out.ext (show Ext wr (wr.drewN nq) from Upd.drewN _ _ _))
              have hUd := Lib.hid (hU.out.trans (Upd.drewN wr nq _))
              have C0d := Lib.hid ((show Ext wr (wr.drewN nq) from Upd.drewN _ _ _).cell C0.out)
              have C1d := Lib.hid ((show Ext wr (wr.drewN nq) from Upd.drewN _ _ _).cell C1.out)
              clear hs ht9 hU C0 C1
              go_wp2_with (at_builtin; go_loud (refine wpl_appSI rfl (.tmp 56) (.tmp 57) rfl wr.heap.size 0 0 [] p rfl (Row.new 3 (wr.drewN nq) [] (by simp)) rfl _ rfl (hsd.out.ext (Upd.alloc _ _ _)) (by simp) (by omega) ?_); intro b5 c5 w5 hr5 hb5 hu5; rw [List.nil_append] at hr5; obtain ⟨hb5', ho5, he5⟩ := copied_own3 (w1 := wr.drewN nq) hr5 hb5 hu5; have hz5 := he5.size; have d0 := hr5.icell (j := k) (by omega); have d1 := hr5.icell (j := k + 1) hlt; have f0 := hr5.free k none; have f1 := hr5.free (k + 1) none; have e0c := he5.cell C0d.out; have e1c := he5.cell C1d.out; have hset := (hr5.set k (.int .i64 (nth p (k + 1)))).set (k + 1) (.int .i64 (nth p k)); simp only [vals_set] at hset; have HST := Lib.hid hset; have hU5 := Lib.hid ((Upd.setCell w5 ⟨b5, k, none⟩ (.int .i64 (nth p (k + 1)))).trans (Upd.setCell _ ⟨b5, k + 1, none⟩ (.int .i64 (nth p k)))); have hE55 := Lib.hid (he5.upd1 hU5.out hb5'); have hT5 := Lib.hid (ht9d.out.ext hE55.out); have hE5 := Lib.hid (hUd.out.trans (Ext.toUpd hE55.out _)); have hcl := hr5.le; simp at hcl; simp at hz5 hb5'; have hbb1 : b1 < b5 := (by omega); clear hset hu5 hr5 hb5 ho5 he5 hsd ht9d hUd hU5 hE55)
              have hR6 : Hid (Row 3 _ b5 c5 (vals (nsw p k))) := HST
              have hsq := hR6.out.si
              rw [hnl] at hsq
              have HSQ := Lib.hid hsq
              clear hsq
              refine (ih _ (nsw p k) b8 c8 b9 c9 m9 qs9 _ hm9'.out HNP.out (by omega) (by omega) HNV.out HSQ.out (Off.ne (by omega)) (Off.ne (by omega)) (by rw [hnl]; exact hT5.out) HR6.out).mono ?_
              rintro e w7 ⟨ba, ca, bd, cd, m7, qs7, rfl, hm7, ht7, hle7, hba, hbd, hu7⟩
              rw [hnl] at ht7
              have HM7 := Lib.hid hm7
              have HT7 := Lib.hid ht7
              have HL7 : Hid (m7 ≤ m + (k + 1) * 6 ^ d) := Nat.le_trans hle7 HLE7.out
              have hz7 := hE5.out.size
              have HU7 := Lib.hid (hE5.out.comp hu7 (D' := fun k => k = bt ∨ k = bc) (fun _ _ h => h) (fun i hi e => by rcases e with e | e <;> omega))
              have hba' : ba = bt ∨ w.heap.size ≤ ba := by rcases hba with e | e <;> omega
              have hbd' : bd = bc ∨ w.heap.size ≤ bd := by rcases hbd with e | e <;> omega
              clear hm7 ht7 hle7 hba hbd hu7 hnl
              go_wp2_with fail
              go_roundw
              case rel => exact ⟨k + 1, by omega, by go_num, ⟨_, rfl, by show _ = _; rw [HST1.out, hz.out]⟩, ⟨ba, ca, bd, cd, m7, qs7, rfl, rfl, HM7, HT7, HL7, hba', hbd'⟩, HU7⟩
              case measure => simp [intOf]; omega
            · have HT := Lib.hid (cntTo_f hup)
              have HL7 : Hid (m9 ≤ m + (k + 1) * 6 ^ d) := Nat.le_trans hle9.out (Nat.add_le_add_left (Nat.mul_le_mul_right _ (by omega)) _)
              go_wp2_with fail
              go_quiet (fail)
              clear w1 w3 c0 c1
              go_wp2_with fail
              go_roundw
              case rel => exact ⟨k + 1, by omega, by go_num, ⟨_, rfl, by show _ = _; rw [HT.out]; exact hz.out⟩, ⟨b8, c8, b9, c9, m9, qs9, rfl, rfl, hm9', Lib.hid (ht9.out.ext (Upd.drewN _ _ _)), HL7, hb8, hb9⟩, Lib.hid (hU.out.trans (Upd.drewN _ _ _))⟩
              case measure => simp [intOf]; omega
          · have hki : ¬ (k : Int) + 1 < (p.length : Int) := by omega
            have HZ : Hid (z = cnt p) := by show _ = _; rw [HW.out, show p.length - 1 = k by omega]; exact hz.out
            have HL7 : Hid (m9 + 1 ≤ m + 6 ^ (d + 1)) := by
              show _ ≤ _
              have := six_room (N := m) (k := k) (d := d) (by omega)
              have := hle9.out
              omega
            have hlt0 : (txV qs9).length ≤ 1000000000000 := by simp [txV]; rw [← hm9'.out]; have := HL7.out; have := HN.out; omega
            have hlc0 : (cnV qs9).length ≤ 1000000000000 := by simp [cnV]; rw [← hm9'.out]; have := HL7.out; have := HN.out; omega
            have HLT := Lib.hid hlt0
            have HLC := Lib.hid hlc0
            have hmt : Hid (m9 = (txV qs9).length) := by show _ = _; rw [hm9'.out]; simp [txV]
            have hmc : Hid (m9 = (cnV qs9).length) := by show _ = _; rw [hm9'.out]; simp [cnV]
            have hne := ht9.out.ne
            clear hlt0 hlc0
            go_wp2_with (first
              | (at_builtin; go_loud (refine wpl_app1s rfl (.tmp 87) (.tmp 89) rfl b8 c8 m9 (txV qs9) tp rfl ht9.out.1 hmt.out rfl HLT.out ?_); intro b6 c6 w6 hr6 hb6 hu6; have HR6 := Lib.hid hr6; have HU6 := Lib.hid hu6; have HC6 := Lib.hid (ht9.out.2.1.upd hu6 (fun e => hne e.symm)); have hz6 := hu6.size; clear hr6 hu6)
              | (at_builtin; go_loud (refine wpl_app1c rfl (.tmp 91) (.tmp 93) rfl b9 c9 m9 (cnV qs9) z rfl HC6.out hmc.out rfl HLC.out ?_); intro b7 c7 w7 hr7 hb7 hu7; have HR7 := Lib.hid hr7; have HU7 := Lib.hid hu7; clear hr7 hu7))
            have HT7 : Hid (TC p.length b6 c6 b7 c7 (qs9 ++ [p]) w7) := TC.snoc (by rw [← HTP.out]; exact HR6.out.upd HU7.out (fun e => by rcases hb6 with e2 | e2; exact hne (by omega); have := hlt9.2; omega)) (by rw [← HZ.out]; exact HR7.out) ht9.out.2.2 HP.out rfl
            have HU8 : Hid (Upd (fun k => k = bt ∨ k = bc) w w7) := (hU.out.comp HU6.out (D' := fun k => k = bt ∨ k = bc) (fun _ _ h => h) (fun i hi e => by omega)).comp HU7.out (D' := fun k => k = bt ∨ k = bc) (fun _ _ h => h) (fun i hi e => by omega)
            have HM7 : Hid (m9 + 1 = (qs9 ++ [p]).length) := by show _ = _; rw [List.length_append, ← hm9'.out]; rfl
            have hb6' : b6 = bt ∨ w.heap.size ≤ b6 := by rcases hb6 with e | e <;> omega
            have hb7' : b7 = bc ∨ w.heap.size ≤ b7 := by rcases hb7 with e | e <;> omega
            go_ret3
            exact LPost.of b6 c6 b7 c7 (m9 + 1) (qs9 ++ [p]) (by rw [← HZ.out]; rfl) HM7.out HT7.out HL7.out hb6' hb7' HU8.out
end Go.Proofs.Ytmnbdphfoonleaa
namespace Go.Proofs.Ytmnbdphfoonleaa
open Go.RowKit Go.Maps

theorem cr_f {p : List Int} (h : crOK p = false) : crI p = -1 := by unfold crI; rw [h]; rfl
theorem cr_t {p : List Int} (h : crOK p = true) : crI p = cnt p := by unfold crI cnt; rw [h]; rfl
theorem six_top {p : List Int} (h6 : p.length ≤ 6) : 0 + 6 ^ inv p ≤ 470184984576 := by
  have h1 := inv_tri p
  have h2 : p.length * (p.length - 1) ≤ 6 * 5 := Nat.mul_le_mul h6 (by omega)
  have := Nat.pow_le_pow_right (n := 6) (by omega) (show inv p ≤ 15 by omega)
  omega
set_option maxRecDepth 100000 in
theorem impl_CountReduced_ok (v : Value) (p : List Int) (w : World) (h : SI w v p) (hl : p.length ≤ 1048576) (_hb : I64s p) :
    Calls Try.prog 34 #[v] w fun e w' => e = .returned (.int .i64 (crI p)) ∧ Ext w w' := by
  have hmm := @run_makeMap Try.prog
  have h00 := h
  obtain ⟨a, cap, rfl, -⟩ := h00.elim
  cases hp : isP8 p
  · have hP := Lib.hid hp
    have e0 := Lib.hid (cr_f (p := p) (by unfold crOK; rw [hp]; rfl))
    clear hp h00
    go_enter Try.func34, Try.ntmps34
    go_wp2_with (go_at_call 72; refine (impl_IsPerm_ok _ p _ h).mono ?_; rintro e w1 ⟨rfl, he⟩; rw [hP.out]; have HE := Lib.hid he; clear he)
    go_ret
    exact ⟨by rw [e0.out]; rfl, HE.out⟩
  · have hP := Lib.hid hp
    have h8 : p.length ≤ 8 := (isP8_iff.1 hp).1
    have HIP : Hid (IsP p) := (isP8_iff.1 hp).2
    by_cases h1 : 1 ≤ p.length ∧ p.length ≤ 6
    · have e0 := Lib.hid (cr_t (p := p) (by unfold crOK; rw [hp, decide_eq_true h1]; rfl))
      obtain ⟨h1, h6⟩ := h1
      have hne : ((p.length : Int) == 0) = false := by rw [beq_eq_false_iff_ne]; omega
      have h6I : ¬ (6 : Int) < (p.length : Int) := by omega
      have HH := Lib.hid h
      have HT := Lib.hid (six_top h6)
      clear hp h00 h
      go_enter Try.func34, Try.ntmps34
      go_wp2_with (go_at_call 72; refine (impl_IsPerm_ok _ p _ HH.out).mono ?_; rintro e w1 ⟨rfl, he⟩; rw [hP.out]; have HE := Lib.hid he; clear he)
      have HO : Hid (OM w1.heap.size 0 (.map []) (w1.alloc (.map #[] 0))) := World.ownsMap_made _ _ _ _
      have HA : Hid (Ext w (w1.alloc (.map #[] 0))) := Ext.trans HE.out (Upd.alloc _ _ _)
      refine (countReduced_ok (inv p) _ p w1.heap.size 0 _ _ HIP.out h6 h1 rfl (HH.out.ext HA.out) HO.out (Good.nil _) HT.out).mono ?_
      rintro e w2 ⟨rfl, hc⟩
      have HU := Lib.hid (HA.out.upd1 hc.upd HE.out.size)
      clear hc
      go_wp2_with fail
      go_ret
      exact ⟨by rw [e0.out]; rfl, HU.out⟩
    · have e0 := Lib.hid (cr_f (p := p) (by unfold crOK; rw [hp, decide_eq_false h1]; rfl))
      have hc : p.length = 0 ∨ (¬ p.length = 0 ∧ 6 < p.length) := by omega
      have HH := Lib.hid h
      clear hp h00 h1 h
      rcases hc with hc | ⟨hc, hd⟩
      · have hne : ((p.length : Int) == 0) = true := by rw [beq_iff_eq]; omega
        clear hc
        go_enter Try.func34, Try.ntmps34
        go_wp2_with (go_at_call 72; refine (impl_IsPerm_ok _ p _ HH.out).mono ?_; rintro e w1 ⟨rfl, he⟩; rw [hP.out]; have HE := Lib.hid he; clear he)
        go_ret
        exact ⟨by rw [e0.out]; rfl, HE.out⟩
      · have hne : ((p.length : Int) == 0) = false := by rw [beq_eq_false_iff_ne]; omega
        have h6I : (6 : Int) < (p.length : Int) := by omega
        clear hc
        go_enter Try.func34, Try.ntmps34
        go_wp2_with (go_at_call 72; refine (impl_IsPerm_ok _ p _ HH.out).mono ?_; rintro e w1 ⟨rfl, he⟩; rw [hP.out]; have HE := Lib.hid he; clear he)
        go_ret
        exact ⟨by rw [e0.out]; rfl, HE.out⟩
set_option maxRecDepth 100000 in
theorem spec_CountReduced_ok (v : Value) (p : List Int) (w : World) (h : SI w v p) (hl : p.length ≤ 1048576) (_hb : I64s p) :
    Calls Try.prog 35 #[v] w fun e w' => e = .returned (.int .i64 (crI p)) ∧ Ext w w' := by
  have h00 := h
  obtain ⟨a, cap, rfl, -⟩ := h00.elim
  have HH := Lib.hid h
  cases hp : isP8 p
  · have hP := Lib.hid hp
    have e0 := Lib.hid (cr_f (p := p) (by unfold crOK; rw [hp]; rfl))
    clear hp h00 h
    go_enter Try.func35, Try.ntmps35
    go_wp2_with fail
    refine (spec_IsPerm_qt _ p _ HH.out (by omega)).mono ?_
    rintro e w1 ⟨rfl, q1⟩
    rw [hP.out]
    have HE := Lib.hid q1.ext
    clear q1
    go_wp2_with fail
    go_ret
    exact ⟨by rw [e0.out]; rfl, HE.out⟩
  · have hP := Lib.hid hp
    have h8 : p.length ≤ 8 := (isP8_iff.1 hp).1
    have HIP : Hid (IsP p) := (isP8_iff.1 hp).2
    by_cases h1 : 1 ≤ p.length ∧ p.length ≤ 6
    · have e0 := Lib.hid (cr_t (p := p) (by unfold crOK; rw [hp, decide_eq_true h1]; rfl))
      obtain ⟨h1, h6⟩ := h1
      have HI : Hid (inB (p.length : Int) 1 6 = true) := inB_true (by omega)
      have HT := Lib.hid (six_top h6)
      clear hp h00 h
      go_enter Try.func35, Try.ntmps35
      go_wp2_with fail
      refine (spec_IsPerm_qt _ p _ HH.out (by omega)).mono ?_
      rintro e w1 ⟨rfl, q1⟩
      rw [hP.out]
      go_wp2_with fail
      refine (l1In_ok _ _ _ _).mono ?_
      rintro e w2 ⟨rfl, q2⟩
      rw [HI.out]
      have HE := Lib.hid (q1.trans q2).ext
      clear q1 q2
      go_wp2_with fail
      have hA1 : Ext w2 (w2.alloc (.cells #[] 9)) := Upd.alloc _ _ _
      have hA2 : Ext (w2.alloc (.cells #[] 9)) ((w2.alloc (.cells #[] 9)).alloc (.cells #[] 3)) := Upd.alloc _ _ _
      have HA := Lib.hid (HE.out.trans (hA1.trans hA2))
      have HS2 := Lib.hid (HH.out.ext HE.out)
      have HS := Lib.hid (HH.out.ext HA.out)
      have hz2 := HE.out.size
      clear hA1 hA2
      refine (l27Count_ok (inv p) _ p w2.heap.size 0 (w2.heap.size + 1) 0 0 [] _ rfl HIP.out h6 h1 rfl HS.out (Off.far HS2.out (by omega)) (Off.far HS2.out (by omega)) (TC.new _ _) HT.out).mono ?_
      rintro e w5 ⟨b1, c1, b2, c2, m5, qs5, rfl, hm5, ht5, hl5, hb1, hb2, hu5⟩
      have HU : Hid (Ext w w5) := HA.out.comp hu5 (D' := fun _ => False) (fun _ _ h => h) (fun i hi e => by rcases e with e | e <;> omega)
      clear hm5 ht5 hl5 hb1 hb2 hu5
      go_wp2_with fail
      go_ret
      exact ⟨by rw [e0.out]; rfl, HU.out⟩
    · have e0 := Lib.hid (cr_f (p := p) (by unfold crOK; rw [hp, decide_eq_false h1]; rfl))
      have HI : Hid (inB (p.length : Int) 1 6 = false) := inB_false (by omega)
      clear hp h00 h h1
      go_enter Try.func35, Try.ntmps35
      go_wp2_with fail
      refine (spec_IsPerm_qt _ p _ HH.out (by omega)).mono ?_
      rintro e w1 ⟨rfl, q1⟩
      rw [hP.out]
      go_wp2_with fail
      refine (l1In_ok _ _ _ _).mono ?_
      rintro e w2 ⟨rfl, q2⟩
      rw [HI.out]
      have HE := Lib.hid (q1.trans q2).ext
      clear q1 q2
      go_wp2_with fail
      go_ret
      exact ⟨by rw [e0.out]; rfl, HE.out⟩
end Go.Proofs.Ytmnbdphfoonleaa
namespace Go.Proofs.Ytmnbdphfoonleaa
open Go.RowKit

theorem wcL_mem {p q : List Int} (hq : q ∈ wcL p) : isP8 p = true ∧ ∃ i, i + 1 < p.length ∧ q = nsw p i := by
  unfold wcL at hq
  cases hp : isP8 p
  · rw [hp] at hq; simp at hq
  · rw [hp] at hq
    simp only [cond_true, wcTo, List.mem_flatMap, List.mem_range] at hq
    obtain ⟨i, hi, hq⟩ := hq
    unfold wcOne at hq
    refine ⟨rfl, i, by omega, ?_⟩
    by_cases e : nth p i < nth p (i + 1)
    · rw [decide_eq_true e] at hq; simpa using hq
    · rw [decide_eq_false e] at hq; simp at hq
theorem wcL_each {P : Int → Prop} {p q : List Int} (hq : q ∈ wcL p) (h : ∀ x ∈ p, P x) : q.length = p.length ∧ ∀ x ∈ q, P x := by
  obtain ⟨_, i, hi, rfl⟩ := wcL_mem hq
  refine ⟨nsw_len _ _, fun x hx => h x ?_⟩
  rw [nsw_wsw] at hx
  exact (wsw_perm p (i + 1) (by omega) hi).mem_iff.1 hx
theorem wcTo_lenK (p : List Int) (k : Nat) : (wcTo p k).length ≤ k := by
  induction k with
  | zero => simp [wcTo]
  | succ k ih =>
    have e : wcTo p (k + 1) = wcTo p k ++ wcOne p k := by simp [wcTo, List.range_succ]
    have h1 : (wcOne p k).length ≤ 1 := by unfold wcOne; cases decide (nth p k < nth p (k + 1)) <;> simp
    rw [e, List.length_append]; omega
theorem wcL_cnt (p : List Int) : (wcL p).length ≤ 100 := by
  unfold wcL
  cases h : isP8 p
  · simp
  · have h8 := (isP8_iff.1 h).1
    have := wcTo_lenK p (p.length - 1)
    simp only [cond_true]; omega
set_option maxHeartbeats 4000000 in
theorem DrawWeakBelow_ok (a : Option Addr) (n cap : Nat) (w : World) (hn : n ≤ 1048576) (hb : BY w.heap.size w a n) : Calls Try.prog 23 #[.slice a n cap] w (DrB2 w) := by
  have HB := Lib.hid hb
  clear hb
  go_enter Try.func23, Try.ntmps23
  go_wp2_with fail
  refine (l1New_ok a n cap _ hn HB.out).mono ?_
  rintro e w1 ⟨bc, rfl, hbc, hc, he⟩
  have hz := he.size
  go_wp2_with fail
  refine (l2Bent_ok bc _ hc).mono ?_
  rintro e w2 ⟨b, c, m, L, rfl, hm, hm9, hL, hlo, hr, hc2, hu⟩
  have hz2 := hu.size
  have hbl := hr.lt
  have hbcl := hc.lt
  have HM := Lib.hid hm
  have HL := Lib.hid hL
  have HE2 : Hid (Ext w w2) := he.upd1 hu hbc
  have HP2 := Lib.hid (OI.row (B := bc + 1) hr (by omega) hm)
  have HR := Lib.hid hr
  have hm9' : L.length ≤ 9 := by omega
  clear hr hm hL hc he hu
  go_wp2_with (at_builtin; go_loud (refine wpl_appSI rfl _ _ rfl w2.heap.size 0 0 [] L rfl (Row.new 3 w2 [] (by simp)) rfl _ rfl (HP2.out.si.ext (Upd.alloc _ _ _)) (by simp) (by omega) ?_; intro b5 c5 w5 hr5 hb5 hu5; rw [List.nil_append] at hr5; obtain ⟨hb5', ho5, he5⟩ := copied_own3 (w1 := w2) hr5 hb5 hu5; have hz5 := he5.size; have HE5 := Lib.hid (HE2.out.trans he5); have HP5 := Lib.hid (HP2.out.ext he5); have HQ5 : Hid (OI (bc + 1) w5.heap.size w5 (.slice (some ⟨b5, 0, none⟩) L.length c5) L) := ho5.mono (by omega) (Nat.le_refl _); have hc5 := hc2.ext he5; clear hr5 hb5 hu5 ho5 he5 hc2))
  go_loopw [6, 7, 8] (fun q i _ wr => ∃ k : Nat, k ≤ 4 ∧ i = .int .i64 k ∧ (∃ pq cq Q, q = .slice pq Q.length cq ∧ Hid (OI (bc + 1) wr.heap.size wr (.slice pq Q.length cq) Q) ∧ Q.length ≤ 9 ∧ Hid (∀ x ∈ Q, -1 ≤ x ∧ x ≤ 10)) ∧ Cur bc wr ∧ Hid (Upd (· = bc) w5 wr)) (fun _ i _ _ => 4 - (intOf i).toNat)
  case atStart => exact ⟨0, by omega, rfl, ⟨_, _, L, by first | rfl | (rw [Value.slice.injEq]; exact ⟨rfl, by omega, rfl⟩), HQ5, by omega, HL⟩, hc5, Upd.refl _ _⟩
  case round =>
    obtain ⟨k, hk, rfl, ⟨pq, cq, Q, rfl, hQ, hQ9, hQb⟩, hc, hU⟩ := hrel
    have hwz := hU.out.size
    clear HQ5 hc5
    by_cases hk3 : k < 4
    · have hk3I : (k : Int) < 4 := by omega
      clear hk3
      go_wp2_with fail
      refine (spec_WeakCovers_ok _ Q _ hQ.out.si (by omega) (fun x hx => by have := hQb.out x hx; unfold I64; omega)).mono ?_
      rintro e w6 ⟨v6, rfl, ho6, he6⟩
      have hz6 := he6.size
      rcases ho6 with ⟨rfl, -⟩ | ⟨b6, c6, vs6, rfl, hB6, hH6, r6, els6, ap6⟩
      · have hc6 := hc.ext he6
        have HQ6 := Lib.hid ((hQ.out.ext he6).mono (Nat.le_refl _) hz6)
        have HU6 := Lib.hid (hU.out.trans (Ext.toUpd he6 _))
        clear hQ hU hc
        go_wp2_with fail
        go_roundw
        case rel => exact ⟨k + 1, by omega, by go_num, ⟨pq, cq, Q, rfl, HQ6, hQ9, hQb⟩, hc6, HU6⟩
        case measure => simp [intOf]; omega
      have hr6 : RR wr.heap.size w6.heap.size w6 b6 c6 (wcL Q) := ⟨vs6, r6, els6, ap6, hB6, hH6⟩
      clear r6 els6 ap6 hB6 hH6
      have hcl := wcL_cnt Q
      have hc6 := hc.ext he6
      have HR6 := Lib.hid hr6
      have HQ6 := Lib.hid ((hQ.out.ext he6).mono (Nat.le_refl _) hz6)
      have HU6 := Lib.hid (hU.out.trans (Ext.toUpd he6 _))
      have hbc6 := hc.lt
      clear hr6 hQ hU hc
      by_cases h0 : (wcL Q).length = 0
      · have h0I : ¬ (0 : Int) < ((wcL Q).length : Int) := by omega
        clear h0
        go_wp2_with fail
        go_roundw
        case rel => exact ⟨k + 1, by omega, by go_num, ⟨pq, cq, Q, rfl, HQ6, hQ9, hQb⟩, hc6, HU6⟩
        case measure => simp [intOf]; omega
      · have h0I : (0 : Int) < ((wcL Q).length : Int) := by omega
        go_wp2_with fail
        refine (l1Once_ok bc 2 _ hc6 (by omega) (by omega)).mono ?_
        rintro e w7 ⟨t, rfl, hc7, hu7⟩
        have hz7 := hu7.size
        have HR7 := Lib.hid (HR6.out.upd hu7 (fun k h1 h2 e => by omega))
        have HQ7 := Lib.hid ((HQ6.out.offc hu7 (by omega)).mono (Nat.le_refl _) hz7)
        have HU7 := Lib.hid (HU6.out.trans hu7)
        clear HR6 HQ6 HU6 hc6
        cases t
        · go_wp2_with fail
          go_roundw
          case rel => exact ⟨k + 1, by omega, by go_num, ⟨pq, cq, Q, rfl, HQ7, hQ9, hQb⟩, hc7, HU7⟩
          case measure => simp [intOf]; omega
        · go_wp2_with fail
          refine (l1Below_ok bc (wcL Q).length _ hc7 (by omega) (by omega)).mono ?_
          rintro e w8 ⟨x, hx, rfl, hc8, hu8⟩
          have hz8 := hu8.size
          obtain ⟨u, hcu, hou⟩ := (HR7.out.upd hu8 (fun k h1 h2 e => by omega)).get hx
          obtain ⟨pu, cu, rfl⟩ := hou.shape
          have HX := wcL_each (P := fun x => -1 ≤ x ∧ x ≤ 10) (nthL_mem hx) hQb.out
          have hx9 : (nthL (wcL Q) x).length ≤ 9 := by rw [HX.1]; exact hQ9
          have HXB := Lib.hid HX.2
          have HOU := Lib.hid (hou.mono (B' := bc + 1) (H' := w8.heap.size) (by omega) (by omega))
          have HU8 := Lib.hid (HU7.out.trans hu8)
          have hxI : (x : Int) < ((wcL Q).length : Int) := by omega
          clear HX hou HQ7 HR7 HU7 hc7 hu8
          go_wp2_with fail
          go_roundw
          case rel => exact ⟨k + 1, by omega, by go_num, ⟨pu, cu, nthL (wcL Q) x, rfl, HOU, hx9, HXB⟩, hc8, HU8⟩
          case measure => simp [intOf]; omega
    · have hk3I : ¬ (k : Int) < 4 := by omega
      clear hk3
      have HP := Lib.hid ((HP5.out.offc hU.out (by omega)).mono (Nat.le_refl _) (show _ ≤ wr.heap.size by omega))
      have hbcl2 := hc.lt
      go_wp2_with fail
      refine (l1Once_ok bc 3 _ hc (by omega) (by omega)).mono ?_
      rintro e w7 ⟨t, rfl, hc7, hu7⟩
      have hz7 := hu7.size
      have HP7 := Lib.hid ((HP.out.offc hu7 (by omega)).mono (Nat.le_refl _) hz7)
      have HQ7 := Lib.hid ((hQ.out.offc hu7 (by omega)).mono (Nat.le_refl _) hz7)
      have HE7 := Lib.hid (HE5.out.upd1 (hU.out.trans hu7) hbc)
      clear HP hQ hU hc
      cases t
      · go_wp2_with fail
        go_ret2
        exact ⟨_, L, _, Q, rfl, HP7.out.mono (by omega) (Nat.le_refl _), hm9', HL.out, HQ7.out.mono (by omega) (Nat.le_refl _), hQ9, hQb.out, HE7.out⟩
      · obtain ⟨m', hm'⟩ : ∃ m', m' = L.length := ⟨_, rfl⟩
        go_wp2_with fail
        refine (l2Draw_ok bc _ _ hc7 (by omega)).mono ?_
        rintro e w8 ⟨b8, c8, m8, L8, rfl, hm8, hl8, hL8, hlo8, hr8, hc8, hu8⟩
        have hz8 := hu8.size
        have HP8 := Lib.hid ((HP7.out.offc hu8 (by omega)).mono (B' := w.heap.size) (by omega) hz8)
        have HE8 := Lib.hid (HE7.out.upd1 hu8 hbc)
        have HO8 := Lib.hid (OI.row (B := w.heap.size) hr8 (by omega) hm8)
        have hl89 : L8.length ≤ 9 := by omega
        have HL8 : Hid (∀ x ∈ L8, -1 ≤ x ∧ x ≤ 10) := fun x hx => by have := hL8 x hx; omega
        clear hm' hm8 hl8 hr8 hu8 HP7 HQ7 HE7 hc7
        go_wp2_with fail
        go_ret2
        exact ⟨_, L, _, L8, rfl, HP8.out, hm9', HL.out, HO8.out, hl89, HL8.out, HE8.out⟩

/-- what the draw of a number and a word hands out. -/
def WrdPost (B : Nat) (bc : Nat) (w : World) (e : Ending) (w' : World) : Prop := ∃ (n : Nat) (v : Value) (W : List Int), e = .returned (.tuple #[.int .i64 (n : Int), v]) ∧ n ≤ 5 ∧ OI B w'.heap.size w' v W ∧ W.length ≤ 9 ∧ (∀ x ∈ W, -1 ≤ x ∧ x ≤ 10) ∧ Cur bc w' ∧ Upd (· = bc) w w'
def WrwPost (w : World) (e : Ending) (w' : World) : Prop := ∃ (n : Nat) (v : Value) (W : List Int), e = .returned (.tuple #[.int .i64 (n : Int), v]) ∧ n ≤ 5 ∧ OI w.heap.size w'.heap.size w' v W ∧ W.length ≤ 9 ∧ (∀ x ∈ W, -1 ≤ x ∧ x ≤ 10) ∧ Ext w w'
theorem mem_snoc {P : Int → Prop} {W : List Int} {y : Int} (h : ∀ x ∈ W, P x) (hy : P y) : ∀ x ∈ W ++ [y], P x := fun x hx => (List.mem_append.1 hx).elim (h x) (fun e => by simp at e; subst e; exact hy)
theorem Cur.updB {bc b : Nat} {w w' : World} (h : Cur bc w) (hu : Upd (· = b) w w') (hb : bc < b) : Cur bc w' := h.upd hu hb
set_option maxHeartbeats 4000000 in
theorem l27Draw_ok (bc : Nat) (w : World) (h : Cur bc w) :
    Calls Try.prog 64 #[.pointer (some ⟨bc, 0, none⟩)] w (WrdPost w.heap.size bc w) := by
  have hbc := h.lt
  go_enter Try.func64, Try.ntmps64
  go_wp2_with fail
  refine (l1Below_ok bc 5 _ h (by omega) (by omega)).mono ?_
  rintro e w1 ⟨x, hx, rfl, hc1, hu1⟩
  have hz1 := hu1.size
  obtain ⟨n, hn⟩ : ∃ n : Nat, n = x + 1 := ⟨_, rfl⟩
  have f1 : IntKind.i64.wrap (1 + (x : Int)) = (n : Int) := by rw [IntWalk.i64_in _ (by omega)]; omega
  have hn5 : n ≤ 5 := by omega
  have hn1 : 1 ≤ n := by omega
  have hA : Ext w1 (w1.alloc (.cells #[] 3)) := Upd.alloc _ _ _
  have hc2 := hc1.ext hA
  have HR2 := Lib.hid (Row.new 3 w1 [] (by simp))
  have HU2 := Lib.hid (hu1.trans (Ext.toUpd hA _))
  clear hn hx hA hc1
  go_wp2_with fail
  refine (l1Below_ok bc 8 _ hc2 (by omega) (by omega)).mono ?_
  rintro e w3 ⟨y, hy, rfl, hc3, hu3⟩
  have HR3 := Lib.hid (HR2.out.upd hu3 (by omega))
  have HU3 := Lib.hid (HU2.out.trans hu3)
  clear HR2 HU2 hc2 hu3 hu1
  go_wp2_with fail
  go_loopw [5, 7] (fun o i wr => ∃ k : Nat, k ≤ y ∧ i = .int .i64 k ∧ (∃ b c W, o = .slice (some ⟨b, 0, none⟩) k c ∧ Hid (k = W.length) ∧ Hid (Row 3 wr b c (vals W)) ∧ Hid (∀ x ∈ W, -1 ≤ x ∧ x ≤ 10) ∧ w.heap.size ≤ b) ∧ Cur bc wr ∧ Hid (Upd (· = bc) w wr)) (fun _ i _ => y - (intOf i).toNat)
  case atStart => exact ⟨0, Nat.zero_le _, rfl, ⟨_, 0, [], rfl, Lib.hid rfl, HR3, Lib.hid (fun x hx => by simp at hx), hz1⟩, hc3, HU3⟩
  case round =>
    obtain ⟨k, hk, rfl, ⟨b, c, W, rfl, hkl, hr, hW, hwb⟩, hc, hU⟩ := hrel
    clear HR3 hc3 HU3
    have hbl := hr.out.lt
    have hwz := hU.out.size
    by_cases hgo : k < y ∧ 1 < n
    · obtain ⟨hky, hn2⟩ := hgo
      have g1 : (k : Int) < (y : Int) := by omega
      have g2 : (1 : Int) < (n : Int) := by omega
      obtain ⟨m, hm⟩ : ∃ m : Nat, m = n - 1 := ⟨_, rfl⟩
      have f2 : IntKind.i64.wrap ((n : Int) - 1) = (m : Int) := by rw [IntWalk.i64_in _ (by omega)]; omega
      have hm1 : 1 ≤ m := by omega
      have hm5 : m ≤ 5 := by omega
      clear hm
      go_wp2_with fail
      refine (l1Below_ok bc m _ hc (by omega) (by omega)).mono ?_
      rintro e w6 ⟨z, hz, rfl, hc6, hu6⟩
      have hz6 := hu6.size
      have f3 : IntKind.i64.wrap (1 + (z : Int)) = 1 + (z : Int) := IntWalk.i64_in _ (by omega)
      have HR6 := Lib.hid (hr.out.upd hu6 (by omega))
      have HU6 := Lib.hid (hU.out.trans hu6)
      have HW6 := Lib.hid (mem_snoc (P := fun x => -1 ≤ x ∧ x ≤ 10) hW.out (show -1 ≤ 1 + (z : Int) ∧ 1 + (z : Int) ≤ 10 by omega))
      have hkb : W.length ≤ 1000000000 := by rw [← hkl.out]; omega
      have HKB := Lib.hid hkb
      clear hr hU hc hu6 hkb
      go_wp2_with (at_builtin; go_loud (refine wpl_app1 rfl (.tmp 23) (.tmp 29) rfl b c k W (1 + (z : Int)) rfl HR6.out hkl.out rfl HKB.out ?_); intro b9 c9 w9 hr9 hb9 hu9)
      have hz9 := hu9.size
      have HR9 := Lib.hid hr9
      have HL9 : Hid (k + 1 = (W ++ [1 + (z : Int)]).length) := by show _ = _; rw [List.length_append, ← hkl.out]; rfl
      have hc9 := hc6.updB hu9 (by omega)
      have HU9 := Lib.hid (HU6.out.comp hu9 (D' := (· = bc)) (fun _ _ h => h) (fun i hi e => by omega))
      have hb9' : w.heap.size ≤ b9 := by rcases hb9 with e | e <;> omega
      clear hr9 hu9 hb9 HU6 HR6 hc6
      go_roundw
      case rel => exact ⟨k + 1, by omega, by go_num, ⟨b9, c9, _, rfl, HL9, HR9, HW6, hb9'⟩, hc9, HU9⟩
      case measure => simp [intOf]; omega
    · have key : ∀ w9, Cur bc w9 → Upd (· = bc) wr w9 → OI w.heap.size w9.heap.size w9 (.slice (some ⟨b, 0, none⟩) k c) W ∧ Upd (· = bc) w w9 := fun w9 _ hu9 => ⟨OI.row (hr.out.upd hu9 (by omega)) hwb hkl.out, hU.out.trans hu9⟩
      have HKEY := Lib.hid key
      have hk8 : k ≤ 8 := by omega
      clear key
      have hcase : (k : Int) < (y : Int) ∧ ¬ (1 : Int) < (n : Int) ∨ ¬ (k : Int) < (y : Int) := by omega
      clear hgo
      rcases hcase with ⟨g1, g2⟩ | g1
      all_goals
        go_wp2_with fail
        refine (l1Once_ok bc 12 _ hc (by omega) (by omega)).mono ?_
        rintro e w7 ⟨t, rfl, hc7, hu7⟩
        have hz7 := hu7.size
        have HR7 := Lib.hid (hr.out.upd hu7 (by omega))
        have HU7 := Lib.hid (hU.out.trans hu7)
        cases t
        · have HO := Lib.hid (HKEY.out _ hc7 hu7)
          clear hu7
          go_wp2_with fail
          go_ret2
          exact ⟨n, _, W, rfl, hn5, HO.out.1, by rw [← hkl.out]; omega, hW.out, hc7, HO.out.2⟩
        · clear hu7
          go_wp2_with fail
          refine (l1Below_ok bc 8 _ hc7 (by omega) (by omega)).mono ?_
          rintro e w8 ⟨z, hz, rfl, hc8, hu8⟩
          have hz8 := hu8.size
          have f3 : IntKind.i64.wrap ((z : Int) - 1) = (z : Int) - 1 := IntWalk.i64_in _ (by omega)
          have HR8 := Lib.hid (HR7.out.upd hu8 (by omega))
          have HU8 := Lib.hid (HU7.out.trans hu8)
          have HW8 := Lib.hid (mem_snoc (P := fun x => -1 ≤ x ∧ x ≤ 10) hW.out (show -1 ≤ (z : Int) - 1 ∧ (z : Int) - 1 ≤ 10 by omega))
          have hkb : W.length ≤ 1000000000 := by rw [← hkl.out]; omega
          have HKB := Lib.hid hkb
          clear HR7 HU7 hc7 hu8 hkb
          go_wp2_with (at_builtin; go_loud (refine wpl_app1 rfl (.tmp 33) (.tmp 37) rfl b c k W ((z : Int) - 1) rfl HR8.out hkl.out rfl HKB.out ?_); intro b9 c9 w9 hr9 hb9 hu9)
          have hz9 := hu9.size
          have HL9 : Hid (k + 1 = (W ++ [(z : Int) - 1]).length) := by show _ = _; rw [List.length_append, ← hkl.out]; rfl
          have hb9' : w.heap.size ≤ b9 := by rcases hb9 with e | e <;> omega
          have HO9 : Hid (OI w.heap.size w9.heap.size w9 (.slice (some ⟨b9, 0, none⟩) (k + 1) c9) (W ++ [(z : Int) - 1])) := OI.row hr9 hb9' HL9.out
          have hc9 := hc8.updB hu9 (by omega)
          have HU9 := Lib.hid (HU8.out.comp hu9 (D' := (· = bc)) (fun _ _ h => h) (fun i hi e => by omega))
          clear hr9 hu9 hb9 HU8 HR8 hc8
          go_ret2
          exact ⟨n, _, _, rfl, hn5, HO9.out, by rw [← HL9.out]; omega, HW8.out, hc9, HU9.out⟩
set_option maxHeartbeats 1000000 in
theorem DrawWordPerm_ok (a : Option Addr) (n cap : Nat) (w : World) (hn : n ≤ 1048576) (hb : BY w.heap.size w a n) : Calls Try.prog 18 #[.slice a n cap] w (WrwPost w) := by
  have HB := Lib.hid hb
  clear hb
  go_enter Try.func18, Try.ntmps18
  go_wp2_with fail
  refine (l1New_ok a n cap _ hn HB.out).mono ?_
  rintro e w1 ⟨bc, rfl, hbc, hc, he⟩
  have hz := he.size
  go_wp2_with fail
  refine (l27Draw_ok bc _ hc).mono ?_
  rintro e w2 ⟨m, v, W, rfl, hm5, ho, hl, hW, hc2, hu⟩
  have HO := Lib.hid (ho.mono (B' := w.heap.size) (by omega) (Nat.le_refl _))
  have HE : Hid (Ext w w2) := Upd.comp he hu (fun _ _ h => h) (fun i hi e => by omega)
  have HW := Lib.hid hW
  clear ho hW hu hc hc2 he
  go_wp2_with fail
  go_ret2
  exact ⟨m, v, W, rfl, hm5, HO.out, hl, HW.out, HE.out⟩
end Go.Proofs.Ytmnbdphfoonleaa
namespace Go.Proofs.Ytmnbdphfoonleaa
open Go.RowKit

theorem wp_bd (n : Int) (W : List Int) : (wpL n W).length ≤ 1000000000 := by
  cases h : wokB n W
  · have : wpL n W = [] := by unfold wpL; rw [h]; rfl
    rw [this]; simp
  · have e : wpL n W = wRun n.toNat W := by unfold wpL; rw [h]; rfl
    have := wok_true h
    rw [e, wRun_len]; omega
set_option maxHeartbeats 16000000 in
set_option maxRecDepth 30000 in
theorem law_FnWords (a : Option Addr) (n cap : Nat) (w : World) (hb : BY w.heap.size w a n) (hn : n ≤ 9223372036854775807) :
    Calls Try.prog 3 #[.slice a n cap] w fun e w' => e = .returned (.bool true) ∧ Ext w w' := by
  go_enter Try.func3, Try.ntmps3
  go_wp2_with fail
  refine (big_ok a n cap _ hn).mono ?_
  rintro e w0 ⟨rfl, hw0⟩
  have E : Ext w w0 := hw0.ext
  have HB := Lib.hid hb
  clear hb hw0
  by_cases hbig : 1048576 < n
  · rw [decide_eq_true hbig]
    go_wp2_with fail
    go_ret
    exact ⟨rfl, E⟩
  rw [decide_eq_false hbig]
  have hn9 : n ≤ 1048576 := by omega
  clear hn
  go_wp2_with fail
  refine (DrawWordPerm_ok a n cap _ hn9 ((HB.out.ext E).mono E.size)).mono ?_
  rintro e u_1 ⟨nn, v_W, W, rfl, n5, o_W, l_W, b_W, h_1⟩
  replace E := E.trans h_1
  clear h_1
  have i_W : I64s W := fun x hx => by have := b_W x hx; unfold I64; omega
  have I_W := Lib.hid i_W
  have B_W := Lib.hid b_W
  clear i_W b_W
  have iN : I64 (nn : Int) := by unfold I64; omega
  have IN := Lib.hid iN
  clear iN
  obtain ⟨p_W, c_W, rfl⟩ := o_W.shape
  go_wp2_with fail
  refine (impl_WordPerm_ok (nn : Int) _ W _ IN.out o_W.si (by omega) I_W.out).mono ?_
  rintro e u_2 ⟨v_P, rfl, o_P, h_2⟩
  replace o_W := o_W.ext h_2
  replace E := E.trans h_2
  clear h_2
  obtain ⟨ok, hok⟩ : ∃ x, x = wokB (nn : Int) W := ⟨_, rfl⟩
  rw [← hok]
  have H_ok := Lib.hid hok
  clear hok
  have nok : (ok != ok) = false := by simp
  go_wp2_with fail
  refine (spec_WordPerm_ok (nn : Int) _ W _ IN.out o_W.si (by omega) I_W.out).mono ?_
  rintro e u_3 ⟨v_R, rfl, o_R, h_3⟩
  replace o_W := o_W.ext h_3
  replace o_P := o_P.ext h_3
  replace E := E.trans h_3
  clear h_3
  rw [← H_ok.out]
  go_wp2_with fail
  refine (DrawReducedWords_ok a n cap _ hn9 ((HB.out.ext E).mono E.size)).mono ?_
  rintro e u_4 ⟨v_Q, Q, rfl, o_Q, l_Q, b_Q, h_4⟩
  replace o_W := o_W.ext h_4
  replace o_P := o_P.ext h_4
  replace o_R := o_R.ext h_4
  replace E := E.trans h_4
  clear h_4
  have i_Q : I64s Q := fun x hx => by have := b_Q x hx; unfold I64; omega
  have I_Q := Lib.hid i_Q
  have B_Q := Lib.hid b_Q
  clear i_Q b_Q
  go_wp2_with fail
  refine (impl_ReducedWords_ok _ Q _ o_Q.si (by omega) I_Q.out).mono ?_
  rintro e u_5 ⟨v_L, rfl, o_L, h_5⟩
  replace o_W := o_W.ext h_5
  replace o_P := o_P.ext h_5
  replace o_R := o_R.ext h_5
  replace o_Q := o_Q.ext h_5
  replace E := E.trans h_5
  clear h_5
  go_wp2_with fail
  refine (DrawWeakBelow_ok a n cap _ hn9 ((HB.out.ext E).mono E.size)).mono ?_
  rintro e u_6 ⟨v_A, A, v_B, B, rfl, o_A, l_A, b_A, o_B, l_B, b_B, h_6⟩
  replace o_W := o_W.ext h_6
  replace o_P := o_P.ext h_6
  replace o_R := o_R.ext h_6
  replace o_Q := o_Q.ext h_6
  replace o_L := o_L.ext h_6
  replace E := E.trans h_6
  clear h_6
  have i_A : I64s A := fun x hx => by have := b_A x hx; unfold I64; omega
  have I_A := Lib.hid i_A
  have B_A := Lib.hid b_A
  clear i_A b_A
  have i_B : I64s B := fun x hx => by have := b_B x hx; unfold I64; omega
  have I_B := Lib.hid i_B
  have B_B := Lib.hid b_B
  clear i_B b_B
  go_wp2_with fail
  refine (DrawWeakCovers_ok a n cap _ hn9 ((HB.out.ext E).mono E.size)).mono ?_
  rintro e u_7 ⟨v_C, C, rfl, o_C, l_C, b_C, h_7⟩
  replace o_W := o_W.ext h_7
  replace o_P := o_P.ext h_7
  replace o_R := o_R.ext h_7
  replace o_Q := o_Q.ext h_7
  replace o_L := o_L.ext h_7
  replace o_A := o_A.ext h_7
  replace o_B := o_B.ext h_7
  replace E := E.trans h_7
  clear h_7
  have i_C : I64s C := fun x hx => by have := b_C x hx; unfold I64; omega
  have I_C := Lib.hid i_C
  have B_C := Lib.hid b_C
  clear i_C b_C
  go_wp2_with fail
  refine (impl_WeakCovers_ok _ C _ o_C.si (by omega) I_C.out).mono ?_
  rintro e u_8 ⟨v_CV, rfl, o_CV, h_8⟩
  replace o_W := o_W.ext h_8
  replace o_P := o_P.ext h_8
  replace o_R := o_R.ext h_8
  replace o_Q := o_Q.ext h_8
  replace o_L := o_L.ext h_8
  replace o_A := o_A.ext h_8
  replace o_B := o_B.ext h_8
  replace o_C := o_C.ext h_8
  replace E := E.trans h_8
  clear h_8
  obtain ⟨p_A, c_A, rfl⟩ := o_A.shape
  obtain ⟨p_B, c_B, rfl⟩ := o_B.shape
  obtain ⟨p_Q, c_Q, rfl⟩ := o_Q.shape
  obtain ⟨p_C, c_C, rfl⟩ := o_C.shape
  obtain ⟨p_P, c_P, rfl⟩ := o_P.shape
  obtain ⟨p_CV, c_CV, eV, -⟩ := o_CV.sii.elim
  subst eV
  obtain ⟨p_L, c_L, eL, -⟩ := o_L.sii.elim
  subst eL
  have wpb := wp_bd (nn : Int) W
  obtain ⟨PL, hPL⟩ : ∃ x, x = wpL (nn : Int) W := ⟨_, rfl⟩
  rw [← hPL] at o_P o_R wpb ⊢
  have HPL := Lib.hid hPL
  clear hPL
  go_wp2_with fail
  refine (sameInts_same _ _ PL _ o_P.si o_R.si wpb).mono ?_
  rintro e u_9 ⟨rfl, h_9⟩
  replace h_9 : Ext u_8 u_9 := h_9.ext
  replace o_W := o_W.ext h_9
  replace o_P := o_P.ext h_9
  replace o_R := o_R.ext h_9
  replace o_Q := o_Q.ext h_9
  replace o_L := o_L.ext h_9
  replace o_A := o_A.ext h_9
  replace o_B := o_B.ext h_9
  replace o_C := o_C.ext h_9
  replace o_CV := o_CV.ext h_9
  replace E := E.trans h_9
  clear h_9
  clear o_R
  go_wp2_with fail
  refine (spec_ReducedWords_ok _ Q _ o_Q.si (by omega) I_Q.out).mono ?_
  rintro e u_10 ⟨v_L2, rfl, o_L2, h_10⟩
  replace o_W := o_W.ext h_10
  replace o_P := o_P.ext h_10
  replace o_Q := o_Q.ext h_10
  replace o_L := o_L.ext h_10
  replace o_A := o_A.ext h_10
  replace o_B := o_B.ext h_10
  replace o_C := o_C.ext h_10
  replace o_CV := o_CV.ext h_10
  replace E := E.trans h_10
  clear h_10
  have brw := bound_ReducedWords Q (by omega)
  have BRW := Lib.hid brw
  have brl := brw.1
  clear brw
  go_wp2_with fail
  refine (sameLists_same _ _ (rdL Q) _ o_L.sii o_L2.sii BRW.out.1 BRW.out.2.1).mono ?_
  rintro e u_11 ⟨rfl, h_11⟩
  replace h_11 : Ext u_10 u_11 := h_11.ext
  replace o_W := o_W.ext h_11
  replace o_P := o_P.ext h_11
  replace o_Q := o_Q.ext h_11
  replace o_L := o_L.ext h_11
  replace o_A := o_A.ext h_11
  replace o_B := o_B.ext h_11
  replace o_C := o_C.ext h_11
  replace o_CV := o_CV.ext h_11
  replace o_L2 := o_L2.ext h_11
  replace E := E.trans h_11
  clear h_11
  go_wp2_with fail
  refine (impl_WeakBelow_ok _ A _ B _ o_A.si (by omega) I_A.out o_B.si (by omega) I_B.out).mono ?_
  rintro e u_12 ⟨rfl, h_12⟩
  replace o_W := o_W.ext h_12
  replace o_P := o_P.ext h_12
  replace o_Q := o_Q.ext h_12
  replace o_L := o_L.ext h_12
  replace o_A := o_A.ext h_12
  replace o_B := o_B.ext h_12
  replace o_C := o_C.ext h_12
  replace o_CV := o_CV.ext h_12
  replace o_L2 := o_L2.ext h_12
  replace E := E.trans h_12
  clear h_12
  obtain ⟨wb, hwb⟩ : ∃ x, x = weakB A B := ⟨_, rfl⟩
  rw [← hwb]
  have H_wb := Lib.hid hwb
  clear hwb
  have nwb : (wb != wb) = false := by simp
  go_wp2_with fail
  refine (spec_WeakBelow_ok _ A _ B _ o_A.si (by omega) I_A.out o_B.si (by omega) I_B.out).mono ?_
  rintro e u_13 ⟨rfl, h_13⟩
  replace o_W := o_W.ext h_13
  replace o_P := o_P.ext h_13
  replace o_Q := o_Q.ext h_13
  replace o_L := o_L.ext h_13
  replace o_A := o_A.ext h_13
  replace o_B := o_B.ext h_13
  replace o_C := o_C.ext h_13
  replace o_CV := o_CV.ext h_13
  replace o_L2 := o_L2.ext h_13
  replace E := E.trans h_13
  clear h_13
  rw [← H_wb.out]
  go_wp2_with fail
  refine (spec_WeakCovers_ok _ C _ o_C.si (by omega) I_C.out).mono ?_
  rintro e u_14 ⟨v_CV2, rfl, o_CV2, h_14⟩
  replace o_W := o_W.ext h_14
  replace o_P := o_P.ext h_14
  replace o_Q := o_Q.ext h_14
  replace o_L := o_L.ext h_14
  replace o_A := o_A.ext h_14
  replace o_B := o_B.ext h_14
  replace o_C := o_C.ext h_14
  replace o_CV := o_CV.ext h_14
  replace o_L2 := o_L2.ext h_14
  replace E := E.trans h_14
  clear h_14
  have bcv := bound_WeakCovers C (by omega)
  have BCV := Lib.hid bcv
  clear bcv
  go_wp2_with fail
  refine (sameLists_same _ _ (wcL C) _ o_CV.sii o_CV2.sii BCV.out.1 BCV.out.2.1).mono ?_
  rintro e u_15 ⟨rfl, h_15⟩
  replace h_15 : Ext u_14 u_15 := h_15.ext
  replace o_W := o_W.ext h_15
  replace o_P := o_P.ext h_15
  replace o_Q := o_Q.ext h_15
  replace o_L := o_L.ext h_15
  replace o_A := o_A.ext h_15
  replace o_B := o_B.ext h_15
  replace o_C := o_C.ext h_15
  replace o_CV := o_CV.ext h_15
  replace o_L2 := o_L2.ext h_15
  replace o_CV2 := o_CV2.ext h_15
  replace E := E.trans h_15
  clear h_15
  clear o_CV2 o_L2
  go_wp2_with fail
  refine (impl_IsReduced_ok (nn : Int) _ W _ IN.out o_W.si (by omega) I_W.out).mono ?_
  rintro e u_16 ⟨rfl, h_16⟩
  replace o_W := o_W.ext h_16
  replace o_P := o_P.ext h_16
  replace o_Q := o_Q.ext h_16
  replace o_L := o_L.ext h_16
  replace o_A := o_A.ext h_16
  replace o_B := o_B.ext h_16
  replace o_C := o_C.ext h_16
  replace o_CV := o_CV.ext h_16
  replace E := E.trans h_16
  clear h_16
  obtain ⟨rd, hrd⟩ : ∃ x, x = irB (nn : Int) W := ⟨_, rfl⟩
  rw [← hrd]
  have H_rd := Lib.hid hrd
  clear hrd
  have nrd : (rd != rd) = false := by simp
  go_wp2_with fail
  refine (spec_IsReduced_ok (nn : Int) _ W _ IN.out o_W.si (by omega) I_W.out).mono ?_
  rintro e u_17 ⟨rfl, h_17⟩
  replace o_W := o_W.ext h_17
  replace o_P := o_P.ext h_17
  replace o_Q := o_Q.ext h_17
  replace o_L := o_L.ext h_17
  replace o_A := o_A.ext h_17
  replace o_B := o_B.ext h_17
  replace o_C := o_C.ext h_17
  replace o_CV := o_CV.ext h_17
  replace E := E.trans h_17
  clear h_17
  rw [← H_rd.out]
  clear o_W
  go_wp2_with fail
  refine (impl_CountReduced_ok _ Q _ o_Q.si (by omega) I_Q.out).mono ?_
  rintro e u_18 ⟨rfl, h_18⟩
  replace o_P := o_P.ext h_18
  replace o_Q := o_Q.ext h_18
  replace o_L := o_L.ext h_18
  replace o_A := o_A.ext h_18
  replace o_B := o_B.ext h_18
  replace o_C := o_C.ext h_18
  replace o_CV := o_CV.ext h_18
  replace E := E.trans h_18
  clear h_18
  obtain ⟨cr, hcr⟩ : ∃ x, x = crI Q := ⟨_, rfl⟩
  rw [← hcr]
  have H_cr := Lib.hid hcr
  clear hcr
  have ncr : (cr != cr) = false := by simp
  go_wp2_with fail
  refine (spec_CountReduced_ok _ Q _ o_Q.si (by omega) I_Q.out).mono ?_
  rintro e u_19 ⟨rfl, h_19⟩
  replace o_P := o_P.ext h_19
  replace o_Q := o_Q.ext h_19
  replace o_L := o_L.ext h_19
  replace o_A := o_A.ext h_19
  replace o_B := o_B.ext h_19
  replace o_C := o_C.ext h_19
  replace o_CV := o_CV.ext h_19
  replace E := E.trans h_19
  clear h_19
  rw [← H_cr.out]
  have hri := o_L.sii.elim
  obtain ⟨aL, cL, eL, hri⟩ := hri
  injection eL with eL1 _ eL2
  subst eL1 eL2
  have HRI := Lib.hid hri
  have IQ : Hid (I64 (Q.length : Int)) := by show I64 _; unfold I64; omega
  have hql : Q.length ≤ 1000000000 := by omega
  clear hri
  obtain ⟨uw, huw⟩ : ∃ uw, uw = u_19 := ⟨_, rfl⟩
  subst huw
  go_wp2_with fail
  go_loopw [15] (fun i wr => ∃ k : Nat, k ≤ (rdL Q).length ∧ i = .int .i64 k ∧ Hid (Ext uw wr)) (fun i _ => (rdL Q).length - (intOf i).toNat)
  case atStart => exact ⟨0, Nat.zero_le _, rfl, Ext.refl _⟩
  case round =>
    obtain ⟨k, hk, rfl, he⟩ := hrel
    by_cases hlt : k < (rdL Q).length
    · obtain ⟨b, off, rfl, u, hc, hu⟩ := HRI.out k hlt
      replace hc := Ext.cell he.out hc
      replace hu := hu.ext he.out
      have hre := rd_each (nthL_mem hlt)
      have hrw := rd_word (nthL_mem hlt)
      obtain ⟨pu, cu, rfl⟩ := hu.shp
      obtain ⟨X, hX⟩ : ∃ X, X = nthL (rdL Q) k := ⟨_, rfl⟩
      rw [← hX] at hc hu hre hrw
      have HU := Lib.hid hu
      have HWP : Hid (wpL (Q.length : Int) X = Q) := hre.1
      have HWK : Hid (wokB (Q.length : Int) X = true) := hre.2.1
      have HIR : Hid (irB (Q.length : Int) X = true) := hre.2.2.1
      have HIL : Hid (invI Q = (X.length : Int)) := hre.2.2.2.symm
      have hxl : X.length ≤ 7 := hrw.1
      have HXI : Hid (I64s X) := fun x hx => by have := hrw.2 x hx; unfold I64; omega
      have o_Q' := Lib.hid (o_Q.ext he.out)
      have hltI : (k : Int) < ((rdL Q).length : Int) := by omega
      clear hX hu hre hrw
      go_wp2_with fail
      refine (impl_WordPerm_ok (Q.length : Int) _ X _ IQ.out HU.out (by omega) HXI.out).mono ?_
      rintro e w71 ⟨v71, rfl, o71, h71⟩
      rw [HWP.out] at o71
      rw [HWK.out]
      obtain ⟨p71, c71, rfl⟩ := o71.shape
      replace hc := Ext.cell h71 hc
      have HU1 := Lib.hid (HU.out.ext h71)
      have HQ1 := Lib.hid (o_Q'.out.si.ext h71)
      have HX1 := Lib.hid o71.si
      have hE1 := Lib.hid (he.out.trans h71)
      have hD : Ext w71 w71.drew := Upd.drew _ _
      have HD := Lib.hid hD
      have hcd := hD.cell hc
      have HCD := Lib.hid hcd
      clear HU o71 h71 o_Q' hD hcd
      go_wp2_with fail
      go_region_held3 (fun w' => w'.cell? ⟨b, off + k, none⟩ = some (.slice pu X.length cu))
        (first | go_keep | (exact Ext.cell h74 (Ext.cell h73 (Ext.cell h72 HCD.out))) | (exact Ext.cell h73 (Ext.cell h72 HCD.out)) | (exact Ext.cell h72 HCD.out))
        ((first
          | (go_at_call 26; refine (sameInts_same _ _ Q _ (HX1.out.ext HD.out) (HQ1.out.ext HD.out) hql).mono ?_; rintro e w72 ⟨rfl, q72⟩; have h72 := q72.ext)
          | (go_at_call 32; refine (impl_IsReduced_ok (Q.length : Int) _ X _ IQ.out ((HU1.out.ext HD.out).ext h72) (by omega) HXI.out).mono ?_; rintro e w73 ⟨rfl, h73⟩; rw [HIR.out])
          | (go_at_call 36; refine (spec_CountInversions_ok _ Q _ (((HQ1.out.ext HD.out).ext h72).ext h73) hql).mono ?_; rintro e w74 ⟨rfl, q74⟩; have h74 := q74.ext; rw [HIL.out])))
      all_goals
        have hE4 := Lib.hid ((((hE1.out.trans HD.out).trans h72).trans h73).trans h74)
        go_wp2_with fail
        go_roundw
        case rel => exact ⟨k + 1, by omega, by go_num, hE4⟩
        case measure => simp [intOf]; omega
    · have hnI : ¬ (k : Int) < ((rdL Q).length : Int) := by omega
      replace o_P := o_P.ext he.out
      replace o_Q := o_Q.ext he.out
      replace o_A := o_A.ext he.out
      replace o_B := o_B.ext he.out
      replace o_C := o_C.ext he.out
      replace o_CV := o_CV.ext he.out
      replace E := E.trans he.out
      clear o_L HRI hk hlt he
      obtain ⟨uv, huv⟩ : ∃ uv, uv = wr := ⟨_, rfl⟩
      subst huv
      go_upto_region 19 with fail
      go_cut [152] from 143 to 152 (fun x wx => x = .bool false ∧ Ext uv wx)
      case first =>
        have EC : Ext uv uv := Ext.refl _
        by_cases h0 : (rdL Q).length = 0
        ·
          have h0I : ¬ (0 : Int) < ((rdL Q).length : Int) := by omega
          clear h0
          go_wp2_with fail
          go_meet
          case rel => exact ⟨rfl, EC⟩
        ·
          have h0I : (0 : Int) < ((rdL Q).length : Int) := by omega
          have hrc := rd_count (p := Q) (by omega)
          have HRC := Lib.hid hrc
          have nL : (((rdL Q).length : Int) != ((rdL Q).length : Int)) = false := by simp
          clear h0 hrc
          go_wp2_with fail
          refine (impl_CountReduced_ok _ Q _ o_Q.si (by omega) I_Q.out).mono ?_
          rintro e u_20 ⟨rfl, h_20⟩
          replace o_P := o_P.ext h_20
          replace o_Q := o_Q.ext h_20
          replace o_A := o_A.ext h_20
          replace o_B := o_B.ext h_20
          replace o_C := o_C.ext h_20
          replace o_CV := o_CV.ext h_20
          replace EC := EC.trans h_20
          clear h_20
          rw [← HRC.out]
          go_wp2_with fail
          go_meet
          case rel => exact ⟨rfl, EC⟩
      case rest =>
        obtain ⟨rfl, h_c⟩ := hcut
        replace o_P := o_P.ext h_c
        replace o_Q := o_Q.ext h_c
        replace o_A := o_A.ext h_c
        replace o_B := o_B.ext h_c
        replace o_C := o_C.ext h_c
        replace o_CV := o_CV.ext h_c
        replace E := E.trans h_c
        clear h_c
        obtain ⟨u_21, hwc⟩ : ∃ u, u = wc := ⟨_, rfl⟩
        subst hwc
        clear o_Q
        have hri := o_CV.sii.elim
        obtain ⟨aCV, cCV, eCV, hri⟩ := hri
        injection eCV with eCV1 _ eCV2
        subst eCV1 eCV2
        have HRI := Lib.hid hri
        have hip := invI_bd C
        obtain ⟨ip, hipv⟩ : ∃ x, x = invI C := ⟨_, rfl⟩
        rw [← hipv] at hip
        have HIP := Lib.hid hipv
        have hcl := wcL_cnt C
        clear hri hipv
        obtain ⟨ux, hux⟩ : ∃ ux, ux = u_21 := ⟨_, rfl⟩
        subst hux
        go_wp2_with fail
        go_loopw [18] (fun i wr => ∃ k : Nat, k ≤ (wcL C).length ∧ i = .int .i64 k ∧ Hid (Ext ux wr)) (fun i _ => (wcL C).length - (intOf i).toNat)
        case atStart => exact ⟨0, Nat.zero_le _, rfl, Ext.refl _⟩
        case round =>
          obtain ⟨k, hk, rfl, he⟩ := hrel
          by_cases hlt : k < (wcL C).length
          · obtain ⟨b, off, rfl, u, hc, hu⟩ := HRI.out k hlt
            replace hc := Ext.cell he.out hc
            replace hu := hu.ext he.out
            have hcs := weak_cover (nthL_mem hlt)
            have hce := wcL_each (P := fun x => I64 x) (nthL_mem hlt) I_C.out
            obtain ⟨pu, cu, rfl⟩ := hu.shp
            obtain ⟨X, hX⟩ : ∃ X, X = nthL (wcL C) k := ⟨_, rfl⟩
            rw [← hX] at hc hu hcs hce
            have HU := Lib.hid hu
            have HCS := Lib.hid hcs.1
            have HCT := Lib.hid hcs.2.2
            have HCI : Hid (invI X = ip + 1) := by show _ = _; rw [hcs.2.1, HIP.out]
            have hxl : X.length ≤ 9 := by rw [hce.1]; omega
            have HXI : Hid (I64s X) := hce.2
            have o_P' := Lib.hid (o_C.ext he.out)
            have hltI : (k : Int) < ((wcL C).length : Int) := by omega
            have bip : ((ip + 1) != (ip + 1)) = false := by simp
            clear hX hu hcs hce
            go_wp2_with fail
            refine (impl_WeakBelow_ok _ C _ X _ o_P'.out.si (by omega) I_C.out HU.out (by omega) HXI.out).mono ?_
            rintro e w71 ⟨rfl, h71⟩
            rw [HCS.out]
            replace hc := Ext.cell h71 hc
            have HU1 := Lib.hid (HU.out.ext h71)
            have HP1 := Lib.hid (o_P'.out.ext h71)
            go_wp2_with fail
            refine (spec_CountInversions_ok _ X _ HU1.out (by omega)).mono ?_
            rintro e w72 ⟨rfl, h72⟩
            rw [HCI.out]
            have HP2 := Lib.hid (HP1.out.ext h72.ext)
            have HU2 := Lib.hid (HU1.out.ext h72.ext)
            replace hc := Ext.cell h72.ext hc
            have hE := Lib.hid ((he.out.trans h71).trans h72.ext)
            clear HU1 HP1 HU
            go_wp2_with fail
            refine (spec_CountInversions_ok _ C _ HP2.out.si (by omega)).mono ?_
            rintro e w73 ⟨rfl, h73⟩
            rw [← HIP.out]
            have HP3 := Lib.hid (HP2.out.ext h73.ext)
            have HU3 := Lib.hid (HU2.out.ext h73.ext)
            replace hc := Ext.cell h73.ext hc
            have hE3 := Lib.hid (hE.out.trans h73.ext)
            clear HU2 HP2 hE
            go_wp2_with fail
            refine (impl_WeakBelow_ok _ X _ C _ HU3.out (by omega) HXI.out HP3.out.si (by omega) I_C.out).mono ?_
            rintro e w74 ⟨rfl, h74⟩
            rw [HCT.out]
            have hE4 := Lib.hid (hE3.out.trans h74)
            go_wp2_with fail
            go_roundw
            case rel => exact ⟨k + 1, by omega, by go_num, hE4⟩
            case measure => simp [intOf]; omega
          · have hnI : ¬ (k : Int) < ((wcL C).length : Int) := by omega
            replace o_P := o_P.ext he.out
            replace o_A := o_A.ext he.out
            replace o_B := o_B.ext he.out
            replace E := E.trans he.out
            clear o_C o_CV HRI
            obtain ⟨uy, huy⟩ : ∃ uy, uy = wr := ⟨_, rfl⟩
            subst huy
            go_upto_region 26 with fail
            go_cut [203] from 185 to 203 (fun x wx => x = .bool false ∧ Ext uy wx)
            case first =>
              have EC : Ext uy uy := Ext.refl _
              go_wp2_with fail
              refine (impl_WeakBelow_ok _ A _ B _ o_A.si (by omega) I_A.out o_B.si (by omega) I_B.out).mono ?_
              rintro e u_22 ⟨rfl, h_22⟩
              replace o_P := o_P.ext h_22
              replace o_A := o_A.ext h_22
              replace o_B := o_B.ext h_22
              replace EC := EC.trans h_22
              clear h_22
              rw [← H_wb.out]
              cases wb
              ·
                go_wp2_with fail
                go_meet
                case rel => exact ⟨rfl, EC⟩
              ·
                have hwi := weak_inv H_wb.out.symm
                obtain ⟨ia, hia⟩ : ∃ x, x = invI A := ⟨_, rfl⟩
                obtain ⟨ib, hib⟩ : ∃ x, x = invI B := ⟨_, rfl⟩
                have HIA := Lib.hid hia
                have HIB := Lib.hid hib
                rw [← hia, ← hib] at hwi
                have hwd : decide (ib < ia) = false := decide_eq_false (by omega)
                clear hia hib hwi
                obtain ⟨ab, hab⟩ : ∃ x, x = decide (A = B) := ⟨_, rfl⟩
                have HAB := Lib.hid hab
                have HWA : Hid (weakB B A = ab) := by show _ = _; rw [hab]; exact weak_anti H_wb.out.symm
                have nab : (ab != ab) = false := by simp
                clear hab
                go_wp2_with fail
                refine (spec_CountInversions_ok _ A _ o_A.si (by omega)).mono ?_
                rintro e u_23 ⟨rfl, h_23⟩
                replace h_23 : Ext u_22 u_23 := h_23.ext
                replace o_P := o_P.ext h_23
                replace o_A := o_A.ext h_23
                replace o_B := o_B.ext h_23
                replace EC := EC.trans h_23
                clear h_23
                rw [← HIA.out]
                go_wp2_with fail
                refine (spec_CountInversions_ok _ B _ o_B.si (by omega)).mono ?_
                rintro e u_24 ⟨rfl, h_24⟩
                replace h_24 : Ext u_23 u_24 := h_24.ext
                replace o_P := o_P.ext h_24
                replace o_A := o_A.ext h_24
                replace o_B := o_B.ext h_24
                replace EC := EC.trans h_24
                clear h_24
                rw [← HIB.out]
                go_wp2_with fail
                refine (impl_WeakBelow_ok _ B _ A _ o_B.si (by omega) I_B.out o_A.si (by omega) I_A.out).mono ?_
                rintro e u_25 ⟨rfl, h_25⟩
                replace o_P := o_P.ext h_25
                replace o_A := o_A.ext h_25
                replace o_B := o_B.ext h_25
                replace EC := EC.trans h_25
                clear h_25
                rw [HWA.out]
                go_wp2_with fail
                refine (sameInts_ok _ _ A B _ o_A.si o_B.si (by omega)).mono ?_
                rintro e u_26 ⟨rfl, h_26⟩
                replace h_26 : Ext u_25 u_26 := h_26.ext
                replace o_P := o_P.ext h_26
                replace o_A := o_A.ext h_26
                replace o_B := o_B.ext h_26
                replace EC := EC.trans h_26
                clear h_26
                rw [← HAB.out]
                go_wp2_with fail
                go_meet
                case rel => exact ⟨rfl, EC⟩
            case rest =>
              obtain ⟨rfl, h_c⟩ := hcut
              replace o_P := o_P.ext h_c
              replace o_A := o_A.ext h_c
              replace o_B := o_B.ext h_c
              replace E := E.trans h_c
              clear h_c
              obtain ⟨u_27, hwc⟩ : ∃ u, u = wc := ⟨_, rfl⟩
              subst hwc
              clear o_A o_B
              cases ok
              ·
                go_wp2_with fail
                go_ret
                exact ⟨rfl, E⟩
              ·
                have hwp := word_par H_ok.out.symm
                have hib := invI_bd PL
                rw [← HPL.out] at hwp
                obtain ⟨iv, hiv⟩ : ∃ x, x = invI PL := ⟨_, rfl⟩
                rw [← hiv] at hwp hib
                have HIV := Lib.hid hiv
                have g1 : iv ≤ (W.length : Int) := hwp.1
                have w1 : IntKind.i64.wrap ((W.length : Int) - iv) = (W.length : Int) - iv := IntWalk.i64_in _ (by omega)
                have w2 : ((W.length : Int) - iv).tmod 2 = 0 := by rw [Int.tmod_eq_emod_of_nonneg (by omega)]; exact hwp.2
                clear hiv hwp
                go_wp2_with fail
                refine (spec_CountInversions_ok _ PL _ o_P.si wpb).mono ?_
                rintro e u_28 ⟨rfl, h_28⟩
                replace h_28 : Ext u_27 u_28 := h_28.ext
                replace o_P := o_P.ext h_28
                replace E := E.trans h_28
                clear h_28
                rw [← HIV.out]
                go_wp2_with fail
                refine (spec_CountInversions_ok _ PL _ o_P.si wpb).mono ?_
                rintro e u_29 ⟨rfl, h_29⟩
                replace h_29 : Ext u_28 u_29 := h_29.ext
                replace o_P := o_P.ext h_29
                replace E := E.trans h_29
                clear h_29
                rw [← HIV.out]
                go_wp2_with fail
                go_ret
                exact ⟨rfl, E⟩
end Go.Proofs.Ytmnbdphfoonleaa
