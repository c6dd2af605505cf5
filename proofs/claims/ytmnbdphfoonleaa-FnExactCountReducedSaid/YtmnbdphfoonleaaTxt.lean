/- The text of a permutation: the contracts of the two PermText. Conditions: a permutation of 1 to 8 numbers. -/
import Derived.Test.YtmnbdphfoonleaaCov
import Derived.Laws.BytesArg
namespace Go.Proofs.Ytmnbdphfoonleaa
open Go.RowKit

/-- the digits. -/
def txN (p : List Int) : List Int := p.map fun v => 48 + v
def txt (p : List Int) : ByteArray := strOfNums (txN p)
def u8s (xs : List Int) : List Value := xs.map (Value.int .u8)
theorem txN_len (p : List Int) : (txN p).length = p.length := by simp [txN]
theorem txt_nil : txt [] = ⟨#[]⟩ := by simp [txt, txN, strOfNums]
theorem txt_take {p : List Int} {k : Nat} (h : k < p.length) : txt (p.take k) ++ strOfNums [48 + nth p k] = txt (p.take (k + 1)) := by
  rw [List.take_succ_eq_append_getElem h]
  have : p[k] = nth p k := by simp [nth, List.getD, h]
  rw [this]
  apply ByteArray.ext
  simp [txt, txN, strOfNums, ByteArray.data_append]
theorem txN_take {p : List Int} {k : Nat} (h : k < p.length) : txN (p.take k) ++ [48 + nth p k] = txN (p.take (k + 1)) := by
  rw [List.take_succ_eq_append_getElem h]
  have : p[k] = nth p k := by simp [nth, List.getD, h]
  simp [txN, this]
theorem txt_inj {p q : List Int} (hp : ∀ x ∈ p, 1 ≤ x ∧ x ≤ 8) (hq : ∀ x ∈ q, 1 ≤ x ∧ x ≤ 8) (h : txt p = txt q) : p = q := by
  have h2 := congrArg (fun s : ByteArray => s.data.toList) h
  simp only [txt, strOfNums_data] at h2
  have key : ∀ r : List Int, (∀ x ∈ r, 1 ≤ x ∧ x ≤ 8) → ((txN r).map fun n => UInt8.ofNat n.toNat).map (fun b => (b.toNat : Int) - 48) = r := by
    intro r hr
    rw [List.map_map, txN, List.map_map]
    conv => rhs; rw [← List.map_id r]
    refine List.map_congr_left fun x hx => ?_
    have := hr x hx
    simp only [Function.comp, id]
    rw [UInt8.toNat_ofNat']
    omega
  rw [← key p hp, ← key q hq, h2]
theorem txN_u8 {p : List Int} (hp : ∀ x ∈ p, 1 ≤ x ∧ x ≤ 8) : ∀ x ∈ txN p, 0 ≤ x ∧ x ≤ 255 := by
  intro x hx
  simp only [txN, List.mem_map] at hx
  obtain ⟨v, hv, rfl⟩ := hx
  have := hp v hv; omega

theorem Try.infoByte : (Try.prog.info? 5).map (fun i => (i.zero, i.size, i.bytes)) = some (some (.int .u8 0), 1, 1) := by kernel_rfl
theorem info_byte : ∃ i, Try.prog.info? 5 = some i ∧ i.zero = some (.int .u8 0) ∧ i.size = 1 ∧ i.bytes = 1 := by
  have h := Try.infoByte
  cases hi : Try.prog.info? 5 with
  | none => rw [hi] at h; simp at h
  | some i => rw [hi] at h; simp at h; exact ⟨i, rfl, h.1, h.2.1, h.2.2⟩
/-- 'out = append(out, x)', x a byte. -/
theorem wpl_app1u {w : World} {ops : Array Oper} {rest : List Oper} {o : Oper} {a : Act} {Q : Exit → Act → World → Prop} (hgd : o.guard = none) (s x : Operand)
    (ho : o.op = .call { callee := .builtin .append, args := #[s, x], argTypes := #[22, 22] })
    (b cap n : Nat) (xs : List Int) (y : Int) (hs : a.eval s = .slice (some ⟨b, 0, none⟩) n cap) (hr : Row 5 w b cap (u8s xs)) (hn : n = xs.length)
    (hx : a.eval x = .slice (some ⟨w.heap.size, 0, none⟩) 1 1) (hb : xs.length ≤ 1000000000)
    (h : ∀ b' cap' w', Row 5 w' b' cap' (u8s (xs ++ [y])) → (b' = b ∨ w.heap.size < b') → Upd (· = b) w w' → wpList Try.prog ops Q rest (a.put o.dst (.slice (some ⟨b', 0, none⟩) (n + 1) cap')) w') :
    wpList Try.prog ops Q (o :: rest) a (w.alloc (.cells #[.int .u8 y] 5)) := by
  obtain ⟨i, hi, hz, hs1, hby⟩ := info_byte
  refine wpl_app hgd s x 22 ho 5 i (.int .u8 0) Try.underlying22 hi hz hs1 rfl b cap n (u8s xs) hs (hr.upd (Upd.alloc w _ (fun _ => False)) id) (by simpa [u8s] using hn) ⟨w.heap.size, 0, none⟩ 1 1 [.int .u8 y] hx rfl ?_ ?_ ?_ ?_ ?_
  · intro j u hj
    cases j with
    | zero => simp at hj; subst hj; exact World.cell?_alloc_at _ _ _ _ rfl
    | succ j => simp at hj
  · intro u hu; simp at hu; subst hu; rfl
  · rw [hby]; omega
  · unfold maxLen; omega
  · intro b' cap' w' h1 h2 h3
    refine h b' cap' w' (by simpa [u8s] using h1) ?_ ?_
    · rcases h2 with h2 | h2
      · exact .inl h2
      · simp at h2; exact .inr (by omega)
    · exact (Upd.alloc w _ _).trans h3
theorem u8s_cell {w : World} {b cap : Nat} {xs : List Int} (h : Row 5 w b cap (u8s xs)) (i : Nat) (hi : i < xs.length) : w.cell? ⟨b, 0 + i, none⟩ = some (.int .u8 (xs.getD i 0)) := by
  rw [Nat.zero_add]
  exact h.cell (by simp [u8s, List.getD, List.getElem?_eq_getElem hi])

theorem impl_PermText_ok (v : Value) (p : List Int) (w : World) (h : SI w v p) (hp : IsP p) (h1 : 1 ≤ p.length) (h8 : p.length ≤ 8) :
    Calls Try.prog 114 #[v] w fun e w' => e = .returned (.string (txt p)) ∧ Ext w w' := by
  have hin : ∀ k, k < p.length → 1 ≤ nth p k ∧ nth p k ≤ 8 := fun k hk => by
    have := hp.1 _ (nth_mem hk); omega
  have HIN := Lib.hid hin
  have hP := Lib.hid (isP8_iff.2 ⟨h8, hp⟩)
  have h00 := h
  obtain ⟨a, cap, rfl, hri⟩ := h00.elim
  have hs0 := Lib.hid h
  have HRI := Lib.hid hri
  have h0 : ((p.length : Int) == 0) = false := by simp; intro e; simp [e] at h1
  clear hp hin h h00 hri
  go_enter Try.func114, Try.ntmps114
  go_wp2_with fail
  refine (impl_IsPerm_ok _ p _ hs0.out).mono ?_
  rintro e w1 ⟨rfl, q1⟩
  rw [hP.out]
  have hq1 := Lib.hid q1
  have hA : Ext w1 (w1.alloc (.cells #[] 5)) := Upd.alloc _ _ _
  have hs1 := Lib.hid ((hs0.out.ext hq1.out).ext hA)
  have hE1 := Lib.hid (hq1.out.trans hA)
  have hr1 := Lib.hid (Row.new 5 w1 [] (by simp))
  clear q1 hA
  go_wp2_with fail
  go_loopw [3, 15] (fun o i wr => ∃ k : Nat, k ≤ p.length ∧ i = .int .i64 k ∧ (∃ b c, o = .slice (some ⟨b, 0, none⟩) k c ∧ Hid (Row 5 wr b c (u8s (txN (p.take k))))  ∧ w.heap.size ≤ b) ∧ Hid (Ext w wr)) (fun _ i _ => p.length - (intOf i).toNat)
  case atStart => exact ⟨0, Nat.zero_le _, rfl, ⟨_, 0, rfl, by simpa [u8s, txN] using hr1, hq1.out.size⟩, hE1⟩
  case round =>
    obtain ⟨k, hk, rfl, ⟨b, c, rfl, hr, hb⟩, he⟩ := hrel
    clear hE1 hr1
    by_cases hlt : k < p.length
    · obtain ⟨b1, off1, rfl, hc⟩ := (HRI.out.ext he.out).get hlt
      have hcell := hc k hlt
      have hv := HIN.out k hlt
      obtain ⟨x, hx⟩ : ∃ x, x = nth p k := ⟨_, rfl⟩
      have HX := Lib.hid hx
      rw [← hx] at hcell hv
      have w1x : IntKind.i64.wrap (48 + x) = 48 + x := IntWalk.i64_in _ (by omega)
      have w2x : IntKind.u8.wrap (48 + x) = 48 + x := IntWalk.u8_in _ (by omega)
      have HT := Lib.hid (txN_take hlt)
      have hl : Hid (k = (txN (p.take k)).length) := by show _ = _; rw [txN_len, List.length_take]; omega
      have hlb : (txN (p.take k)).length ≤ 1000000000 := by rw [← hl.out]; omega
      clear hx hc
      go_wp2_with (first | (at_builtin; go_loud (refine wpl_app1u rfl (.tmp 19) (.tmp 23) rfl b c k _ (48 + x) rfl hr.out hl.out rfl hlb ?_); intro b8 c8 w8 hr8 hb8 hu8))
      rw [HX.out, HT.out] at hr8
      have HR8 := Lib.hid hr8
      have HE8 := Lib.hid (he.out.upd1 hu8 hb)
      have hb9 : w.heap.size ≤ b8 := by have := he.out.size; rcases hb8 with e | e <;> omega
      clear hr8 hu8 hb8
      go_roundw
      case rel => exact ⟨k + 1, by omega, by go_num, ⟨b8, c8, rfl, HR8, hb9⟩, HE8⟩
      case measure => simp [intOf]; omega
    · obtain rfl : k = p.length := by omega
      rw [List.take_length] at hr
      have hcv := run_convert_bytes_arg (P := Try.prog) wr 22 5 Try.underlying22 Try.underlying5 b 0 p.length c (txN p) (txN_len p) (fun i hi => u8s_cell hr.out i (by rw [txN_len]; exact hi)) 9 Try.underlying9
      go_wp2_with fail
      go_ret
      exact ⟨rfl, he.out⟩

set_option maxRecDepth 100000 in
theorem FormatInt_ok (x : Int) (w : World) (h1 : 1 ≤ x) (h8 : x ≤ 8) :
    Calls Try.prog 134 #[.int .i64 x] w fun e w' => e = .returned (.string (strOfNums [48 + x])) ∧ Ext w w' := by
  have w1x : IntKind.i64.wrap (48 + x) = 48 + x := IntWalk.i64_in _ (by omega)
  have w2x : IntKind.u8.wrap (48 + x) = 48 + x := IntWalk.u8_in _ (by omega)
  have w3x : x.tmod 10 = x := Int.tmod_eq_of_lt (by omega) (by omega)
  have w4x : x.tdiv 10 = 0 := Int.tdiv_eq_zero_of_lt (by omega) (by omega)
  have w5x : (x == 0) = false := by simp; omega
  have w6x : decide (x < 0) = false := decide_eq_false (by omega)
  have w7x : IntKind.i64.wrap x = x := IntWalk.i64_in _ (by omega)
  have HE : Hid (strOfNums [48 + x] ++ (⟨#[]⟩ : ByteArray) = strOfNums [48 + x]) := by
    show _ = _; apply ByteArray.ext; simp [strOfNums, ByteArray.data_append]
  have hE0 : Ext w w := Ext.refl _
  have HE0 := Lib.hid hE0
  clear hE0
  go_enter Try.func134, Try.ntmps134
  go_wp2_with fail
  go_loopw [0, 4] (fun n s wr => ((n = .int .i64 x ∧ s = .string ⟨#[]⟩) ∨ (n = .int .i64 0 ∧ s = .string (strOfNums [48 + x]))) ∧ Hid (Ext w wr)) (fun n _ _ => (intOf n).toNat)
  case atStart => exact ⟨.inl ⟨rfl, rfl⟩, HE0⟩
  case round =>
    obtain ⟨⟨rfl, rfl⟩ | ⟨rfl, rfl⟩, he⟩ := hrel
    · have hA : Ext wr (wr.alloc (.cells #[.int .u8 (48 + x)] 5)) := Upd.alloc _ _ _
      have HA := Lib.hid (he.out.trans hA)
      have hr1 := Row.new 5 wr (u8s [48 + x]) (by simp [u8s, maxLen])
      have hcv := run_convert_bytes_arg (P := Try.prog) _ 22 5 Try.underlying22 Try.underlying5 wr.heap.size 0 1 1 [48 + x] rfl (fun i hi => u8s_cell hr1 i hi) 9 Try.underlying9
      simp only [u8s, List.map_cons, List.map_nil] at hcv
      have hsz1 : (strOfNums [48 + x]).size ≤ 1 := by rw [strOfNums_size]; simp
      clear hA hr1
      go_wp2_with fail
      go_roundw
      case rel => exact ⟨.inr ⟨by go_num, by rw [HE.out]⟩, HA⟩
      case measure => simp [intOf]; omega
    · go_wp2_with fail
      go_ret
      exact ⟨rfl, he.out⟩
theorem spec_PermText_ok (v : Value) (p : List Int) (w : World) (h : SI w v p) (hp : IsP p) (h1 : 1 ≤ p.length) (h8 : p.length ≤ 8) :
    Calls Try.prog 115 #[v] w fun e w' => e = .returned (.string (txt p)) ∧ Ext w w' := by
  have hin : ∀ k, k < p.length → 1 ≤ nth p k ∧ nth p k ≤ 8 := fun k hk => by
    have := hp.1 _ (nth_mem hk); omega
  have HIN := Lib.hid hin
  have hP := Lib.hid (isP8_iff.2 ⟨h8, hp⟩)
  have h00 := h
  obtain ⟨a, cap, rfl, hri⟩ := h00.elim
  have hs0 := Lib.hid h
  have HRI := Lib.hid hri
  have h0 : ((p.length : Int) == 0) = false := by simp; intro e; simp [e] at h1
  clear hp hin h h00 hri
  go_enter Try.func115, Try.ntmps115
  go_wp2_with fail
  refine (spec_IsPerm_qt _ p _ hs0.out (by omega)).mono ?_
  rintro e w1 ⟨rfl, q1⟩
  rw [hP.out]
  have hE1 := Lib.hid q1.ext
  clear q1
  go_wp2_with fail
  go_loopw [3, 4] (fun o i wr => ∃ k : Nat, k ≤ p.length ∧ i = .int .i64 k ∧ (∃ s, o = .string s ∧ Hid (s = txt (p.take k))) ∧ Hid (Ext w wr)) (fun _ i _ => p.length - (intOf i).toNat)
  case atStart => exact ⟨0, Nat.zero_le _, rfl, ⟨_, rfl, txt_nil.symm⟩, hE1⟩
  case round =>
    obtain ⟨k, hk, rfl, ⟨s, rfl, hs⟩, he⟩ := hrel
    clear hE1
    by_cases hlt : k < p.length
    · obtain ⟨b1, off1, rfl, hc⟩ := (HRI.out.ext he.out).get hlt
      have hcell := hc k hlt
      have hv := HIN.out k hlt
      obtain ⟨x, hx⟩ : ∃ x, x = nth p k := ⟨_, rfl⟩
      have HX := Lib.hid hx
      rw [← hx] at hcell hv
      have HT := Lib.hid (txt_take hlt)
      have hsz : s.size ≤ 8 := by rw [hs.out]; simp [txt, strOfNums_size, txN_len]; omega
      have hsz1 : (strOfNums [48 + x]).size ≤ 1 := by rw [strOfNums_size]; simp
      clear hx hc
      go_wp2_with fail
      refine (FormatInt_ok x _ hv.1 hv.2).mono ?_
      rintro e w2 ⟨rfl, h2⟩
      have HE2 := Lib.hid (he.out.trans h2)
      have HS2 : Hid (s ++ strOfNums [48 + x] = txt (p.take (k + 1))) := by show _ = _; rw [hs.out, HX.out]; exact HT.out
      clear h2
      go_wp2_with fail
      trace_state; trace_state
      go_roundw
      case rel => exact ⟨k + 1, by omega, by go_num, ⟨_, rfl, HS2⟩, HE2⟩
      case measure => simp [intOf]; omega
    · obtain rfl : k = p.length := by omega
      rw [List.take_length] at hs
      go_wp2_with fail
      go_ret
      exact ⟨by rw [hs.out]; rfl, he.out⟩
end Go.Proofs.Ytmnbdphfoonleaa
