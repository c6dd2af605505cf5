/- Patterns that are told by texts: the reference's l7Has, and ParsePerm of texts of digits. Conditions: lengths below small bounds. -/
import Derived.Test.YtcifngcmdiokpaaFind
import Derived.Test.YtcifngcmdiokpaaBd
namespace Go.Proofs.Ytcifngcmdiokpaa
open Go.RowKit

theorem pow_small {n f : Nat} (hn : n ≤ 8) (hf : f ≤ 5) : n ^ f ≤ 32768 :=
  Nat.le_trans (Nat.pow_le_pow_left hn f) (Nat.le_trans (Nat.pow_le_pow_right (show 0 < 8 by omega) hf) (by decide))
def occB (p q : List Int) : Bool := haB p q q.length []
set_option maxHeartbeats 1000000 in
theorem l7Has_ok (p q : List Int) (v v2 : Value) (w : World) (hp8 : p.length ≤ 8) (hq5 : q.length ≤ 5) (h : SI w v p) (h2 : SI w v2 q) :
    Calls Try.prog 88 #[v, v2] w fun e w' => e = .returned (.bool (occB p q)) ∧ Ext w w' := by
  obtain ⟨a, cap, rfl, -⟩ := h.elim
  obtain ⟨a2, cap2, rfl, -⟩ := h2.elim
  have hcnt := haB_cnt p q q.length [] (by simp [fromN])
  have hle := Nat.le_trans (cntF_le p q q.length []) (pow_small hp8 hq5)
  have hr1 := Row.new 3 w [] (by simp)
  have hr2 := Row.new 22 (w.alloc (.cells #[] 3)) [] (by simp)
  have he1 : Ext w (w.alloc (.cells #[] 3)) := Upd.alloc _ _ _
  have he2 : Ext (w.alloc (.cells #[] 3)) ((w.alloc (.cells #[] 3)).alloc (.cells #[] 22)) := Upd.alloc _ _ _
  have he := he1.trans he2
  have hs3 := (hr1.ext he2).si (xs := [])
  have hsz : (w.alloc (.cells #[] 3)).heap.size = w.heap.size + 1 := by simp
  rw [hsz] at hr2
  have hcall := l7Find_ok p q hp8 (by omega) q.length _ _ (.slice (some ⟨w.heap.size, 0, none⟩) 0 0) [] (w.heap.size + 1) 0 0 [] _ (h.ext he) (h2.ext he) hs3 (Off.far h (by omega)) (Off.far h2 (by omega)) (.inl rfl) (by simp) (by simp) hr2 rfl (by omega)
  obtain ⟨n, hn⟩ : ∃ n, n = cntF p q q.length [] := ⟨_, rfl⟩
  rw [← hn] at hcnt hle hcall
  have HC := Lib.hid hcall
  have HCN := Lib.hid hcnt
  have HE := Lib.hid he
  clear hcall hcnt he he1 he2 hs3 hr1 hr2 hn
  go_enter Try.func88, Try.ntmps88
  go_wp2_with fail
  refine HC.out.mono ?_
  rintro e w7 ⟨b7, c7, m7, vs7, rfl, hm7, -, -, hu7, -⟩
  have hE7 : Ext w w7 := HE.out.upd1 hu7 (by omega)
  have hres : Hid (occB p q = decide (0 < m7)) := by
    show _ = _; unfold occB; rw [HCN.out, show m7 = n by omega]
  clear hm7
  go_wp2_with fail
  go_ret
  exact ⟨by rw [hres.out]; rfl, hE7⟩
/-- the digits of a text. -/
def digL (T : ByteArray) : List Int := T.data.toList.map fun c => (c.toNat : Int) - 48
theorem digL_len (T : ByteArray) : (digL T).length = T.size := by simp [digL]
theorem digL_nth {T : ByteArray} {k : Nat} (h : k < T.size) : nth (digL T) k = (T[k].toNat : Int) - 48 := by
  rw [nth_get (by rw [digL_len]; exact h)]
  simp [digL]; rfl
theorem digL_succ {T : ByteArray} {k : Nat} (h : k < T.size) : (digL T).take (k + 1) = (digL T).take k ++ [(T[k].toNat : Int) - 48] := by
  rw [take_nth (by rw [digL_len]; exact h), digL_nth h]
set_option maxHeartbeats 1000000 in
theorem impl_ParsePerm_ok (T : ByteArray) (w : World) (h8 : T.size ≤ 8) (hn1 : (T.toList == [45]) = false) (hn2 : (T.toList == []) = false) (hp : isP8 (digL T) = true) :
    Calls Try.prog 51 #[.string T] w fun e w' => ∃ v', e = .returned (.tuple #[v', .bool true]) ∧ OI w.heap.size w'.heap.size w' v' (digL T) ∧ Ext w w' := by
  have hr0 := Row.new 3 w [] (by simp)
  have he0 : Ext w (w.alloc (.cells #[] 3)) := Upd.alloc _ _ _
  have HP := Lib.hid hp
  clear hp
  go_enter Try.func51, Try.ntmps51
  go_wp2_with fail
  go_loopw [4, 12] (fun o i wr => ∃ k : Nat, k ≤ T.size ∧ i = .int .i64 k ∧ (∃ b c m, o = .slice (some ⟨b, 0, none⟩) m c ∧ Hid (m = ((digL T).take k).length) ∧ w.heap.size ≤ b ∧ Row 3 wr b c (vals ((digL T).take k))) ∧ Ext w wr) (fun _ i _ => T.size - (intOf i).toNat)
  case atStart => exact ⟨0, Nat.zero_le _, rfl, ⟨_, 0, 0, rfl, Lib.hid rfl, Nat.le_refl _, hr0⟩, he0⟩
  case round =>
    obtain ⟨k, hk, rfl, ⟨b, c, m, rfl, hm, hb, hr⟩, he⟩ := hrel
    clear hr0 he0
    have hml : Hid (((digL T).take k).length ≤ 8) := by show _ ≤ _; simp; have := digL_len T; omega
    by_cases hlt : k < T.size
    · have hst := Lib.hid (digL_succ hlt)
      have hbyte : T[k].toNat < 256 := T[k].toNat_lt
      have hlt3 := hr.lt
      have HR := Lib.hid hr
      clear hr
      go_wp2_with (at_builtin; refine wpl_app1 rfl _ _ rfl b c m ((digL T).take k) ((T[k].toNat : Int) - 48) rfl HR.out hm.out rfl (by have := hml.out; omega) ?_; intro b6 c6 w6 hr6 hb6 hu6)
      go_roundw
      case rel => exact ⟨k + 1, by omega, by go_num, ⟨b6, c6, m + 1, rfl, Lib.hid (by rw [hst.out, hm.out]; simp), by omega, by rw [hst.out]; exact hr6⟩, he.upd1 hu6 hb⟩
      case measure => simp [intOf]; omega
    · obtain rfl : k = T.size := by omega
      have hall : Hid ((digL T).take T.size = digL T) := by show _ = _; exact take_all (by rw [digL_len]; exact Nat.le_refl _)
      rw [hall.out] at hr hm
      have HR := Lib.hid hr
      have hsi : SI wr (.slice (some ⟨b, 0, none⟩) m c) (digL T) := by rw [hm.out]; exact hr.si
      clear hr
      go_wp2_with fail
      refine (impl_IsPerm_ok _ (digL T) _ hsi).mono ?_
      rintro e w2 ⟨rfl, he2⟩
      rw [HP.out]
      go_wp2_with fail
      go_ret2
      exact ⟨_, rfl, (OI.row (HR.out.ext he2) hb hm.out), he.trans he2⟩
set_option maxHeartbeats 1000000 in
theorem spec_ParsePerm_ok (T : ByteArray) (w : World) (h8 : T.size ≤ 8) (hn1 : (T.toList == [45]) = false) (hn2 : (T.toList == []) = false) (hp : isP8 (digL T) = true) :
    Calls Try.prog 73 #[.string T] w fun e w' => ∃ v', e = .returned (.tuple #[v', .bool true]) ∧ OI w.heap.size w'.heap.size w' v' (digL T) ∧ Ext w w' := by
  have hr0 := Row.new 3 w [] (by simp)
  have he0 : Ext w (w.alloc (.cells #[] 3)) := Upd.alloc _ _ _
  have HP := Lib.hid hp
  clear hp
  go_enter Try.func73, Try.ntmps73
  go_wp2_with fail
  go_loopw [4, 5] (fun o i wr => ∃ k : Nat, k ≤ T.size ∧ i = .int .i64 k ∧ (∃ b c m, o = .slice (some ⟨b, 0, none⟩) m c ∧ Hid (m = ((digL T).take k).length) ∧ w.heap.size ≤ b ∧ Row 3 wr b c (vals ((digL T).take k))) ∧ Ext w wr) (fun _ i _ => T.size - (intOf i).toNat)
  case atStart => exact ⟨0, Nat.zero_le _, rfl, ⟨_, 0, 0, rfl, Lib.hid rfl, Nat.le_refl _, hr0⟩, he0⟩
  case round =>
    obtain ⟨k, hk, rfl, ⟨b, c, m, rfl, hm, hb, hr⟩, he⟩ := hrel
    clear hr0 he0
    have hml : Hid (((digL T).take k).length ≤ 8) := by show _ ≤ _; simp; have := digL_len T; omega
    by_cases hlt : k < T.size
    · have hst := Lib.hid (digL_succ hlt)
      have hbyte : T[k].toNat < 256 := T[k].toNat_lt
      have hlt3 := hr.lt
      have HR := Lib.hid hr
      clear hr
      go_wp2_with (at_builtin; refine wpl_app1 rfl _ _ rfl b c m ((digL T).take k) ((T[k].toNat : Int) - 48) rfl HR.out hm.out rfl (by have := hml.out; omega) ?_; intro b6 c6 w6 hr6 hb6 hu6)
      go_roundw
      case rel => exact ⟨k + 1, by omega, by go_num, ⟨b6, c6, m + 1, rfl, Lib.hid (by rw [hst.out, hm.out]; simp), by omega, by rw [hst.out]; exact hr6⟩, he.upd1 hu6 hb⟩
      case measure => simp [intOf]; omega
    · obtain rfl : k = T.size := by omega
      have hall : Hid ((digL T).take T.size = digL T) := by show _ = _; exact take_all (by rw [digL_len]; exact Nat.le_refl _)
      rw [hall.out] at hr hm
      have HR := Lib.hid hr
      have hsi : SI wr (.slice (some ⟨b, 0, none⟩) m c) (digL T) := by rw [hm.out]; exact hr.si
      have hdl := digL_len T
      clear hr
      go_wp2_with fail
      refine (spec_IsPerm_qt _ (digL T) _ hsi (by omega)).mono ?_
      rintro e w2 ⟨rfl, hq2⟩
      rw [HP.out]
      go_wp2_with fail
      go_ret2
      exact ⟨_, rfl, (OI.row (HR.out.ext hq2.ext) hb hm.out), he.trans hq2.ext⟩
end Go.Proofs.Ytcifngcmdiokpaa
