/- The reference's classes of a basis that is told by a text, the program's search for some patterns. Conditions: small lengths. -/
import Derived.Test.YtcifngcmdiokpaaBas
namespace Go.Proofs.Ytcifngcmdiokpaa
open Go.RowKit

structure TxOK (t : ByteArray) : Prop where
  size : t.size ≤ 5
  n1 : (t.toList == [45]) = false
  n2 : (t.toList == []) = false
  p8 : isP8 (digL t) = true
structure TexOK (T : ByteArray) (Ts : List ByteArray) : Prop where
  spl : (splN T 32 (T.size + 1)).2 = Ts
  ne : (T.toList == []) = false
  small : T.size ≤ 1000
  each : ∀ t ∈ Ts, TxOK t
  bas : BasOK (Ts.map digL)
theorem SS.upd {D : Nat → Prop} {w w' : World} {v : Value} {L : List ByteArray} (h : SS w v L) (hu : Upd D w w') (hD : ∀ b off s n c, v = .slice (some ⟨b, off, s⟩) n c → ¬ D b) : SS w' v L := by
  obtain ⟨b, cap, h1, h2, h3, h4⟩ := h
  exact ⟨b, cap, h1, h2, h3, fun i hi => hu.cell (h4 i hi) (hD b 0 none _ _ h1)⟩
theorem nthT_mem {L : List ByteArray} {k : Nat} (h : k < L.length) : nthT L k ∈ L := by simp [nthT, h]
theorem map_take_succ {Ts : List ByteArray} {k : Nat} (h : k < Ts.length) : (Ts.map digL).take (k + 1) = (Ts.map digL).take k ++ [digL (nthT Ts k)] := by
  rw [take_nthL (by simpa using h)]
  congr 1
  simp [nthL, nthT, h]
set_option maxHeartbeats 1000000 in
theorem parseBasis_ok (T : ByteArray) (Ts : List ByteArray) (w : World) (hT : TexOK T Ts) :
    Calls Try.prog 49 #[.string T] w fun e w' => ∃ v', e = .returned (.tuple #[v', .bool true]) ∧ OII w.heap.size w'.heap.size w' v' (Ts.map digL) ∧ Ext w w' := by
  have hr0 := RR.new w
  have he0 : Ext w (w.alloc (.cells #[] 22)) := Upd.alloc _ _ _
  have hne := hT.ne
  have hsm := hT.small
  have HT := Lib.hid hT
  have hT8 : Ts.length ≤ 8 := by have := hT.bas.len; simpa using this
  clear hT
  go_enter Try.func49, Try.ntmps49
  go_wp2_with fail
  refine (split_ok T _ hsm).mono ?_
  rintro e w1 ⟨b1, c1, n1, rfl, hn1, hb1, hr1, he1⟩
  rw [HT.out.spl] at hr1 hn1
  have hss := hr1.ss
  rw [← hn1] at hss
  have HN1 := Lib.hid hn1
  have hn8 : n1 ≤ 8 := by omega
  have he01 := he0.trans he1
  have hb1ne : b1 ≠ w.heap.size := by simp at hb1; omega
  have hrr1 := (hr0.ext he1).mono (H' := w1.heap.size) (by have := he1.size; simp at this; omega)
  clear hr0 hr1 hn1
  go_wp2_with fail
  go_loopw [4, 6] (fun o i wr => ∃ k : Nat, k ≤ n1 ∧ i = .int .i64 k ∧ (∃ b c m, o = .slice (some ⟨b, 0, none⟩) m c ∧ Hid (m = ((Ts.map digL).take k).length) ∧ RR w.heap.size wr.heap.size wr b c ((Ts.map digL).take k) ∧ (b = w.heap.size ∨ w1.heap.size ≤ b)) ∧ Upd (· = w.heap.size) w1 wr ∧ Ext w wr) (fun _ i _ => n1 - (intOf i).toNat)
  case atStart => exact ⟨0, Nat.zero_le _, rfl, ⟨_, 0, 0, rfl, Lib.hid rfl, hrr1, .inl rfl⟩, Upd.refl _ _, he01⟩
  case round =>
    obtain ⟨k, hk, rfl, ⟨b, c, m, rfl, hm, hr, hbb⟩, hu, he⟩ := hrel
    have hzu := hu.size
    clear hrr1
    by_cases hlt : k < n1
    · obtain ⟨b', cap', hv', -, -, hc⟩ := hss.upd hu (fun b' off s n c e => by injection e with e1; injection e1 with e1; injection e1 with e1; omega)
      obtain rfl : b1 = b' := by injection hv' with e1; injection e1 with e1; injection e1 with e1
      have hck := hc k (by rw [← HN1.out]; exact hlt)
      have hto := HT.out.each _ (nthT_mem (L := Ts) (k := k) (by rw [← HN1.out]; exact hlt))
      have hst := map_take_succ (Ts := Ts) (k := k) (by rw [← HN1.out]; exact hlt)
      obtain ⟨t, ht⟩ : ∃ t, t = nthT Ts k := ⟨_, rfl⟩
      rw [← ht] at hck hto hst
      have HST := Lib.hid hst
      have hml : Hid (((Ts.map digL).take k).length ≤ 8) := by show _ ≤ _; simp; omega
      clear hv' hc ht hst
      have HR := Lib.hid hr
      have hbt := hr.lo
      clear hr
      have hzr := he.size
      go_wp2_with fail
      refine (spec_ParsePerm_ok t _ (by have := hto.size; omega) hto.n1 hto.n2 hto.p8).mono ?_
      rintro e w4 ⟨v4, rfl, ho4, he4⟩
      obtain ⟨p4, c4, rfl⟩ := ho4.shape
      have hz4 := he4.size
      have HR4 := Lib.hid (HR.out.ext he4)
      have ho4' := Lib.hid (ho4.mono hzr (Nat.le_refl _))
      have hfr4 := Lib.hid (fun kb hk => (ho4.own (b := kb) hk).1)
      have hE4 := he.trans he4
      have hU4 := hu.trans (Ext.toUpd he4 (· = w.heap.size))
      clear ho4 hto
      go_wp2_with (at_builtin; go_loud (refine wpl_appRR rfl _ _ rfl w.heap.size wr.heap.size b c m ((Ts.map digL).take k) p4 _ c4 (digL t) rfl HR4.out hm.out ho4'.out hfr4.out hz4 rfl (by have := hml.out; omega) ?_); intro b6 c6 w6 hr6 hb6 hu6)
      go_roundw
      case rel => exact ⟨k + 1, by omega, by go_num, ⟨b6, c6, m + 1, rfl, Lib.hid (by rw [HST.out, hm.out]; simp), by rw [HST.out]; exact hr6, by omega⟩, hU4.comp hu6 (fun _ _ h => h) (fun i hi e => by omega), hE4.upd1 hu6 hbt⟩
      case measure => simp [intOf]; omega
    · obtain rfl : k = n1 := by omega
      have hall : Hid ((Ts.map digL).take k = Ts.map digL) := by show _ = _; exact take_all (by have := HN1.out; simp; omega)
      rw [hall.out] at hr hm
      have hsi := hr.sii hm.out
      have HR := Lib.hid (hr.oii hm.out)
      clear hr
      go_wp2_with fail
      refine (isBasis_ok (Ts.map digL) _ _ hsi HT.out.bas).mono ?_
      rintro e w4 ⟨rfl, he4⟩
      go_wp2_with fail
      go_ret2
      exact ⟨_, rfl, (HR.out.ext he4).mono (Nat.le_refl _) he4.size, he.trans he4⟩
def frB (Ts : List ByteArray) (p : List Int) : Bool := isP8 p && avB (Ts.map digL) p
theorem avB_map_take (Ts : List ByteArray) (p : List Int) {k : Nat} (h : k < Ts.length) : avB ((Ts.take (k + 1)).map digL) p = (avB ((Ts.take k).map digL) p && !occB p (digL (nthT Ts k))) := by
  have e : Ts.take (k + 1) = Ts.take k ++ [nthT Ts k] := by
    rw [List.take_succ_eq_append_getElem h]; simp [nthT, h]
  unfold avB; rw [e, List.map_append, List.all_append]; simp
set_option maxHeartbeats 1000000 in
theorem inClass_ok (L : List (List Int)) (p : List Int) (v v2 : Value) (w : World) (h : SII w v L) (hok : BasOK L) (h2 : SI w v2 p) (hl : p.length ≤ 1048576) :
    Calls Try.prog 50 #[v, v2] w fun e w' => e = .returned (.bool (isP8 p && avB L p)) ∧ Ext w w' := by
  obtain ⟨a, cap, hv, -⟩ := h.get
  subst hv
  obtain ⟨a2, cap2, rfl, -⟩ := h2.elim
  have HOK := Lib.hid hok
  have hL8 := hok.len
  have HL := Lib.hid (show ∀ q ∈ L, q.length ≤ 5 from fun q hq => by
    obtain ⟨k, hk, e⟩ := List.getElem_of_mem hq
    have := (HOK.out.each k hk).2.2
    rw [nthL_get hk, e] at this; exact this)
  clear hok
  cases hp : isP8 p
  · have HP := Lib.hid hp
    clear hp
    go_enter Try.func50, Try.ntmps50
    go_wp2_with (first | (go_at_call 74; refine (isBasis_ok L _ _ h HOK.out).mono ?_; rintro e w1 ⟨rfl, he1⟩) | (go_at_call 32; refine (spec_IsPerm_qt _ p _ (h2.ext he1) (by omega)).mono ?_; rintro e w2 ⟨rfl, hq2⟩; rw [HP.out]))
    go_ret
    exact ⟨rfl, he1.trans hq2.ext⟩
  · have HP := Lib.hid hp
    have hp8 := (isP8_iff.1 hp).1
    clear hp
    obtain ⟨r, hr⟩ : ∃ r, r = avB L p := ⟨_, rfl⟩
    rw [← hr]
    have HR := Lib.hid hr
    clear hr
    go_enter Try.func50, Try.ntmps50
    go_wp2_with (first | (go_at_call 74; refine (isBasis_ok L _ _ h HOK.out).mono ?_; rintro e w1 ⟨rfl, he1⟩) | (go_at_call 32; refine (spec_IsPerm_qt _ p _ (h2.ext he1) (by omega)).mono ?_; rintro e w2 ⟨rfl, hq2⟩; rw [HP.out]) | (go_at_call 75; refine (l12Avoids_ok L p _ _ _ ((h.ext he1).ext hq2.ext) ((h2.ext he1).ext hq2.ext) hp8 hL8 HL.out).mono ?_; rintro e w3 ⟨rfl, he3⟩; rw [← HR.out]))
    go_ret
    exact ⟨by simp, (he1.trans hq2.ext).trans he3⟩
set_option maxHeartbeats 1000000 in
theorem l29Avoids_ok (T : ByteArray) (Ts : List ByteArray) (p : List Int) (v : Value) (w : World) (hT : TexOK T Ts) (h : SI w v p) (hl : p.length ≤ 1048576) :
    Calls Try.prog 30 #[v, .string T] w fun e w' => e = .returned (.bool (frB Ts p)) ∧ Ext w w' := by
  obtain ⟨a, cap, rfl, -⟩ := h.elim
  have HT := Lib.hid hT
  clear hT
  go_enter Try.func30, Try.ntmps30
  go_wp2_with fail
  refine (parseBasis_ok T Ts _ HT.out).mono ?_
  rintro e w1 ⟨v1, rfl, ho1, he1⟩
  have HO1 := Lib.hid ho1.sii
  clear ho1
  go_wp2_with fail
  refine (inClass_ok _ p _ _ _ HO1.out HT.out.bas (h.ext he1) hl).mono ?_
  rintro e w2 ⟨rfl, he2⟩
  go_wp2_with fail
  go_ret
  exact ⟨rfl, he1.trans he2⟩
set_option maxHeartbeats 1000000 in
theorem isFreeOf_ok (Ts : List ByteArray) (p : List Int) (v v2 : Value) (w : World) (h : SI w v p) (h2 : SS w v2 Ts) (hl : Ts.length ≤ 1000) (hT : ∀ t ∈ Ts, TxOK t) :
    Calls Try.prog 31 #[v, v2] w fun e w' => e = .returned (.bool (frB Ts p)) ∧ Ext w w' := by
  obtain ⟨a, cap, rfl, -⟩ := h.elim
  obtain ⟨b, cap2, rfl, h2a, h2b, h2c⟩ := h2
  cases hp : isP8 p
  · have HP := Lib.hid hp
    have e0 : Hid (frB Ts p = false) := by show _ = _; unfold frB; rw [hp]; rfl
    clear hp
    go_enter Try.func31, Try.ntmps31
    go_wp2_with (go_at_call 40; refine (impl_IsPerm_ok _ p _ h).mono ?_; rintro e w1 ⟨rfl, he⟩; rw [HP.out])
    go_ret
    exact ⟨by rw [e0.out]; rfl, he⟩
  · have HP := Lib.hid hp
    have e0 : Hid (frB Ts p = avB (Ts.map digL) p) := by show _ = _; unfold frB; rw [hp]; rfl
    have hp8 := (isP8_iff.1 hp).1
    have HTX := Lib.hid hT
    have H2C := Lib.hid h2c
    obtain ⟨n, hn⟩ : ∃ n, n = Ts.length := ⟨_, rfl⟩
    rw [← hn] at h2a hl
    rw [← hn]
    have HN := Lib.hid hn
    clear hp hT h2c hn
    go_enter Try.func31, Try.ntmps31
    go_wp2_with fail
    refine (impl_IsPerm_ok _ p _ h).mono ?_
    rintro e w1 ⟨rfl, he1⟩
    rw [HP.out]
    go_wp2_with fail
    go_loopw [14] (fun i wr => ∃ k : Nat, k ≤ n ∧ i = .int .i64 k ∧ Hid (avB ((Ts.take k).map digL) p = true) ∧ Ext w wr) (fun i _ => n - (intOf i).toNat)
    case atStart => exact ⟨0, Nat.zero_le _, rfl, Lib.hid rfl, he1⟩
    case round =>
      obtain ⟨k, hk, rfl, hA, he⟩ := hrel
      by_cases hlt : k < n
      · have hck := he.cell (H2C.out k (by rw [← HN.out]; exact hlt))
        have hto := HTX.out _ (nthT_mem (L := Ts) (k := k) (by rw [← HN.out]; exact hlt))
        have hst := avB_map_take Ts p (k := k) (by rw [← HN.out]; exact hlt)
        have hff : occB p (digL (nthT Ts k)) = true → avB (Ts.map digL) p = false := fun hh => avB_false (L := Ts.map digL) (k := k) (by simp; rw [← HN.out]; exact hlt) (by rw [show nthL (Ts.map digL) k = digL (nthT Ts k) by simp [nthL, nthT, show k < Ts.length by rw [← HN.out]; exact hlt]]; exact hh)
        obtain ⟨t, ht⟩ : ∃ t, t = nthT Ts k := ⟨_, rfl⟩
        rw [← ht] at hck hto hst hff
        have hdl := digL_len t
        have hsz := hto.size
        have HDL := Lib.hid hdl
        have HTO := Lib.hid hto
        clear ht hto hdl
        cases hb : occB p (digL t)
        · have hno : Hid (avB ((Ts.take (k + 1)).map digL) p = true) := by show _ = _; rw [hst, hA.out, hb]; rfl
          have HB := Lib.hid hb
          clear hst hff hb
          go_wp2_with fail
          refine (impl_ParsePerm_ok t _ (by omega) HTO.out.n1 HTO.out.n2 HTO.out.p8).mono ?_
          rintro e w4 ⟨v4, rfl, ho4, he4⟩
          obtain ⟨p4, c4, rfl⟩ := ho4.shape
          have hs4 := ho4.si
          have hE4 := he.trans he4
          have HO4 := Lib.hid hs4
          clear ho4 hs4
          go_wp2_with fail
          refine (has_ok p (digL t) hp8 (by have := HDL.out; omega) (digL t).length _ _ _ [] _ (h.ext hE4) HO4.out (SI.nil _) (by simp) (by simp)).mono ?_
          rintro e w5 ⟨rfl, he5⟩
          rw [show haB p (digL t) (digL t).length [] = false from HB.out]
          go_wp2_with fail
          go_roundw
          case rel => exact ⟨k + 1, by omega, by go_num, hno, hE4.trans he5⟩
          case measure => simp [intOf]; omega
        · have hyes : Hid (avB (Ts.map digL) p = false) := by show _ = _; exact hff hb
          have HB := Lib.hid hb
          clear hst hff hb
          go_wp2_with fail
          refine (impl_ParsePerm_ok t _ (by omega) HTO.out.n1 HTO.out.n2 HTO.out.p8).mono ?_
          rintro e w4 ⟨v4, rfl, ho4, he4⟩
          obtain ⟨p4, c4, rfl⟩ := ho4.shape
          have hs4 := ho4.si
          have hE4 := he.trans he4
          have HO4 := Lib.hid hs4
          clear ho4 hs4
          go_wp2_with fail
          refine (has_ok p (digL t) hp8 (by have := HDL.out; omega) (digL t).length _ _ _ [] _ (h.ext hE4) HO4.out (SI.nil _) (by simp) (by simp)).mono ?_
          rintro e w5 ⟨rfl, he5⟩
          rw [show haB p (digL t) (digL t).length [] = true from HB.out]
          go_wp2_with fail
          go_ret
          exact ⟨by rw [e0.out, hyes.out]; rfl, hE4.trans he5⟩
      · obtain rfl : k = n := by omega
        have hall : Hid (avB (Ts.map digL) p = true) := by
          show _ = _
          rw [← hA.out, List.take_of_length_le (by rw [← HN.out]; exact Nat.le_refl _)]
        go_wp2_with fail
        go_ret
        exact ⟨by rw [e0.out, hall.out]; rfl, he⟩
end Go.Proofs.Ytcifngcmdiokpaa
