/- joinParts and JoinParts, the program's and the reference's. Conditions: permutations, none empty, at most 8 numbers together. -/
import Derived.Test.YtcifngcmdiokpaaJnw
namespace Go.Proofs.Ytcifngcmdiokpaa
open Go.RowKit

def fitB4 (p q : List Int) : Bool := isP8 p && isP8 q && decide (p.length + q.length ≤ 8)
set_option maxHeartbeats 1000000 in
theorem l4Fit_ok (v v2 : Value) (p q : List Int) (w : World) (h : SI w v p) (h2 : SI w v2 q) (hl : p.length ≤ 1000000000) (hl2 : q.length ≤ 1000000000) :
    Calls Try.prog 110 #[v, v2] w fun e w' => e = .returned (.bool (fitB4 p q)) ∧ Qt w w' := by
  obtain ⟨a, cap, rfl, -⟩ := h.elim
  obtain ⟨a2, cap2, rfl, -⟩ := h2.elim
  cases h1 : isP8 p
  · have H1 := Lib.hid h1
    have e0 : Hid (fitB4 p q = false) := by show _ = _; simp [fitB4, h1]
    clear h1
    go_enter Try.func110, Try.ntmps110
    go_wp2_with fail
    refine (spec_IsPerm_qt _ p _ h hl).mono ?_
    rintro e w1 ⟨rfl, hq1⟩
    rw [H1.out]
    go_wp2_with fail
    go_ret
    exact ⟨by rw [e0.out]; rfl, hq1⟩
  · have H1 := Lib.hid h1
    cases h3 : isP8 q
    · have H3 := Lib.hid h3
      have e0 : Hid (fitB4 p q = false) := by show _ = _; simp [fitB4, h3]
      clear h1 h3
      go_enter Try.func110, Try.ntmps110
      go_wp2_with fail
      refine (spec_IsPerm_qt _ p _ h hl).mono ?_
      rintro e w1 ⟨rfl, hq1⟩
      rw [H1.out]
      go_wp2_with fail
      refine (spec_IsPerm_qt _ q _ (h2.ext hq1.ext) hl2).mono ?_
      rintro e w2 ⟨rfl, hq2⟩
      rw [H3.out]
      go_wp2_with fail
      go_ret
      exact ⟨by rw [e0.out]; rfl, hq1.trans hq2⟩
    · have H3 := Lib.hid h3
      have e0 : Hid (fitB4 p q = decide (p.length + q.length ≤ 8)) := by show _ = _; simp [fitB4, h1, h3]
      clear h1 h3
      by_cases h8 : p.length + q.length ≤ 8
      · have h8I : (p.length : Int) + (q.length : Int) ≤ 8 := by omega
        have hd := Lib.hid (decide_eq_true h8)
        go_enter Try.func110, Try.ntmps110
        go_wp2_with fail
        refine (spec_IsPerm_qt _ p _ h hl).mono ?_
        rintro e w1 ⟨rfl, hq1⟩
        rw [H1.out]
        go_wp2_with fail
        refine (spec_IsPerm_qt _ q _ (h2.ext hq1.ext) hl2).mono ?_
        rintro e w2 ⟨rfl, hq2⟩
        rw [H3.out]
        go_wp2_with fail
        go_ret
        exact ⟨by rw [e0.out, hd.out]; first | (simp; done) | (simp; omega), hq1.trans hq2⟩
      · have h8I : ¬ (p.length : Int) + (q.length : Int) ≤ 8 := by omega
        have hd := Lib.hid (decide_eq_false h8)
        go_enter Try.func110, Try.ntmps110
        go_wp2_with fail
        refine (spec_IsPerm_qt _ p _ h hl).mono ?_
        rintro e w1 ⟨rfl, hq1⟩
        rw [H1.out]
        go_wp2_with fail
        refine (spec_IsPerm_qt _ q _ (h2.ext hq1.ext) hl2).mono ?_
        rintro e w2 ⟨rfl, hq2⟩
        rw [H3.out]
        go_wp2_with fail
        go_ret
        exact ⟨by rw [e0.out, hd.out]; first | (simp; done) | (simp; omega), hq1.trans hq2⟩
/-- rows, none nil, in the cells from (b, off) on. -/
def NR (w : World) (b off : Nat) (L : List (List Int)) : Prop := ∀ i, i < L.length → ∃ ad c, w.cell? ⟨b, off + i, none⟩ = some (.slice (some ad) (nthL L i).length c) ∧ SI w (.slice (some ad) (nthL L i).length c) (nthL L i)
theorem NR.ext {w w' : World} {b off : Nat} {L : List (List Int)} (h : NR w b off L) (hu : Ext w w') : NR w' b off L := fun i hi => by
  obtain ⟨ad, c, h1, h2⟩ := h i hi
  exact ⟨ad, c, hu.cell h1, h2.ext hu⟩
/-- permutations, none empty, short together. -/
structure PL (L : List (List Int)) : Prop where
  isP : ∀ l ∈ L, IsP l
  pos : ∀ l ∈ L, 0 < l.length
  len : lenS L ≤ 8
theorem lenS_take (L : List (List Int)) (k : Nat) : lenS (L.take k) ≤ lenS L := by
  have h : lenS (L.take k) + lenS (L.drop k) = lenS L := by rw [← lenS_append, List.take_append_drop]
  omega
theorem lenS_mem {L : List (List Int)} {l : List Int} (h : l ∈ L) : l.length ≤ lenS L := by
  obtain ⟨s, t, rfl⟩ := List.append_of_mem h
  rw [lenS_append]
  have : lenS (l :: t) = l.length + lenS t := by simp [lenS]
  omega
theorem PL.take {L : List (List Int)} (h : PL L) (k : Nat) : PL (L.take k) := ⟨fun l hl => h.isP l (List.mem_of_mem_take hl), fun l hl => h.pos l (List.mem_of_mem_take hl), Nat.le_trans (lenS_take L k) h.len⟩
theorem PL.drop {L : List (List Int)} (h : PL L) (k : Nat) : PL (L.drop k) := ⟨fun l hl => h.isP l (List.mem_of_mem_drop hl), fun l hl => h.pos l (List.mem_of_mem_drop hl), by
  have h1 : lenS (L.take k) + lenS (L.drop k) = lenS L := by rw [← lenS_append, List.take_append_drop]
  have := h.len; omega⟩
theorem PL.len_le {L : List (List Int)} (h : PL L) : L.length ≤ 8 := by
  have h1 : ∀ (M : List (List Int)), (∀ l ∈ M, 0 < l.length) → M.length ≤ lenS M := by
    intro M
    induction M with
    | nil => intro _; simp
    | cons a M ih =>
      intro hM
      have e : lenS (a :: M) = a.length + lenS M := by simp [lenS]
      have := hM a (by simp)
      have := ih (fun l hl => hM l (List.mem_cons_of_mem _ hl))
      rw [e, List.length_cons]; omega
  have := h1 L h.pos
  have := h.len; omega
theorem PL.one {L : List (List Int)} (h : PL L) {k : Nat} (hk : k < L.length) : IsP (nthL L k) ∧ 0 < (nthL L k).length ∧ (nthL L k).length ≤ 8 := by
  have hm := nthL_mem hk
  have := lenS_mem hm
  have := h.len
  exact ⟨h.isP _ hm, h.pos _ hm, by omega⟩
theorem PL.join {L : List (List Int)} (h : PL L) (sk : Bool) : IsP (joinAll sk L) ∧ (joinAll sk L).length ≤ 8 := ⟨joinAll_isP h.isP, by rw [joinAll_len h.isP]; exact h.len⟩
theorem IsP.small {p : List Int} (h : IsP p) (h8 : p.length ≤ 8) : ∀ x ∈ p, 1 ≤ x ∧ x ≤ 8 := fun x hx => by have := h.1 x hx; omega
theorem IsP.p8 {p : List Int} (h : IsP p) (h8 : p.length ≤ 8) : isP8 p = true := isP8_iff.2 ⟨h8, h⟩
theorem joinAll_take {sk : Bool} {L : List (List Int)} {k : Nat} (hk : k < L.length) : joinAll sk (L.take (k + 1)) = joinG sk (joinAll sk (L.take k)) (nthL L k) := by rw [take_nthL hk, joinAll_snoc]
set_option maxHeartbeats 2000000 in
theorem joinParts_ok (sk : Bool) (b off n c : Nat) (L : List (List Int)) (w : World) (h : NR w b off L) (hn : n = L.length) (hL : PL L) :
    Calls Try.prog 94 #[.slice (some ⟨b, off, none⟩) n c, .bool sk] w fun e w' => ∃ b' c', e = .returned (.slice (some ⟨b', 0, none⟩) (joinAll sk L).length c') ∧ w.heap.size ≤ b' ∧ Row 3 w' b' c' (vals (joinAll sk L)) ∧ Ext w w' := by
  subst hn
  have HNR := Lib.hid h
  have HL := Lib.hid hL
  have hlen := hL.len_le
  have hr0 : Hid (Row 3 (w.alloc (.cells #[] 3)) w.heap.size 0 (vals (joinAll sk (L.take 0)))) := Row.new 3 w [] (by simp)
  have hA : Ext w (w.alloc (.cells #[] 3)) := Upd.alloc _ _ _
  have HE0 := Lib.hid hA
  clear h hL hA
  go_enter Try.func94, Try.ntmps94
  go_wp2_with fail
  go_loopw [5, 11] (fun o i wr => ∃ k : Nat, k ≤ L.length ∧ i = .int .i64 k ∧ (∃ bo co m, o = .slice (some ⟨bo, 0, none⟩) m co ∧ Hid (m = (joinAll sk (L.take k)).length) ∧ Hid (Row 3 wr bo co (vals (joinAll sk (L.take k)))) ∧ w.heap.size ≤ bo) ∧ Hid (Ext w wr)) (fun _ i _ => L.length - (intOf i).toNat)
  case atStart => exact ⟨0, Nat.zero_le _, rfl, ⟨_, 0, 0, rfl, Lib.hid rfl, hr0, Nat.le_refl _⟩, HE0⟩
  case round =>
    obtain ⟨k, hk, rfl, ⟨bo, co, m, rfl, hm, hr, hbo⟩, he⟩ := hrel
    clear HE0 hr0
    by_cases hlt : k < L.length
    · obtain ⟨ad, cr, hcell, hsi⟩ := (HNR.out.ext he.out) k hlt
      obtain ⟨q1, q2, q3⟩ := HL.out.one hlt
      obtain ⟨p1, p2⟩ := (HL.out.take k).join sk
      have hsp := hr.out.si
      have HT := Lib.hid (joinAll_take (sk := sk) hlt)
      obtain ⟨P, hP⟩ : ∃ P, P = joinAll sk (L.take k) := ⟨_, rfl⟩
      obtain ⟨q, hq⟩ : ∃ q, q = nthL L k := ⟨_, rfl⟩
      rw [← hP] at p1 p2 hsp HT hm
      rw [← hq] at q1 q2 q3 hcell hsi HT
      have hs := sum_ok sk ⟨bo, 0, none⟩ ad co cr P q wr hsp hsi p2 q3 (p1.small p2) (q1.small q3) q2
      rw [← hm.out] at hs
      have HS := Lib.hid hs
      have hwz := he.out.size
      clear hs hsp hsi hP hq p1 q1
      go_wp2_with fail
      refine HS.out.mono ?_
      rintro e w3 ⟨b3, c3, rfl, hb3, hr3, he3⟩
      rw [← HT.out] at hr3 ⊢
      have HR3 := Lib.hid hr3
      have HE3 := Lib.hid (he.out.trans he3)
      clear hr3 he3
      go_wp2_with fail
      go_roundw
      case rel => exact ⟨k + 1, by omega, by go_num, ⟨b3, c3, _, rfl, Lib.hid rfl, HR3, by omega⟩, HE3⟩
      case measure => simp [intOf]; omega
    · obtain rfl : k = L.length := by omega
      rw [take_all (Nat.le_refl _)] at hr hm
      go_wp2_with fail
      go_ret
      exact ⟨bo, co, by rw [← hm.out]; rfl, hbo, hr.out, he.out⟩
set_option maxHeartbeats 2000000 in
theorem specJoin_ok (sk : Bool) (b off n c : Nat) (L : List (List Int)) (w : World) (h : NR w b off L) (hn : n = L.length) (hL : PL L) :
    Calls Try.prog 107 #[.slice (some ⟨b, off, none⟩) n c, .bool sk] w fun e w' => ∃ b' c', e = .returned (.tuple #[.slice (some ⟨b', 0, none⟩) (joinAll sk L).length c', .bool true]) ∧ w.heap.size ≤ b' ∧ Row 3 w' b' c' (vals (joinAll sk L)) ∧ Ext w w' := by
  subst hn
  have HNR := Lib.hid h
  have HL := Lib.hid hL
  have hlen := hL.len_le
  have hr0 : Hid (Row 3 (w.alloc (.cells #[] 3)) w.heap.size 0 (vals (joinAll sk (L.take 0)))) := Row.new 3 w [] (by simp)
  have hA : Ext w (w.alloc (.cells #[] 3)) := Upd.alloc _ _ _
  have HE0 := Lib.hid hA
  clear h hL hA
  go_enter Try.func107, Try.ntmps107
  go_wp2_with fail
  go_loopw [6, 7] (fun o i wr => ∃ k : Nat, k ≤ L.length ∧ i = .int .i64 k ∧ (∃ bo co m, o = .slice (some ⟨bo, 0, none⟩) m co ∧ Hid (m = (joinAll sk (L.take k)).length) ∧ Hid (Row 3 wr bo co (vals (joinAll sk (L.take k)))) ∧ w.heap.size ≤ bo) ∧ Hid (Ext w wr)) (fun _ i _ => L.length - (intOf i).toNat)
  case atStart => exact ⟨0, Nat.zero_le _, rfl, ⟨_, 0, 0, rfl, Lib.hid rfl, hr0, Nat.le_refl _⟩, HE0⟩
  case round =>
    obtain ⟨k, hk, rfl, ⟨bo, co, m, rfl, hm, hr, hbo⟩, he⟩ := hrel
    clear HE0 hr0
    by_cases hlt : k < L.length
    · obtain ⟨ad, cr, hcell, hsi⟩ := (HNR.out.ext he.out) k hlt
      obtain ⟨q1, q2, q3⟩ := HL.out.one hlt
      obtain ⟨p1, p2⟩ := (HL.out.take k).join sk
      have hsp := hr.out.si
      have HT := Lib.hid (joinAll_take (sk := sk) hlt)
      have hfl : (joinAll sk (L.take k)).length + (nthL L k).length ≤ 8 := by
        have h1 := ((HL.out.take (k + 1)).join sk).2
        rw [joinAll_take hlt, joinG_len] at h1; exact h1
      obtain ⟨P, hP⟩ : ∃ P, P = joinAll sk (L.take k) := ⟨_, rfl⟩
      obtain ⟨q, hq⟩ : ∃ q, q = nthL L k := ⟨_, rfl⟩
      rw [← hP] at p1 p2 hsp HT hm hfl
      rw [← hq] at q1 q2 q3 hcell hsi HT hfl
      rw [← hm.out] at hsp
      have HF : Hid (fitB4 P q = true) := by show _ = _; unfold fitB4; rw [p1.p8 p2, q1.p8 q3, decide_eq_true hfl]; rfl
      have HSP := Lib.hid hsp
      have HSI := Lib.hid hsi
      have HP1 := Lib.hid (p1.small p2)
      have HQ1 := Lib.hid (q1.small q3)
      have hwz := he.out.size
      clear hsp hsi hP hq p1 q1 hfl
      go_wp2_with fail
      refine (l4Fit_ok _ _ P q _ HSP.out HSI.out (by omega) (by omega)).mono ?_
      rintro e w2 ⟨rfl, q2'⟩
      rw [HF.out]
      have hcell2 := q2'.ext.cell hcell id
      have HSP2 := Lib.hid (HSP.out.ext q2'.ext)
      have HSI2 := Lib.hid (HSI.out.ext q2'.ext)
      have HE2 := Lib.hid (he.out.trans q2'.ext)
      have hwz2 := HE2.out.size
      clear q2' hcell
      go_wp2_with fail
      refine (l4JoinG_ok sk _ _ P q _ HSP2.out HSI2.out p2 q3 HP1.out HQ1.out).mono ?_
      rintro e w3 ⟨b3, c3, rfl, hb3, hr3, he3⟩
      rw [← HT.out] at hr3 ⊢
      have HR3 := Lib.hid hr3
      have HE3 := Lib.hid (HE2.out.trans he3)
      clear hr3 he3
      go_wp2_with fail
      go_roundw
      case rel => exact ⟨k + 1, by omega, by go_num, ⟨b3, c3, _, rfl, Lib.hid rfl, HR3, by omega⟩, HE3⟩
      case measure => simp [intOf]; omega
    · obtain rfl : k = L.length := by omega
      rw [take_all (Nat.le_refl _)] at hr hm
      go_wp2_with fail
      go_ret2
      exact ⟨bo, co, by rw [← hm.out]; rfl, hbo, hr.out, he.out⟩
end Go.Proofs.Ytcifngcmdiokpaa
