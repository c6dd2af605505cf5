/- The number of reduced words: the contract of the specification's l27Count over its two tables. Conditions: at most 6 numbers. -/
import Derived.Test.YtmnbdphfoonleaaCrP
import Derived.OwnWalk
namespace Go.Proofs.Ytmnbdphfoonleaa
open Go.RowKit

theorem Try.infoStr : (Try.prog.info? 9).map (fun i => (i.zero, i.size, i.bytes)) = some (some (.string ⟨#[]⟩), 1, 16) := by kernel_rfl
theorem info_str : ∃ i, Try.prog.info? 9 = some i ∧ i.zero = some (.string ⟨#[]⟩) ∧ i.size = 1 ∧ i.bytes = 16 := by
  have h := Try.infoStr
  cases hi : Try.prog.info? 9 with
  | none => rw [hi] at h; simp at h
  | some i => rw [hi] at h; simp at h; exact ⟨i, rfl, h.1, h.2.1, h.2.2⟩
/-- 'append(texts, t)'. -/
theorem wpl_app1s {w : World} {ops : Array Oper} {rest : List Oper} {o : Oper} {a : Act} {Q : Exit → Act → World → Prop} (hgd : o.guard = none) (s x : Operand)
    (ho : o.op = .call { callee := .builtin .append, args := #[s, x], argTypes := #[65, 65] })
    (b cap n : Nat) (L : List Value) (T : ByteArray) (hs : a.eval s = .slice (some ⟨b, 0, none⟩) n cap) (hr : Row 9 w b cap L) (hn : n = L.length)
    (hx : a.eval x = .slice (some ⟨w.heap.size, 0, none⟩) 1 1) (hb : L.length ≤ 1000000000000)
    (h : ∀ b' cap' w', Row 9 w' b' cap' (L ++ [.string T]) → (b' = b ∨ w.heap.size < b') → Upd (· = b) w w' → wpList Try.prog ops Q rest (a.put o.dst (.slice (some ⟨b', 0, none⟩) (n + 1) cap')) w') :
    wpList Try.prog ops Q (o :: rest) a (w.alloc (.cells #[.string T] 9)) := by
  obtain ⟨i, hi, hz, hs1, hby⟩ := info_str
  refine wpl_app hgd s x 65 ho 9 i (.string ⟨#[]⟩) Try.underlying65 hi hz hs1 rfl b cap n L hs (hr.upd (Upd.alloc w _ (fun _ => False)) id) hn ⟨w.heap.size, 0, none⟩ 1 1 [.string T] hx rfl ?_ ?_ ?_ ?_ ?_
  · intro j u hj
    cases j with
    | zero => simp at hj; subst hj; exact World.cell?_alloc_at _ _ _ _ rfl
    | succ j => simp at hj
  · intro u hu; simp at hu; subst hu; rfl
  · rw [hby]; omega
  · unfold maxLen; omega
  · intro b' cap' w' h1 h2 h3
    refine h b' cap' w' h1 ?_ ?_
    · rcases h2 with h2 | h2
      · exact .inl h2
      · simp at h2; exact .inr (by omega)
    · exact (Upd.alloc w _ _).trans h3
/-- 'append(counts, n)', a long list too. -/
theorem wpl_app1c {w : World} {ops : Array Oper} {rest : List Oper} {o : Oper} {a : Act} {Q : Exit → Act → World → Prop} (hgd : o.guard = none) (s x : Operand)
    (ho : o.op = .call { callee := .builtin .append, args := #[s, x], argTypes := #[24, 24] })
    (b cap n : Nat) (L : List Value) (y : Int) (hs : a.eval s = .slice (some ⟨b, 0, none⟩) n cap) (hr : Row 3 w b cap L) (hn : n = L.length)
    (hx : a.eval x = .slice (some ⟨w.heap.size, 0, none⟩) 1 1) (hb : L.length ≤ 1000000000000)
    (h : ∀ b' cap' w', Row 3 w' b' cap' (L ++ [.int .i64 y]) → (b' = b ∨ w.heap.size < b') → Upd (· = b) w w' → wpList Try.prog ops Q rest (a.put o.dst (.slice (some ⟨b', 0, none⟩) (n + 1) cap')) w') :
    wpList Try.prog ops Q (o :: rest) a (w.alloc (.cells #[.int .i64 y] 3)) := by
  obtain ⟨i, hi, hz, hs1, hby⟩ := info_int
  refine wpl_app hgd s x 24 ho 3 i (.int .i64 0) Try.underlying24 hi hz hs1 rfl b cap n L hs (hr.upd (Upd.alloc w _ (fun _ => False)) id) hn ⟨w.heap.size, 0, none⟩ 1 1 [.int .i64 y] hx rfl ?_ ?_ ?_ ?_ ?_
  · intro j u hj
    cases j with
    | zero => simp at hj; subst hj; exact World.cell?_alloc_at _ _ _ _ rfl
    | succ j => simp at hj
  · intro u hu; simp at hu; subst hu; rfl
  · rw [hby]; omega
  · unfold maxLen; omega
  · intro b' cap' w' h1 h2 h3
    refine h b' cap' w' h1 ?_ ?_
    · rcases h2 with h2 | h2
      · exact .inl h2
      · simp at h2; exact .inr (by omega)
    · exact (Upd.alloc w _ _).trans h3
theorem SI.off2 {w w' : World} {v : Value} {xs : List Int} {b c : Nat} (h : SI w v xs) (hu : Upd (fun k => k = b ∨ k = c) w w') (hf : Off b v xs) (hg : Off c v xs) : SI w' v xs := by
  obtain ⟨a, cap, rfl, h2, h3, h4, h5⟩ := h
  refine ⟨a, cap, rfl, h2, h3, h4, ?_⟩
  rcases hf with hf | hf
  · exact .inl hf
  · rcases hg with hg | hg
    · exact .inl hg
    · refine h5.upd hu (fun b' off s e e2 => ?_)
      rcases e2 with e2 | e2
      · exact hf b' off s _ _ (by rw [e]) e2
      · exact hg b' off s _ _ (by rw [e]) e2
theorem Off.ne {b b5 n c : Nat} {xs : List Int} (h : b5 ≠ b) : Off b (.slice (some ⟨b5, 0, none⟩) n c) xs := .inr fun b' off s n c e => by
  injection e with e1; injection e1 with e1; injection e1 with e1; omega

def txV (qs : List (List Int)) : List Value := qs.map fun q => .string (txt q)
def cnV (qs : List (List Int)) : List Value := qs.map fun q => .int .i64 (cnt q)
/-- the two tables. -/
def TC (n bt ct bc cc : Nat) (qs : List (List Int)) (w : World) : Prop :=
  Row 9 w bt ct (txV qs) ∧ Row 3 w bc cc (cnV qs) ∧ ∀ q ∈ qs, IsP q ∧ q.length = n
theorem TC.upd {n bt ct bc cc : Nat} {qs : List (List Int)} {E : Nat → Prop} {w w' : World} (h : TC n bt ct bc cc qs w) (hu : Upd E w w') (h1 : ¬ E bt) (h2 : ¬ E bc) : TC n bt ct bc cc qs w' := ⟨h.1.upd hu h1, h.2.1.upd hu h2, h.2.2⟩
theorem TC.ext {n bt ct bc cc : Nat} {qs : List (List Int)} {w w' : World} (h : TC n bt ct bc cc qs w) (hu : Ext w w') : TC n bt ct bc cc qs w' := h.upd hu id id
theorem TC.new (n : Nat) (w : World) : TC n w.heap.size 0 (w.heap.size + 1) 0 [] ((w.alloc (.cells #[] 9)).alloc (.cells #[] 3)) := by
  have h1 := Row.new 9 w [] (by simp)
  have h2 := Row.new 3 (w.alloc (.cells #[] 9)) [] (by simp)
  have e : (w.alloc (.cells #[] 9)).heap.size = w.heap.size + 1 := by simp
  rw [e] at h2
  exact ⟨h1.upd (Upd.alloc (w.alloc (.cells #[] 9)) _ (fun _ => False)) id, h2, fun q hq => by simp at hq⟩
theorem TC.cells {n bt ct bc cc : Nat} {qs : List (List Int)} {w : World} (h : TC n bt ct bc cc qs w) {k : Nat} (hk : k < qs.length) :
    w.cell? ⟨bt, k, none⟩ = some (.string (txt (nthL qs k))) ∧ w.cell? ⟨bc, k, none⟩ = some (.int .i64 (cnt (nthL qs k))) := by
  have e : qs[k]? = some (nthL qs k) := by rw [nthL_get hk]; exact List.getElem?_eq_getElem hk
  exact ⟨h.1.cell (by simp [txV, e]), h.2.1.cell (by simp [cnV, e])⟩
theorem TC.snoc {n bt ct bc cc : Nat} {qs : List (List Int)} {p : List Int} {w : World} (h1 : Row 9 w bt ct (txV qs ++ [.string (txt p)])) (h2 : Row 3 w bc cc (cnV qs ++ [.int .i64 (cnt p)]))
    (h3 : ∀ q ∈ qs, IsP q ∧ q.length = n) (hp : IsP p) (hl : p.length = n) : TC n bt ct bc cc (qs ++ [p]) w :=
  ⟨by simpa [txV] using h1, by simpa [cnV] using h2, fun q hq => by
    rcases List.mem_append.1 hq with e | e
    · exact h3 q e
    · simp at e; subst e; exact ⟨hp, hl⟩⟩
theorem TC.ne {n bt ct bc cc : Nat} {qs : List (List Int)} {w : World} (h : TC n bt ct bc cc qs w) : bt ≠ bc := h.1.apart h.2.1 (by decide)
theorem TC.lt {n bt ct bc cc : Nat} {qs : List (List Int)} {w : World} (h : TC n bt ct bc cc qs w) : bt < w.heap.size ∧ bc < w.heap.size := ⟨h.1.lt, h.2.1.lt⟩

def LPost (p : List Int) (bt bc M : Nat) (w : World) (e : Ending) (w' : World) : Prop := ∃ bt' ct' bc' cc' m' qs', e = .returned (.tuple #[.int .i64 (cnt p), .slice (some ⟨bt', 0, none⟩) m' ct', .slice (some ⟨bc', 0, none⟩) m' cc']) ∧ m' = qs'.length ∧ TC p.length bt' ct' bc' cc' qs' w' ∧ m' ≤ M ∧ (bt' = bt ∨ w.heap.size ≤ bt') ∧ (bc' = bc ∨ w.heap.size ≤ bc') ∧ Upd (fun k => k = bt ∨ k = bc) w w'
theorem LPost.of {p : List Int} {bt bc M : Nat} {w w' : World} {e : Ending} (bt' ct' bc' cc' m' : Nat) (qs' : List (List Int)) (h1 : e = .returned (.tuple #[.int .i64 (cnt p), .slice (some ⟨bt', 0, none⟩) m' ct', .slice (some ⟨bc', 0, none⟩) m' cc'])) (h2 : m' = qs'.length) (h3 : TC p.length bt' ct' bc' cc' qs' w') (h4 : m' ≤ M)
    (h5 : bt' = bt ∨ w.heap.size ≤ bt') (h6 : bc' = bc ∨ w.heap.size ≤ bc') (h7 : Upd (fun k => k = bt ∨ k = bc) w w') : LPost p bt bc M w e w' := ⟨bt', ct', bc', cc', m', qs', h1, h2, h3, h4, h5, h6, h7⟩

set_option maxHeartbeats 4000000 in
set_option maxRecDepth 100000 in
theorem l27Count_ok : ∀ (d : Nat) (v : Value) (p : List Int) (bt ct bc cc m : Nat) (qs : List (List Int)) (w : World), m = qs.length → IsP p → p.length ≤ 6 → 1 ≤ p.length → inv p = d → SI w v p → Off bt v p → Off bc v p → TC p.length bt ct bc cc qs w → m + 6 ^ d ≤ 470184984576 →
    Calls Try.prog 88 #[v, .slice (some ⟨bt, 0, none⟩) m ct, .slice (some ⟨bc, 0, none⟩) m cc] w fun e w' => LPost p bt bc (m + 6 ^ d) w e w' := by
  intro d
  induction d with
  | zero =>
    intro v p bt ct bc cc m qs w hm hp h6 h1 hd h hot hoc htc hN
    have hS := srtB_true (inv_zero_srt hd)
    have HSD : Hid (decide (p = idL p.length) = true) := by show _ = _; rw [srtB_eq hp]; exact hS
    have HW := Lib.hid (cnt_srt hS)
    have HTC := Lib.hid htc
    have HM := Lib.hid hm
    clear hm htc hp hd hS
    go_enter Try.func88, Try.ntmps88
    go_wp2_with (go_at_call 112; refine (l13Straight_ok _ p _ h (by omega)).mono ?_; rintro e w1 ⟨rfl, q1⟩; rw [HSD.out])
    have HU := Lib.hid (Ext.toUpd q1 (fun k => k = bt ∨ k = bc))
    have HT := Lib.hid (HTC.out.ext q1)
    go_ret3
    exact LPost.of bt ct bc cc m qs (by rw [HW.out]; rfl) HM.out HT.out (Nat.le_add_right _ _) (.inl rfl) (.inl rfl) HU.out
  | succ d ih =>
    intro v p bt ct bc cc m qs w hm hp h6 h1 hd h hot hoc htc hN
    have hns : srtB p = false := by
      rw [Bool.eq_false_iff]; intro hh
      have := inv_srt (srt_pairwise (srtB_iff.1 hh)); omega
    have HS := Lib.hid hns
    have HSD : Hid (decide (p = idL p.length) = false) := by show _ = _; rw [srtB_eq hp]; exact hns
    have HW := Lib.hid (cnt_step hns)
    have HP := Lib.hid hp
    have HD := Lib.hid hd
    have HM := Lib.hid hm
    have HN := Lib.hid hN
    have hm9 : m ≤ 470184984576 := Nat.le_trans (Nat.le_add_right _ _) hN
    have HTC := Lib.hid htc
    have HOT := Lib.hid hot
    have HOC := Lib.hid hoc
    have HH := Lib.hid h
    obtain ⟨a, cap, rfl, hri⟩ := h.elim
    obtain ⟨tp, hTP⟩ : ∃ x, x = txt p := ⟨_, rfl⟩
    have HTP := Lib.hid hTP
    clear hns hp hd hm htc hN hot hoc h hTP
    go_enter Try.func88, Try.ntmps88
    go_wp2_with (first
      | (go_at_call 112; refine (l13Straight_ok _ p _ HH.out (by omega)).mono ?_; rintro e w1 ⟨rfl, q1⟩; rw [HSD.out])
      | (go_at_call 115; refine (spec_PermText_ok _ p _ (HH.out.ext q1) HP.out h1 (by omega)).mono ?_; rintro e w2 ⟨rfl, he2⟩; have HE2 := Lib.hid (q1.trans he2); have HT2 := Lib.hid (HTC.out.ext HE2.out); rw [← HTP.out]; clear q1 he2))
    go_loopw [10] (fun i wr => ∃ k : Nat, k ≤ m ∧ i = .int .i64 k ∧ wr = w2) (fun i _ => m - (intOf i).toNat)
    case atStart => exact ⟨0, Nat.zero_le _, rfl, rfl⟩
    case round =>
      obtain ⟨k, hk, rfl, rfl⟩ := hrel
      by_cases hlt : k < m
      · obtain ⟨ca, cb⟩ := HT2.out.cells (k := k) (by rw [← HM.out]; exact hlt)
        obtain ⟨tq, hTQ⟩ : ∃ x, x = txt (nthL qs k) := ⟨_, rfl⟩
        obtain ⟨cq, hCQ⟩ : ∃ x, x = cnt (nthL qs k) := ⟨_, rfl⟩
        have HTQ := Lib.hid hTQ
        have HCQ := Lib.hid hCQ
        rw [← hTQ] at ca
        rw [← hCQ] at cb
        clear hTQ hCQ
        by_cases heq : tq = tp
        · have hb : (tq.toList == tp.toList) = true := by rw [heq]; exact beq_self_eq_true _
          have HF : Hid (cq = cnt p) := by
            have hm8 : nthL qs k ∈ qs := nthL_mem (by rw [← HM.out]; exact hlt)
            obtain ⟨e1, e2⟩ := HT2.out.2.2 _ hm8
            have e3 := txt_inj (isP_rng e1 (by omega)) (isP_rng HP.out (by omega)) (show txt (nthL qs k) = txt p by rw [← HTQ.out, ← HTP.out]; exact heq)
            show _ = _; rw [HCQ.out, e3]
          have HU := Lib.hid (Ext.toUpd HE2.out (fun k => k = bt ∨ k = bc))
          clear heq
          go_wp2_with fail
          go_ret3
          exact LPost.of bt ct bc cc m qs (by rw [← HF.out]; rfl) HM.out HT2.out (Nat.le_add_right _ _) (.inl rfl) (.inl rfl) HU.out
        · have hb : (tq.toList == tp.toList) = false := by
            rw [beq_eq_false_iff_ne]; intro e; rw [ByteArray.toList_eq, ByteArray.toList_eq] at e; exact heq (ByteArray.ext (Array.toList_inj.1 e))
          clear heq
          go_wp2_with fail
          go_roundw
          case rel => exact ⟨k + 1, by omega, by go_num, trivial⟩
          case measure => simp [intOf]; omega
      · obtain ⟨wp, hwp⟩ : ∃ wp, wp = wr := ⟨_, rfl⟩
        subst hwp
        have HU0 := Lib.hid (Ext.toUpd HE2.out (fun k => k = bt ∨ k = bc))
        have HRNG := cnt_rng HP.out h6
        go_wp2_with fail
        go_loopw [1, 2, 11, 12] (fun t c s i wr => ∃ k : Nat, k ≤ p.length - 1 ∧ i = .int .i64 k ∧ (∃ z, s = .int .i64 z ∧ Hid (z = cntTo p k)) ∧ (∃ b1 c1 b2 c2 m9 qs9, t = .slice (some ⟨b1, 0, none⟩) m9 c1 ∧ c = .slice (some ⟨b2, 0, none⟩) m9 c2 ∧ Hid (m9 = qs9.length) ∧ Hid (TC p.length b1 c1 b2 c2 qs9 wr) ∧ Hid (m9 ≤ m + k * 6 ^ d) ∧ (b1 = bt ∨ w.heap.size ≤ b1) ∧ (b2 = bc ∨ w.heap.size ≤ b2)) ∧ Hid (Upd (fun k => k = bt ∨ k = bc) w wr)) (fun _ _ _ i _ => p.length + 1 - (intOf i).toNat)
        case atStart => exact ⟨0, Nat.zero_le _, rfl, ⟨0, rfl, (cntTo_zero p).symm⟩, ⟨bt, ct, bc, cc, m, qs, rfl, rfl, HM, HT2, Nat.le_add_right _ _, .inl rfl, .inl rfl⟩, HU0⟩
        case round =>
          obtain ⟨k, hk, rfl, ⟨z, rfl, hz⟩, ⟨b8, c8, b9, c9, m9, qs9, rfl, rfl, hm9', ht9, hle9, hb8, hb9⟩, hU⟩ := hrel
          clear HU0 HT2 HE2
          have hwz := hU.out.size
          have hlt9 := ht9.out.lt
          by_cases hlt : k + 1 < p.length
          · obtain ⟨b1, off1, rfl, hc0⟩ := hri.get hlt
            have hpne : p ≠ [] := fun e => by rw [e] at hlt; simp at hlt
            have hb1 : ¬ (b1 = bt ∨ b1 = bc) := by
              rintro (e | e)
              · rcases HOT.out with h | h
                · exact hpne h
                · exact h b1 off1 none _ _ rfl e
              · rcases HOC.out with h | h
                · exact hpne h
                · exact h b1 off1 none _ _ rfl e
            have hbw : b1 < w.heap.size := by have := World.block_lt_of_cell? _ _ (hc0 (k + 1) hlt); simpa using this
            have c0 := hU.out.cell (hc0 k (by omega)) hb1
            have c1 := hU.out.cell (hc0 (k + 1) hlt) hb1
            have C0 := Lib.hid c0
            have C1 := Lib.hid c1
            have hki : (k : Int) + 1 < (p.length : Int) := by omega
            have w1 : IntKind.i64.wrap ((k : Int) + 1) = (k : Int) + 1 := IntWalk.i64_in _ (by omega)
            have w2 : 0 ≤ (k : Int) + 1 := by omega
            have w3 : ((k : Int) + 1).toNat = k + 1 := by omega
            have w4 : (k : Int) < (p.length : Int) := by omega
            have hs := Lib.hid (HH.out.off2 hU.out HOT.out HOC.out)
            have hzr := cntTo_rng HP.out h6 HS.out hk
            rw [← hz.out] at hzr
            clear hc0 hpne hb1
            by_cases hup : nth p (k + 1) < nth p k
            · have hnv := nsw_inv hlt hup
              have hnp := nsw_isP HP.out hlt
              have hnl := nsw_len p k
              have HNP := Lib.hid hnp
              have HNV : Hid (inv (nsw p k) = d) := by show _ = _; have := HD.out; omega
              have HST1 := Lib.hid (cntTo_t hup)
              have hur := cnt_rng hnp (by omega)
              have wz : IntKind.i64.wrap (z + cnt (nsw p k)) = z + cnt (nsw p k) := IntWalk.i64_in _ (by omega)
              have HR6 : Hid (m9 + 6 ^ d ≤ 470184984576) := by
                show _ ≤ _
                have e1 := six_room2 (N := m) (k := k) (d := d) (by omega)
                have e2 := HN.out
                have e3 := hle9.out
                omega
              have HLE7 := Lib.hid (six_next hle9.out)
              clear hnv hnp
              go_wp2_with fail
              go_quiet (fail)
              clear w1 w3 c0 c1
              have hsd := Lib.hid (hs.out.ext (show Ext wr (wr.drewN nq) from Upd.drewN _ _ _))
              have ht9d := Lib.hid (ht9.out.ext (show Ext wr (wr.drewN nq) from Upd.drewN _ _ _))
              have hUd := Lib.hid (hU.out.trans (Upd.drewN wr nq _))
              have C0d := Lib.hid ((show Ext wr (wr.drewN nq) from Upd.drewN _ _ _).cell C0.out)
              have C1d := Lib.hid ((show Ext wr (wr.drewN nq) from Upd.drewN _ _ _).cell C1.out)
              clear hs ht9 hU C0 C1
              go_wp2_with (at_builtin; go_loud (refine wpl_appSI rfl (.tmp 56) (.tmp 57) rfl wr.heap.size 0 0 [] p rfl (Row.new 3 (wr.drewN nq) [] (by simp)) rfl _ rfl (hsd.out.ext (Upd.alloc _ _ _)) (by simp) (by omega) ?_); intro b5 c5 w5 hr5 hb5 hu5; rw [List.nil_append] at hr5; obtain ⟨hb5', ho5, he5⟩ := copied_own3 (w1 := wr.drewN nq) hr5 hb5 hu5; have hz5 := he5.size; have d0 := hr5.icell (j := k) (by omega); have d1 := hr5.icell (j := k + 1) hlt; have f0 := hr5.free k none; have f1 := hr5.free (k + 1) none; have e0c := he5.cell C0d.out; have e1c := he5.cell C1d.out; have hset := (hr5.set k (.int .i64 (nth p (k + 1)))).set (k + 1) (.int .i64 (nth p k)); simp only [vals_set] at hset; have HST := Lib.hid hset; have hU5 := Lib.hid ((Upd.setCell w5 ⟨b5, k, none⟩ (.int .i64 (nth p (k + 1)))).trans (Upd.setCell _ ⟨b5, k + 1, none⟩ (.int .i64 (nth p k)))); have hE55 := Lib.hid (he5.upd1 hU5.out hb5'); have hT5 := Lib.hid (ht9d.out.ext hE55.out); have hE5 := Lib.hid (hUd.out.trans (Ext.toUpd hE55.out _)); have hcl := hr5.le; simp at hcl; simp at hz5 hb5'; have hbb1 : b1 < b5 := (by omega); clear hset hu5 hr5 hb5 ho5 he5 hsd ht9d hUd hU5 hE55)
              have hR6 : Hid (Row 3 _ b5 c5 (vals (nsw p k))) := HST
              have hsq := hR6.out.si
              rw [hnl] at hsq
              have HSQ := Lib.hid hsq
              clear hsq
              refine (ih _ (nsw p k) b8 c8 b9 c9 m9 qs9 _ hm9'.out HNP.out (by omega) (by omega) HNV.out HSQ.out (Off.ne (by omega)) (Off.ne (by omega)) (by rw [hnl]; exact hT5.out) HR6.out).mono ?_
              rintro e w7 ⟨ba, ca, bd, cd, m7, qs7, rfl, hm7, ht7, hle7, hba, hbd, hu7⟩
              rw [hnl] at ht7
              have HM7 := Lib.hid hm7
              have HT7 := Lib.hid ht7
              have HL7 : Hid (m7 ≤ m + (k + 1) * 6 ^ d) := Nat.le_trans hle7 HLE7.out
              have hz7 := hE5.out.size
              have HU7 := Lib.hid (hE5.out.comp hu7 (D' := fun k => k = bt ∨ k = bc) (fun _ _ h => h) (fun i hi e => by rcases e with e | e <;> omega))
              have hba' : ba = bt ∨ w.heap.size ≤ ba := by rcases hba with e | e <;> omega
              have hbd' : bd = bc ∨ w.heap.size ≤ bd := by rcases hbd with e | e <;> omega
              clear hm7 ht7 hle7 hba hbd hu7 hnl
              go_wp2_with fail
              go_roundw
              case rel => exact ⟨k + 1, by omega, by go_num, ⟨_, rfl, by show _ = _; rw [HST1.out, hz.out]⟩, ⟨ba, ca, bd, cd, m7, qs7, rfl, rfl, HM7, HT7, HL7, hba', hbd'⟩, HU7⟩
              case measure => simp [intOf]; omega
            · have HT := Lib.hid (cntTo_f hup)
              have HL7 : Hid (m9 ≤ m + (k + 1) * 6 ^ d) := Nat.le_trans hle9.out (Nat.add_le_add_left (Nat.mul_le_mul_right _ (by omega)) _)
              go_wp2_with fail
              go_quiet (fail)
              clear w1 w3 c0 c1
              go_wp2_with fail
              go_roundw
              case rel => exact ⟨k + 1, by omega, by go_num, ⟨_, rfl, by show _ = _; rw [HT.out]; exact hz.out⟩, ⟨b8, c8, b9, c9, m9, qs9, rfl, rfl, hm9', Lib.hid (ht9.out.ext (Upd.drewN _ _ _)), HL7, hb8, hb9⟩, Lib.hid (hU.out.trans (Upd.drewN _ _ _))⟩
              case measure => simp [intOf]; omega
          · have hki : ¬ (k : Int) + 1 < (p.length : Int) := by omega
            have HZ : Hid (z = cnt p) := by show _ = _; rw [HW.out, show p.length - 1 = k by omega]; exact hz.out
            have HL7 : Hid (m9 + 1 ≤ m + 6 ^ (d + 1)) := by
              show _ ≤ _
              have := six_room (N := m) (k := k) (d := d) (by omega)
              have := hle9.out
              omega
            have hlt0 : (txV qs9).length ≤ 1000000000000 := by simp [txV]; rw [← hm9'.out]; have := HL7.out; have := HN.out; omega
            have hlc0 : (cnV qs9).length ≤ 1000000000000 := by simp [cnV]; rw [← hm9'.out]; have := HL7.out; have := HN.out; omega
            have HLT := Lib.hid hlt0
            have HLC := Lib.hid hlc0
            have hmt : Hid (m9 = (txV qs9).length) := by show _ = _; rw [hm9'.out]; simp [txV]
            have hmc : Hid (m9 = (cnV qs9).length) := by show _ = _; rw [hm9'.out]; simp [cnV]
            have hne := ht9.out.ne
            clear hlt0 hlc0
            go_wp2_with (first
              | (at_builtin; go_loud (refine wpl_app1s rfl (.tmp 87) (.tmp 89) rfl b8 c8 m9 (txV qs9) tp rfl ht9.out.1 hmt.out rfl HLT.out ?_); intro b6 c6 w6 hr6 hb6 hu6; have HR6 := Lib.hid hr6; have HU6 := Lib.hid hu6; have HC6 := Lib.hid (ht9.out.2.1.upd hu6 (fun e => hne e.symm)); have hz6 := hu6.size; clear hr6 hu6)
              | (at_builtin; go_loud (refine wpl_app1c rfl (.tmp 91) (.tmp 93) rfl b9 c9 m9 (cnV qs9) z rfl HC6.out hmc.out rfl HLC.out ?_); intro b7 c7 w7 hr7 hb7 hu7; have HR7 := Lib.hid hr7; have HU7 := Lib.hid hu7; clear hr7 hu7))
            have HT7 : Hid (TC p.length b6 c6 b7 c7 (qs9 ++ [p]) w7) := TC.snoc (by rw [← HTP.out]; exact HR6.out.upd HU7.out (fun e => by rcases hb6 with e2 | e2; exact hne (by omega); have := hlt9.2; omega)) (by rw [← HZ.out]; exact HR7.out) ht9.out.2.2 HP.out rfl
            have HU8 : Hid (Upd (fun k => k = bt ∨ k = bc) w w7) := (hU.out.comp HU6.out (D' := fun k => k = bt ∨ k = bc) (fun _ _ h => h) (fun i hi e => by omega)).comp HU7.out (D' := fun k => k = bt ∨ k = bc) (fun _ _ h => h) (fun i hi e => by omega)
            have HM7 : Hid (m9 + 1 = (qs9 ++ [p]).length) := by show _ = _; rw [List.length_append, ← hm9'.out]; rfl
            have hb6' : b6 = bt ∨ w.heap.size ≤ b6 := by rcases hb6 with e | e <;> omega
            have hb7' : b7 = bc ∨ w.heap.size ≤ b7 := by rcases hb7 with e | e <;> omega
            go_ret3
            exact LPost.of b6 c6 b7 c7 (m9 + 1) (qs9 ++ [p]) (by rw [← HZ.out]; rfl) HM7.out HT7.out HL7.out hb6' hb7' HU8.out
end Go.Proofs.Ytmnbdphfoonleaa
