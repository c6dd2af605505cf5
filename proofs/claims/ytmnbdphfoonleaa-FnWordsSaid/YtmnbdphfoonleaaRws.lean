/- Reduced words: contracts of the reference's recursion l27Words, and of ReducedWords, the program's and the reference's. Conditions: lengths below a bound. -/
import Derived.Test.YtmnbdphfoonleaaRwd
import Derived.Test.YtmnbdphfoonleaaOff
namespace Go.Proofs.Ytmnbdphfoonleaa
open Go.RowKit

theorem Row.apart {e e' : TypeId} {w : World} {b c b' c' : Nat} {xs ys : List Value} (h : Row e w b c xs) (k : Row e' w b' c' ys) (hne : e ≠ e') : b ≠ b' := by
  rintro rfl
  obtain ⟨cur, h1, _⟩ := h.cur
  obtain ⟨cur2, k1, _⟩ := k.cur
  rw [h1] at k1
  injection k1 with k1
  injection k1 with _ k2 _
  exact hne k2
/-- block b is a row of rows that read as D; rows may be shared with others, none is nil. -/
def GP (B : Nat) (w : World) (b c : Nat) (D : List (List Int)) : Prop :=
  ∃ vs, Row 24 w b c vs ∧ vs.length = D.length ∧ B ≤ b ∧ ∀ i, i < D.length → ∃ bi ci, nthV vs i = .slice (some ⟨bi, 0, none⟩) (nthL D i).length ci ∧ B ≤ bi ∧ Row 3 w bi ci (vals (nthL D i))
theorem GP.lt {B b c : Nat} {w : World} {D : List (List Int)} (h : GP B w b c D) : b < w.heap.size := by obtain ⟨vs, h1, _⟩ := h; exact h1.lt
theorem GP.lo {B b c : Nat} {w : World} {D : List (List Int)} (h : GP B w b c D) : B ≤ b := by obtain ⟨vs, _, _, h1, _⟩ := h; exact h1
theorem GP.row {B b c : Nat} {w : World} {D : List (List Int)} (h : GP B w b c D) : ∃ vs, Row 24 w b c vs ∧ vs.length = D.length := by obtain ⟨vs, h1, h2, _⟩ := h; exact ⟨vs, h1, h2⟩
theorem GP.ext {B b c : Nat} {w w' : World} {D : List (List Int)} (h : GP B w b c D) (hu : Ext w w') : GP B w' b c D := by
  obtain ⟨vs, h1, h2, h3, h4⟩ := h
  exact ⟨vs, h1.ext hu, h2, h3, fun i hi => by obtain ⟨bi, ci, e, g1, g2⟩ := h4 i hi; exact ⟨bi, ci, e, g1, g2.ext hu⟩⟩
theorem GP.mono {B B' b c : Nat} {w : World} {D : List (List Int)} (h : GP B w b c D) (hB : B' ≤ B) : GP B' w b c D := by
  obtain ⟨vs, h1, h2, h3, h4⟩ := h
  exact ⟨vs, h1, h2, by omega, fun i hi => by obtain ⟨bi, ci, e, g1, g2⟩ := h4 i hi; exact ⟨bi, ci, e, by omega, g2⟩⟩
theorem GP.new (B : Nat) (w : World) (hB : B ≤ w.heap.size) : GP B (w.alloc (.cells #[] 24)) w.heap.size 0 [] := ⟨[], Row.new 24 w [] (by simp), rfl, hB, fun i hi => by simp at hi⟩
/-- another row of slices is written: nothing of this one turns. -/
theorem GP.off {B b c : Nat} {w w' : World} {D : List (List Int)} (h : GP B w b c D) {x cx : Nat} {us : List Value} (hx : Row 24 w x cx us) (hne : b ≠ x) (hu : Upd (· = x) w w') : GP B w' b c D := by
  obtain ⟨vs, h1, h2, h3, h4⟩ := h
  exact ⟨vs, h1.upd hu hne, h2, h3, fun i hi => by obtain ⟨bi, ci, e, g1, g2⟩ := h4 i hi; exact ⟨bi, ci, e, g1, g2.upd hu (fun e => g2.apart hx (by decide) e)⟩⟩
theorem GP.get {B b c : Nat} {w : World} {D : List (List Int)} (h : GP B w b c D) {k : Nat} (hk : k < D.length) : ∃ bi ci, w.cell? ⟨b, k, none⟩ = some (.slice (some ⟨bi, 0, none⟩) (nthL D k).length ci) ∧ Row 3 w bi ci (vals (nthL D k)) := by
  obtain ⟨vs, h1, h2, h3, h4⟩ := h
  obtain ⟨bi, ci, e, _, g2⟩ := h4 k hk
  exact ⟨bi, ci, by rw [← e]; exact h1.cell (nthV_get (by omega)), g2⟩
theorem GP.app {B b c bt ct b' c' : Nat} {w w' : World} {D : List (List Int)} {t : List Int} (h : GP B w b c D) (ht : Row 3 w bt ct (vals t)) (hB : B ≤ bt) {vs : List Value} (hv : Row 24 w b c vs) (hvl : vs.length = D.length)
    (hr : Row 24 w' b' c' (vs ++ [.slice (some ⟨bt, 0, none⟩) t.length ct])) (hb : b' = b ∨ w.heap.size ≤ b') (hu : Upd (· = b) w w') : GP B w' b' c' (D ++ [t]) := by
  obtain ⟨us, h1, h2, h3, h4⟩ := h
  have hlt := h1.lt
  have e : us = vs := by
    obtain ⟨cur, a1, a2, a3⟩ := h1.cur
    obtain ⟨cur2, k1, k2, k3⟩ := hv.cur
    rw [a1] at k1
    injection k1 with k1
    injection k1 with k1 _ _
    rw [← a3, ← k3, k1, h2, hvl]
  subst e
  refine ⟨_, hr, by simp [h2], by rcases hb with e | e <;> omega, fun i hi => ?_⟩
  rcases Nat.lt_or_ge i D.length with e | e
  · obtain ⟨bi, ci, e1, g1, g2⟩ := h4 i e
    exact ⟨bi, ci, by rw [nthV_append_lt (by omega), nthL_append_lt e]; exact e1, g1, by rw [nthL_append_lt e]; exact g2.upd hu (fun e => g2.apart h1 (by decide) e)⟩
  · obtain rfl : i = D.length := by simp at hi; omega
    refine ⟨bt, ct, ?_, hB, ?_⟩
    · rw [nthL_append_last, ← h2, nthV_append_last]
    · rw [nthL_append_last]; exact ht.upd hu (fun e => ht.apart h1 (by decide) e)
theorem Off.row {w : World} {v : Value} {xs : List Int} {b c bi ci : Nat} {us : List Value} (hv : v = .slice (some ⟨bi, 0, none⟩) xs.length ci) (h : Row 3 w bi ci (vals xs)) (hb : Row 24 w b c us) : Off b v xs :=
  .inr fun b' off s n c' e => by
    rw [hv] at e; injection e with e1; injection e1 with e1; injection e1 with e1
    rw [← e1]; exact h.apart hb (by decide)
/-! ### the words, each followed by a tail -/
def rwT (p tail : List Int) : List (List Int) := (rwL p).map (· ++ tail)
def rwTT (p tail : List Int) (k : Nat) : List (List Int) := (rwTo p k).map (· ++ tail)
theorem rwT_len (p tail : List Int) : (rwT p tail).length = (rwL p).length := by simp [rwT]
theorem rwTT_t {p tail : List Int} {k : Nat} (h : nth p (k + 1) < nth p k) : rwTT p tail (k + 1) = rwTT p tail k ++ rwT (nsw p k) ([(k : Int) + 1] ++ tail) := by
  unfold rwTT rwT
  rw [rwTo_succ, List.map_append, rwOne_t h, List.map_map]
  congr 1
  refine List.map_congr_left fun x _ => ?_
  simp
theorem rwTT_f {p tail : List Int} {k : Nat} (h : ¬ nth p (k + 1) < nth p k) : rwTT p tail (k + 1) = rwTT p tail k := by
  unfold rwTT; rw [rwTo_succ, rwOne_f h, List.append_nil]
theorem rwTT_le {p : List Int} (tail : List Int) {k : Nat} (hs : srtB p = false) (hk : k ≤ p.length - 1) : (rwTT p tail k).length ≤ (rwL p).length := by
  rw [rwL_step hs]; unfold rwTT; rw [List.length_map]; exact rwTo_le hk
theorem rwTT_le2 {p tail : List Int} {k : Nat} (h : nth p (k + 1) < nth p k) (hs : srtB p = false) (hk : k + 1 ≤ p.length - 1) : (rwTT p tail k).length + (rwL (nsw p k)).length ≤ (rwL p).length := by
  have := rwTT_le tail hs hk
  rw [rwTT_t h, List.length_append, rwT_len] at this
  exact this
theorem rwTT_all {p tail : List Int} (hs : srtB p = false) : rwT p tail = rwTT p tail (p.length - 1) := by unfold rwT rwTT; rw [rwL_step hs]
def WdPost (B b : Nat) (D : List (List Int)) (p tail : List Int) (w : World) (e : Ending) (w' : World) : Prop :=
  ∃ b' c', e = .returned (.slice (some ⟨b', 0, none⟩) (D ++ rwT p tail).length c') ∧ GP B w' b' c' (D ++ rwT p tail) ∧ (b' = b ∨ w.heap.size ≤ b') ∧ Upd (· = b) w w'
set_option maxHeartbeats 8000000 in
set_option maxRecDepth 30000 in
theorem l27Words_ok : ∀ (d : Nat) (v : Value) (p : List Int) (bt ct mt : Nat) (tail : List Int) (B b c m : Nat) (D : List (List Int)) (w : World), mt = tail.length → IsP p → p.length ≤ 5 → inv p = d → d ≤ 7 → SI w v p → Off b v p → Row 3 w bt ct (vals tail) → B ≤ bt → tail.length + d ≤ 7 →
    GP B w b c D → m = D.length → B ≤ w.heap.size → D.length + (rwL p).length ≤ 100000 →
    Calls Try.prog 83 #[v, .slice (some ⟨bt, 0, none⟩) mt ct, .slice (some ⟨b, 0, none⟩) m c] w (WdPost B b D p tail w) := by
  intro d
  induction d with
  | zero =>
    intro v p bt ct mt tail B b c m D w hmt hp h5 hd h7 h hoff ht hBt htl hg hm hB hln
    have HS : Hid (srtB p = true) := srtB_true (inv_zero_srt hd)
    have HSD : Hid (decide (p = idL p.length) = true) := by show _ = _; rw [srtB_eq hp]; exact HS.out
    have HW : Hid (rwT p tail = [tail]) := by show _ = _; unfold rwT; rw [rwL_srt HS.out]; rfl
    obtain ⟨a, cap, rfl, -⟩ := h.elim
    have HM := Lib.hid hm
    have hm9 : m ≤ 100000 := by omega
    subst hmt
    clear hm hd
    go_enter Try.func83, Try.ntmps83
    go_wp2_with (first | (go_at_call 112; refine (l13Straight_ok _ p _ h (by omega)).mono ?_; rintro e w1 ⟨rfl, q1⟩; rw [HSD.out]; have hg1 := hg.ext q1; obtain ⟨vs, hv, hvl⟩ := hg1.row; have ht1 := ht.ext q1; have HG1 := Lib.hid hg1; have HV := Lib.hid hv; have HVL : Hid (m = vs.length) := (by rw [hvl]; exact HM.out); have HT1 := Lib.hid ht1; have hvl9 : vs.length ≤ 1000000 := (by rw [hvl, ← HM.out]; omega); have HVD := Lib.hid hvl; clear hg1 hv hvl ht1) | (at_builtin; go_loud (refine wpl_appv rfl (.tmp 11) (.tmp 13) rfl b c m vs (some ⟨bt, 0, none⟩) _ ct rfl HV.out HVL.out rfl (by omega) ?_); intro b9 c9 w9 hr9 hb9 hu9))
    have hg9 := HG1.out.app HT1.out hBt HV.out HVD.out hr9 (hb9.imp id (fun e => by omega)) hu9
    have HG9 := Lib.hid hg9
    have HU9 := Lib.hid ((Ext.toUpd q1 (· = b)).trans hu9)
    have hz1 := q1.size
    clear hg9 hr9 hu9
    go_ret
    exact ⟨b9, c9, by rw [HW.out, List.length_append, ← HM.out]; rfl, by rw [HW.out]; exact HG9.out, by rcases hb9 with e | e <;> omega, HU9.out⟩
  | succ d ih =>
    intro v p bt ct mt tail B b c m D w hmt hp h5 hd h7 h hoff ht hBt htl hg hm hB hln
    have hns : srtB p = false := by
      rw [Bool.eq_false_iff]; intro hh
      have := inv_srt (srt_pairwise (srtB_iff.1 hh)); omega
    have HS := Lib.hid hns
    have HSD : Hid (decide (p = idL p.length) = false) := by show _ = _; rw [srtB_eq hp]; exact hns
    have HP := Lib.hid hp
    have HD := Lib.hid hd
    have HM := Lib.hid hm
    have h00 := h
    obtain ⟨a, cap, rfl, hri⟩ := h00.elim
    have hoffI : ∀ bq oq, a = some ⟨bq, oq, none⟩ → p ≠ [] → bq ≠ b := fun bq oq e hne => by
      rcases hoff with h | h
      · exact absurd h hne
      · exact h bq oq none _ _ (by rw [e])
    have HOF := Lib.hid hoff
    have HG := Lib.hid hg
    have hbl := hg.lt
    obtain ⟨vs0, hv0, hvl0⟩ := hg.row
    have HTB : Hid (bt ≠ b) := ht.apart hv0 (by decide)
    have HTR := Lib.hid ht
    subst hmt
    clear hns hp h00 hd hm hoff hv0 hvl0
    go_enter Try.func83, Try.ntmps83
    go_wp2_with (go_at_call 112; refine (l13Straight_ok _ p _ h (by omega)).mono ?_; rintro e w1 ⟨rfl, q1⟩; rw [HSD.out])
    have HG1 : Hid (GP B w1 b c (D ++ rwTT p tail 0)) := by
      have e : rwTT p tail 0 = [] := rfl
      rw [e, List.append_nil]; exact HG.out.ext q1
    have HU1 := Lib.hid (Ext.toUpd q1 (· = b))
    have HM1 : Hid (m = (D ++ rwTT p tail 0).length) := by
      have e : rwTT p tail 0 = [] := rfl
      show _ = _; rw [e, List.append_nil]; exact HM.out
    clear q1
    go_loopw [2, 7, 8] (fun o i _ wr => ∃ k : Nat, k ≤ p.length - 1 ∧ i = .int .i64 k ∧ (∃ b9 c9 m9, o = .slice (some ⟨b9, 0, none⟩) m9 c9 ∧ Hid (m9 = (D ++ rwTT p tail k).length) ∧ Hid (GP B wr b9 c9 (D ++ rwTT p tail k)) ∧ (b9 = b ∨ w.heap.size ≤ b9)) ∧ Hid (Upd (· = b) w wr)) (fun _ i _ _ => p.length + 1 - (intOf i).toNat)
    case atStart => exact ⟨0, Nat.zero_le _, rfl, ⟨b, c, m, rfl, HM1, HG1, .inl rfl⟩, HU1⟩
    case round =>
      obtain ⟨k, hk, rfl, ⟨b9, c9, m9, rfl, hm9, hg9, hb9⟩, hU⟩ := hrel
      clear HG1 HU1 HM1
      have hwz := hU.out.size
      by_cases hlt : k + 1 < p.length
      · have hki : (k : Int) + 1 < (p.length : Int) := by omega
        obtain ⟨b1, off1, rfl, hc0⟩ := hri.get hlt
        have hpne : p ≠ [] := fun e => by rw [e] at hlt; simp at hlt
        have hb1b := hoffI b1 off1 rfl hpne
        have hbw : b1 < w.heap.size := by have := World.block_lt_of_cell? _ _ (hc0 (k + 1) hlt); simpa using this
        have c0 := hU.out.cell (hc0 k (by omega)) hb1b
        have c1 := hU.out.cell (hc0 (k + 1) hlt) hb1b
        have C0 := Lib.hid c0
        have C1 := Lib.hid c1
        have w1 : IntKind.i64.wrap ((k : Int) + 1) = (k : Int) + 1 := IntWalk.i64_in _ (by omega)
        have w2 : 0 ≤ (k : Int) + 1 := by omega
        have w3 : ((k : Int) + 1).toNat = k + 1 := by omega
        have w4 : (k : Int) < (p.length : Int) := by omega
        have hs := Lib.hid (h.off hU.out HOF.out)
        clear hc0 hpne
        by_cases hup : nth p (k + 1) < nth p k
        · have hnv := nsw_inv hlt hup
          have hnp := nsw_isP HP.out hlt
          have hnl := nsw_len p k
          have hle2 := rwTT_le2 (tail := tail) hup HS.out (by omega)
          have HNP := Lib.hid hnp
          have HNV : Hid (inv (nsw p k) = d) := by show _ = _; have := HD.out; omega
          have HEND := Lib.hid (rwTT_t (tail := tail) hup)
          clear hnv hnp
          go_wp2_with fail
          go_quiet (fail)
          clear w1 w3 c0 c1
          have hsd := Lib.hid (hs.out.ext (show Ext wr (wr.drewN nq) from Upd.drewN _ _ _))
          have hg9d := Lib.hid (hg9.out.ext (show Ext wr (wr.drewN nq) from Upd.drewN _ _ _))
          have hUd := Lib.hid (hU.out.trans (Upd.drewN wr nq _))
          have C0d := Lib.hid ((show Ext wr (wr.drewN nq) from Upd.drewN _ _ _).cell C0.out)
          have C1d := Lib.hid ((show Ext wr (wr.drewN nq) from Upd.drewN _ _ _).cell C1.out)
          clear hs hg9 hU C0 C1
          go_wp2_with (first
            | (at_builtin; go_loud (refine wpl_appSI rfl (.tmp 32) (.tmp 33) rfl wr.heap.size 0 0 [] p rfl (Row.new 3 (wr.drewN nq) [] (by simp)) rfl _ rfl (hsd.out.ext (Upd.alloc _ _ _)) (by simp) (by omega) ?_; intro b5 c5 w5 hr5 hb5 hu5; rw [List.nil_append] at hr5; obtain ⟨hb5', ho5, he5⟩ := copied_own3 (w1 := wr.drewN nq) hr5 hb5 hu5; have hz5 := he5.size; have d0 := hr5.icell (j := k) (by omega); have d1 := hr5.icell (j := k + 1) hlt; have f0 := hr5.free k none; have f1 := hr5.free (k + 1) none; have e0c := he5.cell C0d.out; have e1c := he5.cell C1d.out; have hb5z := hr5.lt; have hset := (hr5.set k (.int .i64 (nth p (k + 1)))).set (k + 1) (.int .i64 (nth p k)); simp only [vals_set] at hset; have HST := Lib.hid hset; have hU5 := Lib.hid ((Upd.setCell w5 ⟨b5, k, none⟩ (.int .i64 (nth p (k + 1)))).trans (Upd.setCell _ ⟨b5, k + 1, none⟩ (.int .i64 (nth p k)))); have hE55 := Lib.hid (he5.upd1 hU5.out hb5'); have hG5 := Lib.hid (hg9d.out.ext hE55.out); have hE5 := Lib.hid (hUd.out.trans (Ext.toUpd hE55.out _)); have hcl := hr5.le; simp at hcl; simp at hz5 hb5'; have hbb1 : b1 < b5 := (by omega); have HG9L := hg9d.out.lt; simp at HG9L; have hzs : ((w5.setCell ⟨b5, k, none⟩ (.int .i64 (nth p (k + 1)))).setCell ⟨b5, k + 1, none⟩ (.int .i64 (nth p k))).heap.size = w5.heap.size := (by simp); have hnew := Row.new 3 ((w5.setCell ⟨b5, k, none⟩ (.int .i64 (nth p (k + 1)))).setCell ⟨b5, k + 1, none⟩ (.int .i64 (nth p k))) (vals [(k : Int) + 1]) (by simp; unfold maxLen; omega); rw [hzs] at hnew; have HNEW := Lib.hid hnew; have HRT := Lib.hid (HTR.out.upd hE5.out HTB.out); clear hset hu5 hr5 hb5 ho5 he5 hsd hg9d hUd hnew hU5 hE55))
            | (at_builtin; go_loud (refine wpl_appSrc rfl (.tmp 54) (.tmp 55) rfl w5.heap.size 1 1 [(k : Int) + 1] tail rfl HNEW.out rfl ⟨bt, 0, none⟩ _ ct rfl rfl (HRT.out.ri.ext (Upd.alloc _ _ _)) (by simp) (by omega) ?_); intro b6 c6 w6 hr6 hb6 hu6))
          have hE6 : Hid (Ext _ w6) := ((Ext.refl ((w5.setCell ⟨b5, k, none⟩ (.int .i64 (nth p (k + 1)))).setCell ⟨b5, k + 1, none⟩ (.int .i64 (nth p k)))).alloc _).upd1 hu6 (by simp)
          have hz6 := hE6.out.size
          simp at hz6
          have hb6' : w5.heap.size ≤ b6 := by rcases hb6 with e | e <;> (try simp at e) <;> omega
          have hR6 : Hid (Row 3 w6 b5 c5 (vals (nsw p k))) := HST.out.ext hE6.out
          have hsq := hR6.out.si
          rw [hnl] at hsq
          have HSQ := Lib.hid hsq
          have hG6 : Hid (GP B w6 b9 c9 (D ++ rwTT p tail k)) := hG5.out.ext hE6.out
          have HU6 := Lib.hid (hE5.out.trans (Ext.toUpd hE6.out _))
          have HR6 := Lib.hid hr6
          have HOF6 := Lib.hid (Off.row (v := .slice (some ⟨b5, 0, none⟩) p.length c5) (by rw [hnl]) hR6.out hG6.out.row.choose_spec.1)
          clear hr6 hu6 hb6 hsq HST hE5 hG5
          refine (ih _ (nsw p k) b6 c6 (1 + tail.length) ([(k : Int) + 1] ++ tail) B b9 c9 m9 (D ++ rwTT p tail k) _ (by simp; omega) HNP.out (by omega) HNV.out (by omega) HSQ.out HOF6.out HR6.out (by omega) (by simp; omega) hG6.out hm9.out (by omega) (by rw [List.length_append]; omega)).mono ?_
          rintro e w7 ⟨b7, c7, rfl, hg7, hb7, hu7⟩
          rw [List.append_assoc, ← HEND.out] at hg7 ⊢
          have HG7 := Lib.hid hg7
          have HU7 := Lib.hid (HU6.out.comp hu7 (D' := (· = b)) (fun _ _ h => h) (fun i hi e => by omega))
          have hb7' : b7 = b ∨ w.heap.size ≤ b7 := by rcases hb7 with e | e <;> omega
          clear hg7 hu7 hb7
          go_wp2_with fail
          go_roundw
          case rel => exact ⟨k + 1, by omega, by go_num, ⟨b7, c7, _, rfl, Lib.hid (List.length_append ..).symm, HG7, hb7'⟩, HU7⟩
          case measure => simp [intOf]; omega
        · have HT := Lib.hid (rwTT_f (tail := tail) hup)
          go_wp2_with fail
          go_quiet (fail)
          clear w1 w3 c0 c1
          go_wp2_with fail
          go_roundw
          case rel => exact ⟨k + 1, by omega, by go_num, ⟨b9, c9, m9, rfl, by rw [HT.out]; exact hm9, by rw [HT.out]; exact hg9.out.ext (Upd.drewN _ _ _), hb9⟩, hU.out.trans (Upd.drewN _ _ _)⟩
          case measure => simp [intOf]; omega
      · have hki : ¬ (k : Int) + 1 < (p.length : Int) := by omega
        have HF : Hid (rwT p tail = rwTT p tail k) := by show _ = _; rw [rwTT_all HS.out, show p.length - 1 = k by omega]
        go_wp2_with fail
        go_ret
        exact ⟨b9, c9, by rw [HF.out, ← hm9.out]; rfl, by rw [HF.out]; exact hg9.out, hb9, hU.out⟩
/-! ### ReducedWords -/
theorem rd_f {p : List Int} (h : rdOK p = false) : rdL p = [] := by unfold rdL; rw [h]; rfl
theorem rd_t {p : List Int} (h : rdOK p = true) : rdL p = putAll (rwL p) := by unfold rdL; rw [h]; rfl
theorem bound_ReducedWords (p : List Int) (_h : p.length ≤ 1048576) : Bd (rdL p) := by
  cases h : rdOK p
  · rw [rd_f h]; exact Bd.nil
  · obtain ⟨h1, h2, h3, h4⟩ := rdOK_true h
    have hp := (isP8_iff.1 h1).2
    rw [rd_t h]
    refine Bd.of 78125 7 ?_ (fun q hq => ?_) (by omega) (by omega)
    · have := putAll_len (rwL p); have := rd_small h; omega
    · rw [rwL_wlen hp ((putAll_mem _ _).1 hq)]; omega
set_option maxHeartbeats 2000000 in
theorem impl_ReducedWords_ok (v : Value) (p : List Int) (w : World) (h : SI w v p) (hl : p.length ≤ 1048576) (_hb : I64s p) :
    Calls Try.prog 22 #[v] w fun e w' => ∃ v', e = .returned v' ∧ OII w.heap.size w'.heap.size w' v' (rdL p) ∧ Ext w w' := by
  have h00 := h
  obtain ⟨a, cap, rfl, -⟩ := h00.elim
  cases hp : isP8 p
  · have hP := Lib.hid hp
    have e0 := Lib.hid (rd_f (p := p) (by unfold rdOK; rw [hp]; rfl))
    clear hp h00
    go_enter Try.func22, Try.ntmps22
    go_wp2_with (go_at_call 72; refine (impl_IsPerm_ok _ p _ h).mono ?_; rintro e w1 ⟨rfl, he⟩; rw [hP.out])
    go_ret
    rw [e0.out]
    exact ⟨_, rfl, OII.nil _ _ _, he⟩
  · have hP := Lib.hid hp
    have h8 : p.length ≤ 8 := (isP8_iff.1 hp).1
    have HIP : Hid (IsP p) := (isP8_iff.1 hp).2
    by_cases h1 : 1 ≤ p.length ∧ p.length ≤ 5
    · obtain ⟨h1, h5⟩ := h1
      have hne : ((p.length : Int) == 0) = false := by rw [beq_eq_false_iff_ne]; omega
      have h5I : ¬ (5 : Int) < (p.length : Int) := by omega
      obtain ⟨n, hn⟩ : ∃ n, n = inv p := ⟨_, rfl⟩
      have hnb := inv_bound p (by omega)
      have HN := Lib.hid hn
      by_cases h7 : inv p ≤ 7
      · have e0 := Lib.hid (rd_t (p := p) (by unfold rdOK; rw [hp, decide_eq_true ⟨h1, h5, h7⟩]; rfl))
        have h7I : ¬ (7 : Int) < (n : Int) := by omega
        have HD : Hid (inv p ≤ 7) := h7
        have hrl := rw_len HIP.out h5 h7
        rw [← hn] at hnb
        clear hp h00 hn h7
        go_enter Try.func22, Try.ntmps22
        go_wp2_with fail
        refine (impl_IsPerm_ok _ p _ h).mono ?_
        rintro e w1 ⟨rfl, he1⟩
        rw [hP.out]
        go_wp2_with fail
        refine (impl_inversions_ok _ p _ (h.ext he1) (by omega)).mono ?_
        rintro e w2 ⟨rfl, q2⟩
        rw [← HN.out]
        have HE2 := Lib.hid (Ext.trans he1 q2.ext)
        have HS2 := Lib.hid (h.ext HE2.out)
        clear he1 q2
        go_wp2_with fail
        refine (reducedWords_ok (inv p) _ p _ HIP.out h5 rfl HD.out HS2.out).mono ?_
        rintro e w3 ⟨b3, c3, rfl, hr3, he3⟩
        have hg : ∀ args w, (callFunc 76 args).run Try.prog w = .ok (.enter 76 args) w := enters_of Try.func76 rfl rfl
        have HW : Hid (∀ x ∈ rwL p, x.length = inv p) := fun x hx => rwL_wlen HIP.out hx
        have HC := Lib.hid (sortRows_ok lexTot _ hg hr3 (by omega) (fun u v xs ys W h1 h2 h3 h4 => (slicesCompare_ok u v xs ys W h1 h2 (by rcases h3 with h | rfl; have := HW.out xs h; have := HD.out; omega; simp) (by rcases h4 with h | rfl; have := HW.out ys h; have := HD.out; omega; simp)).mono fun _ _ ⟨e, q⟩ => ⟨e, Lay.qt q⟩))
        have hlo := hr3.lo
        have HE3 := Lib.hid (HE2.out.trans he3)
        have hz2 := HE2.out.size
        clear hr3 hg
        go_wp2_with fail
        refine HC.out.mono ?_
        rintro e w5 ⟨rfl, L', hr5, hp5, hs5, hu5⟩
        have hsw : SrtW L' := by
          unfold SrtW
          refine List.Pairwise.imp_of_mem ?_ hs5
          intro x y hx hy hxy
          have e1 := HW.out x (hp5.mem_iff.1 hx)
          have e2 := HW.out y (hp5.mem_iff.1 hy)
          unfold befB
          rw [hxy, decide_eq_false (by omega)]; simp
        have HL : Hid (L' = putAll (rwL p)) := putAll_uniq (srtW_nodup hsw (hp5.nodup_iff.2 (rwL_nodup HIP.out))) (fun x => hp5.mem_iff)
        have hlen : (rwL p).length = (putAll (rwL p)).length := by rw [← HL.out]; exact hp5.length_eq.symm
        have HLE := Lib.hid hlen
        rw [HL.out] at hr5
        have HR5 := Lib.hid ((hr5.mono hu5.size).monoB hz2)
        have HE5 := Lib.hid (HE3.out.upd1 hu5 (by omega))
        clear hlen hp5 hs5 hu5 hr5 hsw HC
        go_wp2_with fail
        go_ret
        rw [e0.out]
        exact ⟨_, rfl, HR5.out.oii HLE.out, HE5.out⟩
      · have e0 := Lib.hid (rd_f (p := p) (by unfold rdOK; rw [decide_eq_false (fun h => h7 h.2.2), Bool.and_false]))
        have h7I : (7 : Int) < (n : Int) := by omega
        rw [← hn] at hnb
        clear hp h00 hn h7
        go_enter Try.func22, Try.ntmps22
        go_wp2_with fail
        refine (impl_IsPerm_ok _ p _ h).mono ?_
        rintro e w1 ⟨rfl, he1⟩
        rw [hP.out]
        go_wp2_with fail
        refine (impl_inversions_ok _ p _ (h.ext he1) (by omega)).mono ?_
        rintro e w2 ⟨rfl, q2⟩
        rw [← HN.out]
        go_wp2_with fail
        go_ret
        rw [e0.out]
        exact ⟨_, rfl, OII.nil _ _ _, Ext.trans he1 q2.ext⟩
    · have e0 := Lib.hid (rd_f (p := p) (by unfold rdOK; rw [decide_eq_false (fun h => h1 ⟨h.1, h.2.1⟩), Bool.and_false]))
      have hc : p.length = 0 ∨ (¬ p.length = 0 ∧ 5 < p.length) := by omega
      clear hp h00 h1
      rcases hc with hc | ⟨hc, hd⟩
      · have hne : ((p.length : Int) == 0) = true := by rw [beq_iff_eq]; omega
        clear hc
        go_enter Try.func22, Try.ntmps22
        go_wp2_with (go_at_call 72; refine (impl_IsPerm_ok _ p _ h).mono ?_; rintro e w1 ⟨rfl, he⟩; rw [hP.out])
        go_ret
        rw [e0.out]
        exact ⟨_, rfl, OII.nil _ _ _, he⟩
      · have hne : ((p.length : Int) == 0) = false := by rw [beq_eq_false_iff_ne]; omega
        have h5I : (5 : Int) < (p.length : Int) := by omega
        clear hc
        go_enter Try.func22, Try.ntmps22
        go_wp2_with (go_at_call 72; refine (impl_IsPerm_ok _ p _ h).mono ?_; rintro e w1 ⟨rfl, he⟩; rw [hP.out])
        go_ret
        rw [e0.out]
        exact ⟨_, rfl, OII.nil _ _ _, he⟩
end Go.Proofs.Ytmnbdphfoonleaa
