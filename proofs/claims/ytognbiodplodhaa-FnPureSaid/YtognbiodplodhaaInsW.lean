/- The specification's l19Put: a number into a tableau. Conditions: at most 8 rows of at most 8 numbers, none empty. -/
import Derived.Test.YtognbiodplodhaaInsP
import Derived.Test.YtognbiodplodhaaOff
import Derived.Deep.AppendLies
namespace Go.Proofs.Ytognbiodplodhaa
open Go.RowKit

theorem OI.offOuter {B H : Nat} {w : World} {u : Value} {ys : List Int} {b c : Nat} {us : List Value} (h : OI B H w u ys) (k : Row 24 w b c us) : u.ownBlock ≠ some b := by
  rcases h with ⟨rfl, _⟩ | ⟨b1, c1, rfl, _, _, hr⟩
  · simp [Value.ownBlock]
  · simp only [Value.ownBlock, ne_eq, Option.some.injEq]
    rintro rfl
    obtain ⟨cur, h1, _⟩ := hr.cur
    obtain ⟨cur', h1', _⟩ := k.cur
    rw [h1] at h1'
    injection h1' with h1'
    injection h1' with _ h1'
    exact absurd h1' (by decide)
theorem OI.full {B H : Nat} {w : World} {u : Value} {ys : List Int} (h : OI B H w u ys) (hl : 0 < ys.length) : ∃ b c, u = .slice (some ⟨b, 0, none⟩) ys.length c ∧ B ≤ b ∧ b < H ∧ Row 3 w b c (vals ys) := by
  rcases h with ⟨rfl, rfl⟩ | h
  · simp at hl
  · exact h
theorem Els.grownT {B H : Nat} {w w' : World} {vs : List Value} {xss : List (List Int)} {k : Nat} {ys : List Int} {b' c' : Nat} (h : Els B H w vs xss) (hk : k < xss.length) (hH : H ≤ w.heap.size)
    (hu : Upd (fun j => (nthV vs k).ownBlock = some j) w w') (hr : Row 3 w' b' c' (vals ys)) (hB : B ≤ b') (hb : (nthV vs k).ownBlock = some b' ∨ H ≤ b') :
    Els B w'.heap.size w' (vs.set k (.slice (some ⟨b', 0, none⟩) ys.length c')) (xss.set k ys) := by
  have hl := h.len
  have hz := hu.size
  have hown : ∀ c, (Value.slice (some ⟨b', 0, none⟩) ys.length c').ownBlock = some c → c = b' := fun c hc => by simp [Value.ownBlock] at hc; exact hc.symm
  -- block b' is no other one's
  have far : ∀ i, i < xss.length → i ≠ k → (nthV vs i).ownBlock ≠ some b' := by
    intro i hi hne hc
    rcases hb with e | e
    · rcases Nat.lt_or_ge i k with h1 | h1
      · exact h.apart i k b' h1 hk hc e
      · exact h.apart k i b' (by omega) hi e hc
    · have := (h.el i hi).own hc; omega
  refine ⟨by simp [hl], fun i hi => ?_, fun i j c hij hj hi => ?_⟩
  · have hi' : i < xss.length := by simpa using hi
    by_cases e : k = i
    · subst e; rw [nthL_set_same ys hk, nthV_set_same _ (by omega)]; exact OI.row hr hB rfl
    · rw [nthL_set_other ys e, nthV_set_other _ e]
      refine ((h.el i hi').upd hu (fun b hbb _ _ hc => ?_)).mono (Nat.le_refl _) (by omega)
      rcases Nat.lt_or_ge i k with h1 | h1
      · exact h.apart i k b h1 hk hbb hc
      · exact h.apart k i b (by omega) hi' hc hbb
  · have hj' : j < xss.length := by simpa using hj
    by_cases e : k = i
    · subst e
      rw [nthV_set_same _ (by omega)] at hi
      rw [nthV_set_other _ (by omega), hown c hi]
      exact far j hj' (by omega)
    · rw [nthV_set_other _ e] at hi
      by_cases e2 : k = j
      · subst e2
        rw [nthV_set_same _ (by omega)]
        intro hc
        rw [hown c hc] at hi
        exact far i (by omega) (by omega) hi
      · rw [nthV_set_other _ e2]; exact h.apart i j c hij hj' hi
def NE (L : List (List Int)) : Prop := ∀ i, i < L.length → 0 < (nthL L i).length ∧ (nthL L i).length ≤ 8
theorem NE.set {L : List (List Int)} (h : NE L) {r : Nat} {ys : List Int} (hy : 0 < ys.length ∧ ys.length ≤ 8) : NE (L.set r ys) := by
  intro i hi
  have hi' : i < L.length := by simpa using hi
  by_cases e : r = i
  · subst e; rw [nthL_set_same ys hi']; exact hy
  · rw [nthL_set_other ys e]; exact h i hi'
theorem isL_ne {L : List (List Int)} (h : NE L) (v : Int) (r : Nat) : NE (isL L v r) := by
  induction r with
  | zero => exact h
  | succ r ih =>
    rw [isL_succ]
    by_cases hr : r < (isL L v r).length
    · exact ih.set (by rw [List.length_set]; exact ih r hr)
    · rw [List.set_eq_of_length_le (by omega)]; exact ih
theorem wpl_app1T {w : World} {ops : Array Oper} {rest : List Oper} {o : Oper} {a : Act} {Q : Exit → Act → World → Prop} (hgd : o.guard = none) (s x : Operand)
    (ho : o.op = .call { callee := .builtin .append, args := #[s, x], argTypes := #[24, 24] })
    (B : Nat) (v : Value) (xs : List Int) (y : Int) (hs : a.eval s = v) (hr : OI B w.heap.size w v xs) (hB : B ≤ w.heap.size)
    (m : Nat) (hx : a.eval x = .slice (some ⟨m, 0, none⟩) 1 1) (hm : m = w.heap.size) (hb : xs.length ≤ 1000000000)
    (h : ∀ b' cap' w', Row 3 w' b' cap' (vals (xs ++ [y])) → B ≤ b' → (v.ownBlock = some b' ∨ w.heap.size ≤ b') → Upd (fun k => v.ownBlock = some k) w w' → wpList Try.prog ops Q rest (a.put o.dst (.slice (some ⟨b', 0, none⟩) (xs.length + 1) cap')) w') :
    wpList Try.prog ops Q (o :: rest) a (w.alloc (.cells #[.int .i64 y] 3)) := by
  subst hm
  obtain ⟨i, hi, hz, hs1, hby⟩ := info_int
  have hr2 : OI B w.heap.size (w.alloc (.cells #[.int .i64 y] 3)) v xs := hr.ext (Upd.alloc _ _ _)
  refine wpList_append_lies _ hgd s x 24 ho B 3 i (.int .i64 0) 1 8 Try.underlying24 hi hz hs1 hby rfl (by decide) v xs.length (vals xs) hs hr2.owns ⟨w.heap.size, 0, none⟩ 1 1 [.int .i64 y] hx rfl ?_ ?_ (by decide) ?_ ?_ (by simp; omega) _ rfl ?_
  · intro j u hj
    cases j with
    | zero => simp at hj; subst hj; exact World.cell?_alloc_at _ _ _ _ rfl
    | succ j => simp at hj
  · intro u hu; simp at hu; subst hu; rfl
  · unfold maxLen; omega
  · omega
  · intro g cap w' h1 h2 h3 h4
    obtain ⟨r1, _, r3⟩ := Row.of_owns h1
    have hv : vals xs ++ [.int .i64 y] = vals (xs ++ [y]) := by simp [vals]
    rw [hv] at r1
    have hu : Upd (fun k => v.ownBlock = some k) (w.alloc (.cells #[.int .i64 y] 3)) w' := ⟨h2.os, h2.tape, h2.output, h2.size, fun k hk hn => h2.block k hk (fun e => hn e.symm)⟩
    exact h g cap w' r1 r3 (h3.imp id (fun e => by simp at e; omega)) ((Upd.alloc w _ _).trans hu)
/-- what l19Put hands out. -/
def TabPost (B b : Nat) (vs : List Value) (L : List (List Int)) (v : Int) (w : World) (e : Ending) (w' : World) : Prop :=
  ∃ r b' c' m' vs', e = .returned (.tuple #[.slice (some ⟨b', 0, none⟩) m' c', .int .i64 ((r : Nat) : Int)]) ∧ InsAt L v r ∧ m' = (insA L v r).length ∧ Row 24 w' b' c' vs' ∧ Els B w'.heap.size w' vs' (insA L v r) ∧
    (∀ i k, i < vs'.length → (nthV vs' i).ownBlock = some k → (i < vs.length ∧ (nthV vs i).ownBlock = some k) ∨ w.heap.size ≤ k) ∧ (b' = b ∨ w.heap.size ≤ b') ∧ Upd (fun k => k = b ∨ ∃ i, i < vs.length ∧ (nthV vs i).ownBlock = some k) w w'
theorem TabPost.of {B b : Nat} {vs : List Value} {L : List (List Int)} {v : Int} {w w' : World} {e : Ending} (r b' c' m' : Nat) (vs' : List Value) (h1 : e = .returned (.tuple #[.slice (some ⟨b', 0, none⟩) m' c', .int .i64 (r : Int)])) (h2 : InsAt L v r) (h3 : m' = (insA L v r).length) (h4 : Row 24 w' b' c' vs') (h5 : Els B w'.heap.size w' vs' (insA L v r))
    (h6 : ∀ i k, i < vs'.length → (nthV vs' i).ownBlock = some k → (i < vs.length ∧ (nthV vs i).ownBlock = some k) ∨ w.heap.size ≤ k) (h7 : b' = b ∨ w.heap.size ≤ b') (h8 : Upd (fun k => k = b ∨ ∃ i, i < vs.length ∧ (nthV vs i).ownBlock = some k) w w') : TabPost B b vs L v w e w' :=
  ⟨r, b', c', m', vs', h1, h2, h3, h4, h5, h6, h7, h8⟩
theorem insA_t {L : List (List Int)} {v : Int} {r : Nat} (h : r < L.length) : insA L v r = (isL L v r).set r (nthL (isL L v r) r ++ [isV L v r]) := by
  unfold insA grow; rw [isL_len, if_neg (by omega)]
theorem insA_f {L : List (List Int)} {v : Int} {r : Nat} (h : r = L.length) : insA L v r = isL L v r ++ [[isV L v r]] := by
  unfold insA grow; rw [isL_len, if_pos h]
set_option maxHeartbeats 4000000 in
theorem l19Put_ok (B b c m : Nat) (vs : List Value) (L : List (List Int)) (v : Int) (w : World) (h : Row 24 w b c vs) (he : Els B w.heap.size w vs L) (hm : m = L.length) (hB : B ≤ w.heap.size) (hl : L.length ≤ 8) (hne : NE L) :
    Calls Try.prog 89 #[.slice (some ⟨b, 0, none⟩) m c, .int .i64 v] w (TabPost B b vs L v w) := by
  have HNE := Lib.hid hne
  have HM := Lib.hid hm
  have HL0 := Lib.hid he.len
  have HR0 : Hid (Row 24 w b c vs) := h
  have HE0 : Hid (Els B w.heap.size w vs (isL L v 0)) := he
  have hm8 : m ≤ 8 := by omega
  have hbl := h.lt
  clear hne hm h he
  go_enter Try.func89, Try.ntmps89
  go_wp2_with fail
  go_loopw [1, 6] (fun n i wr => ∃ r : Nat, r ≤ m ∧ i = .int .i64 r ∧ (∃ x, n = .int .i64 x ∧ Hid (x = isV L v r)) ∧ Hid (Row 24 wr b c vs) ∧ Hid (Els B wr.heap.size wr vs (isL L v r)) ∧ Hid (∀ j, j < r → ¬ Stop L v j) ∧ Hid (Upd (fun k => k = b ∨ ∃ i, i < vs.length ∧ (nthV vs i).ownBlock = some k) w wr)) (fun _ i _ => m - (intOf i).toNat)
  case atStart => exact ⟨0, Nat.zero_le _, rfl, ⟨v, rfl, Lib.hid rfl⟩, HR0, HE0, Lib.hid (fun j hj => absurd hj (Nat.not_lt_zero _)), Upd.refl _ _⟩
  case round =>
    obtain ⟨r, hr, rfl, ⟨x, rfl, hx⟩, hR, hE, hS, hU⟩ := hrel
    clear HR0 HE0
    have hwz := hU.out.size
    by_cases hlt : r < m
    · have HLT : Hid (r < L.length) := by show _ < _; rw [← HM.out]; exact hlt
      have hrl : r < (isL L v r).length := by rw [isL_len]; exact HLT.out
      have hrv : r < vs.length := by rw [HL0.out]; exact HLT.out
      obtain ⟨M, hMM⟩ : ∃ M, M = isL L v r := ⟨_, rfl⟩
      have HMM := Lib.hid hMM
      have hneM := isL_ne HNE.out v r r hrl
      rw [← hMM] at hE hneM hrl
      obtain ⟨row, hrow⟩ : ∃ row, row = nthL M r := ⟨_, rfl⟩
      have HROW := Lib.hid hrow
      have hoi := hE.out.el r hrl
      rw [← hrow] at hneM hoi
      obtain ⟨hr0, hr8⟩ := hneM
      obtain ⟨bu, cu, hu, hBu, hHu, hru⟩ := hoi.full hr0
      have HOI := Lib.hid hoi
      have HVU := Lib.hid hu
      have HRU := Lib.hid hru
      have hcell := hR.out.cell (nthV_get hrv)
      rw [hu] at hcell
      have HCELL := Lib.hid hcell
      obtain ⟨f, hf⟩ : ∃ f, f = fi x row := ⟨_, rfl⟩
      have HF := Lib.hid hf
      have hfl : f ≤ row.length := by rw [hf]; exact fi_le _ _
      have HRV := Lib.hid hrv
      have HRL := Lib.hid hrl
      have HBU : Hid (bu ≠ b) := fun e => hoi.offOuter hR.out (by rw [hu, e]; rfl)
      clear hMM hrow hoi hu hru hrv hrl hf hcell
      go_wp2_with fail
      obtain ⟨wp, hwp⟩ : ∃ wp, wp = wr := ⟨_, rfl⟩
      subst hwp
      go_loopw [7] (fun i wr => ∃ k : Nat, k ≤ f ∧ i = .int .i64 k ∧ wr = wp) (fun i _ => f - (intOf i).toNat)
      case atStart => exact ⟨0, Nat.zero_le _, rfl, rfl⟩
      case round =>
        obtain ⟨k, hk, rfl, rfl⟩ := hrel
        have hcell := HCELL.out
        have hrI : (r : Int) < (m : Int) := by omega
        by_cases hkf : k < f
        · have ic := HRU.out.icell (j := k) (by omega)
          have hxk : nth row k < x := by rw [HF.out] at hkf; exact fi_lt hkf
          have hkI : (k : Int) < (row.length : Int) := by omega
          obtain ⟨y, hy⟩ : ∃ y, y = nth row k := ⟨_, rfl⟩
          rw [← hy] at ic hxk
          clear hy
          go_wp2_with fail
          go_roundw
          case rel => exact ⟨k + 1, by omega, by go_num, trivial⟩
          case measure => simp [intOf]; omega
        · obtain rfl : k = f := by omega
          have HOIU : Hid (OI B wr.heap.size wr (.slice (some ⟨bu, 0, none⟩) row.length cu) row) := by show OI _ _ _ _ _; rw [← HVU.out]; exact HOI.out
          by_cases hst : k = row.length
          · have g1 : ¬ (k : Int) < (row.length : Int) := by omega
            have g2 : ((k : Int) == (row.length : Int)) = true := by rw [beq_iff_eq]; omega
            have HIN : Hid (InsAt L v r) := ⟨by have := HLT.out; omega, .inr (by rw [← HMM.out, ← hx.out, ← HROW.out, ← HF.out]; exact hst), hS.out⟩
            have hBw : B ≤ wr.heap.size := by omega
            have hrw : row.length ≤ 1000000000 := by omega
            clear hst
            go_wp2_with (at_builtin; go_loud (refine wpl_app1T rfl (.tmp 47) (.tmp 49) rfl B (.slice (some ⟨bu, 0, none⟩) row.length cu) row x rfl HOIU.out hBw _ rfl rfl hrw ?_); intro g8 c8 w8 hr8 hg8 hg8' hu8; have hR8 := hR.out.upd hu8 (fun e => HBU.out (by simp [Value.ownBlock] at e; exact e)); have d0 := hR8.cell (nthV_get HRV.out); have f0 := hR8.free r none; have HR8 := Lib.hid hR8; have HI8 := Lib.hid hr8; have HU8 := Lib.hid hu8; have HG8 := Lib.hid hg8'; have hz8 := hu8.size; clear hR8 hr8 hu8 hg8')
            have hG : Els B w8.heap.size w8 (vs.set r (.slice (some ⟨g8, 0, none⟩) (row ++ [x]).length c8)) (M.set r (row ++ [x])) := hE.out.grownT HRL.out (Nat.le_refl _) (by rw [HVU.out]; exact HU8.out) HI8.out hg8 (by rw [HVU.out]; exact HG8.out)
            have hlen : (row ++ [x]).length = row.length + 1 := by simp
            rw [hlen] at hG
            have HEF : Hid (insA L v r = M.set r (row ++ [x])) := by show _ = _; rw [insA_t HLT.out, ← HMM.out, ← hx.out, ← HROW.out]
            have HE9 : Hid (Els B (w8.setCell ⟨b, r, none⟩ (.slice (some ⟨g8, 0, none⟩) (row.length + 1) c8)).heap.size (w8.setCell ⟨b, r, none⟩ (.slice (some ⟨g8, 0, none⟩) (row.length + 1) c8)) (vs.set r (.slice (some ⟨g8, 0, none⟩) (row.length + 1) c8)) (insA L v r)) := by
              rw [HEF.out]
              exact (hG.upd (Upd.setCell w8 ⟨b, r, none⟩ _) (fun i k hi hk e => (hG.el i hi).offOuter HR8.out (by rw [hk, e]))).mono (Nat.le_refl _) (by simp)
            have HR9 := Lib.hid (HR8.out.set r (.slice (some ⟨g8, 0, none⟩) (row.length + 1) c8))
            have HU9 : Hid (Upd (fun k => k = b ∨ ∃ i, i < vs.length ∧ (nthV vs i).ownBlock = some k) w (w8.setCell ⟨b, r, none⟩ (.slice (some ⟨g8, 0, none⟩) (row.length + 1) c8))) :=
              (hU.out.comp HU8.out (D' := fun k => k = b ∨ ∃ i, i < vs.length ∧ (nthV vs i).ownBlock = some k) (fun _ _ h => h) (fun i hi e => .inr ⟨r, HRV.out, by rw [HVU.out]; exact e⟩)).comp (Upd.setCell w8 ⟨b, r, none⟩ _) (fun _ _ h => h) (fun i hi e => .inl e)
            have HM9 : Hid (m = (insA L v r).length) := by show _ = _; rw [HEF.out, List.length_set, HMM.out, isL_len]; exact HM.out
            have HOW : Hid (∀ i k, i < (vs.set r (.slice (some ⟨g8, 0, none⟩) (row.length + 1) c8)).length → (nthV (vs.set r (.slice (some ⟨g8, 0, none⟩) (row.length + 1) c8)) i).ownBlock = some k → (i < vs.length ∧ (nthV vs i).ownBlock = some k) ∨ w.heap.size ≤ k) := by
              intro i q hi hq
              have hi' : i < vs.length := by simpa using hi
              by_cases e : r = i
              · subst e
                rw [nthV_set_same _ hi'] at hq
                have e2 : g8 = q := by simpa [Value.ownBlock] using hq
                subst e2
                rcases HG8.out with e3 | e3
                · exact .inl ⟨hi', by rw [HVU.out]; exact e3⟩
                · exact .inr (by omega)
              · rw [nthV_set_other _ e] at hq
                exact .inl ⟨hi', hq⟩
            clear hG d0 f0
            go_ret2
            exact TabPost.of r b c m _ rfl HIN.out HM9.out HR9.out HE9.out HOW.out (.inl rfl) HU9.out
          · have hkr : k < row.length := by omega
            have ic := HRU.out.icell (j := k) hkr
            have f0 := HRU.out.free k none
            have hnx : ¬ nth row k < x := by
              have := fi_ge (v := x) (r := row) (by rw [← HF.out]; exact hkr)
              rwa [← HF.out] at this
            have HNS : Hid (∀ j, j < r + 1 → ¬ Stop L v j) := by
              intro j hj
              by_cases e : j = r
              · subst e
                rintro (e | e)
                · have := HLT.out; omega
                · rw [← HMM.out, ← hx.out, ← HROW.out, ← HF.out] at e; omega
              · exact hS.out j (by omega)
            have HV9 : Hid (nth row k = isV L v (r + 1)) := by show _ = _; rw [isV_succ, ← HMM.out, ← hx.out, ← HROW.out, ← HF.out]
            have HL9 : Hid (isL L v (r + 1) = M.set r (row.set k x)) := by show _ = _; rw [isL_succ, ← HMM.out, ← hx.out, ← HROW.out, ← HF.out]
            have HE9 : Hid (Els B (wr.setCell ⟨bu, k, none⟩ (.int .i64 x)).heap.size (wr.setCell ⟨bu, k, none⟩ (.int .i64 x)) vs (isL L v (r + 1))) := by
              rw [HL9.out]
              have hrs := HRU.out.set k (.int .i64 x)
              rw [vals_set] at hrs
              refine (hE.out.set HRL.out ((Upd.setCell wr ⟨bu, k, none⟩ (.int .i64 x)).mono (fun i _ e => by rw [HVU.out]; simp [Value.ownBlock]; exact e.symm)) ?_).mono (Nat.le_refl _) (by simp)
              rw [HVU.out]
              exact (OI.row hrs hBu (by simp)).mono (Nat.le_refl _) (by simp)
            have HR9 : Hid (Row 24 (wr.setCell ⟨bu, k, none⟩ (.int .i64 x)) b c vs) := hR.out.upd (Upd.setCell wr ⟨bu, k, none⟩ (.int .i64 x)) (fun e => HBU.out e.symm)
            have HU9 : Hid (Upd (fun k => k = b ∨ ∃ i, i < vs.length ∧ (nthV vs i).ownBlock = some k) w (wr.setCell ⟨bu, k, none⟩ (.int .i64 x))) :=
              hU.out.comp (Upd.setCell wr ⟨bu, k, none⟩ (.int .i64 x)) (fun _ _ h => h) (fun i hi e => .inr ⟨r, HRV.out, by rw [HVU.out, show i = bu from e]; rfl⟩)
            have g1 : (k : Int) < (row.length : Int) := by omega
            have g2 : ((k : Int) == (row.length : Int)) = false := by rw [beq_eq_false_iff_ne]; omega
            obtain ⟨y, hy⟩ : ∃ y, y = nth row k := ⟨_, rfl⟩
            rw [← hy] at ic hnx HV9
            clear hy hst
            go_wp2_with fail
            go_roundw
            case rel => exact ⟨r + 1, by omega, by go_num, ⟨y, rfl, HV9⟩, HR9, HE9, HNS, HU9⟩
            case measure => simp [intOf]; omega
    · obtain rfl : r = m := by omega
      have HIN : Hid (InsAt L v r) := ⟨by have := HM.out; omega, .inl HM.out, hS.out⟩
      have hmv : Hid (r = vs.length) := by show _ = _; rw [HL0.out]; exact HM.out
      have HI0 := Lib.hid (Row.new 3 wr (vals [x]) (by simp [vals, maxLen]))
      have hA : Ext wr (wr.alloc (.cells #[.int .i64 x] 3)) := Upd.alloc _ _ _
      have HRA := Lib.hid (hR.out.ext hA)
      have HEA := Lib.hid (hE.out.ext hA)
      have HUA := Lib.hid (hU.out.trans (Ext.toUpd hA _))
      have hvb : Hid (vs.length ≤ 1000000) := by show _ ≤ _; rw [← hmv.out]; omega
      have hwb : b < wr.heap.size := hR.out.lt
      clear hA
      have hws : (wr.alloc (.cells #[.int .i64 x] 3)).heap.size = wr.heap.size + 1 := by simp
      go_wp2_with (at_builtin; go_loud (refine wpl_appv (w := wr.alloc (.cells #[.int .i64 x] 3)) rfl (.tmp 69) (.tmp 72) rfl b c r vs (some ⟨wr.heap.size, 0, none⟩) 1 1 rfl HRA.out hmv.out (by rw [hws]; rfl) (by have := hvb.out; omega) ?_); intro b9 c9 w9 hr9 hb9 hu9)
      have hz9 := hu9.size
      rw [hws] at hz9 hb9
      have hEa := HEA.out.upd hu9 (fun i k hi hk e => (HEA.out.el i hi).offOuter HRA.out (by rw [hk, e]))
      have hIr : Row 3 w9 wr.heap.size 1 (vals [x]) := HI0.out.upd hu9 (by omega)
      have hI9 : OI B w9.heap.size w9 (.slice (some ⟨wr.heap.size, 0, none⟩) 1 1) [x] := OI.row hIr (by omega) rfl
      have hE9 := hEa.push hI9 (by omega) (fun q hq => by simp [Value.ownBlock] at hq; omega)
      have HEF : Hid (insA L v r = isL L v r ++ [[x]]) := by show _ = _; rw [insA_f HM.out, ← hx.out]
      rw [← HEF.out] at hE9
      have HE9 := Lib.hid hE9
      have HR9 := Lib.hid hr9
      have HU9 : Hid (Upd (fun k => k = b ∨ ∃ i, i < vs.length ∧ (nthV vs i).ownBlock = some k) w w9) := HUA.out.comp hu9 (D' := fun k => k = b ∨ ∃ i, i < vs.length ∧ (nthV vs i).ownBlock = some k) (fun _ _ h => h) (fun i hi e => .inl e)
      have HM9 : Hid (r + 1 = (insA L v r).length) := by show _ = _; rw [HEF.out, List.length_append, isL_len, ← HM.out]; rfl
      have hb9' : b9 = b ∨ w.heap.size ≤ b9 := by rcases hb9 with e | e <;> omega
      have HOW : Hid (∀ i k, i < (vs ++ [Value.slice (some ⟨wr.heap.size, 0, none⟩) 1 1]).length → (nthV (vs ++ [Value.slice (some ⟨wr.heap.size, 0, none⟩) 1 1]) i).ownBlock = some k → (i < vs.length ∧ (nthV vs i).ownBlock = some k) ∨ w.heap.size ≤ k) := by
        intro i q hi hq
        rcases Nat.lt_or_ge i vs.length with e | e
        · rw [nthV_append_lt e] at hq; exact .inl ⟨e, hq⟩
        · obtain rfl : i = vs.length := by simp at hi; omega
          rw [nthV_append_last] at hq
          simp [Value.ownBlock] at hq
          exact .inr (by omega)
      clear hE9 hr9 hu9 hEa hIr hI9
      go_ret2
      exact TabPost.of r b9 c9 (r + 1) _ rfl HIN.out HM9.out HR9.out HE9.out HOW.out hb9' HU9.out
end Go.Proofs.Ytognbiodplodhaa
