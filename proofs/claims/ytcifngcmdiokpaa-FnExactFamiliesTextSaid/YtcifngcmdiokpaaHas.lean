/- Patterns: does one occur, and how often; the program's search. Conditions: lengths of at most 8. -/
import Derived.Test.YtcifngcmdiokpaaBase2
import Derived.Test.YtcifngcmdiokpaaRow3
import Derived.Test.YtcifngcmdiokpaaCopy
namespace Go.Proofs.Ytcifngcmdiokpaa
open Go.RowKit

def nthN (d : List Nat) (k : Nat) : Nat := d.getD k 0
def ivals (d : List Nat) : List Int := d.map fun (x : Nat) => (x : Int)
def jvals (d : List Nat) : List Int := d.map fun (x : Nat) => (x : Int) + 1
theorem ivals_len (d : List Nat) : (ivals d).length = d.length := by simp [ivals]
theorem jvals_len (d : List Nat) : (jvals d).length = d.length := by simp [jvals]
theorem ivals_nth {d : List Nat} {k : Nat} (h : k < d.length) : nth (ivals d) k = (nthN d k : Int) := by simp [nth, nthN, ivals, h]
theorem jvals_nth {d : List Nat} {k : Nat} (h : k < d.length) : nth (jvals d) k = (nthN d k : Int) + 1 := by simp [nth, nthN, jvals, h]
theorem ivals_push (d : List Nat) (i : Nat) : ivals d ++ [(i : Int)] = ivals (d ++ [i]) := by simp [ivals]
theorem jvals_push (d : List Nat) (i : Nat) : jvals d ++ [(i : Int) + 1] = jvals (d ++ [i]) := by simp [jvals]
theorem nthN_mem {d : List Nat} {k : Nat} (h : k < d.length) : nthN d k ∈ d := by simp [nthN, h]
def fitTo (p q : List Int) (d : List Nat) (i k : Nat) : Bool := (List.range k).all fun l => decide (nth p (nthN d l) < nth p i) == decide (nth q l < nth q d.length)
def fitB (p q : List Int) (d : List Nat) (i : Nat) : Bool := fitTo p q d i d.length
theorem fitTo_zero (p q : List Int) (d : List Nat) (i : Nat) : fitTo p q d i 0 = true := rfl
theorem fitTo_succ (p q : List Int) (d : List Nat) (i k : Nat) : fitTo p q d i (k + 1) = (fitTo p q d i k && (decide (nth p (nthN d k) < nth p i) == decide (nth q k < nth q d.length))) := by simp [fitTo, List.range_succ]
theorem fitTo_false {p q : List Int} {d : List Nat} {i k m : Nat} (h : fitTo p q d i k = false) (hm : k ≤ m) : fitTo p q d i m = false := by
  induction m with
  | zero => obtain rfl : k = 0 := by omega
            exact h
  | succ m ih =>
    by_cases e : k = m + 1
    · subst e; exact h
    · rw [fitTo_succ, ih (by omega)]; rfl
def fromN (d : List Nat) : Nat := if d.length = 0 then 0 else nthN d (d.length - 1) + 1
theorem fromN_le {d : List Nat} {n : Nat} (h : ∀ x ∈ d, x < n) : fromN d ≤ n := by
  unfold fromN
  split
  · omega
  · have := h _ (nthN_mem (d := d) (k := d.length - 1) (by omega)); omega
theorem fromN_push (d : List Nat) (i : Nat) : fromN (d ++ [i]) = i + 1 := by simp [fromN, nthN]
def anyC (h : Nat → Bool) (t : Nat) : Bool := (List.range t).any h
theorem anyC_succ (h : Nat → Bool) (t : Nat) : anyC h (t + 1) = (anyC h t || h t) := by simp [anyC, List.range_succ]
theorem anyC_iff {h : Nat → Bool} {t : Nat} : anyC h t = true ↔ ∃ i, i < t ∧ h i = true := by simp [anyC]
theorem anyC_true {h : Nat → Bool} {t i : Nat} (hi : i < t) (hh : h i = true) : anyC h t = true := anyC_iff.2 ⟨i, hi, hh⟩
theorem anyC_down {h : Nat → Bool} {t m : Nat} (hm : m ≤ t) (hh : anyC h t = false) : anyC h m = false := by
  rw [Bool.eq_false_iff] at hh ⊢
  intro hx
  obtain ⟨i, h1, h2⟩ := anyC_iff.1 hx
  exact hh (anyC_true (show i < t by omega) h2)
def stepB (g : List Nat → Bool) (p q : List Int) (d : List Nat) (i : Nat) : Bool := decide (fromN d ≤ i) && (fitB p q d i && g (d ++ [i]))
theorem stepB_low (g : List Nat → Bool) (p q : List Int) (d : List Nat) : anyC (stepB g p q d) (fromN d) = false := by
  rw [Bool.eq_false_iff]; intro hx
  obtain ⟨i, h1, h2⟩ := anyC_iff.1 hx
  simp [stepB] at h2; omega
def haB (p q : List Int) : Nat → List Nat → Bool
  | 0, _ => true
  | f + 1, d => anyC (stepB (haB p q f) p q d) (p.length - f)
def sumC (h : Nat → Nat) : Nat → Nat
  | 0 => 0
  | t + 1 => sumC h t + h t
theorem sumC_pos {h : Nat → Nat} {t : Nat} : 0 < sumC h t ↔ ∃ i, i < t ∧ 0 < h i := by
  induction t with
  | zero => simp [sumC]
  | succ t ih =>
    simp only [sumC]
    constructor
    · intro hx
      by_cases e : 0 < h t
      · exact ⟨t, by omega, e⟩
      · obtain ⟨i, h1, h2⟩ := ih.1 (by omega)
        exact ⟨i, by omega, h2⟩
    · rintro ⟨i, h1, h2⟩
      by_cases e : i = t
      · subst e; omega
      · have := ih.2 ⟨i, by omega, h2⟩; omega
theorem sumC_le {h : Nat → Nat} {m : Nat} (hh : ∀ i, h i ≤ m) (t : Nat) : sumC h t ≤ t * m := by
  induction t with
  | zero => simp [sumC]
  | succ t ih => simp only [sumC]; have := hh t; rw [Nat.succ_mul]; omega
theorem sumC_mono {h : Nat → Nat} {s t : Nat} (hst : s ≤ t) : sumC h s ≤ sumC h t := by
  induction t with
  | zero => obtain rfl : s = 0 := by omega
            exact Nat.le_refl _
  | succ t ih =>
    by_cases e : s = t + 1
    · subst e; exact Nat.le_refl _
    · have := ih (by omega); simp only [sumC]; omega
def stepN (g : List Nat → Nat) (p q : List Int) (d : List Nat) (i : Nat) : Nat := bif decide (fromN d ≤ i) && fitB p q d i then g (d ++ [i]) else 0
theorem stepN_low (g : List Nat → Nat) (p q : List Int) (d : List Nat) : sumC (stepN g p q d) (fromN d) = 0 := by
  apply Nat.eq_zero_of_not_pos
  intro hx
  obtain ⟨i, h1, h2⟩ := sumC_pos.1 hx
  have : decide (fromN d ≤ i) = false := decide_eq_false (by omega)
  simp [stepN, this] at h2
theorem stepN_t {g : List Nat → Nat} {p q : List Int} {d : List Nat} {i : Nat} (h : fromN d ≤ i) (hf : fitB p q d i = true) : stepN g p q d i = g (d ++ [i]) := by simp [stepN, h, hf]
theorem stepN_f {g : List Nat → Nat} {p q : List Int} {d : List Nat} {i : Nat} (hf : fitB p q d i = false) : stepN g p q d i = 0 := by simp [stepN, hf]
def cntF (p q : List Int) : Nat → List Nat → Nat
  | 0, _ => 1
  | f + 1, d => sumC (stepN (cntF p q f) p q d) p.length
theorem cntF_le (p q : List Int) : ∀ f d, cntF p q f d ≤ p.length ^ f := by
  intro f
  induction f with
  | zero => intro d; simp [cntF]
  | succ f ih =>
    intro d
    simp only [cntF]
    refine Nat.le_trans (sumC_le (m := p.length ^ f) (fun i => ?_) _) (by rw [Nat.pow_succ, Nat.mul_comm]; exact Nat.le_refl _)
    unfold stepN
    cases decide (fromN d ≤ i) && fitB p q d i
    · exact Nat.zero_le _
    · exact ih _
theorem cntF_room (p q : List Int) : ∀ f d, fromN d ≤ p.length → 0 < cntF p q f d → fromN d + f ≤ p.length := by
  intro f
  induction f with
  | zero => intro d h _; omega
  | succ f ih =>
    intro d h hc
    simp only [cntF] at hc
    obtain ⟨i, h1, h2⟩ := sumC_pos.1 hc
    unfold stepN at h2
    cases hb : decide (fromN d ≤ i) && fitB p q d i
    · rw [hb] at h2; simp at h2
    · rw [hb] at h2
      simp at hb h2
      have := ih (d ++ [i]) (by rw [fromN_push]; omega) h2
      rw [fromN_push] at this; omega
theorem haB_cnt (p q : List Int) : ∀ f d, fromN d ≤ p.length → haB p q f d = decide (0 < cntF p q f d) := by
  intro f
  induction f with
  | zero => intro d _; simp [haB, cntF]
  | succ f ih =>
    intro d h
    rw [Bool.eq_iff_iff, decide_eq_true_iff]
    simp only [haB, cntF]
    rw [anyC_iff, sumC_pos]
    constructor
    · rintro ⟨i, h1, h2⟩
      simp only [stepB, Bool.and_eq_true, decide_eq_true_eq] at h2
      refine ⟨i, by omega, ?_⟩
      rw [stepN_t h2.1 h2.2.1]
      have := h2.2.2
      rw [ih _ (by rw [fromN_push]; omega)] at this
      simpa using this
    · rintro ⟨i, h1, h2⟩
      unfold stepN at h2
      cases hb : decide (fromN d ≤ i) && fitB p q d i
      · rw [hb] at h2; simp at h2
      · rw [hb] at h2
        simp at hb h2
        have hr := cntF_room p q f (d ++ [i]) (by rw [fromN_push]; omega) h2
        rw [fromN_push] at hr
        refine ⟨i, by omega, ?_⟩
        simp only [stepB, Bool.and_eq_true, decide_eq_true_eq]
        refine ⟨hb.1, hb.2, ?_⟩
        rw [ih _ (by rw [fromN_push]; omega)]
        simpa using h2

theorem wpl_unguard {P : Program} {ops : Array Oper} {Q : Exit → Act → World → Prop} {a : Act} {w : World} {rest : List Oper} {o : Oper} (hw : Region.wanted o (yielded ops a.tmps) = true)
    (h : wpList P ops Q ({ o with guard := none } :: rest) a w) : wpList P ops Q (o :: rest) a w := by
  unfold wpList at h ⊢
  rw [if_pos hw]
  rw [if_pos (by simp [Region.wanted])] at h
  exact h
set_option maxHeartbeats 4000000 in
theorem has_ok (p q : List Int) (hp8 : p.length ≤ 8) (hq8 : q.length ≤ 8) : ∀ (f : Nat) (v v2 v3 : Value) (d : List Nat) (w : World), SI w v p → SI w v2 q → SI w v3 (ivals d) → d.length + f = q.length → (∀ x ∈ d, x < p.length) →
    Calls Try.prog 52 #[v, v2, v3] w fun e w' => e = .returned (.bool (haB p q f d)) ∧ Ext w w' := by
  intro f
  induction f with
  | zero =>
    intro v v2 v3 d w h h2 h3 hlen hd
    obtain ⟨a, cap, rfl, -⟩ := h.elim
    obtain ⟨a2, cap2, rfl, -⟩ := h2.elim
    obtain ⟨a3, cap3, h3e, -⟩ := h3.elim
    rw [ivals_len] at h3e
    subst h3e
    have hl : (d.length : Int) = (q.length : Int) := by omega
    clear hlen
    go_enter Try.func52, Try.ntmps52
    go_wp2_with fail
    go_ret
    exact ⟨rfl, Ext.refl _⟩
  | succ f ih =>
    intro v v2 v3 d w h h2 h3 hlen hd
    obtain ⟨a, cap, rfl, hri⟩ := h.elim
    obtain ⟨a2, cap2, rfl, hri2⟩ := h2.elim
    obtain ⟨a3, cap3, h3e, hri3⟩ := h3.elim
    rw [ivals_len] at h3e
    subst h3e
    have hl : ¬ (d.length : Int) = (q.length : Int) := by omega
    have hha : Hid (haB p q (f + 1) d = anyC (stepB (haB p q f) p q d) (p.length - f)) := Lib.hid rfl
    have hfrom := fromN_le hd
    have HD := Lib.hid hd
    have IH := Lib.hid ih
    have HLEN := Lib.hid hlen
    obtain ⟨k, hk⟩ : ∃ k, k = d.length := ⟨_, rfl⟩
    obtain ⟨s, hs⟩ : ∃ s, s = fromN d := ⟨_, rfl⟩
    have hs0 : k = 0 → s = 0 := by intro e; rw [hs]; unfold fromN; rw [if_pos (by omega)]
    have hs1 : 0 < k → (s : Int) = nth (ivals d) (k - 1) + 1 := by
      intro e; rw [hs, ivals_nth (by omega)]; unfold fromN; rw [if_neg (by omega), hk]; rfl
    rw [← hk] at hl hlen h3
    rw [← hs] at hfrom
    have HKQ := Lib.hid (show (q.length : Int) = (k : Int) + (f : Int) + 1 by omega)
    have hkq : (k : Int) < (q.length : Int) := by omega
    have hfq : (f : Int) ≤ 8 := by omega
    have hst : Hid (anyC (stepB (haB p q f) p q d) s = false) := by show _ = _; rw [hs]; exact stepB_low _ _ _ _
    have HS := Lib.hid hs
    have HK := Lib.hid hk
    have h3l : (ivals d).length = k := by rw [ivals_len, hk]
    rw [← hk]
    have hl2 : ((k : Int) == (q.length : Int)) = false := by simpa using hl
    clear ih hd hlen hs hk hl
    go_enter Try.func52, Try.ntmps52
    rcases Nat.eq_zero_or_pos k with hk0 | hk0
    case inl =>
      have HZ := Lib.hid (hs0 hk0)
      have hk1 : ¬ (0 : Int) < (k : Int) := by omega
      clear hs0 hs1 hk0
      go_wp2_with fail
      go_loopw [9] (fun i wr => ∃ t : Nat, i = .int .i64 t ∧ t ≤ p.length ∧ s ≤ t ∧ Hid (anyC (stepB (haB p q f) p q d) t = false) ∧ Ext w wr) (fun i _ => p.length + 1 - (intOf i).toNat)
      case atStart => exact ⟨s, by rw [HZ.out]; rfl, hfrom, Nat.le_refl _, hst, Ext.refl _⟩
      case round =>
        obtain ⟨t, rfl, htp, hts, hA, he⟩ := hrel
        by_cases hlt : (t : Int) ≤ (p.length : Int) - ((q.length : Int) - (k : Int))
        · have htl : t < p.length := by have := HKQ.out; omega
          obtain ⟨wp, hwp⟩ : ∃ wp, wp = wr := ⟨_, rfl⟩
          subst hwp
          go_wp2_with fail
          go_loopw [10, 44] (fun b i wr => ∃ l : Nat, l ≤ k ∧ i = .int .i64 l ∧ (∃ bb, b = .bool bb ∧ Hid (bb = fitTo p q d t l)) ∧ Qt wp wr) (fun _ i _ => k - (intOf i).toNat)
          case atStart => exact ⟨0, Nat.zero_le _, rfl, ⟨true, rfl, Lib.hid rfl⟩, Qt.refl _⟩
          case round =>
            obtain ⟨l, hl2, rfl, ⟨bb, rfl, hbb⟩, hq⟩ := hrel
            by_cases hlk : l < k
            · exact absurd hlk (by omega)
            · obtain rfl : l = k := by omega
              have hfit : Hid (bb = fitB p q d t) := by show _ = _; rw [hbb.out]; unfold fitB; rw [← HK.out]
              have he4 : Ext w wr := he.trans hq.ext
              cases bb
              · have hno : Hid (anyC (stepB (haB p q f) p q d) (t + 1) = false) := by
                  show _ = _; rw [anyC_succ, hA.out, stepB, ← hfit.out]; simp
                go_wp2_with fail
                go_roundw
                case rel => exact ⟨t + 1, by go_num, by omega, by omega, hno, he4⟩
                case measure => simp [intOf]; omega
              · have h3' : SI w (.slice a3 (ivals d).length cap3) (ivals d) := by rw [h3l]; exact h3
                have hcl := h3'.ext he4
                rw [h3l] at hcl
                go_wp2_with fail
                refine (slicesClone_ok _ (ivals d) _ hcl (by omega)).mono ?_
                rintro e w5 ⟨v5, rfl, ho5, he5⟩
                obtain ⟨p5, c5, rfl⟩ := ho5.shape
                rw [h3l] at ho5 ⊢
                have hz5 := he5.size
                have HO5 := Lib.hid ho5
                have he6 := he4.trans he5
                have HE6 := Lib.hid he6
                clear ho5
                go_wp2_with (at_builtin; go_loud (refine wpl_unguard (by rfl) (wpl_app1O rfl _ _ rfl wr.heap.size (.slice p5 l c5) (ivals d) (t : Int) rfl HO5.out hz5 rfl (by omega) ?_)); intro b6 c6 w6 hr6 hb6 hu6; have HR6 := Lib.hid hr6; have hE6 : Ext w w6 := HE6.out.upd hu6 (fun i e => by have := (HO5.out.own e).1; have := he4.size; omega); clear hr6 hu6)
                have ho6 : OI wr.heap.size w6.heap.size w6 (.slice (some ⟨b6, 0, none⟩) (l + 1) c6) (ivals (d ++ [t])) := by
                  rw [← ivals_push]; exact OI.row HR6.out hb6 (by rw [List.length_append, h3l]; rfl)
                have hdn : ∀ x ∈ d ++ [t], x < p.length := by
                  intro x hx
                  rcases List.mem_append.1 hx with hx | hx
                  · exact HD.out x hx
                  · simp at hx; omega
                have hdl : (d ++ [t]).length + f = q.length := by have := HLEN.out; simp; omega
                have hsp := h.ext hE6
                have hsq := h2.ext hE6
                have h6s := ho6.si
                cases hr : haB p q f (d ++ [t])
                · have hno : Hid (anyC (stepB (haB p q f) p q d) (t + 1) = false) := by
                    show _ = _; rw [anyC_succ, hA.out, stepB, hr]; simp
                  have HR := Lib.hid hr
                  clear hr
                  refine (IH.out _ _ _ (d ++ [t]) _ hsp hsq h6s hdl hdn).mono ?_
                  rintro e w7 ⟨rfl, he7⟩
                  rw [HR.out]
                  have hE7 := hE6.trans he7
                  go_wp2_with fail
                  go_roundw
                  case rel => exact ⟨t + 1, by go_num, by omega, by omega, hno, hE7⟩
                  case measure => simp [intOf]; omega
                · have hyes : Hid (haB p q (f + 1) d = true) := by
                    show _ = _
                    rw [hha.out]
                    refine anyC_true (i := t) (by have := HKQ.out; omega) ?_
                    rw [stepB, hr, ← hfit.out, decide_eq_true (by have := HS.out; omega)]; rfl
                  have HR := Lib.hid hr
                  clear hr
                  refine (IH.out _ _ _ (d ++ [t]) _ hsp hsq h6s hdl hdn).mono ?_
                  rintro e w7 ⟨rfl, he7⟩
                  rw [HR.out]
                  have hE7 := hE6.trans he7
                  go_wp2_with fail
                  go_ret
                  exact ⟨by rw [hyes.out]; rfl, hE7⟩
        · have hno : Hid (haB p q (f + 1) d = false) := by
            show _ = _; rw [hha.out]; exact anyC_down (by have := HKQ.out; omega) hA.out
          go_wp2_with fail
          go_ret
          exact ⟨by rw [hno.out]; rfl, he⟩
    case inr =>
      obtain ⟨b3, off3, rfl, hc3⟩ := hri3.get (k := k - 1) (by omega)
      have hcl := hc3 (k - 1) (by omega)
      rw [show nth (ivals d) (k - 1) = (s : Int) - 1 by have := hs1 hk0; omega] at hcl
      have hk1 : (0 : Int) < (k : Int) := by omega
      have e1 : ((k : Int) - 1).toNat = k - 1 := by omega
      clear hs0 hs1 hc3
      go_wp2_with fail
      clear e1
      go_loopw [9] (fun i wr => ∃ t : Nat, i = .int .i64 t ∧ t ≤ p.length ∧ s ≤ t ∧ Hid (anyC (stepB (haB p q f) p q d) t = false) ∧ Ext w wr) (fun i _ => p.length + 1 - (intOf i).toNat)
      case atStart => exact ⟨s, by go_num, hfrom, Nat.le_refl _, hst, Ext.refl _⟩
      case round =>
        obtain ⟨t, rfl, htp, hts, hA, he⟩ := hrel
        by_cases hlt : (t : Int) ≤ (p.length : Int) - ((q.length : Int) - (k : Int))
        · have htl : t < p.length := by have := HKQ.out; omega
          obtain ⟨wp, hwp⟩ : ∃ wp, wp = wr := ⟨_, rfl⟩
          subst hwp
          go_wp2_with fail
          go_loopw [10, 44] (fun b i wr => ∃ l : Nat, l ≤ k ∧ i = .int .i64 l ∧ (∃ bb, b = .bool bb ∧ Hid (bb = fitTo p q d t l)) ∧ Qt wp wr) (fun _ i _ => k - (intOf i).toNat)
          case atStart => exact ⟨0, Nat.zero_le _, rfl, ⟨true, rfl, Lib.hid rfl⟩, Qt.refl _⟩
          case round =>
            obtain ⟨l, hl2, rfl, ⟨bb, rfl, hbb⟩, hq⟩ := hrel
            by_cases hlk : l < k
            · obtain ⟨b3', off3', e3, hc3⟩ := ((hri3.ext he).ext hq.ext).get (k := l) (by omega)
              obtain ⟨rfl, rfl⟩ : b3 = b3' ∧ off3 = off3' := by simpa using e3
              have hcl := hc3 l (by omega)
              have hln : nth (ivals d) l = (nthN d l : Int) := ivals_nth (by rw [← HK.out]; exact hlk)
              have hcp : nthN d l < p.length := HD.out _ (nthN_mem (by rw [← HK.out]; exact hlk))
              obtain ⟨c, hc⟩ : ∃ c, c = nthN d l := ⟨_, rfl⟩
              have hsu := fitTo_succ p q d t l
              rw [← HK.out] at hsu
              rw [hln] at hcl
              rw [← hc] at hcl hcp hsu
              clear hc3 hc hln e3
              cases bb
              · have HS2 := Lib.hid (show false = fitTo p q d t (l + 1) by rw [hsu, ← hbb.out]; rfl)
                clear hsu
                go_wp2_with fail
                go_quiet (fail)
                go_wp2_with fail
                go_roundw
                case rel => exact ⟨l + 1, by omega, by go_num, ⟨_, rfl, HS2⟩, hq.drewN _⟩
                case measure => simp [intOf]; omega
              · rw [← hbb.out] at hsu
                obtain ⟨b1, off1, rfl, hc1⟩ := ((hri.ext he).ext hq.ext).get (k := c) hcp
                obtain ⟨b2, off2, rfl, hc2⟩ := ((hri2.ext he).ext hq.ext).get (k := l) (by omega)
                have c1 := hc1 c hcp
                have c2 := hc1 t htl
                have c3 := hc2 l (by omega)
                have c4 := hc2 k (by omega)
                have y1 : (c : Int) < (p.length : Int) := by omega
                have y2 : (t : Int) < (p.length : Int) := by omega
                have y3 : (l : Int) < (q.length : Int) := by omega
                have y4 : (k : Int) < (q.length : Int) := by omega
                obtain ⟨x1, hx1⟩ : ∃ x, x = nth p c := ⟨_, rfl⟩
                obtain ⟨x2, hx2⟩ : ∃ x, x = nth p t := ⟨_, rfl⟩
                obtain ⟨x3, hx3⟩ : ∃ x, x = nth q l := ⟨_, rfl⟩
                obtain ⟨x4, hx4⟩ : ∃ x, x = nth q k := ⟨_, rfl⟩
                rw [← hx1] at c1 hsu
                rw [← hx2] at c2 hsu
                rw [← hx3] at c3 hsu
                rw [← hx4] at c4 hsu
                clear hc1 hc2 hx1 hx2 hx3 hx4
                by_cases g1 : x1 < x2
                · have d1 : decide (x1 < x2) = true := decide_eq_true g1
                  by_cases g2 : x3 < x4
                  · have d2 : decide (x3 < x4) = true := decide_eq_true g2
                    have HS2 := Lib.hid (show true = fitTo p q d t (l + 1) by rw [hsu, d1, d2]; rfl)
                    clear hsu
                    go_wp2_with fail
                    go_quiet (fail)
                    go_wp2_with fail
                    go_roundw
                    case rel => exact ⟨l + 1, by omega, by go_num, ⟨_, rfl, HS2⟩, hq.drewN _⟩
                    case measure => simp [intOf]; omega
                  · have d2 : decide (x3 < x4) = false := decide_eq_false g2
                    have HS2 := Lib.hid (show false = fitTo p q d t (l + 1) by rw [hsu, d1, d2]; rfl)
                    clear hsu
                    go_wp2_with fail
                    go_quiet (fail)
                    go_wp2_with fail
                    go_roundw
                    case rel => exact ⟨l + 1, by omega, by go_num, ⟨_, rfl, HS2⟩, hq.drewN _⟩
                    case measure => simp [intOf]; omega
                · have d1 : decide (x1 < x2) = false := decide_eq_false g1
                  by_cases g2 : x3 < x4
                  · have d2 : decide (x3 < x4) = true := decide_eq_true g2
                    have HS2 := Lib.hid (show false = fitTo p q d t (l + 1) by rw [hsu, d1, d2]; rfl)
                    clear hsu
                    go_wp2_with fail
                    go_quiet (fail)
                    go_wp2_with fail
                    go_roundw
                    case rel => exact ⟨l + 1, by omega, by go_num, ⟨_, rfl, HS2⟩, hq.drewN _⟩
                    case measure => simp [intOf]; omega
                  · have d2 : decide (x3 < x4) = false := decide_eq_false g2
                    have HS2 := Lib.hid (show true = fitTo p q d t (l + 1) by rw [hsu, d1, d2]; rfl)
                    clear hsu
                    go_wp2_with fail
                    go_quiet (fail)
                    go_wp2_with fail
                    go_roundw
                    case rel => exact ⟨l + 1, by omega, by go_num, ⟨_, rfl, HS2⟩, hq.drewN _⟩
                    case measure => simp [intOf]; omega
            · obtain rfl : l = k := by omega
              have hfit : Hid (bb = fitB p q d t) := by show _ = _; rw [hbb.out]; unfold fitB; rw [← HK.out]
              have he4 : Ext w wr := he.trans hq.ext
              cases bb
              · have hno : Hid (anyC (stepB (haB p q f) p q d) (t + 1) = false) := by
                  show _ = _; rw [anyC_succ, hA.out, stepB, ← hfit.out]; simp
                go_wp2_with fail
                go_roundw
                case rel => exact ⟨t + 1, by go_num, by omega, by omega, hno, he4⟩
                case measure => simp [intOf]; omega
              · have h3' : SI w (.slice (some ⟨b3, off3, none⟩) (ivals d).length cap3) (ivals d) := by rw [h3l]; exact h3
                have hcl := h3'.ext he4
                rw [h3l] at hcl
                go_wp2_with fail
                refine (slicesClone_ok _ (ivals d) _ hcl (by omega)).mono ?_
                rintro e w5 ⟨v5, rfl, ho5, he5⟩
                obtain ⟨p5, c5, rfl⟩ := ho5.shape
                rw [h3l] at ho5 ⊢
                have hz5 := he5.size
                have HO5 := Lib.hid ho5
                have he6 := he4.trans he5
                have HE6 := Lib.hid he6
                clear ho5
                go_wp2_with (at_builtin; go_loud (refine wpl_unguard (by rfl) (wpl_app1O rfl _ _ rfl wr.heap.size (.slice p5 l c5) (ivals d) (t : Int) rfl HO5.out hz5 rfl (by omega) ?_)); intro b6 c6 w6 hr6 hb6 hu6; have HR6 := Lib.hid hr6; have hE6 : Ext w w6 := HE6.out.upd hu6 (fun i e => by have := (HO5.out.own e).1; have := he4.size; omega); clear hr6 hu6)
                have ho6 : OI wr.heap.size w6.heap.size w6 (.slice (some ⟨b6, 0, none⟩) (l + 1) c6) (ivals (d ++ [t])) := by
                  rw [← ivals_push]; exact OI.row HR6.out hb6 (by rw [List.length_append, h3l]; rfl)
                have hdn : ∀ x ∈ d ++ [t], x < p.length := by
                  intro x hx
                  rcases List.mem_append.1 hx with hx | hx
                  · exact HD.out x hx
                  · simp at hx; omega
                have hdl : (d ++ [t]).length + f = q.length := by have := HLEN.out; simp; omega
                have hsp := h.ext hE6
                have hsq := h2.ext hE6
                have h6s := ho6.si
                cases hr : haB p q f (d ++ [t])
                · have hno : Hid (anyC (stepB (haB p q f) p q d) (t + 1) = false) := by
                    show _ = _; rw [anyC_succ, hA.out, stepB, hr]; simp
                  have HR := Lib.hid hr
                  clear hr
                  refine (IH.out _ _ _ (d ++ [t]) _ hsp hsq h6s hdl hdn).mono ?_
                  rintro e w7 ⟨rfl, he7⟩
                  rw [HR.out]
                  have hE7 := hE6.trans he7
                  go_wp2_with fail
                  go_roundw
                  case rel => exact ⟨t + 1, by go_num, by omega, by omega, hno, hE7⟩
                  case measure => simp [intOf]; omega
                · have hyes : Hid (haB p q (f + 1) d = true) := by
                    show _ = _
                    rw [hha.out]
                    refine anyC_true (i := t) (by have := HKQ.out; omega) ?_
                    rw [stepB, hr, ← hfit.out, decide_eq_true (by have := HS.out; omega)]; rfl
                  have HR := Lib.hid hr
                  clear hr
                  refine (IH.out _ _ _ (d ++ [t]) _ hsp hsq h6s hdl hdn).mono ?_
                  rintro e w7 ⟨rfl, he7⟩
                  rw [HR.out]
                  have hE7 := hE6.trans he7
                  go_wp2_with fail
                  go_ret
                  exact ⟨by rw [hyes.out]; rfl, hE7⟩
        · have hno : Hid (haB p q (f + 1) d = false) := by
            show _ = _; rw [hha.out]; exact anyC_down (by have := HKQ.out; omega) hA.out
          go_wp2_with fail
          go_ret
          exact ⟨by rw [hno.out]; rfl, he⟩
end Go.Proofs.Ytcifngcmdiokpaa
