/- The reference's search of a pattern. Conditions: lengths of at most 8. -/
import Derived.Test.YtcifngcmdiokpaaHas
import Derived.Test.YtcifngcmdiokpaaOff
namespace Go.Proofs.Ytcifngcmdiokpaa
open Go.RowKit

def FindPost (b : Nat) (w : World) (k : Nat) (e : Ending) (w' : World) : Prop :=
  ∃ b' c' m' vs', e = .returned (.slice (some ⟨b', 0, none⟩) m' c') ∧ m' = k ∧ m' = vs'.length ∧ Row 22 w' b' c' vs' ∧ Upd (· = b) w w' ∧ (b' = b ∨ w.heap.size ≤ b')

set_option maxHeartbeats 2000000 in
theorem l7Fits_ok (p q : List Int) (v v2 v3 : Value) (d : List Nat) (x : Nat) (w : World) (hp8 : p.length ≤ 8) (hq8 : q.length ≤ 8) (h : SI w v p) (h2 : SI w v2 q) (h3 : SI w v3 (jvals (d ++ [x]))) (hlen : d.length < q.length) (hd : ∀ y ∈ d ++ [x], y < p.length) :
    Calls Try.prog 106 #[v, v2, v3] w fun e w' => e = .returned (.bool (fitB p q d x)) ∧ Qt w w' := by
  obtain ⟨a, cap, rfl, hri⟩ := h.elim
  obtain ⟨a2, cap2, rfl, hri2⟩ := h2.elim
  obtain ⟨a3, cap3, h3e, hri3⟩ := h3.elim
  rw [jvals_len, List.length_append, List.length_singleton] at h3e
  subst h3e
  have HD := Lib.hid hd
  obtain ⟨k, hk⟩ : ∃ k, k = d.length := ⟨_, rfl⟩
  rw [← hk] at hlen
  have hxp : x < p.length := hd x (by simp)
  have hfit : Hid (fitB p q d x = fitTo p q d x k) := by show _ = _; rw [hk]; rfl
  have h3l : (jvals (d ++ [x])).length = k + 1 := by rw [jvals_len]; simp [hk]
  have hlast : nth (jvals (d ++ [x])) k = (x : Int) + 1 := by rw [jvals_nth (by simp [hk])]; simp [nthN, hk]
  have hmid : Hid (∀ l, l < k → nth (jvals (d ++ [x])) l = (nthN d l : Int) + 1) := by
    show ∀ l, _
    intro l hl
    rw [jvals_nth (by simp; omega)]
    simp [nthN, List.getElem?_append, show l < d.length by omega]
  have hmem : Hid (∀ l, l < k → nthN d l < p.length) := by
    show ∀ l, _
    exact fun l hl => hd _ (List.mem_append_left _ (nthN_mem (by omega)))
  have hsu : Hid (∀ l, fitTo p q d x (l + 1) = (fitTo p q d x l && (decide (nth p (nthN d l) < nth p x) == decide (nth q l < nth q k)))) := by
    show ∀ l, _
    intro l; rw [hk]; exact fitTo_succ _ _ _ _ _
  rw [← hk]
  clear hk hd
  obtain ⟨b3, off3, rfl, hc3⟩ := hri3.get (k := k) (by omega)
  have HC3 := Lib.hid hc3
  have HLAST := Lib.hid hlast
  clear hc3 hlast hri3 h3
  go_enter Try.func106, Try.ntmps106
  go_wp2_with fail
  go_loopw [8] (fun i wr => ∃ l : Nat, l ≤ k ∧ i = .int .i64 l ∧ Hid (fitTo p q d x l = true) ∧ Qt w wr) (fun i _ => k - (intOf i).toNat)
  case atStart => exact ⟨0, Nat.zero_le _, rfl, Lib.hid rfl, Qt.refl _⟩
  case round =>
    obtain ⟨l, hl2, rfl, hA, hq⟩ := hrel
    by_cases hlk : l < k
    · have hsl := hsu.out l
      rw [hA.out] at hsl
      have c5 := hq.ext.cell (HC3.out l (by omega))
      have c6 := hq.ext.cell (HC3.out k (by omega))
      rw [hmid.out l hlk] at c5
      rw [HLAST.out] at c6
      have hcp := hmem.out l hlk
      obtain ⟨c, hc⟩ : ∃ c, c = nthN d l := ⟨_, rfl⟩
      rw [← hc] at c5 hcp hsl
      obtain ⟨b1, off1, rfl, hc1⟩ := (hri.ext hq.ext).get (k := c) hcp
      obtain ⟨b2, off2, rfl, hc2⟩ := (hri2.ext hq.ext).get (k := k) (by omega)
      have c1 := hc1 c hcp
      have c2 := hc1 x hxp
      have c3 := hc2 l (by omega)
      have c4 := hc2 k (by omega)
      have w1 : IntKind.i64.wrap ((c : Int) + 1 - 1) = (c : Int) := by rw [IntWalk.i64_in _ (by omega)]; omega
      have w2 : IntKind.i64.wrap ((x : Int) + 1 - 1) = (x : Int) := by rw [IntWalk.i64_in _ (by omega)]; omega
      have y1 : (c : Int) < (p.length : Int) := by omega
      have y2 : (x : Int) < (p.length : Int) := by omega
      have y3 : (l : Int) < (q.length : Int) := by omega
      have y4 : (k : Int) < (q.length : Int) := by omega
      have y5 : (l : Int) < (k : Int) + 1 := by omega
      obtain ⟨x1, hx1⟩ : ∃ x, x = nth p c := ⟨_, rfl⟩
      obtain ⟨x2, hx2⟩ : ∃ y, y = nth p x := ⟨_, rfl⟩
      obtain ⟨x3, hx3⟩ : ∃ x, x = nth q l := ⟨_, rfl⟩
      obtain ⟨x4, hx4⟩ : ∃ x, x = nth q k := ⟨_, rfl⟩
      rw [← hx1] at c1 hsl
      rw [← hx2] at c2 hsl
      rw [← hx3] at c3 hsl
      rw [← hx4] at c4 hsl
      clear hc hc1 hc2 hx1 hx2 hx3 hx4 hri hri2 h h2
      by_cases g1 : x1 < x2
      · have d1 : decide (x1 < x2) = true := decide_eq_true g1
        by_cases g2 : x3 < x4
        · have d2 : decide (x3 < x4) = true := decide_eq_true g2
          have HS2 := Lib.hid (show fitTo p q d x (l + 1) = true by rw [hsl, d1, d2]; rfl)
          clear hsl
          go_wp2_with fail
          go_quiet (fail)
          clear w1 w2
          go_wp2_with fail
          go_roundw
          case rel => exact ⟨l + 1, by omega, by go_num, HS2, hq.drewN _⟩
          case measure => simp [intOf]; omega
        · have d2 : decide (x3 < x4) = false := decide_eq_false g2
          have HS2 := Lib.hid (show fitTo p q d x (l + 1) = false by rw [hsl, d1, d2]; rfl)
          clear hsl
          go_wp2_with fail
          go_quiet (fail)
          clear w1 w2
          go_wp2_with fail
          go_ret
          exact ⟨by rw [hfit.out, fitTo_false HS2.out (by omega)]; rfl, hq.drewN _⟩
      · have d1 : decide (x1 < x2) = false := decide_eq_false g1
        by_cases g2 : x3 < x4
        · have d2 : decide (x3 < x4) = true := decide_eq_true g2
          have HS2 := Lib.hid (show fitTo p q d x (l + 1) = false by rw [hsl, d1, d2]; rfl)
          clear hsl
          go_wp2_with fail
          go_quiet (fail)
          clear w1 w2
          go_wp2_with fail
          go_ret
          exact ⟨by rw [hfit.out, fitTo_false HS2.out (by omega)]; rfl, hq.drewN _⟩
        · have d2 : decide (x3 < x4) = false := decide_eq_false g2
          have HS2 := Lib.hid (show fitTo p q d x (l + 1) = true by rw [hsl, d1, d2]; rfl)
          clear hsl
          go_wp2_with fail
          go_quiet (fail)
          clear w1 w2
          go_wp2_with fail
          go_roundw
          case rel => exact ⟨l + 1, by omega, by go_num, HS2, hq.drewN _⟩
          case measure => simp [intOf]; omega
    · obtain rfl : l = k := by omega
      go_wp2_with fail
      go_ret
      exact ⟨by rw [hfit.out, hA.out]; rfl, hq⟩
set_option maxHeartbeats 4000000 in
theorem l7Find_ok (p q : List Int) (hp8 : p.length ≤ 8) (hq8 : q.length ≤ 8) : ∀ (f : Nat) (v v2 v3 : Value) (d : List Nat) (b c m : Nat) (vs : List Value) (w : World), SI w v p → SI w v2 q → SI w v3 (jvals d) → Off b v p → Off b v2 q → Off b v3 (jvals d) →
    d.length + f = q.length → (∀ x ∈ d, x < p.length) → Row 22 w b c vs → m = vs.length → m + cntF p q f d ≤ 100000 →
    Calls Try.prog 99 #[v, v2, v3, .slice (some ⟨b, 0, none⟩) m c] w (FindPost b w (m + cntF p q f d)) := by
  intro f
  induction f with
  | zero =>
    intro v v2 v3 d b c m vs w h h2 h3 o1 o2 o3 hlen hd hr hm hbd
    obtain ⟨a, cap, rfl, -⟩ := h.elim
    obtain ⟨a2, cap2, rfl, -⟩ := h2.elim
    obtain ⟨a3, cap3, h3e, -⟩ := h3.elim
    rw [jvals_len] at h3e
    subst h3e
    have hl : (d.length : Int) = (q.length : Int) := by omega
    have hcn : cntF p q 0 d = 1 := rfl
    rw [hcn] at hbd ⊢
    have HM := Lib.hid hm
    have HR := Lib.hid hr
    have hmb : m ≤ 100000 := by omega
    clear hlen hcn hm hr hbd
    go_enter Try.func99, Try.ntmps99
    go_wp2_with (at_builtin; refine wpl_appv rfl _ _ rfl b c m vs a3 _ cap3 rfl HR.out HM.out rfl (by rw [← HM.out]; omega) ?_; intro b6 c6 w6 hr6 hb6 hu6)
    go_ret
    exact ⟨b6, c6, m + 1, _, rfl, rfl, by rw [HM.out]; simp, hr6, hu6, hb6.imp id (by omega)⟩
  | succ f ih =>
    intro v v2 v3 d b c m vs w h h2 h3 o1 o2 o3 hlen hd hr hm hbd
    obtain ⟨a, cap, rfl, hri⟩ := h.elim
    obtain ⟨a2, cap2, rfl, hri2⟩ := h2.elim
    obtain ⟨a3, cap3, h3e, hri3⟩ := h3.elim
    rw [jvals_len] at h3e
    subst h3e
    have hl : ¬ (d.length : Int) = (q.length : Int) := by omega
    have hcn : cntF p q (f + 1) d = sumC (stepN (cntF p q f) p q d) p.length := rfl
    rw [hcn] at hbd ⊢
    obtain ⟨g, hg⟩ : ∃ g, g = stepN (cntF p q f) p q d := ⟨_, rfl⟩
    rw [← hg] at hbd ⊢
    have HBD := Lib.hid hbd
    have hfrom := fromN_le hd
    have HD := Lib.hid hd
    have IH := Lib.hid ih
    have HLEN := Lib.hid hlen
    have HM := Lib.hid hm
    have HG := Lib.hid hg
    obtain ⟨k, hk⟩ : ∃ k, k = d.length := ⟨_, rfl⟩
    obtain ⟨s, hs⟩ : ∃ s, s = fromN d := ⟨_, rfl⟩
    have hs0 : k = 0 → s = 0 := by intro e; rw [hs]; unfold fromN; rw [if_pos (by omega)]
    have hs1 : 0 < k → (s : Int) = nth (jvals d) (k - 1) := by
      intro e; rw [hs, jvals_nth (by omega)]; unfold fromN; rw [if_neg (by omega), hk]; rfl
    rw [← hk] at hl hlen h3 o3
    rw [← hs] at hfrom
    have hkq : (k : Int) < (q.length : Int) := by omega
    have hst : Hid (sumC g s = 0) := by show _ = _; rw [hs, hg]; exact stepN_low _ _ _ _
    have HS := Lib.hid hs
    have HK := Lib.hid hk
    have h3l : (jvals d).length = k := by rw [jvals_len, hk]
    rw [← hk]
    have hl2 : ((k : Int) == (q.length : Int)) = false := by simpa using hl
    have hmb : m ≤ 100000 := by omega
    have HR := Lib.hid hr
    have hbw := hr.lt
    clear ih hd hlen hs hk hl hcn hbd hm hg hr
    go_enter Try.func99, Try.ntmps99
    rcases Nat.eq_zero_or_pos k with hk0 | hk0
    case inl =>
      have HZ := Lib.hid (hs0 hk0)
      have hk1 : ¬ (0 : Int) < (k : Int) := by omega
      clear hs0 hs1 hk0
      go_wp2_with fail
      go_loopw [3, 10] (fun o i wr => ∃ t : Nat, i = .int .i64 ((t : Int) + 1) ∧ t ≤ p.length ∧ s ≤ t ∧ (∃ b2 c2 m2 vs2, o = .slice (some ⟨b2, 0, none⟩) m2 c2 ∧ Hid (m2 = m + sumC g t) ∧ Hid (m2 = vs2.length) ∧ Row 22 wr b2 c2 vs2 ∧ (b2 = b ∨ w.heap.size ≤ b2)) ∧ Upd (· = b) w wr) (fun _ i _ => p.length + 1 - (intOf i).toNat)
      case atStart => exact ⟨s, by rw [HZ.out]; rfl, hfrom, Nat.le_refl _, ⟨b, c, m, vs, rfl, Lib.hid (by rw [hst.out]; rfl), HM, HR.out, .inl rfl⟩, Upd.refl _ _⟩
      case round =>
        obtain ⟨t, rfl, htp, hts, ⟨b2, c2, m2, vs2, rfl, hm2, hv2, hr2, hb2⟩, hu⟩ := hrel
        by_cases htl : t < p.length
        · have hlt : (t : Int) + 1 ≤ (p.length : Int) := by omega
          have hsp := h.off hu o1
          have hsq := h2.off hu o2
          have hsd := h3.off hu o3
          have hzu := hu.size
          have hdl : k ≤ 8 := by omega
          have hR2 := Lib.hid hr2
          have hlt2 := hr2.lt
          have hm2b : m2 ≤ 100000 := by
            have h1 := HBD.out
            have h2 := sumC_mono (h := g) htp
            have h3 := hm2.out
            omega
          have hnb : Hid (∀ y ∈ d ++ [t], y < p.length) := by
            show ∀ y ∈ d ++ [t], _
            intro y hy
            rcases List.mem_append.1 hy with hy | hy
            · exact HD.out y hy
            · simp at hy; omega
          clear hr2
          go_wp2_with (first | (at_builtin; refine wpl_appSI rfl _ _ rfl wr.heap.size 0 0 [] (jvals d) rfl (Row.new 3 wr [] (by simp)) rfl _ rfl (hsd.ext (Upd.alloc _ _ _)) (by simp) (by omega) ?_; intro b5 c5 w5 hr5 hb5 hu5; rw [List.nil_append] at hr5; obtain ⟨hb5', ho5, he5⟩ := copied_own3 hr5 hb5 hu5; rw [h3l] at ho5 ⊢; have hz5 := he5.size; clear hb5 hu5) | (at_builtin; refine wpl_app1O rfl _ _ rfl wr.heap.size (.slice (some ⟨b5, 0, none⟩) k c5) (jvals d) ((t : Int) + 1) rfl ho5 (by omega) rfl (by omega) ?_; intro b6 c6 w6 hr6 hb6 hu6; have hu6' : Upd (fun i => wr.heap.size ≤ i) w5 w6 := hu6.mono (fun i _ e => (ho5.own e).1); have hz6 := hu6.size; have hE6 : Ext wr w6 := he5.upd hu6' (fun i h => h); have HR6 := Lib.hid hr6; clear hr6 hu6 hu6' hr5 ho5 he5; rw [h3l]))
          have ho6 : OI wr.heap.size w6.heap.size w6 (.slice (some ⟨b6, 0, none⟩) (k + 1) c6) (jvals (d ++ [t])) := by
            rw [← jvals_push]; exact OI.row HR6.out hb6 (by rw [List.length_append, h3l]; rfl)
          have h6s := ho6.si
          refine (l7Fits_ok p q _ _ _ d t _ hp8 hq8 (hsp.ext hE6) (hsq.ext hE6) h6s (by rw [← HK.out]; omega) hnb.out).mono ?_
          rintro e w7 ⟨rfl, hq7⟩
          have hE7 := hE6.trans hq7.ext
          have hz7 := hE7.size
          cases hf : fitB p q d t
          · have hstep : Hid (sumC g (t + 1) = sumC g t) := by show _ = _; simp only [sumC]; rw [HG.out, stepN_f hf]; rfl
            clear hf
            go_wp2_with fail
            go_roundw
            case rel => exact ⟨t + 1, by go_num, by omega, by omega, ⟨b2, c2, m2, vs2, rfl, Lib.hid (by rw [hstep.out]; exact hm2.out), hv2, hR2.out.ext hE7, hb2⟩, hu.trans (Ext.toUpd hE7 _)⟩
            case measure => simp [intOf]; omega
          · have hstep : Hid (sumC g (t + 1) = sumC g t + cntF p q f (d ++ [t])) := by show _ = _; simp only [sumC]; rw [HG.out, stepN_t (by rw [← HS.out]; exact hts) hf]
            clear hf
            go_wp2_with fail
            have hU7 := Lib.hid (hu.trans (Ext.toUpd hE7 (· = b)))
            have hbd7 : m2 + cntF p q f (d ++ [t]) ≤ 100000 := by
              have h1 := HBD.out
              have h2 := sumC_mono (h := g) (show t + 1 ≤ p.length from htl)
              have h3 := hm2.out
              have h4 := hstep.out
              omega
            have ob : ∀ (u : Value) (xs : List Int), SI w u xs → Off b u xs → Off b2 u xs := fun u xs hh ho => hb2.elim (fun e => by rw [e]; exact ho) (fun e => Off.far hh e)
            have hdl7 : (d ++ [t]).length + f = q.length := by have := HLEN.out; simp; omega
            refine (IH.out _ _ _ (d ++ [t]) b2 c2 m2 vs2 _ (hsp.ext hE7) (hsq.ext hE7) (h6s.ext hq7.ext) (ob _ _ h o1) (ob _ _ h2 o2) (.inr (fun b' off s n c e => by injection e with e1; injection e1 with e1; injection e1 with e1; omega)) hdl7 hnb.out (hR2.out.ext hE7) hv2.out hbd7).mono ?_
            rintro e w8 ⟨b8, c8, m8, vs8, rfl, hm8, hl8, hr8, hu8, hb8⟩
            have HM8 := Lib.hid hm8
            have HL8 := Lib.hid hl8
            clear hm8 hl8 ho6 hbd7 hdl7
            go_wp2_with fail
            go_roundw
            case rel => exact ⟨t + 1, by go_num, by omega, by omega, ⟨b8, c8, m8, vs8, rfl, Lib.hid (by rw [HM8.out, hstep.out, hm2.out, Nat.add_assoc]), HL8, hr8, by omega⟩, hU7.out.comp hu8 (fun _ _ h => h) (fun i hi e => by omega)⟩
            case measure => simp [intOf]; omega
        · obtain rfl : t = p.length := by omega
          have hlt : ¬ (p.length : Int) + 1 ≤ (p.length : Int) := by omega
          go_wp2_with fail
          go_ret
          exact ⟨b2, c2, m2, vs2, rfl, hm2.out, hv2.out, hr2, hu, hb2⟩
    case inr =>
      obtain ⟨b3, off3, rfl, hc3⟩ := hri3.get (k := k - 1) (by omega)
      have hcl := hc3 (k - 1) (by omega)
      rw [show nth (jvals d) (k - 1) = (s : Int) by have := hs1 hk0; omega] at hcl
      have hk1 : (0 : Int) < (k : Int) := by omega
      have e1 : ((k : Int) - 1).toNat = k - 1 := by omega
      clear hs0 hs1 hc3
      go_wp2_with fail
      clear e1
      go_loopw [3, 10] (fun o i wr => ∃ t : Nat, i = .int .i64 ((t : Int) + 1) ∧ t ≤ p.length ∧ s ≤ t ∧ (∃ b2 c2 m2 vs2, o = .slice (some ⟨b2, 0, none⟩) m2 c2 ∧ Hid (m2 = m + sumC g t) ∧ Hid (m2 = vs2.length) ∧ Row 22 wr b2 c2 vs2 ∧ (b2 = b ∨ w.heap.size ≤ b2)) ∧ Upd (· = b) w wr) (fun _ i _ => p.length + 1 - (intOf i).toNat)
      case atStart => exact ⟨s, by go_num, hfrom, Nat.le_refl _, ⟨b, c, m, vs, rfl, Lib.hid (by rw [hst.out]; rfl), HM, HR.out, .inl rfl⟩, Upd.refl _ _⟩
      case round =>
        obtain ⟨t, rfl, htp, hts, ⟨b2, c2, m2, vs2, rfl, hm2, hv2, hr2, hb2⟩, hu⟩ := hrel
        by_cases htl : t < p.length
        · have hlt : (t : Int) + 1 ≤ (p.length : Int) := by omega
          have hsp := h.off hu o1
          have hsq := h2.off hu o2
          have hsd := h3.off hu o3
          have hzu := hu.size
          have hdl : k ≤ 8 := by omega
          have hR2 := Lib.hid hr2
          have hlt2 := hr2.lt
          have hm2b : m2 ≤ 100000 := by
            have h1 := HBD.out
            have h2 := sumC_mono (h := g) htp
            have h3 := hm2.out
            omega
          have hnb : Hid (∀ y ∈ d ++ [t], y < p.length) := by
            show ∀ y ∈ d ++ [t], _
            intro y hy
            rcases List.mem_append.1 hy with hy | hy
            · exact HD.out y hy
            · simp at hy; omega
          clear hr2
          go_wp2_with (first | (at_builtin; refine wpl_appSI rfl _ _ rfl wr.heap.size 0 0 [] (jvals d) rfl (Row.new 3 wr [] (by simp)) rfl _ rfl (hsd.ext (Upd.alloc _ _ _)) (by simp) (by omega) ?_; intro b5 c5 w5 hr5 hb5 hu5; rw [List.nil_append] at hr5; obtain ⟨hb5', ho5, he5⟩ := copied_own3 hr5 hb5 hu5; rw [h3l] at ho5 ⊢; have hz5 := he5.size; clear hb5 hu5) | (at_builtin; refine wpl_app1O rfl _ _ rfl wr.heap.size (.slice (some ⟨b5, 0, none⟩) k c5) (jvals d) ((t : Int) + 1) rfl ho5 (by omega) rfl (by omega) ?_; intro b6 c6 w6 hr6 hb6 hu6; have hu6' : Upd (fun i => wr.heap.size ≤ i) w5 w6 := hu6.mono (fun i _ e => (ho5.own e).1); have hz6 := hu6.size; have hE6 : Ext wr w6 := he5.upd hu6' (fun i h => h); have HR6 := Lib.hid hr6; clear hr6 hu6 hu6' hr5 ho5 he5; rw [h3l]))
          have ho6 : OI wr.heap.size w6.heap.size w6 (.slice (some ⟨b6, 0, none⟩) (k + 1) c6) (jvals (d ++ [t])) := by
            rw [← jvals_push]; exact OI.row HR6.out hb6 (by rw [List.length_append, h3l]; rfl)
          have h6s := ho6.si
          refine (l7Fits_ok p q _ _ _ d t _ hp8 hq8 (hsp.ext hE6) (hsq.ext hE6) h6s (by rw [← HK.out]; omega) hnb.out).mono ?_
          rintro e w7 ⟨rfl, hq7⟩
          have hE7 := hE6.trans hq7.ext
          have hz7 := hE7.size
          cases hf : fitB p q d t
          · have hstep : Hid (sumC g (t + 1) = sumC g t) := by show _ = _; simp only [sumC]; rw [HG.out, stepN_f hf]; rfl
            clear hf
            go_wp2_with fail
            go_roundw
            case rel => exact ⟨t + 1, by go_num, by omega, by omega, ⟨b2, c2, m2, vs2, rfl, Lib.hid (by rw [hstep.out]; exact hm2.out), hv2, hR2.out.ext hE7, hb2⟩, hu.trans (Ext.toUpd hE7 _)⟩
            case measure => simp [intOf]; omega
          · have hstep : Hid (sumC g (t + 1) = sumC g t + cntF p q f (d ++ [t])) := by show _ = _; simp only [sumC]; rw [HG.out, stepN_t (by rw [← HS.out]; exact hts) hf]
            clear hf
            go_wp2_with fail
            have hU7 := Lib.hid (hu.trans (Ext.toUpd hE7 (· = b)))
            have hbd7 : m2 + cntF p q f (d ++ [t]) ≤ 100000 := by
              have h1 := HBD.out
              have h2 := sumC_mono (h := g) (show t + 1 ≤ p.length from htl)
              have h3 := hm2.out
              have h4 := hstep.out
              omega
            have ob : ∀ (u : Value) (xs : List Int), SI w u xs → Off b u xs → Off b2 u xs := fun u xs hh ho => hb2.elim (fun e => by rw [e]; exact ho) (fun e => Off.far hh e)
            have hdl7 : (d ++ [t]).length + f = q.length := by have := HLEN.out; simp; omega
            refine (IH.out _ _ _ (d ++ [t]) b2 c2 m2 vs2 _ (hsp.ext hE7) (hsq.ext hE7) (h6s.ext hq7.ext) (ob _ _ h o1) (ob _ _ h2 o2) (.inr (fun b' off s n c e => by injection e with e1; injection e1 with e1; injection e1 with e1; omega)) hdl7 hnb.out (hR2.out.ext hE7) hv2.out hbd7).mono ?_
            rintro e w8 ⟨b8, c8, m8, vs8, rfl, hm8, hl8, hr8, hu8, hb8⟩
            have HM8 := Lib.hid hm8
            have HL8 := Lib.hid hl8
            clear hm8 hl8 ho6 hbd7 hdl7
            go_wp2_with fail
            go_roundw
            case rel => exact ⟨t + 1, by go_num, by omega, by omega, ⟨b8, c8, m8, vs8, rfl, Lib.hid (by rw [HM8.out, hstep.out, hm2.out, Nat.add_assoc]), HL8, hr8, by omega⟩, hU7.out.comp hu8 (fun _ _ h => h) (fun i hi e => by omega)⟩
            case measure => simp [intOf]; omega
        · obtain rfl : t = p.length := by omega
          have hlt : ¬ (p.length : Int) + 1 ≤ (p.length : Int) := by omega
          go_wp2_with fail
          go_ret
          exact ⟨b2, c2, m2, vs2, rfl, hm2.out, hv2.out, hr2, hu, hb2⟩
end Go.Proofs.Ytcifngcmdiokpaa
