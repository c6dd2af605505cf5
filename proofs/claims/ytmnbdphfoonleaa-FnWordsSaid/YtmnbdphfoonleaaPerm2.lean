/- All permutations of a length, in order: the reference's recursion. Conditions: a length of at most 6. -/
import Derived.Test.YtmnbdphfoonleaaPerm
import Derived.Test.YtmnbdphfoonleaaBase2
namespace Go.Proofs.Ytmnbdphfoonleaa
open Go.RowKit

/-- 'out = append(out, v)', out empty, v in another block. -/
theorem wpl_appRRnil {w : World} {ops : Array Oper} {rest : List Oper} {o : Oper} {a : Act} {Q : Exit → Act → World → Prop} (hgd : o.guard = none) (s x : Operand)
    (ho : o.op = .call { callee := .builtin .append, args := #[s, x], argTypes := #[30, 30] })
    (B H : Nat) (b cap : Nat) (p : Option Addr) (l c : Nat) (ys : List Int) (hs : a.eval s = .slice (some ⟨b, 0, none⟩) 0 cap) (hr : RR B H w b cap [])
    (hv : OI B w.heap.size w (.slice p l c) ys) (hfr : ∀ k, (Value.slice p l c).ownBlock = some k → k ≠ b)
    (hx : a.eval x = .slice (some ⟨w.heap.size, 0, none⟩) 1 1)
    (h : ∀ b' cap' w', RR B w'.heap.size w' b' cap' [ys] → (b' = b ∨ w.heap.size < b') → Upd (· = b) w w' → wpList Try.prog ops Q rest (a.put o.dst (.slice (some ⟨b', 0, none⟩) 1 cap')) w') :
    wpList Try.prog ops Q (o :: rest) a (w.alloc (.cells #[.slice p l c] 24)) := by
  obtain ⟨vs, h1, h2, h3, h4, h5⟩ := hr
  have hl := h2.len
  have hvs : vs = [] := List.eq_nil_of_length_eq_zero (by simpa using hl)
  subst hvs
  refine wpl_appv hgd s x ho b cap 0 [] p l c hs h1 rfl hx (by simp) ?_
  intro b' cap' w' r1 r2 r3
  have hlt := h1.lt
  have hvo : ∀ k, (Value.slice p l c).ownBlock = some k → k < w.heap.size ∧ k ≠ b := fun k hk => ⟨(hv.own hk).2, hfr k hk⟩
  have hv' : OI B w.heap.size w' (.slice p l c) ys := hv.upd r3 (fun k hk _ _ e => (hvo k hk).2 e)
  refine h b' cap' w' ⟨_, r1, ⟨rfl, fun i hi => ?_, fun i j c hij hj => ?_⟩, fun i hi hc => ?_, ?_, r1.lt⟩ r2 r3
  · obtain rfl : i = 0 := by simpa using hi
    exact hv'.mono (Nat.le_refl _) r3.size
  · have : j < 1 := by simpa using hj
    omega
  · obtain rfl : i = 0 := by simpa using hi
    have := hvo _ hc
    rcases r2 with r2 | r2 <;> omega
  · rcases r2 with r2 | r2 <;> omega

def Fresh (vh : Value) (H b : Nat) (xss : List (List Int)) : Prop := (∀ k, vh.ownBlock = some k → H ≤ k) ∨ (xss = [] ∧ ∀ k, vh.ownBlock = some k → k ≠ b)
def FillPost (B b : Nat) (w : World) (L : List (List Int)) (e : Ending) (w' : World) : Prop :=
  ∃ b' c' m', e = .returned (.slice (some ⟨b', 0, none⟩) m' c') ∧ m' = L.length ∧ RR B w'.heap.size w' b' c' L ∧ Upd (· = b) w w' ∧ (b' = b ∨ w.heap.size ≤ b')
theorem fill_part {n d t : Nat} (h : t ≤ n) (p : List Int) : ((extTo t p).flatMap (fillL n d)).length ≤ ((extTo n p).flatMap (fillL n d)).length := by
  have h1 : extTo t p = (extTo n p).take (extTo t p).length := by
    have h2 : extTo n p = extTo t p ++ ((idL n).drop t).flatMap (one p) := by
      unfold extTo; rw [idL_take t n h, ← List.flatMap_append, List.take_append_drop]
    rw [h2, List.take_left']; rfl
  rw [h1]; exact flatMap_pre _ _ _

set_option maxHeartbeats 2000000 in
theorem l2Fill_ok (n : Nat) (hn : n ≤ 6) : ∀ (d : Nat) (vh : Value) (hd : List Int) (B H b c m : Nat) (xss : List (List Int)) (w : World), hd.length + d = n → B ≤ w.heap.size → H ≤ w.heap.size → OI B w.heap.size w vh hd → Fresh vh H b xss → RR B H w b c xss → m = xss.length →
    xss.length + (fillL n d hd).length ≤ 100000 →
    Calls Try.prog 119 #[.int .i64 n, vh, .slice (some ⟨b, 0, none⟩) m c] w (FillPost B b w (xss ++ fillL n d hd)) := by
  intro d
  induction d with
  | zero =>
    intro vh hd B H b c m xss w hlen hBw hHw hv hfr hr hm hbd
    obtain ⟨p, cp, rfl⟩ := hv.shape
    have hl : (hd.length : Int) = (n : Int) := by omega
    have HM := Lib.hid hm
    have HV := Lib.hid hv
    have HR := Lib.hid hr
    have hfill : fillL n 0 hd = [hd] := rfl
    rw [hfill] at hbd ⊢
    have hbd2 : xss.length ≤ 100000 := by omega
    rcases hfr with hfr | ⟨hx, hfr⟩
    · have HF := Lib.hid hfr
      clear hm hv hr hfr hfill hlen hbd
      go_enter Try.func119, Try.ntmps119
      go_wp2_with (at_builtin; refine wpl_appRR rfl _ _ rfl B H b c m xss p _ cp hd rfl HR.out HM.out HV.out HF.out hHw rfl (by omega) ?_; intro b6 c6 w6 hr6 hb6 hu6)
      go_ret
      exact ⟨b6, c6, m + 1, rfl, by rw [HM.out]; simp, hr6, hu6, hb6.imp id (by omega)⟩
    · subst hx
      have HF := Lib.hid hfr
      have hm0 : m = 0 := hm
      subst hm0
      clear hm HM hv hr hfr hfill hlen hbd
      go_enter Try.func119, Try.ntmps119
      go_wp2_with (at_builtin; refine wpl_appRRnil rfl _ _ rfl B H b c p _ cp hd rfl HR.out HV.out HF.out rfl ?_; intro b6 c6 w6 hr6 hb6 hu6)
      go_ret
      exact ⟨b6, c6, 1, rfl, rfl, hr6, hu6, hb6.imp id (by omega)⟩
  | succ d ih =>
    intro vh hd B H b c m xss w hlen hBw hHw hv hfr hr hm hbd
    obtain ⟨p, cp, rfl⟩ := hv.shape
    have hl : ¬ (hd.length : Int) = (n : Int) := by omega
    have hl2 : ((hd.length : Int) == (n : Int)) = false := by simpa using hl
    have hfill : fillL n (d + 1) hd = (extTo n hd).flatMap (fillL n d) := rfl
    rw [hfill] at hbd ⊢
    have HV := Lib.hid hv
    have HM := Lib.hid hm
    have HBD := Lib.hid hbd
    have IH := Lib.hid ih
    have hnb : Hid (∀ k, (Value.slice p hd.length cp).ownBlock = some k → k ≠ b) := by
      show ∀ k, _
      intro k hk
      rcases hfr with h1 | ⟨_, h1⟩
      · have := h1 k hk
        obtain ⟨_, _, _, _, _, h5⟩ := hr
        omega
      · exact h1 k hk
    have hbw := hr.lt
    have hlb := hr.lo
    clear hm hv hfr hfill hbd hl ih
    go_enter Try.func119, Try.ntmps119
    go_wp2_with fail
    go_loopw [2, 7] (fun o i wr => ∃ t : Nat, t ≤ n ∧ i = .int .i64 ((t : Int) + 1) ∧ (∃ b2 c2 m2, o = .slice (some ⟨b2, 0, none⟩) m2 c2 ∧ Hid (m2 = (xss ++ (extTo t hd).flatMap (fillL n d)).length) ∧ RR B wr.heap.size wr b2 c2 (xss ++ (extTo t hd).flatMap (fillL n d)) ∧ (b2 = b ∨ w.heap.size ≤ b2)) ∧ Upd (· = b) w wr) (fun _ i _ => n + 1 - (intOf i).toNat)
    case atStart => exact ⟨0, Nat.zero_le _, rfl, ⟨b, c, m, rfl, Lib.hid (by rw [HM.out]; simp [extTo_zero]), by simpa [extTo_zero] using hr.mono hHw, .inl rfl⟩, Upd.refl _ _⟩
    case round =>
      obtain ⟨t, ht, rfl, ⟨b2, c2, m2, rfl, hm2, hr2, hb2⟩, hu⟩ := hrel
      clear hr
      by_cases htl : t < n
      · have hpart : Hid ((xss ++ (extTo (t + 1) hd).flatMap (fillL n d)).length ≤ 100000) := by
          show _ ≤ _
          have := fill_part (d := d) (show t + 1 ≤ n from htl) hd
          have := HBD.out
          rw [List.length_append]; omega
        have hv2 : OI B w.heap.size wr (.slice p hd.length cp) hd := HV.out.upd hu (fun k hk _ _ e => hnb.out k hk e)
        have hsi := hv2.si
        have hzu := hu.size
        have hdl : hd.length ≤ 6 := by omega
        clear hv2
        cases hb : hasB hd ((t : Int) + 1)
        · have HB := Lib.hid hb
          have hst : Hid (xss ++ (extTo (t + 1) hd).flatMap (fillL n d) = (xss ++ (extTo t hd).flatMap (fillL n d)) ++ fillL n d (hd ++ [(t : Int) + 1])) := by
            show _ = _; rw [extTo_succ, one, hb]; simp
          clear hb
          go_wp2_with fail
          refine (l2Has_ok _ hd ((t : Int) + 1) _ hsi (by omega)).mono ?_
          rintro e w4 ⟨rfl, hq4⟩
          rw [HB.out]
          have hz4 := hq4.ext.size
          have hs4 := hsi.ext hq4.ext
          have hR4 := Lib.hid (hr2.ext hq4.ext)
          have hU4 := Lib.hid (hu.trans (Ext.toUpd hq4.ext _))
          have hlo2 := hr2.lo
          have hlt2 := hr2.lt
          clear hsi hr2 hu
          go_wp2_with (first | (at_builtin; refine wpl_appSI rfl _ _ rfl w4.heap.size 0 0 [] hd rfl (Row.new 3 w4 [] (by simp)) rfl _ rfl (hs4.ext (Upd.alloc _ _ _)) (by simp) (by omega) ?_; intro b5 c5 w5 hr5 hb5 hu5; rw [List.nil_append] at hr5; obtain ⟨hb5', ho5, he5⟩ := copied_own3 hr5 hb5 hu5; have hz5 := he5.size; clear hb5 hu5) | (at_builtin; refine wpl_app1O rfl _ _ rfl w4.heap.size (.slice (some ⟨b5, 0, none⟩) hd.length c5) hd ((t : Int) + 1) rfl ho5 (by omega) rfl (by omega) ?_; intro b6 c6 w6 hr6 hb6 hu6; have hu6' : Upd (fun i => w4.heap.size ≤ i) w5 w6 := hu6.mono (fun i _ e => (ho5.own e).1); have hz6 := hu6.size; have hE6 : Ext w4 w6 := he5.upd hu6' (fun i h => h); have HR6 := Lib.hid hr6; clear hr6 hu6 hu6' hr5 ho5 he5))
          have ho6 : OI B w6.heap.size w6 (.slice (some ⟨b6, 0, none⟩) (hd.length + 1) c6) (hd ++ [(t : Int) + 1]) := OI.row HR6.out (by omega) (by simp)
          have hR6 := (hR4.out.ext hE6)
          have hbd6 : (xss ++ (extTo t hd).flatMap (fillL n d)).length + (fillL n d (hd ++ [(t : Int) + 1])).length ≤ 100000 := by
            have := hpart.out; rw [hst.out, List.length_append] at this; exact this
          have hU6 := Lib.hid (hU4.out.trans (Ext.toUpd hE6 _))
          refine (IH.out (.slice (some ⟨b6, 0, none⟩) (hd.length + 1) c6) (hd ++ [(t : Int) + 1]) B wr.heap.size b2 c2 m2 (xss ++ (extTo t hd).flatMap (fillL n d)) _ (by simp; omega) (by omega) (by omega) ho6 (.inl (fun k hk => by have := hk; simp [Value.ownBlock] at this; omega)) hR6 hm2.out hbd6).mono ?_
          rintro e w7 ⟨b7, c7, m7, rfl, hm7, hr7, hu7, hb7⟩
          have HM7 := Lib.hid hm7
          have hz7 := hu7.size
          clear ho6 hR6 hbd6 hm7
          go_wp2_with fail
          go_roundw
          case rel => exact ⟨t + 1, by omega, by go_num, ⟨b7, c7, m7, rfl, Lib.hid (by rw [hst.out]; exact HM7.out), by rw [hst.out]; exact hr7, by omega⟩, hU6.out.comp hu7 (fun _ _ h => h) (fun i hi e => by omega)⟩
          case measure => simp [intOf]; omega
        · have HB := Lib.hid hb
          have hst : Hid (xss ++ (extTo (t + 1) hd).flatMap (fillL n d) = xss ++ (extTo t hd).flatMap (fillL n d)) := by
            show _ = _; rw [extTo_succ, one, hb]; simp
          clear hb
          go_wp2_with fail
          refine (l2Has_ok _ hd ((t : Int) + 1) _ hsi (by omega)).mono ?_
          rintro e w4 ⟨rfl, hq4⟩
          rw [HB.out]
          go_wp2_with fail
          go_roundw
          case rel => exact ⟨t + 1, by omega, by go_num, ⟨b2, c2, m2, rfl, Lib.hid (by rw [hst.out]; exact hm2.out), by rw [hst.out]; exact (hr2.ext hq4.ext).mono hq4.ext.size, hb2⟩, hu.trans (Ext.toUpd hq4.ext _)⟩
          case measure => simp [intOf]; omega
      · obtain rfl : t = n := by omega
        go_wp2_with fail
        go_ret
        exact ⟨b2, c2, m2, rfl, hm2.out, hr2, hu, hb2⟩
set_option maxHeartbeats 1000000 in
theorem permsOf_ok (n : Nat) (w : World) (hn : n ≤ 6) :
    Calls Try.prog 94 #[.int .i64 n] w fun e w' => ∃ v', e = .returned v' ∧ OII w.heap.size w'.heap.size w' v' (permsL n) ∧ Ext w w' := by
  have hin := Lib.hid (inB_true (x := (n : Int)) (lo := 0) (hi := 6) (by omega))
  have hps := Lib.hid (perms_small n hn)
  go_enter Try.func94, Try.ntmps94
  go_wp2_with fail
  refine (l1In_ok _ _ _ _).mono ?_
  rintro e w1 ⟨rfl, hq⟩
  rw [hin.out]
  have hz1 := hq.ext.size
  have he1 : Ext w w1 := hq.ext
  have hr1 := Row.new 3 w1 [] (by simp)
  have hi1 : OI w1.heap.size (w1.heap.size + 1) (w1.alloc (.cells #[] 3)) (.slice (some ⟨w1.heap.size, 0, none⟩) 0 0) [] := .inr ⟨_, 0, rfl, Nat.le_refl _, by omega, hr1⟩
  have hi2 := hi1.ext (show Ext (w1.alloc (.cells #[] 3)) ((w1.alloc (.cells #[] 3)).alloc (.cells #[] 24)) from Upd.alloc _ _ _)
  have hrr := RR.new (w1.alloc (.cells #[] 3))
  simp only [show (w1.alloc (.cells #[] 3)).heap.size = w1.heap.size + 1 by simp] at hrr
  have he2 : Ext w ((w1.alloc (.cells #[] 3)).alloc (.cells #[] 24)) := (he1.alloc _).alloc _
  clear hr1 hi1 hq
  go_wp2_with fail
  refine (l2Fill_ok n hn n (.slice (some ⟨w1.heap.size, 0, none⟩) 0 0) [] w.heap.size (w1.heap.size + 2) (w1.heap.size + 1) 0 0 [] _ (by simp) (by simp; omega) (by simp) (hi2.mono hz1 (by simp)) (.inr ⟨rfl, fun k hk => by simp [Value.ownBlock] at hk; omega⟩) ((hrr.monoB (by omega)).mono (by omega)) rfl (by have := hps.out; unfold permsL at this; simp; omega)).mono ?_
  rintro e w7 ⟨b7, c7, m7, rfl, hm7, hr7, hu7, hb7⟩
  have HM7 := Lib.hid hm7
  clear hm7 hi2 hrr
  go_wp2_with fail
  go_ret
  rw [List.nil_append] at hr7 HM7
  exact ⟨_, rfl, hr7.oii HM7.out, he2.upd1 hu7 (by omega)⟩
end Go.Proofs.Ytmnbdphfoonleaa
