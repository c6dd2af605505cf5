/- Several texts in one. Conditions: as each says. -/
import Derived.Test.YtognbiodplodhaaDupP
import Derived.Test.YtognbiodplodhaaRow3
import Derived.KernelRfl
import Derived.Test.YtognbiodplodhaaOrdS
import Derived.Test.YtognbiodplodhaaFunc
import Derived.Test.YtognbiodplodhaaOrd
import Derived.Test.YtognbiodplodhaaInsJ
import Derived.OrdersHeld
import Derived.Test.YtognbiodplodhaaInsX
import Derived.OwnWalk
import Derived.Deep.Cut
import Derived.Deep.CutRange
import Derived.Deep.CutBlock
import Derived.Test.YtognbiodplodhaaSumI
import Derived.Test.YtognbiodplodhaaLayW
import Derived.Test.YtognbiodplodhaaPopT
import Derived.Test.YtognbiodplodhaaHarnL
namespace Go.Proofs.Ytognbiodplodhaa
open Go.RowKit

theorem Row.setBeyondV {w : World} {e : TypeId} {b cap : Nat} {xs : List Value} (h : Row e w b cap xs) {j : Nat} (hj : xs.length ≤ j) (v : Value) : Row e (w.setCell ⟨b, j, none⟩ v) b cap xs := by
  have := h.set j v
  rwa [List.set_eq_of_length_le hj] at this
theorem Row.setCellsV {e : TypeId} {b cap : Nat} {xs : List Value} : ∀ (vs : List Value) (o : Nat) (w : World), Row e w b cap xs → xs.length ≤ o → Row e (w.setCells b o vs) b cap xs
  | [], _, _, h, _ => h
  | v :: vs, o, w, h, ho => Row.setCellsV vs (o + 1) (w.setCell ⟨b, o, none⟩ v) (h.setBeyondV ho v) (by omega)
theorem Upd.setCellsV {b : Nat} : ∀ (vs : List Value) (o : Nat) (w : World), Upd (· = b) w (w.setCells b o vs)
  | [], _, _ => Upd.refl _ _
  | v :: vs, o, w => (Upd.setCell w ⟨b, o, none⟩ v).trans (Upd.setCellsV vs (o + 1) (w.setCell ⟨b, o, none⟩ v))
/-- 'clear(s)', s the spare of a row of slices. -/
theorem wpl_clearV {w : World} {ops : Array Oper} {rest : List Oper} {o : Oper} {a : Act} {Q : Exit → Act → World → Prop} (hgd : o.guard = none) (s : Operand)
    (ho : o.op = .call { callee := .builtin .clear, args := #[s], argTypes := #[28] })
    (b off n c cap : Nat) (xs : List Value) (hs : a.eval s = .slice (some ⟨b, off, none⟩) n c) (hr : Row 24 w b cap xs) (hoff : xs.length ≤ off) (hn : 0 < n) (hcap : off + n ≤ cap)
    (h : ∀ w', Row 24 w' b cap xs → Upd (· = b) w w' → wpList Try.prog ops Q rest (a.put o.dst (.tuple #[])) w') :
    wpList Try.prog ops Q (o :: rest) a w := by
  have hz : ∀ w, (zeroValue 24).run Try.prog w = .ok (.slice none 0 0) w := fun w => by kernel_rfl
  have hrun := Lib.run_clear_slice (P := Try.prog) w 28 24 o.type (.slice none 0 0) Try.underlying28 hz rfl rfl b off n c hn (fun j hj => by obtain ⟨v, hv⟩ := hr.spare (j := off + j) (by omega); rw [hv]; rfl) (fun j hj => hr.free _ _)
  refine wpList_plain hgd fun K hK => ?_
  unfold Oper.wp execOp
  simp only [ho, resolve, invoke, builtin, Sem.run_bind, Sem.run_pure, Result.andThen_ok, List.map_toArray, List.map_cons, List.map_nil, hs, hrun]
  exact hK _ _ (h _ (Row.setCellsV _ _ _ hr hoff) (Upd.setCellsV _ _ _))
end Go.Proofs.Ytognbiodplodhaa
namespace Go.Proofs.Ytognbiodplodhaa
open Go.RowKit

def notP (x : List Int) : Bool := !isP8 x
theorem notP_all (L : List (List Int)) : (!anyL notP L) = allP8 L := by
  unfold anyL allP8
  induction L with
  | nil => rfl
  | cons x L ih => rw [List.any_cons, List.all_cons, Bool.not_or, ih]; simp [notP]
theorem notP_ok (v : Value) (x : List Int) (w : World) (h : SI w v x) :
    Calls Try.prog 84 #[v] w fun e w' => e = .returned (.bool (notP x)) ∧ Ext w w' := by
  obtain ⟨a, cap, rfl, -⟩ := h.elim
  have HH := Lib.hid h
  obtain ⟨q, hq⟩ : ∃ q, q = isP8 x := ⟨_, rfl⟩
  have HQ := Lib.hid hq
  have HN : Hid (notP x = !q) := by show _ = _; rw [hq]; rfl
  clear h hq
  go_enter Try.func84, Try.ntmps84
  go_wp2_with (go_at_call 49; refine (impl_IsPerm_ok _ x _ HH.out).mono ?_; rintro e w1 ⟨rfl, he⟩; rw [← HQ.out]; have HE := Lib.hid he; clear he)
  go_ret
  exact ⟨by rw [HN.out]; rfl, HE.out⟩
theorem arePerms_ok (v : Value) (L : List (List Int)) (w : World) (h : SII w v L) (hl : L.length ≤ 1000000) :
    Calls Try.prog 67 #[v] w fun e w' => e = .returned (.bool (allP8 L)) ∧ Ext w w' := by
  obtain ⟨a, cap, rfl, -⟩ := h.elim
  have HH := Lib.hid h
  have hen : Enters 84 := enters_of Try.func84 rfl rfl
  have HEN := Lib.hid hen
  obtain ⟨q, hq⟩ : ∃ q, q = anyL notP L := ⟨_, rfl⟩
  have HQ := Lib.hid hq
  have HN : Hid (allP8 L = !q) := by show _ = _; rw [hq]; exact (notP_all L).symm
  clear h hq hen
  go_enter Try.func67, Try.ntmps67
  go_wp2_with (go_at_call 83; refine (containsFuncL_ok _ L 84 #[] notP _ HH.out (by omega) HEN.out (fun i hi u w1 hw hu => notP_ok u _ w1 hu)).mono ?_; rintro e w3 ⟨rfl, he3⟩; rw [← HQ.out]; have HE := Lib.hid he3; clear he3)
  go_ret
  exact ⟨by rw [HN.out]; rfl, HE.out⟩
end Go.Proofs.Ytognbiodplodhaa
namespace Go.Proofs.Ytognbiodplodhaa
open Go.RowKit

theorem dsI_new {L : List (List Int)} : ∀ n, (∀ i, i < n → newB L i = true) → dsI L n = List.range n := by
  intro n
  induction n with
  | zero => intro _; rfl
  | succ n ih => intro h; rw [dsI_t (h n (by omega)), ih (fun i hi => h i (by omega)), List.range_succ]
theorem newB_zero (L : List (List Int)) : newB L 0 = true := by simp [newB]
theorem newB_one {L : List (List Int)} {i : Nat} (h : i < 1) : newB L i = true := by
  obtain rfl : i = 0 := by omega
  exact newB_zero L
theorem newB_succ (L : List (List Int)) (j : Nat) : newB L (j + 1) = !decide (nthL L (j + 1) = nthL L j) := by
  unfold newB
  rw [Nat.add_sub_cancel]
  by_cases h : nthL L (j + 1) = nthL L j
  · simp [h]
  · simp [h]
theorem range_nthV (vs : List Value) : ∀ n, n ≤ vs.length → (List.range n).map (nthV vs) = vs.take n := by
  intro n
  induction n with
  | zero => intro _; simp
  | succ n ih =>
    intro h
    rw [List.range_succ, List.map_append, ih (by omega), List.take_succ_eq_append_getElem (by omega)]
    simp [nthV, show n < vs.length by omega]
/-- the row while it is made dense. -/
def cmV (L : List (List Int)) (vs : List Value) (p : Nat) : List Value := (dsI L p).map (nthV vs) ++ vs.drop (dsI L p).length
theorem cmV_get {L : List (List Int)} {vs : List Value} {p i : Nat} (h : (dsI L p).length ≤ i) (hi : i < vs.length) : (cmV L vs p)[i]? = some (nthV vs i) := by
  unfold cmV
  rw [List.getElem?_append_right (by simpa using h), List.length_map, List.getElem?_drop, Nat.add_sub_cancel' h]
  exact nthV_get hi
theorem cmV_set {L : List (List Int)} {vs : List Value} {p : Nat} (hn : newB L p = true) (hlt : (dsI L p).length < vs.length) : (cmV L vs p).set (dsI L p).length (nthV vs p) = cmV L vs (p + 1) := by
  unfold cmV
  rw [dsI_t hn, List.set_append_right _ _ (by simp), List.length_map, Nat.sub_self, List.drop_eq_getElem_cons hlt, List.set_cons_zero]
  simp
theorem cmV_len {L : List (List Int)} {vs : List Value} {p : Nat} (h : (dsI L p).length ≤ vs.length) : (cmV L vs p).length = vs.length := by
  unfold cmV; simp; omega
/-- what slices.CompactFunc hands out. -/
def CmPost (B H b cap : Nat) (L : List (List Int)) (w : World) (e : Ending) (w' : World) : Prop :=
  ∃ m, e = .returned (.slice (some ⟨b, 0, none⟩) m cap) ∧ m = (dsI L L.length).length ∧ RR B H w' b cap ((dsI L L.length).map (nthL L)) ∧ Upd (· = b) w w'
theorem CmPost.of {B H b cap : Nat} {L : List (List Int)} {w w' : World} {e : Ending} (m : Nat) (h1 : e = .returned (.slice (some ⟨b, 0, none⟩) m cap)) (h2 : m = (dsI L L.length).length) (h3 : RR B H w' b cap ((dsI L L.length).map (nthL L))) (h4 : Upd (· = b) w w') : CmPost B H b cap L w e w' := ⟨m, h1, h2, h3, h4⟩
set_option maxHeartbeats 4000000 in
theorem compact_any (B H b cap : Nat) (L : List (List Int)) (w : World) (hr : RR B H w b cap L) (hl : L.length ≤ 1000000) (hs : small L) :
    Calls Try.prog 87 #[.slice (some ⟨b, 0, none⟩) L.length cap, .func (.func 88) #[] #[]] w (CmPost B H b cap L w) := by
  have HR := Lib.hid hr
  have HS := Lib.hid hs
  have hen : ∀ args w, (callFunc 88 args).run Try.prog w = .ok (.enter 88 args) w := enters_of Try.func88 rfl rfl
  obtain ⟨vs, hrow, hel, hout, hlo, hhi⟩ := hr
  have hvl := hel.len
  have hcap := hrow.le
  rw [hvl] at hcap
  have HROW := Lib.hid hrow
  have HEL := Lib.hid hel
  have HOUT := Lib.hid hout
  have HVL := Lib.hid hvl
  have HNONE : Hid ((∀ i, i < L.length → newB L i = true) → L.length = (dsI L L.length).length ∧ (dsI L L.length).map (nthL L) = L) := fun h => by
    rw [dsI_new _ h, map_nthL_range]; simp
  clear hs hrow hel hout hvl
  go_enter Try.func87, Try.ntmps87
  by_cases h2 : L.length < 2
  · have HN : Hid (∀ i, i < L.length → newB L i = true) := fun i hi => newB_one (by omega)
    go_wp2_with fail
    go_ret
    exact CmPost.of _ rfl (HNONE.out HN.out).1 (by rw [(HNONE.out HN.out).2]; exact HR.out) (Upd.refl _ _)
  · go_wp2_with fail
    go_loopw [5] (fun i wr => ∃ j : Nat, j + 1 ≤ L.length ∧ i = .int .i64 ((j : Int) + 1) ∧ Hid (∀ i, i < j + 1 → newB L i = true) ∧ Qt w wr) (fun i _ => L.length - (intOf i).toNat)
    case atStart => exact ⟨0, by omega, rfl, Lib.hid (fun i hi => newB_one (by omega)), Qt.refl _⟩
    case round =>
      obtain ⟨j, hj, rfl, hnew, hq⟩ := hrel
      by_cases hlt : j + 1 < L.length
      · have hR := HR.out.ext hq.ext
        obtain ⟨u, hu, hou⟩ := hR.get (k := j) (by omega)
        obtain ⟨u2, hu2, hou2⟩ := hR.get (k := j + 1) hlt
        have hsm := HS.out.nth (k := j + 1) hlt
        have HE := fun m => slicesEqual_ok u2 u _ _ (wr.drewN m) (hou2.si.ext (Upd.drewN _ _ _)) (hou.si.ext (Upd.drewN _ _ _)) (by omega)
        have w1 : IntKind.i64.wrap ((j : Int) + 1 - 1) = (j : Int) := by rw [IntWalk.i64_in _ (by omega)]; omega
        have w1b : IntKind.i64.wrap (j : Int) = (j : Int) := IntWalk.i64_in _ (by omega)
        have w2 : ((j : Int) + 1).toNat = j + 1 := by omega
        have w3 : 0 ≤ (j : Int) + 1 := by omega
        have w4 : (j : Int) + 1 < (L.length : Int) := by omega
        have w5 : (j : Int) < (L.length : Int) := by omega
        cases hnb : newB L (j + 1)
        · have heq : decide (nthL L (j + 1) = nthL L j) = true := by rw [newB_succ] at hnb; simpa using hnb
          simp only [heq] at HE
          have HE' := Lib.hid HE
          have HNB := Lib.hid hnb
          have hQ := Lib.hid hq
          have w6 : (j : Int) + 1 ≤ (L.length : Int) := by omega
          have w7 : (L.length : Int) ≤ (cap : Int) := by omega
          have w8 : ¬ cap = j + 1 := by omega
          have w9 : (j : Int) + 1 ≤ (cap : Int) := by omega
          clear HE hR hou hou2 heq hnb hq
          go_wp2_with fail
          go_quiet ((go_at_call 88; exact Calls.quiet_of (HE'.out _)))
          clear w1 w1b
          go_wp2_with fail
          have HJ : Hid ((dsI L (j + 1 + 1)).length = j + 1) := by show _ = _; rw [dsI_f HNB.out, dsI_new _ hnew.out]; simp
          have HR0 : Hid (Row 24 (wr.drewN nq) b cap (cmV L vs (j + 1 + 1))) := by
            have e : cmV L vs (j + 1 + 1) = vs := by
              unfold cmV
              rw [HJ.out, dsI_f HNB.out, dsI_new _ hnew.out, range_nthV _ _ (by rw [HVL.out]; omega), List.take_append_drop]
            show Row _ _ _ _ _
            rw [e]; exact HROW.out.ext ((hQ.out.drewN nq).ext)
          have HU0 : Hid (Upd (· = b) w (wr.drewN nq)) := Ext.toUpd ((hQ.out.drewN nq).ext) _
          obtain ⟨n', hn'⟩ : ∃ n', n' = L.length - (j + 1) := ⟨_, rfl⟩
          obtain ⟨c', hc'⟩ : ∃ c', c' = cap - (j + 1) := ⟨_, rfl⟩
          rw [← hn', ← hc']
          have hn1 : j + 1 + n' = L.length := by omega
          have HN1 := Lib.hid hn1
          have hn'0 : 1 ≤ n' := by omega
          have hn'9 : n' ≤ 1000000 := by omega
          have hnc : n' ≤ c' := by omega
          clear hn' hc' hn1
          go_loopw [5, 7] (fun kk i wr => ∃ q : Nat, q + 1 ≤ n' ∧ i = .int .i64 ((q : Int) + 1) ∧ (∃ m : Nat, kk = .int .i64 m ∧ Hid (m = (dsI L (j + 1 + (q + 1))).length) ∧ m ≤ j + 1 + q) ∧ Hid (Row 24 wr b cap (cmV L vs (j + 1 + (q + 1)))) ∧ Hid (Upd (· = b) w wr)) (fun _ i _ => n' - (intOf i).toNat)
          case atStart => exact ⟨0, by omega, rfl, ⟨j + 1, by simp, HJ.out.symm, by omega⟩, HR0, HU0⟩
          case round =>
            obtain ⟨q, hqn, rfl, ⟨m, rfl, hm, hmq⟩, hrow, hU⟩ := hrel
            clear HR0 HU0
            obtain ⟨p, hp⟩ : ∃ p, p = j + 1 + q := ⟨_, rfl⟩
            have hpe : j + 1 + (q + 1) = p + 1 := by omega
            rw [hpe] at hm hrow
            by_cases hlq : q + 1 < n'
            · have hpl : p + 1 < L.length := by have := HN1.out; omega
              have hvl1 : p + 1 < vs.length := by rw [HVL.out]; exact hpl
              have c1 := hrow.out.cell (cmV_get (L := L) (p := p + 1) (i := p + 1) (by rw [← hm.out]; omega) hvl1)
              have c0 := hrow.out.cell (cmV_get (L := L) (p := p + 1) (i := p) (by rw [← hm.out]; omega) (by omega))
              have c3 := hrow.out.cell (cmV_get (L := L) (p := p + 1) (i := m) (by rw [← hm.out]; exact Nat.le_refl _) (by omega))
              have f3 := hrow.out.free m none
              have s1 := ((HEL.out.el (p + 1) hpl).upd hU.out (fun b' hb _ _ e => HOUT.out (p + 1) hpl (by rw [hb, e]))).si
              have s0 := ((HEL.out.el p (by omega)).upd hU.out (fun b' hb _ _ e => HOUT.out p (by omega) (by rw [hb, e]))).si
              have hsm := HS.out.nth (k := p + 1) hpl
              have HE := fun m => slicesEqual_ok _ _ _ _ (wr.drewN m) (s1.ext (Upd.drewN _ _ _)) (s0.ext (Upd.drewN _ _ _)) (by omega)
              have HLE : Hid (m < vs.length) := by show _ < _; omega
              have HS9 : newB L (p + 1) = true → Hid ((cmV L vs (p + 1)).set m (nthV vs (p + 1)) = cmV L vs (p + 1 + 1)) := fun h => by
                show _ = _
                rw [hm.out]; exact cmV_set h (by rw [← hm.out]; exact HLE.out)
              have e1 : j + 1 + (q + 1) = p + 1 := hpe
              obtain ⟨p1, l1, q1, hu1⟩ : ∃ p1 l1 q1, Value.slice p1 l1 q1 = nthV vs (p + 1) := by
                obtain ⟨p1, q1, e⟩ := (HEL.out.el (p + 1) hpl).shape
                exact ⟨p1, _, q1, e.symm⟩
              obtain ⟨u0, hu0⟩ : ∃ u, u = nthV vs p := ⟨_, rfl⟩
              rw [← hu1] at c1 HE HS9
              rw [← hu0] at c0 HE
              rw [hp] at c0
              have HS9' := Lib.hid HS9
              rw [← e1] at c1
              have w1 : IntKind.i64.wrap ((q : Int) + 1 - 1) = (q : Int) := by rw [IntWalk.i64_in _ (by omega)]; omega
              have w1b : IntKind.i64.wrap (q : Int) = (q : Int) := IntWalk.i64_in _ (by omega)
              have w2 : ((q : Int) + 1).toNat = q + 1 := by omega
              have w3 : 0 ≤ (q : Int) + 1 := by omega
              have w4 : (q : Int) + 1 < (n' : Int) := by omega
              have w5 : (q : Int) < (n' : Int) := by omega
              have w6 : (m : Int) < (L.length : Int) := by omega
              have HP := Lib.hid hp
              cases hnb : newB L (p + 1)
              · have heq : decide (nthL L (p + 1) = nthL L p) = true := by rw [newB_succ] at hnb; simpa using hnb
                simp only [heq] at HE
                have HE' := Lib.hid HE
                have HM9 : Hid (m = (dsI L (j + 1 + (q + 1 + 1))).length) := by
                  show _ = _
                  rw [show j + 1 + (q + 1 + 1) = p + 1 + 1 by omega, dsI_f hnb]; exact hm.out
                have HR9 : Hid (Row 24 wr b cap (cmV L vs (j + 1 + (q + 1 + 1)))) := by
                  show Row _ _ _ _ _
                  rw [show j + 1 + (q + 1 + 1) = p + 1 + 1 by omega]
                  have e : cmV L vs (p + 1 + 1) = cmV L vs (p + 1) := by unfold cmV; rw [dsI_f hnb]
                  rw [e]; exact hrow.out
                clear HE s1 s0 heq hnb hu1 hu0 hp hpe e1 HS9
                go_wp2_with fail
                go_quiet ((go_at_call 88; exact Calls.quiet_of (HE'.out _)))
                clear w1 w1b
                go_wp2_with fail
                go_roundw
                case rel => exact ⟨q + 1, by omega, by rw [Value.int.injEq]; exact ⟨rfl, by push_cast; rfl⟩, ⟨m, rfl, HM9, by omega⟩, Lib.hid (HR9.out.ext (Upd.drewN _ _ _)), Lib.hid (hU.out.trans (Upd.drewN _ _ _))⟩
                case measure => simp [intOf]; omega
              · have hne : decide (nthL L (p + 1) = nthL L p) = false := by rw [newB_succ] at hnb; simpa using hnb
                simp only [hne] at HE
                have HE' := Lib.hid HE
                have HM9 : Hid (m + 1 = (dsI L (j + 1 + (q + 1 + 1))).length) := by
                  show _ = _
                  rw [show j + 1 + (q + 1 + 1) = p + 1 + 1 by omega, dsI_t hnb, List.length_append, ← hm.out]; rfl
                have HS8 := HS9'.out hnb
                have HQE : Hid (j + 1 + (q + 1 + 1) = p + 1 + 1) := by show _ = _; omega
                clear HE s1 s0 hne hnb hu1 hu0 hp hpe e1 HS9
                go_wp2_with fail
                go_quiet ((go_at_call 88; exact Calls.quiet_of (HE'.out _)))
                clear w1 w1b
                go_wp2_with fail
                have hr9 := (hrow.out.ext (Upd.drewN wr nq _)).set m (.slice p1 l1 q1)
                have hu9 := (hU.out.trans (Upd.drewN wr nq _)).trans (Upd.setCell (wr.drewN nq) ⟨b, m, none⟩ (.slice p1 l1 q1))
                rw [show (cmV L vs (p + 1)).set m (.slice p1 l1 q1) = cmV L vs (p + 1 + 1) from HS8.out, ← HQE.out] at hr9
                have HR9 := Lib.hid hr9
                have HU9 := Lib.hid hu9
                clear hr9 hu9
                go_roundw
                case rel => exact ⟨q + 1, by omega, by rw [Value.int.injEq]; exact ⟨rfl, by push_cast; rfl⟩, ⟨m + 1, by go_num, HM9, by omega⟩, HR9, HU9⟩
                case measure => simp [intOf]; omega
            · have hpL : Hid (p + 1 = L.length) := by show _ = _; have := HN1.out; omega
              have hmL : Hid (m = (dsI L L.length).length) := by show _ = _; rw [hm.out, hpL.out]
              have hmlt : (m : Int) < (L.length : Int) := by have := hpL.out; omega
              have hmcap : (L.length : Int) ≤ (cap : Int) := by omega
              have hmc2 : ¬ cap = m := by omega
              have hmc3 : (m : Int) ≤ (cap : Int) := by omega
              have hmc4 : (m : Int) ≤ (L.length : Int) := by omega
              have hmn : m ≤ cap := by omega
              have hrs : Hid (Row 24 wr b cap ((dsI L L.length).map (nthV vs))) := by
                have h1 := hrow.out.shrink m
                have e : (cmV L vs (p + 1)).take m = (dsI L L.length).map (nthV vs) := by
                  rw [hpL.out]
                  unfold cmV
                  rw [List.take_append_of_le_length (by simp [hmL.out]), List.take_of_length_le (by simp [hmL.out])]
                rw [e] at h1; exact h1
              have hnI : ¬ (q : Int) + 1 < (n' : Int) := by omega
              have hb1 : ((dsI L L.length).map (nthV vs)).length ≤ m := by rw [List.length_map, ← hmL.out]; exact Nat.le_refl _
              have hb2 : 0 < L.length - m := by omega
              have hb3 : m + (L.length - m) ≤ cap := by omega
              have HB1 := Lib.hid hb1
              have HB2 := Lib.hid hb2
              have HB3 := Lib.hid hb3
              clear hp hpe hb1 hb2 hb3
              go_wp2_with (refine wpl_clearV rfl _ rfl b m _ _ cap ((dsI L L.length).map (nthV vs)) rfl hrs.out HB1.out HB2.out HB3.out ?_; intro w9 hr9 hu9; have HR9 := Lib.hid hr9; have HU9 := Lib.hid hu9; clear hr9 hu9)
              go_ret
              refine CmPost.of _ rfl hmL.out ⟨_, HR9.out, ?_, ?_, hlo, hhi⟩ (hU.out.trans HU9.out)
              · refine ((HEL.out.byN _ ((dsI_pw L L.length).imp (fun h e => by omega)) (fun i hi => (dsI_lt hi).1)).upd (hU.out.trans HU9.out) (fun i c hi hc e => ?_))
                have hi' : i < (dsI L L.length).length := by simpa using hi
                have e2 : nthV ((dsI L L.length).map (nthV vs)) i = nthV vs ((dsI L L.length)[i]) := by simp [nthV, hi']
                rw [e2] at hc
                exact HOUT.out _ (dsI_lt (List.getElem_mem hi')).1 (by rw [hc, e])
              · intro i hi
                have hi' : i < (dsI L L.length).length := by simpa using hi
                have e2 : nthV ((dsI L L.length).map (nthV vs)) i = nthV vs ((dsI L L.length)[i]) := by simp [nthV, hi']
                rw [e2]
                exact HOUT.out _ (dsI_lt (List.getElem_mem hi')).1
        · have hne : decide (nthL L (j + 1) = nthL L j) = false := by rw [newB_succ] at hnb; simpa using hnb
          simp only [hne] at HE
          have HE' := Lib.hid HE
          have HNEW : Hid (∀ i, i < j + 1 + 1 → newB L i = true) := fun i hi => by
            rcases Nat.lt_or_ge i (j + 1) with e | e
            · exact hnew.out i e
            · obtain rfl : i = j + 1 := by omega
              exact hnb
          clear HE hR hou hou2 hne hnb
          go_wp2_with fail
          go_quiet ((go_at_call 88; exact Calls.quiet_of (HE'.out _)))
          clear w1 w1b
          go_wp2_with fail
          go_roundw
          case rel => exact ⟨j + 1, by omega, by rw [Value.int.injEq]; exact ⟨rfl, by push_cast; rfl⟩, HNEW, hq.drewN _⟩
          case measure => simp [intOf]; omega
      · have hnI : ¬ (j : Int) + 1 < (L.length : Int) := by omega
        have HN : Hid (∀ i, i < L.length → newB L i = true) := fun i hi => hnew.out i (by omega)
        go_wp2_with fail
        go_ret
        exact CmPost.of _ rfl (HNONE.out HN.out).1 (by rw [(HNONE.out HN.out).2]; exact HR.out.ext hq.ext) (Ext.toUpd hq.ext _)
end Go.Proofs.Ytognbiodplodhaa
namespace Go.Proofs.Ytognbiodplodhaa
open Go.RowKit

set_option maxHeartbeats 2000000 in
/-- the program's ordered, of any rows. -/
theorem ordered_any (v : Value) (L : List (List Int)) (w : World) (h : SII w v L) (hl : L.length ≤ 1000000) (hs : small L) :
    Calls Try.prog 68 #[v] w fun e w' => ∃ b c, e = .returned (.slice (some ⟨b, 0, none⟩) (putAll L).length c) ∧ RR w.heap.size w'.heap.size w' b c (putAll L) ∧ Ext w w' := by
  obtain ⟨a, cap, rfl, hri⟩ := h.elim
  have HS := Lib.hid hs
  have hr0 := RR.new w
  have he0 : Ext w (w.alloc (.cells #[] 24)) := Upd.alloc _ _ _
  clear h hs
  go_enter Try.func68, Try.ntmps68
  go_wp2_with fail
  go_loopw [3, 5, 9] (fun o _ i wr => ∃ k : Nat, k ≤ L.length ∧ i = .int .i64 k ∧ (∃ b c n, o = .slice (some ⟨b, 0, none⟩) n c ∧ Hid (n = (L.take k).length) ∧ RR w.heap.size wr.heap.size wr b c (L.take k)) ∧ Ext w wr) (fun _ _ i _ => L.length - (intOf i).toNat)
  case atStart => exact ⟨0, Nat.zero_le _, rfl, ⟨_, 0, 0, rfl, Lib.hid rfl, hr0.mono (by simp)⟩, he0⟩
  case round =>
    obtain ⟨k, hk, rfl, ⟨b, c, n, rfl, hnl, hr⟩, he⟩ := hrel
    clear hr0 he0
    by_cases hlt : k < L.length
    · obtain ⟨b1, off, rfl, u, hu, hsu⟩ := hri k hlt
      replace hu := Ext.cell he hu
      have hsu2 := Lib.hid (hsu.ext he)
      have hsm := HS.out.nth hlt
      have HT := Lib.hid (take_nthL hlt)
      have HR := Lib.hid hr
      have hn9 : n ≤ 1000000 := by have := hnl.out; simp at this; omega
      clear hri hsu hr
      have hew := he.size
      go_wp2_with (first
        | (go_at_call 54; refine (slicesClone_ok _ (nthL L k) _ hsu2.out hsm).mono ?_; rintro e w4 ⟨v4, rfl, ho4, he4⟩; obtain ⟨p4, c4, rfl⟩ := ho4.shape; have HO4 := Lib.hid ho4; clear ho4)
        | (at_builtin; go_loud (refine wpl_appRR rfl _ _ rfl w.heap.size wr.heap.size b c n (L.take k) p4 _ c4 (nthL L k) rfl (HR.out.ext he4) hnl.out (HO4.out.mono hew (Nat.le_refl _)) (fun j hj => (HO4.out.own hj).1) he4.size rfl (by rw [← hnl.out]; omega) ?_); intro b5 c5 w5 hr5 hb5 hu5))
      rw [← HT.out] at hr5
      have HR5 := Lib.hid hr5
      have hlo := HR.out.lo
      have hE5 := Lib.hid ((he.trans he4).upd1 hu5 hlo)
      have hn5 : Hid (n + 1 = (L.take (k + 1)).length) := by show _ = _; rw [HT.out, List.length_append, ← hnl.out]; rfl
      clear hr5 hu5 hb5 hu
      go_roundw
      case rel => exact ⟨k + 1, by omega, by go_num, ⟨b5, c5, n + 1, rfl, hn5, HR5.out⟩, hE5.out⟩
      case measure => simp [intOf]; omega
    · obtain rfl : k = L.length := by omega
      have hTA : L.take L.length = L := take_all (Nat.le_refl _)
      rw [hTA] at hr hnl
      have hg : ∀ args w, (callFunc 86 args).run Try.prog w = .ok (.enter 86 args) w := enters_of Try.func86 rfl rfl
      have HC := Lib.hid (sortRows_ok befTot _ hg hr (by omega) (fun u v xs ys W h1 h2 h3 h4 => comparePerms_ok u v xs ys W h1 h2 (by rcases h3 with h | rfl; have := HS.out xs h; omega; simp) (by rcases h4 with h | rfl; have := HS.out ys h; omega; simp)))
      obtain rfl : n = L.length := hnl.out
      have hlo := hr.lo
      clear hTA hr
      go_wp2_with fail
      refine HC.out.mono ?_
      rintro e w5 ⟨rfl, L', hr5, hp5, hs5, hu5⟩
      have hlen : L.length = L'.length := hp5.length_eq.symm
      have HLE := Lib.hid hlen
      have HS5 : Hid (small L') := fun x hx => HS.out x (hp5.mem_iff.1 hx)
      have HPUT : Hid ((dsI L' L'.length).map (nthL L') = putAll L) := dsI_put hs5 (fun x => hp5.mem_iff)
      have hz5 := hu5.size
      have HR5 := Lib.hid (hr5.mono hz5)
      have hE5 := Lib.hid (he.upd1 hu5 hlo)
      have HL5 : Hid (L'.length ≤ 1000000) := by show _ ≤ _; omega
      clear hlen hp5 hs5 hu5 hr5 hnl
      rw [HLE.out]
      go_wp2_with fail
      refine (compact_any w.heap.size w5.heap.size b c L' _ HR5.out HL5.out HS5.out).mono ?_
      rintro e w6 ⟨m, rfl, hm, hr6, hu6⟩
      rw [HPUT.out] at hr6
      have HM : Hid (m = (putAll L).length) := by show _ = _; rw [← HPUT.out, List.length_map]; exact hm
      have HR6 := Lib.hid (hr6.mono hu6.size)
      have HE6 := Lib.hid (hE5.out.upd1 hu6 hlo)
      clear hm hr6 hu6
      go_wp2_with fail
      go_ret
      exact ⟨b, c, by rw [HM.out]; rfl, HR6.out, HE6.out⟩
set_option maxHeartbeats 1000000 in
theorem impl_OrderPerms_ok (v : Value) (L : List (List Int)) (w : World) (h : SII w v L) (hl : L.length ≤ 1000000) (hs : small L) :
    Calls Try.prog 43 #[v] w fun e w' => ∃ v', e = .returned v' ∧ OII w.heap.size w'.heap.size w' v' (ordL L) ∧ Ext w w' := by
  have h00 := h
  obtain ⟨a, cap, rfl, -⟩ := h00.elim
  have HH := Lib.hid h
  have HS := Lib.hid hs
  cases hall : allP8 L
  · have HA := Lib.hid hall
    have HO : Hid (ordL L = []) := by show _ = _; unfold ordL; rw [hall]; rfl
    clear h h00 hs hall
    go_enter Try.func43, Try.ntmps43
    go_wp2_with fail
    refine (arePerms_ok _ L _ HH.out hl).mono ?_
    rintro e w1 ⟨rfl, he⟩
    rw [HA.out]
    have HE := Lib.hid he
    clear he
    go_wp2_with fail
    go_ret
    exact ⟨_, rfl, by rw [HO.out]; exact OII.nil _ _ _, HE.out⟩
  · have HA := Lib.hid hall
    have HO : Hid (ordL L = putAll L) := by show _ = _; unfold ordL; rw [hall]; rfl
    clear h h00 hs hall
    go_enter Try.func43, Try.ntmps43
    go_wp2_with fail
    refine (arePerms_ok _ L _ HH.out hl).mono ?_
    rintro e w1 ⟨rfl, he⟩
    rw [HA.out]
    have HE := Lib.hid he
    have hz := he.size
    clear he
    go_wp2_with fail
    refine (ordered_any _ L _ (HH.out.ext HE.out) hl HS.out).mono ?_
    rintro e w2 ⟨b, c, rfl, hr, he2⟩
    have HR := Lib.hid ((hr.monoB hz).oii rfl)
    have HE2 := Lib.hid (HE.out.trans he2)
    clear hr he2
    go_wp2_with fail
    go_ret
    exact ⟨_, rfl, by rw [HO.out]; exact HR.out, HE2.out⟩
end Go.Proofs.Ytognbiodplodhaa
namespace Go.Proofs.Ytognbiodplodhaa
open Go.RowKit

section
variable {P : Program} {ops : Array Oper} {Q : Exit → Act → World → Prop} {md : Region.Mode} {S : World → Prop} {g : Nat}

/-- whatever order comes; S behind each operation as long as number g has not come up. -/
def Till (P : Program) (md : Region.Mode) (ops : Array Oper) (Q : Exit → Act → World → Prop) (S : World → Prop) (g : Nat) : Nat → Array Bool → Act → World → Prop
  | 0, l, a, w => Region.ready md ops l = [] ∧ Q .normal a w
  | n + 1, l, a, w => (Region.ready md ops l = [] → Q .normal a w) ∧
      ∀ j, j ∈ Region.ready md ops l → wpOp P ops Q j (fun a' w' => Till P md ops Q S g n (l.setIfInBounds j true) a' w' ∧ ((l.setIfInBounds j true).getD g true = false → S w')) a w

theorem Till.any : ∀ (n : Nat) {l : Array Bool} {a : Act} {w : World}, Till P md ops Q S g n l a w → wpAny P md ops Q n l a w
  | 0, _, _, _, h => h
  | n + 1, _, _, _, h => ⟨h.1, fun j hj => wpOp_mono (fun _ _ k => Till.any n k.1) (h.2 j hj)⟩
theorem listed_stays {l : Array Bool} (h : l.getD g true = true) (j : Nat) : (l.setIfInBounds j true).getD g true = true := by
  by_cases e : j = g
  · subst e
    by_cases hl : j < l.size <;> simp [hl]
  · rw [getD_set_ne true e]; exact h
theorem Till.of_any : ∀ (n : Nat) {l : Array Bool} {a : Act} {w : World}, l.getD g true = true → wpAny P md ops Q n l a w → Till P md ops Q S g n l a w
  | 0, _, _, _, _, h => h
  | n + 1, _, _, _, hg, h => ⟨h.1, fun j hj => wpOp_mono (fun _ _ k => ⟨Till.of_any n (listed_stays hg j) k, fun e => by rw [listed_stays hg j] at e; exact absurd e (by decide)⟩) (h.2 j hj)⟩
/-- what waits for i is not ready while i is out. -/
theorem waits_not_ready {i j : Nat} {oj : Oper} {l : Array Bool} (hj : ops[j]? = some oj) (hw : ∃ e ∈ oj.after, Region.binds md e = true ∧ e.on = i) (hi : l.getD i true = false) : j ∉ Region.ready md ops l := by
  intro hm
  obtain ⟨_, o, ho, hall⟩ := mem_ready.1 hm
  rw [hj] at ho
  cases ho
  obtain ⟨e, he, hb, rfl⟩ := hw
  have h1 := hall e he hb
  rcases Nat.lt_or_ge e.on l.size with h | h
  · simp [h] at h1 hi; rw [hi] at h1; cases h1
  · simp [Array.getElem?_eq_none h] at h1
/-- a load may be taken first, if S gives what it reads and number g waits for it. -/
theorem Till.first {i : Nat} {oi og : Oper} {v : Value} (hi : ops[i]? = some oi) (hg : ops[g]? = some og) (hw : ∃ e ∈ og.after, Region.binds md e = true ∧ e.on = i) (hgi : g ≠ i) (hsel : Region.noSelect ops = true)
    (hQ : ∀ c a w, Q (.panic c) (a.put oi.dst v) w → Q (.panic c) a w) : ∀ (n : Nat) {l : Array Bool} {a : Act} {w : World},
      (∀ j oj, ops[j]? = some oj → j ≠ i → l.getD j true = false → (∀ e ∈ oj.after, Region.binds md e = true → e.on ≠ i) → oi.apart ops oj = true) →
      i ∈ Region.ready md ops l → YieldsIf P ops S oi v a → S w → l.getD g true = false → Till P md ops Q S g n (l.setIfInBounds i true) (a.put oi.dst v) w → Till P md ops Q S g (n + 1) l a w := by
  intro n
  induction n with
  | zero =>
    intro l a w _ hr hy hS hlg H
    refine ⟨fun e => by rw [e] at hr; exact absurd hr List.not_mem_nil, fun j hj => ?_⟩
    by_cases e : j = i
    · rw [e]; exact hy.wpOp hi hS ⟨H, fun _ => hS⟩
    · have h1 := ready_mono hj e
      rw [H.1] at h1; exact absurd h1 List.not_mem_nil
  | succ n ih =>
    intro l a w hap hr hy hS hlg H
    refine ⟨fun e => by rw [e] at hr; exact absurd hr List.not_mem_nil, fun j hj => ?_⟩
    by_cases e : j = i
    · rw [e]; exact hy.wpOp hi hS ⟨H, fun _ => hS⟩
    obtain ⟨hlj, oj, hoj, hall⟩ := mem_ready.1 hj
    have hli := (mem_ready.1 hr).1
    have hjg : j ≠ g := fun e2 => waits_not_ready hg hw hli (by rw [← e2]; exact hj)
    have hno : ∀ e ∈ oj.after, Region.binds md e = true → e.on ≠ i := fun e he hb e2 => waits_not_ready hoj ⟨e, he, hb, e2⟩ hli hj
    have key := wpOp_putIf hoj (hap j oj hoj e hlj hno) (fun cs b => Region.noSelect_spec hsel i oi cs b hi) (fun cs b => Region.noSelect_spec hsel j oj cs b hoj) hQ hy (H.2 j (ready_mono hj e))
    have hlg1 : ((l.setIfInBounds i true).setIfInBounds j true).getD g true = false := by rw [getD_set_ne true hjg, getD_set_ne true (Ne.symm hgi)]; exact hlg
    refine wpOp_mono (fun a' w' k => ⟨?_, fun _ => k.2.2 hlg1⟩) key
    refine ih (fun q oq hq hqi hlq hnq => hap q oq hq hqi ?_ hnq) (ready_mono hr (Ne.symm e)) k.1 (k.2.2 hlg1) (by rw [getD_set_ne true hjg]; exact hlg) ?_
    · by_cases e2 : j = q
      · rw [← e2]; exact hlj
      · rw [getD_set_ne true e2] at hlq; exact hlq
    · rw [Array.setIfInBounds_comm _ _ e]; exact k.2.1
theorem Till.take {i : Nat} {oi og : Oper} (v : Value) {n : Nat} {l : Array Bool} {a : Act} {w : World} (hi : ops[i]? = some oi) (hg : ops[g]? = some og) (hw : og.after.any (fun e => Region.binds md e && e.on == i) = true) (hgi : g ≠ i)
    (hs : Region.noSelect ops = true) (hf : Region.free md ops l i = true) (hr : (Region.ready md ops l).contains i = true) (hlg : l.getD g true = false)
    (hQ : ∀ c a w, Q (.panic c) (a.put oi.dst v) w → Q (.panic c) a w) (hy : YieldsIf P ops S oi v a) (hS : S w) (h : Till P md ops Q S g n (l.setIfInBounds i true) (a.put oi.dst v) w) : Till P md ops Q S g (n + 1) l a w := by
  refine Till.first hi hg ?_ hgi hs hQ n (fun j oj hj hne hun hno => Region.free_spec hi hf j oj hj hne hun hno) (by simpa using hr) hy hS hlg h
  obtain ⟨e, he, hb⟩ := Array.any_eq_true'.1 hw
  simp only [Bool.and_eq_true, beq_iff_eq] at hb
  exact ⟨e, he, hb.1, hb.2⟩
theorem Till.takeD {i : Nat} {oi og : Oper} (d : Tmp) (v : Value) {n : Nat} {l : Array Bool} {a : Act} {w : World} (hi : ops[i]? = some oi) (hd : oi.dst = some d) (hg : ops[g]? = some og) (hw : og.after.any (fun e => Region.binds md e && e.on == i) = true) (hgi : g ≠ i)
    (hs : Region.noSelect ops = true) (hf : Region.free md ops l i = true) (hr : (Region.ready md ops l).contains i = true) (hlg : l.getD g true = false)
    (hQ : ∀ c a w, Q (.panic c) (a.put (some d) v) w → Q (.panic c) a w) (hy : YieldsIf P ops S oi v a) (hS : S w) (h : Till P md ops Q S g n (l.setIfInBounds i true) (a.put (some d) v) w) : Till P md ops Q S g (n + 1) l a w :=
  Till.take v hi hg hw hgi hs hf hr hlg (by rw [hd]; exact hQ) hy hS (by rw [hd]; exact h)
theorem any_takeD {i : Nat} {oi : Oper} (d : Tmp) (v : Value) {n : Nat} {l : Array Bool} {a : Act} {w : World} (hi : ops[i]? = some oi) (hd : oi.dst = some d) (hs : Region.noSelect ops = true) (hf : Region.free md ops l i = true) (hr : (Region.ready md ops l).contains i = true)
    (hQ : ∀ c a w, Q (.panic c) (a.put (some d) v) w → Q (.panic c) a w) (hy : Yields P ops oi v a) (h : wpAny P md ops Q n (l.setIfInBounds i true) (a.put (some d) v) w) : wpAny P md ops Q (n + 1) l a w :=
  wpAny_take hi hs hf hr (by rw [hd]; exact hQ) hy (by rw [hd]; exact h)
/-- one or two operations may come up. -/
theorem Till.one {i : Nat} {n : Nat} {l : Array Bool} {a : Act} {w : World} (hr : Region.ready md ops l = [i])
    (h : wpOp P ops Q i (fun a' w' => Till P md ops Q S g n (l.setIfInBounds i true) a' w' ∧ ((l.setIfInBounds i true).getD g true = false → S w')) a w) : Till P md ops Q S g (n + 1) l a w :=
  ⟨fun e => (by rw [hr] at e; cases e), fun j hj => by rw [hr] at hj; obtain rfl := List.mem_singleton.1 hj; exact h⟩
theorem Till.two {i i' : Nat} {n : Nat} {l : Array Bool} {a : Act} {w : World} (hr : Region.ready md ops l = [i, i'])
    (h : wpOp P ops Q i (fun a' w' => Till P md ops Q S g n (l.setIfInBounds i true) a' w' ∧ ((l.setIfInBounds i true).getD g true = false → S w')) a w)
    (h' : wpOp P ops Q i' (fun a' w' => Till P md ops Q S g n (l.setIfInBounds i' true) a' w' ∧ ((l.setIfInBounds i' true).getD g true = false → S w')) a w) : Till P md ops Q S g (n + 1) l a w :=
  ⟨fun e => (by rw [hr] at e; cases e), fun j hj => by
    rw [hr] at hj
    rcases List.mem_cons.1 hj with rfl | hj
    · exact h
    · obtain rfl := List.mem_singleton.1 hj; exact h'⟩
/-- number g itself comes up: from there on nothing is asked. -/
theorem Till.last {n : Nat} {l : Array Bool} {a : Act} {w : World} (hr : Region.ready md ops l = [g]) (hl : (l.setIfInBounds g true).getD g true = true)
    (h : wpOp P ops Q g (wpAny P md ops Q n (l.setIfInBounds g true)) a w) : Till P md ops Q S g (n + 1) l a w :=
  Till.one hr (wpOp_mono (fun _ _ k => ⟨Till.of_any n hl k, fun e => by rw [hl] at e; cases e⟩) h)
theorem any_one {i : Nat} {n : Nat} {l : Array Bool} {a : Act} {w : World} (hr : Region.ready md ops l = [i]) (h : wpOp P ops Q i (wpAny P md ops Q n (l.setIfInBounds i true)) a w) : wpAny P md ops Q (n + 1) l a w :=
  ⟨fun e => (by rw [hr] at e; cases e), fun j hj => by rw [hr] at hj; obtain rfl := List.mem_singleton.1 hj; exact h⟩
end
/-! ### single operations -/
/-- '[]int{x}'. -/
theorem op_lit {ops : Array Oper} {Q : Exit → Act → World → Prop} {K : Act → World → Prop} {a : Act} {w : World} {i : Nat} (s : Operand) (d : Tmp) (x : Int)
    (ho : (ops[i]?).map (fun o => (o.op, o.guard, o.dst)) = some (Op.buildSlice 24 1 #[(0, s)], none, some d)) (hx : a.eval s = .int .i64 x)
    (h : ∀ w', Ext w w' → Row 3 w' w.heap.size 1 (vals [x]) → K (a.put (some d) (.slice (some ⟨w.heap.size, 0, none⟩) 1 1)) w') : wpOp Try.prog ops Q i K a w := by
  obtain ⟨o, ho, hop⟩ := Option.map_eq_some_iff.1 ho
  obtain ⟨dst, op, ty, pos, after, guard⟩ := o
  simp only [Prod.mk.injEq] at hop
  obtain ⟨rfl, rfl, rfl⟩ := hop
  refine wpOp_step ho (fun K' hK => ?_)
  rw [if_pos (by simp [Region.wanted])]
  have hrun : (execOp a.eval ⟨some d, Op.buildSlice 24 1 #[(0, s)], ty, pos, after, none⟩).run Try.prog w = .ok (.value (.slice (some ⟨w.heap.size, 0, none⟩) 1 1)) (w.alloc (.cells #[.int .i64 x] 3)) := by
    generalize hz : a.eval = f at hx
    simp only [execOp]
    go_simp
  unfold Oper.wp
  rw [hrun]
  exact hK _ _ (h _ (Upd.alloc w _ _) (Row.new 3 w (vals [x]) (by simp [vals, maxLen])))
/-- 'append(v, y)', v a slice of its own, nil too. -/
theorem op_app {ops : Array Oper} {Q : Exit → Act → World → Prop} {K : Act → World → Prop} {a : Act} {w : World} {i : Nat} (s x : Operand) (d : Tmp)
    (ho : (ops[i]?).map (fun o => (o.op, o.guard, o.dst)) = some (.call { callee := .builtin .append, args := #[s, x], argTypes := #[24, 24] }, none, some d))
    (B H : Nat) (v : Value) (xs : List Int) (y : Int) (hs : a.eval s = v) (hr : OI B H w v xs) (hB : B ≤ w.heap.size)
    (m : Nat) (hx : a.eval x = .slice (some ⟨m, 0, none⟩) 1 1) (hm : Row 3 w m 1 (vals [y])) (hb : xs.length ≤ 1000000000)
    (h : ∀ b' cap' w', Row 3 w' b' cap' (vals (xs ++ [y])) → B ≤ b' → (v.ownBlock = some b' ∨ b' = w.heap.size) → Upd (fun k => v.ownBlock = some k) w w' → K (a.put (some d) (.slice (some ⟨b', 0, none⟩) (xs.length + 1) cap')) w') : wpOp Try.prog ops Q i K a w := by
  obtain ⟨o, ho, hop⟩ := Option.map_eq_some_iff.1 ho
  obtain ⟨dst, op, ty, pos, after, guard⟩ := o
  simp only [Prod.mk.injEq] at hop
  obtain ⟨rfl, rfl, rfl⟩ := hop
  exact wpOp_step ho (fun _ hK => step_app1U rfl s x rfl B H v xs y hs hr hB m hx (hm.icell (j := 0) (by simp)) hb (fun b' cap' w' h1 h2 h3 h4 => hK _ _ (h b' cap' w' h1 h2 h3 h4)))
/-- a store of a slice. -/
theorem op_store {ops : Array Oper} {Q : Exit → Act → World → Prop} {K : Act → World → Prop} {a : Act} {w : World} {i : Nat} (p s : Operand)
    (ho : (ops[i]?).map (fun o => (o.op, o.guard, o.dst)) = some (Op.store 24 p s, none, none)) (b j : Nat) (hp : a.eval p = .pointer (some ⟨b, j, none⟩)) (q : Option Addr) (l c : Nat) (hs : a.eval s = .slice q l c) (u : Value)
    (hc : w.cell? ⟨b, j, none⟩ = some u) (hf : w.frozen? ⟨b, j, none⟩ = false) (h : K a (w.setCell ⟨b, j, none⟩ (.slice q l c))) : wpOp Try.prog ops Q i K a w := by
  obtain ⟨o, ho, hop⟩ := Option.map_eq_some_iff.1 ho
  obtain ⟨dst, op, ty, pos, after, guard⟩ := o
  simp only [Prod.mk.injEq] at hop
  obtain ⟨rfl, rfl, rfl⟩ := hop
  refine wpOp_step ho (fun K' hK => ?_)
  rw [if_pos (by simp [Region.wanted])]
  have hrun : (execOp a.eval ⟨none, Op.store 24 p s, ty, pos, after, none⟩).run Try.prog w = .ok .skip (w.setCell ⟨b, j, none⟩ (.slice q l c)) := by
    generalize hz : a.eval = f at hp hs
    simp only [execOp, hp, hs]
    go_simp
  unfold Oper.wp
  rw [hrun]
  exact hK _ _ h
end Go.Proofs.Ytognbiodplodhaa
namespace Go.Proofs.Ytognbiodplodhaa
open Go.RowKit

/-- the number that goes down leaves the row where the first greater one stands. -/
def gtB (x : Int) (y : Int) : Bool := decide (x < y)
theorem found_stop {x : Int} {row : List Int} {r : Int} (h : Found row.length (fun i => gtB x (nth row i)) r) (hf : x ∉ row) : (r = -1 ∧ fi x row = row.length) ∨ ∃ k, k < row.length ∧ r = (k : Int) ∧ k = fi x row := by
  have hne : ∀ i, i < row.length → nth row i ≠ x := fun i hi e => hf (by rw [← e]; exact nth_mem hi)
  rcases h with ⟨rfl, h⟩ | ⟨k, hk, rfl, h1, h2⟩
  · refine .inl ⟨rfl, (fi_uniq (c := row.length) (fun j hj => ?_) (Nat.le_refl _) (fun h => absurd h (Nat.lt_irrefl _))).symm⟩
    have := of_decide_eq_false (h j hj)
    have := hne j hj
    omega
  · refine .inr ⟨k, hk, rfl, fi_uniq (fun j hj => ?_) (by omega) (fun _ => ?_)⟩
    · have := of_decide_eq_false (h2 j hj)
      have := hne j (by omega)
      omega
    · have := of_decide_eq_true h1
      omega
/-- what the program's InsertPerm hands out. -/
def IiPost (p : List Int) (w : World) (e : Ending) (w' : World) : Prop :=
  ∃ ba ca va A bb cb vb T na nb, e = .returned (.tuple #[.slice (some ⟨ba, 0, none⟩) na ca, .slice (some ⟨bb, 0, none⟩) nb cb, .bool true]) ∧ na = A.length ∧ nb = T.length ∧ Ins p p.length A T ∧ TT w.heap.size w' ba ca va A bb cb vb T ∧ Ext w w'
theorem IiPost.of {p : List Int} {w w' : World} {e : Ending} (ba ca : Nat) (va : List Value) (A : List (List Int)) (bb cb : Nat) (vb : List Value) (T : List (List Int)) (na nb : Nat)
    (h1 : e = .returned (.tuple #[.slice (some ⟨ba, 0, none⟩) na ca, .slice (some ⟨bb, 0, none⟩) nb cb, .bool true])) (h2 : na = A.length) (h3 : nb = T.length) (h4 : Ins p p.length A T) (h5 : TT w.heap.size w' ba ca va A bb cb vb T) (h6 : Ext w w') : IiPost p w e w' :=
  ⟨ba, ca, va, A, bb, cb, vb, T, na, nb, h1, h2, h3, h4, h5, h6⟩
theorem gtB_ok (bv c : Nat) (x y : Int) (w : World) (h : Row 3 w bv c (vals [x])) :
    Calls Try.prog 66 #[.int .i64 y, .pointer (some ⟨bv, 0, none⟩)] w fun e w' => e = .returned (.bool (gtB x y)) ∧ Ext w w' := by
  have hc := h.icell (j := 0) (by simp)
  rw [show nth [x] 0 = x from rfl] at hc
  clear h
  go_enter Try.func66, Try.ntmps66
  go_wp2_with fail
  go_ret
  exact ⟨rfl, Ext.refl _⟩
set_option maxHeartbeats 4000000 in
theorem impl_InsertPerm_t (v : Value) (p : List Int) (w : World) (h : SI w v p) (hp : isP8 p = true) :
    Calls Try.prog 42 #[v] w (IiPost p w) := by
  have h00 := h
  obtain ⟨a, cap, rfl, hri⟩ := h00.elim
  have HRI := Lib.hid hri
  have HSI := Lib.hid h
  have HP := Lib.hid hp
  obtain ⟨h8, hpp⟩ := isP8_iff.1 hp
  have HPP := Lib.hid hpp
  have hen : Enters 66 := enters_of Try.func66 rfl rfl
  have HEN := Lib.hid hen
  clear h h00 hri hp hpp hen
  go_enter Try.func42, Try.ntmps42
  go_wp2_with fail
  refine (impl_IsPerm_ok _ p _ HSI.out).mono ?_
  rintro e w0 ⟨rfl, h0⟩
  rw [HP.out]
  have HE := Lib.hid h0
  have hwz0 := h0.size
  have hT0 : Hid (TT w.heap.size ((w0.alloc (.cells #[] 24)).alloc (.cells #[] 24)) w0.heap.size 0 [] [] (w0.heap.size + 1) 0 [] []) := by
    have r1 := Row.new 24 w0 [] (by simp)
    have r2 := Row.new 24 (w0.alloc (.cells #[] 24)) [] (by simp)
    have e : (w0.alloc (.cells #[] 24)).heap.size = w0.heap.size + 1 := by simp
    rw [e] at r2
    exact ⟨r1.ext (Upd.alloc (w0.alloc (.cells #[] 24)) _ _), r2, Els.nil _ _ _, Els.nil _ _ _, fun k h1 => by obtain ⟨i, hi, _⟩ := h1; simp at hi, by omega, by omega, by omega⟩
  have hE0 : Hid (Ext w ((w0.alloc (.cells #[] 24)).alloc (.cells #[] 24))) := HE.out.trans ((show Ext w0 (w0.alloc (.cells #[] 24)) from Upd.alloc _ _ _).alloc _)
  clear h0
  go_wp2_with fail
  go_loopw [5, 6, 18] (fun oa ob i wr => ∃ k : Nat, k ≤ p.length ∧ i = .int .i64 k ∧ (∃ ba ca na va A bb cb nb vb T, oa = .slice (some ⟨ba, 0, none⟩) na ca ∧ ob = .slice (some ⟨bb, 0, none⟩) nb cb ∧ Hid (na = A.length) ∧ Hid (nb = T.length) ∧ Hid (Ins p k A T) ∧ Hid (TT w.heap.size wr ba ca va A bb cb vb T)) ∧ Hid (Ext w wr)) (fun _ _ i _ => p.length - (intOf i).toNat)
  case atStart => exact ⟨0, Nat.zero_le _, rfl, ⟨_, 0, 0, [], [], _, 0, 0, [], [], rfl, rfl, Lib.hid rfl, Lib.hid rfl, Ins.zero, hT0⟩, hE0⟩
  case round =>
    obtain ⟨k, hk, rfl, ⟨ba, ca, na, va, A, bb, cb, nb, vb, T, rfl, rfl, hna, hnb, hI, hT⟩, he⟩ := hrel
    clear hT0 hE0
    have hwz := he.out.size
    by_cases hlt : k < p.length
    · obtain ⟨b1, off1, rfl, hc⟩ := (HRI.out.ext he.out).get hlt
      have hcell := hc k hlt
      have HAL := Lib.hid hI.out.len
      obtain ⟨x, hx⟩ : ∃ x, x = nth p k := ⟨_, rfl⟩
      have HX := Lib.hid hx
      rw [← hx] at hcell
      clear hx hc
      have hnd : (A.flatten ++ [x]).Nodup := by
        have h1 := hI.out.flat (by omega)
        have h2 : (p.take (k + 1)).Nodup := List.Nodup.sublist (List.take_sublist _ _) HPP.out.2
        rw [take_nth hlt, ← HX.out] at h2
        exact (List.Perm.append_right [x] h1).nodup_iff.2 h2
      have HND := Lib.hid hnd
      have HPOS := Lib.hid (isL_pos hI.out.pos.1 x)
      have hna8 : na ≤ 8 := by have := hna.out; have := HAL.out; omega
      have hnb8 : nb ≤ 8 := by have := hnb.out; have := HAL.out; omega
      have HLEN8 : Hid (∀ r, r < A.length → (nthL A r).length ≤ 8) := fun r hr => (hI.out.ne (by omega) h8 r hr).2
      have HBD8 : Hid (∀ r, r < T.length → (nthL T r).length ≤ 8) := hI.out.bd (by omega)
      have hA : Ext wr (wr.alloc (.cells #[.int .i64 x] 3)) := Upd.alloc _ _ _
      have HOFF := Lib.hid (hT.out.off (Nat.le_refl wr.heap.size))
      have HT1 := Lib.hid (hT.out.ext hA)
      have HE1 := Lib.hid (he.out.trans hA)
      have HV1 : Hid (Row 3 (wr.alloc (.cells #[.int .i64 x] 3)) wr.heap.size 1 (vals [x])) := Row.new 3 wr (vals [x]) (by simp [vals, maxLen])
      clear hnd hA hT he
      go_upto_block 1 with fail
      go_cut [5, 6] from 19 to 82 (fun u v wx => ∃ ba7 ca7 na7 va7 A7 bb7 cb7 nb7 vb7 T7, u = .slice (some ⟨ba7, 0, none⟩) na7 ca7 ∧ v = .slice (some ⟨bb7, 0, none⟩) nb7 cb7 ∧ Hid (na7 = A7.length) ∧ Hid (nb7 = T7.length) ∧ Hid (Ins p (k + 1) A7 T7) ∧ Hid (TT w.heap.size wx ba7 ca7 va7 A7 bb7 cb7 vb7 T7) ∧ Hid (Ext w wx))
      case rest =>
        obtain ⟨ba7, ca7, na7, va7, A7, bb7, cb7, nb7, vb7, T7, rfl, rfl, HN1, HN2, HIS, hT7, hE7⟩ := hcut
        go_wp2_with fail
        go_roundw
        case rel => exact ⟨k + 1, by omega, by go_num, ⟨ba7, ca7, na7, va7, A7, bb7, cb7, nb7, vb7, T7, rfl, rfl, HN1, HN2, HIS, hT7⟩, hE7⟩
        case measure => simp [intOf]; omega
      go_upto_block 2 with fail
      obtain ⟨wv, hwv⟩ : ∃ wv, wv = wr.alloc (.cells #[.int .i64 x] 3) := ⟨_, rfl⟩
      rw [← hwv] at HT1 HE1 HV1
      rw [← hwv]
      obtain ⟨bv, hbv⟩ : ∃ bv, bv = wr.heap.size := ⟨_, rfl⟩
      rw [← hbv] at HV1 HOFF
      rw [← hbv]
      have hbw : w.heap.size ≤ bv := by omega
      clear hwv hcell hbv hwz
      go_cut [9] from 19 to 82 (fun v wx => ∃ r : Nat, v = .int .i64 r ∧ r ≤ na ∧ Hid (InsAt A x r) ∧ Hid (TT w.heap.size wx ba ca va (isL A x r) bb cb vb T) ∧ Hid (Row 3 wx bv 1 (vals [isV A x r])) ∧ Hid (Ext w wx))
      case first =>
        go_wp2_with fail
        go_loopw [9] (fun i wr => ∃ r : Nat, r ≤ na ∧ i = .int .i64 r ∧ Hid (∀ j, j < r → ¬ Stop A x j) ∧ Hid (TT w.heap.size wr ba ca va (isL A x r) bb cb vb T) ∧ Hid (Row 3 wr bv 1 (vals [isV A x r])) ∧ Hid (Ext w wr)) (fun i _ => na - (intOf i).toNat)
        case atStart => exact ⟨0, Nat.zero_le _, rfl, Lib.hid (fun j hj => absurd hj (Nat.not_lt_zero _)), HT1, HV1, HE1⟩
        case round =>
          obtain ⟨r, hr, rfl, hS, hT, hV, he⟩ := hrel
          clear HT1 HE1 HV1
          by_cases hrn : r < na
          · have hra : r < A.length := by rw [← hna.out]; exact hrn
            have hrl : r < (isL A x r).length := by rw [isL_len]; exact hra
            have HRL := Lib.hid hrl
            have HFR := Lib.hid (is_fresh HND.out hra hS.out)
            have hp0 := HPOS.out r r hrl
            have hp8 := HLEN8.out r hra
            rw [← isL_lens A x r r] at hp8
            obtain ⟨cur, hcur⟩ : ∃ c, c = isV A x r := ⟨_, rfl⟩
            obtain ⟨M, hM⟩ : ∃ M, M = isL A x r := ⟨_, rfl⟩
            have HCUR := Lib.hid hcur
            have HM := Lib.hid hM
            rw [← hcur] at HFR hV
            rw [← hM] at HFR hT hp0 hp8 HRL
            obtain ⟨row, hrow⟩ : ∃ row, row = nthL M r := ⟨_, rfl⟩
            have HROW := Lib.hid hrow
            have hoi := hT.out.ea.el r HRL.out
            rw [← hrow] at hoi HFR hp0 hp8
            obtain ⟨bu, cu, hu, hBu, hHu, hru⟩ := hoi.full hp0
            have HNV := Lib.hid hu
            have HRU := Lib.hid hru
            have hrv : r < va.length := by rw [hT.out.ea.len]; exact HRL.out
            have hcell := hT.out.ra.cell (nthV_get hrv)
            rw [hu] at hcell
            have hsi := hru.si
            have HSIR := Lib.hid hsi
            have hOWN : Hid (own va bu) := ⟨r, hrv, by rw [hu]; rfl⟩
            have hvu : bv ≠ bu := fun e => HOFF.out.2.2.1 (by rw [e]; exact hOWN.out)
            have hrI : (r : Int) < (na : Int) := by omega
            have HRA := Lib.hid hra
            clear hra hrl hcur hM hrow hoi hu hru hrv hsi
            go_wp2_with fail
            refine (indexFuncI_ok _ row 66 #[.pointer (some ⟨bv, 0, none⟩)] (gtB cur) _ HSIR.out (by omega) HEN.out (fun i hi w1 hw => gtB_ok bv 1 cur _ w1 (hV.out.ext hw))).mono ?_
            rintro e w3 ⟨⟨q, rfl, hq⟩, h3⟩
            have hT3 := Lib.hid (hT.out.ext h3)
            have hV3 := Lib.hid (hV.out.ext h3)
            have hE3 := Lib.hid (he.out.trans h3)
            have hRU3 := Lib.hid (HRU.out.ext h3)
            have hcell3 := h3.cell hcell
            have hz3 := h3.size
            clear hcell hT hV he h3
            rcases found_stop hq HFR.out with ⟨rfl, hf⟩ | ⟨f, hfl, rfl, hf⟩
            · have HIN : Hid (InsAt A x r) := ⟨by have := HRA.out; omega, .inr (by rw [← HM.out, ← HCUR.out, ← HROW.out]; exact hf), hS.out⟩
              rw [HM.out] at hT3
              rw [HCUR.out] at hV3
              clear hq hf hcell3
              go_wp2_with fail
              go_meet
              case rel => exact ⟨r, rfl, hr, HIN, hT3, hV3, hE3⟩
            · have hc0 := hRU3.out.icell (j := f) hfl
              have f0 := hRU3.out.free f none
              have hc1 := hV3.out.icell (j := 0) (by simp)
              rw [show nth [cur] 0 = cur from rfl] at hc1
              have f1 := hV3.out.free 0 none
              obtain ⟨y, hy⟩ : ∃ y, y = nth row f := ⟨_, rfl⟩
              have HY := Lib.hid hy
              rw [← hy] at hc0
              have HF := Lib.hid hf
              have hfI : (f : Int) < (row.length : Int) := by omega
              clear hq hf hy
              go_wp2_with fail
              go_region
              have HNS : Hid (∀ j, j < r + 1 → ¬ Stop A x j) := by
                intro j hj
                by_cases e : j = r
                · subst e
                  rintro (e | e)
                  · have := HRA.out; omega
                  · rw [← HM.out, ← HCUR.out, ← HROW.out, ← HF.out] at e; omega
                · exact hS.out j (by omega)
              have HV9 : Hid (y = isV A x (r + 1)) := by show _ = _; rw [isV_succ, ← HM.out, ← HCUR.out, ← HROW.out, ← HF.out]; exact HY.out
              have HL9 : Hid (isL A x (r + 1) = M.set r (row.set f cur)) := by show _ = _; rw [isL_succ, ← HM.out, ← HCUR.out, ← HROW.out, ← HF.out]
              have hT4 := hT3.out.setA (c := f) (by omega) HRL.out (by rw [← HROW.out]; exact HNV.out) (by rw [← HROW.out]; exact hRU3.out) hBu cur
              rw [← HROW.out, ← HL9.out] at hT4
              have hT5 := (hT4.upd (Upd.setCell _ ⟨bv, 0, none⟩ (.int .i64 y)) (fun k e => by rw [show k = bv from e]; exact HOFF.out)).ext (Upd.drew _ _)
              have HT5 := Lib.hid hT5
              have hV5 := (hV3.out.upd (Upd.setCell w3 ⟨bu, f, none⟩ (.int .i64 cur)) (fun e => hvu e)).set 0 (.int .i64 y)
              have HV5 : Hid (Row 3 (((w3.setCell ⟨bu, f, none⟩ (.int .i64 cur)).setCell ⟨bv, 0, none⟩ (.int .i64 y)).drew) bv 1 (vals [isV A x (r + 1)])) := by
                rw [← HV9.out]
                exact hV5.ext (Upd.drew _ _)
              have HE5 := Lib.hid (((hE3.out.setCell (p := ⟨bu, f, none⟩) hBu (.int .i64 cur)).setCell (p := ⟨bv, 0, none⟩) hbw (.int .i64 y)).drew)
              clear hT4 hT5 hV5 hc0 hc1 f0 f1 hcell3
              go_wp2_with fail
              go_roundw
              case rel => exact ⟨r + 1, by omega, by go_num, HNS, HT5, HV5, HE5⟩
              case measure => simp [intOf]; omega
          · obtain rfl : r = na := by omega
            have HIN : Hid (InsAt A x r) := ⟨by have := hna.out; omega, .inl hna.out, hS.out⟩
            go_wp2_with fail
            go_meet
            case rel => exact ⟨r, rfl, hr, HIN, hT, hV, he⟩
      case rest =>
        obtain ⟨r, rfl, hrna, hIN, hT, hV, he⟩ := hcut
        obtain ⟨w3, hw3⟩ : ∃ w3, w3 = wc := ⟨_, rfl⟩
        subst hw3
        clear HT1 HE1 HV1
        have hwz := he.out.size
        obtain ⟨cur, hcur⟩ : ∃ c, c = isV A x r := ⟨_, rfl⟩
        obtain ⟨M, hM⟩ : ∃ M, M = isL A x r := ⟨_, rfl⟩
        rw [← hcur] at hV
        rw [← hM] at hT
        have HML : Hid (M.length = na) := by show _ = _; rw [hM, isL_len, hna.out]
        have HM8 : Hid (∀ i, (nthL M i).length ≤ 8) := fun i => by
          rw [hM, isL_lens]
          rcases Nat.lt_or_ge i A.length with e | e
          · exact HLEN8.out i e
          · rw [nthL_far e]; simp
        have HIA : Hid (insA A x r = grow M r cur) := by show _ = _; rw [hM, hcur]; rfl
        have HNT : Hid (na = nb) := by show _ = _; rw [hna.out, hnb.out]; exact HAL.out.1
        clear hcur hM
        go_upto_if 54 with fail
        go_cut [5, 6] from 19 to 82 (fun u v wx => ∃ ba6 ca6 na6 va6 M6 bb6 cb6 nb6 vb6 T6, u = .slice (some ⟨ba6, 0, none⟩) na6 ca6 ∧ v = .slice (some ⟨bb6, 0, none⟩) nb6 cb6 ∧ Hid (na6 = M6.length) ∧ Hid (nb6 = T6.length) ∧ r < na6 ∧ r < nb6 ∧ Hid (TT w.heap.size wx ba6 ca6 va6 M6 bb6 cb6 vb6 T6) ∧ Hid (M6.set r (nthL M6 r ++ [cur]) = insA A x r) ∧ Hid (T6.set r (nthL T6 r ++ [(k : Int) + 1]) = grow T r ((k : Int) + 1)) ∧ Hid ((nthL M6 r).length ≤ 8) ∧ Hid ((nthL T6 r).length ≤ 8) ∧ Hid (Off4 bv ba6 bb6 va6 vb6) ∧ Hid (Row 3 wx bv 1 (vals [cur])) ∧ Hid (Ext w wx))
        case first =>
          by_cases hrn : r = na
          · have g1 : ((r : Int) == (na : Int)) = true := by rw [beq_iff_eq]; omega
            have HRM : Hid (r = M.length) := by show _ = _; rw [HML.out]; exact hrn
            have HRT : Hid (r = T.length) := by show _ = _; rw [← hnb.out, ← HNT.out]; exact hrn
            have hva : Hid (na = va.length) := by show _ = _; rw [hT.out.ea.len]; exact HML.out.symm
            have hvb : Hid (nb = vb.length) := by show _ = _; rw [hT.out.eb.len]; exact hnb.out
            have hval : Hid (va.length ≤ 1000000000) := by show _ ≤ _; rw [← hva.out]; omega
            have hvbl : Hid (vb.length ≤ 1000000000) := by show _ ≤ _; rw [← hvb.out]; omega
            have hOF2 := Lib.hid HOFF.out
            clear hrn
            go_wp2_with (first
              | (at_builtin; refine wpl_appv (w := w3) rfl (.tmp 55) (.tmp 56) rfl ba ca na va none 0 0 rfl hT.out.ra hva.out rfl hval.out ?_; intro b9 c9 w9 hr9 hb9 hu9; have hz9 := hu9.size; have HT9 := Lib.hid (hT.out.pushA hwz hr9 (hb9.imp id Nat.le_of_lt) hu9); have HU9 := Lib.hid hu9; have HB9 := Lib.hid hb9; clear hr9 hu9 hb9)
              | (at_builtin; go_loud (refine wpl_appv (w := w9) rfl (.tmp 58) (.tmp 59) rfl bb cb nb vb none 0 0 rfl HT9.out.rb hvb.out rfl hvbl.out ?_); intro b10 c10 w10 hr10 hb10 hu10; have hz10 := hu10.size; have HT10 := Lib.hid ((HT9.out.swap.pushA (Nat.le_trans hwz hz9) hr10 (hb10.imp id Nat.le_of_lt) hu10).swap); have HU10 := Lib.hid hu10; have HB10 := Lib.hid hb10; clear hr10 hu10 hb10))
            have HN1 : Hid (na + 1 = (M ++ [[]]).length) := by show _ = _; rw [List.length_append, HML.out]; rfl
            have HN2 : Hid (nb + 1 = (T ++ [[]]).length) := by show _ = _; rw [List.length_append, ← hnb.out]; rfl
            have HG1 : Hid ((M ++ [[]]).set r (nthL (M ++ [[]]) r ++ [cur]) = insA A x r) := by show _ = _; rw [HIA.out]; exact (grow_f HRM.out).symm
            have HG2 : Hid ((T ++ [[]]).set r (nthL (T ++ [[]]) r ++ [(k : Int) + 1]) = grow T r ((k : Int) + 1)) := (grow_f HRT.out).symm
            have HL1 : Hid ((nthL (M ++ [[]]) r).length ≤ 8) := by show _ ≤ _; rw [HRM.out]; simp [nthL]
            have HL2 : Hid ((nthL (T ++ [[]]) r).length ≤ 8) := by show _ ≤ _; rw [HRT.out]; simp [nthL]
            have hbvl := hV.out.lt
            have HO9 : Hid (Off4 bv b9 b10 (va ++ [.slice none 0 0]) (vb ++ [.slice none 0 0])) :=
              ⟨HB9.out.elim (fun e => by rw [e]; exact hOF2.out.1) (fun e => by omega), HB10.out.elim (fun e => by rw [e]; exact hOF2.out.2.1) (fun e => by omega), fun e => hOF2.out.2.2.1 (own_nil e), fun e => hOF2.out.2.2.2 (own_nil e)⟩
            have HV9 := Lib.hid ((hV.out.upd HU9.out hOF2.out.1).upd HU10.out hOF2.out.2.1)
            have HE9 := Lib.hid ((he.out.upd1 HU9.out hT.out.la).upd1 HU10.out hT.out.lb)
            go_meet
            case rel => exact ⟨b9, c9, na + 1, _, _, b10, c10, nb + 1, _, _, rfl, rfl, HN1, HN2, by omega, by have := HNT.out; omega, HT10, HG1, HG2, HL1, HL2, HO9, HV9, HE9⟩
          · have g1 : ((r : Int) == (na : Int)) = false := by rw [beq_eq_false_iff_ne]; omega
            have hrn2 : r < na := by omega
            have hrn3 : r < nb := by have := HNT.out; omega
            have HG1 : Hid (M.set r (nthL M r ++ [cur]) = insA A x r) := by show _ = _; rw [HIA.out]; exact (grow_t (by rw [HML.out]; exact hrn)).symm
            have HG2 : Hid (T.set r (nthL T r ++ [(k : Int) + 1]) = grow T r ((k : Int) + 1)) := (grow_t (by rw [← hnb.out, ← HNT.out]; exact hrn)).symm
            have HL2 : Hid ((nthL T r).length ≤ 8) := HBD8.out r (by rw [← hnb.out]; exact hrn3)
            have HN1 : Hid (na = M.length) := HML.out.symm
            clear hrn
            go_wp2_with fail
            go_meet
            case rel => exact ⟨ba, ca, na, va, M, bb, cb, nb, vb, T, rfl, rfl, HN1, hnb, hrn2, hrn3, hT, HG1, HG2, HM8.out r, HL2, HOFF, hV, he⟩
        case rest =>
          obtain ⟨ba6, ca6, na6, va6, M6, bb6, cb6, nb6, vb6, T6, rfl, rfl, hna6, hnb6, hr6a, hr6b, hT6, hG1, hG2, hL1, hL2, hO6, hV6, hE6⟩ := hcut
          obtain ⟨w4, hw4⟩ : ∃ w4, w4 = wc := ⟨_, rfl⟩
          subst hw4
          have hwz4 := hE6.out.size
          have HIS : Hid (Ins p (k + 1) (insA A x r) (grow T r ((k : Int) + 1))) := by
            show Ins _ _ _ _
            have h1 := hIN.out
            rw [HX.out] at h1 ⊢
            exact Ins.succ hI.out h1
          have HN1 : Hid (na6 = (insA A x r).length) := by show _ = _; rw [← hG1.out, List.length_set]; exact hna6.out
          have HN2 : Hid (nb6 = (grow T r ((k : Int) + 1)).length) := by show _ = _; rw [← hG2.out, List.length_set]; exact hnb6.out
          clear hT he hV HM8 HML HIA HNT HOFF
          go_upto_region 15 with fail
          · have hrA : r < M6.length := by rw [← hna6.out]; exact hr6a
            have hrB : r < T6.length := by rw [← hnb6.out]; exact hr6b
            have hoa := hT6.out.ea.el r hrA
            have hob := hT6.out.eb.el r hrB
            obtain ⟨rowA, hrowA⟩ : ∃ q, q = nthL M6 r := ⟨_, rfl⟩
            obtain ⟨rowB, hrowB⟩ : ∃ q, q = nthL T6 r := ⟨_, rfl⟩
            have hla := hL1.out
            have hlb := hL2.out
            rw [← hrowA] at hoa hla
            rw [← hrowB] at hob hlb
            obtain ⟨pa, qa, hnva⟩ := hoa.shape
            obtain ⟨pb, qb, hnvb⟩ := hob.shape
            have hvla : r < va6.length := by rw [hT6.out.ea.len]; exact hrA
            have hvlb : r < vb6.length := by rw [hT6.out.eb.len]; exact hrB
            have dA := hT6.out.ra.cell (nthV_get hvla)
            have dB := hT6.out.rb.cell (nthV_get hvlb)
            have HOWA : Hid (∀ j, (nthV va6 r).ownBlock = some j → own va6 j) := fun j e => ⟨r, hvla, e⟩
            have HOWB : Hid (∀ j, (nthV vb6 r).ownBlock = some j → own vb6 j) := fun j e => ⟨r, hvlb, e⟩
            rw [hnva] at hoa dA HOWA
            rw [hnvb] at hob dB HOWB
            have dV := hV6.out.icell (j := 0) (by simp)
            rw [show nth [cur] 0 = cur from rfl] at dV
            have hne := hT6.out.ne
            have nva : bv ≠ ba6 := hO6.out.1
            have nvb : bv ≠ bb6 := hO6.out.2.1
            have HOA := Lib.hid hoa
            have HOB := Lib.hid hob
            have HNVA := Lib.hid hnva
            have HNVB := Lib.hid hnvb
            have HRWA := Lib.hid hrowA
            have HRWB := Lib.hid hrowB
            have HRA := Lib.hid hrA
            have HRB := Lib.hid hrB
            have HVLA := Lib.hid hvla
            have HVLB := Lib.hid hvlb
            have wk : IntKind.i64.wrap ((k : Int) + 1) = (k : Int) + 1 := IntWalk.i64_in _ (by omega)
            have hbva := hT6.out.ra.lt
            have hbvb := hT6.out.rb.lt
            have hbvv := hV6.out.lt
            have HlA : Hid (rowA.length ≤ 1000000000) := by show _ ≤ _; omega
            have HlB : Hid (rowB.length ≤ 1000000000) := by show _ ≤ _; omega
            have i1 : (r : Int) < (na6 : Int) := by omega
            have i2 : (r : Int) < (nb6 : Int) := by omega
            have i3 : (0 : Int) ≤ (r : Int) := by omega
            have HNA : Hid (∀ j, (Value.slice pa rowA.length qa).ownBlock = some j → j < w4.heap.size) := fun j e => (HOA.out.own e).2
            have HNB : Hid (∀ j, (Value.slice pb rowB.length qb).ownBlock = some j → j < w4.heap.size) := fun j e => (HOB.out.own e).2
            clear hoa hob hnva hnvb hrowA hrowB hrA hrB hvla hvlb hla hlb HRI HSI HP HPP HEN HAL HX HND HPOS HLEN8 HBD8 HE h8 hlt hk hna8 hnb8 hbw hrna hIN hwz hV6 hna hnb hI hwz0
            refine wp_region_any (by kernel_rfl) ?_
            change wpAny _ _ _ _ _ _ _ (World.drew _)
            have e0 : Ext w4 w4.drew := Upd.drew _ _
            obtain ⟨wd, hwd⟩ : ∃ wd, wd = w4.drew := ⟨_, rfl⟩
            rw [← hwd] at e0 ⊢
            have hzd := e0.size
            have S0 := And.intro (e0.cell dA) (And.intro (e0.cell dB) (e0.cell dV))
            have E0 := Lib.hid e0
            clear hwd e0
            refine any_takeD (i := 0) 61 (.slice (some ⟨ba6, 0, none⟩) na6 ca6) rfl rfl (by kernel_rfl) (by kernel_rfl) (by kernel_rfl) (fun _ _ _ h => h) (Or.inl ⟨by rfl, fun w => by go_simp⟩) ?_
            simp only [Act.put, List.setIfInBounds_toArray, List.set_cons_zero, List.set_cons_succ]
            refine any_takeD (i := 1) 62 (.int .i64 (r : Int)) rfl rfl (by kernel_rfl) (by kernel_rfl) (by kernel_rfl) (fun _ _ _ h => h) (Or.inl ⟨by rfl, fun w => by go_simp⟩) ?_
            simp only [Act.put, List.setIfInBounds_toArray, List.set_cons_zero, List.set_cons_succ]
            refine any_takeD (i := 2) 63 (.slice (some ⟨bb6, 0, none⟩) nb6 cb6) rfl rfl (by kernel_rfl) (by kernel_rfl) (by kernel_rfl) (fun _ _ _ h => h) (Or.inl ⟨by rfl, fun w => by go_simp⟩) ?_
            simp only [Act.put, List.setIfInBounds_toArray, List.set_cons_zero, List.set_cons_succ]
            refine any_takeD (i := 3) 64 (.int .i64 (r : Int)) rfl rfl (by kernel_rfl) (by kernel_rfl) (by kernel_rfl) (fun _ _ _ h => h) (Or.inl ⟨by rfl, fun w => by go_simp⟩) ?_
            simp only [Act.put, List.setIfInBounds_toArray, List.set_cons_zero, List.set_cons_succ]
            refine any_takeD (i := 4) 65 (.slice (some ⟨ba6, 0, none⟩) na6 ca6) rfl rfl (by kernel_rfl) (by kernel_rfl) (by kernel_rfl) (fun _ _ _ h => h) (Or.inl ⟨by rfl, fun w => by go_simp⟩) ?_
            simp only [Act.put, List.setIfInBounds_toArray, List.set_cons_zero, List.set_cons_succ]
            refine any_takeD (i := 5) 66 (.int .i64 (r : Int)) rfl rfl (by kernel_rfl) (by kernel_rfl) (by kernel_rfl) (fun _ _ _ h => h) (Or.inl ⟨by rfl, fun w => by go_simp⟩) ?_
            simp only [Act.put, List.setIfInBounds_toArray, List.set_cons_zero, List.set_cons_succ]
            refine any_takeD (i := 6) 67 (.pointer (some ⟨ba6, r, none⟩)) rfl rfl (by kernel_rfl) (by kernel_rfl) (by kernel_rfl) (fun _ _ _ h => h) (Or.inl ⟨by rfl, fun w => by go_simp⟩) ?_
            simp only [Act.put, List.setIfInBounds_toArray, List.set_cons_zero, List.set_cons_succ]
            refine any_takeD (i := 11) 72 (.slice (some ⟨bb6, 0, none⟩) nb6 cb6) rfl rfl (by kernel_rfl) (by kernel_rfl) (by kernel_rfl) (fun _ _ _ h => h) (Or.inl ⟨by rfl, fun w => by go_simp⟩) ?_
            simp only [Act.put, List.setIfInBounds_toArray, List.set_cons_zero, List.set_cons_succ]
            refine any_takeD (i := 12) 73 (.int .i64 (r : Int)) rfl rfl (by kernel_rfl) (by kernel_rfl) (by kernel_rfl) (fun _ _ _ h => h) (Or.inl ⟨by rfl, fun w => by go_simp⟩) ?_
            simp only [Act.put, List.setIfInBounds_toArray, List.set_cons_zero, List.set_cons_succ]
            refine any_takeD (i := 13) 74 (.pointer (some ⟨bb6, r, none⟩)) rfl rfl (by kernel_rfl) (by kernel_rfl) (by kernel_rfl) (fun _ _ _ h => h) (Or.inl ⟨by rfl, fun w => by go_simp⟩) ?_
            simp only [Act.put, List.setIfInBounds_toArray, List.set_cons_zero, List.set_cons_succ]
            refine any_takeD (i := 15) 76 (.int .i64 (k : Int)) rfl rfl (by kernel_rfl) (by kernel_rfl) (by kernel_rfl) (fun _ _ _ h => h) (Or.inl ⟨by rfl, fun w => by go_simp⟩) ?_
            simp only [Act.put, List.setIfInBounds_toArray, List.set_cons_zero, List.set_cons_succ]
            refine any_takeD (i := 16) 77 (.int .i64 ((k : Int) + 1)) rfl rfl (by kernel_rfl) (by kernel_rfl) (by kernel_rfl) (fun _ _ _ h => h) (Or.inl ⟨by rfl, fun w => by go_simp⟩) ?_
            simp only [Act.put, List.setIfInBounds_toArray, List.set_cons_zero, List.set_cons_succ]
            refine Till.any (g := 20) (S := fun w' => w'.cell? ⟨ba6, r, none⟩ = some (.slice pa rowA.length qa) ∧ w'.cell? ⟨bb6, r, none⟩ = some (.slice pb rowB.length qb) ∧ w'.cell? ⟨bv, 0, none⟩ = some (.int .i64 cur)) _ ?_
            refine Till.takeD (i := 7) 68 (.slice pa rowA.length qa) rfl rfl rfl (by kernel_rfl) (by decide) (by kernel_rfl) (by kernel_rfl) (by kernel_rfl) (by kernel_rfl) (fun _ _ _ h => h) (Or.inl ⟨by rfl, fun w hS => by obtain ⟨s1, s2, s3⟩ := hS; go_simp⟩) S0 ?_
            simp only [Act.put, List.setIfInBounds_toArray, List.set_cons_zero, List.set_cons_succ]
            refine Till.takeD (i := 8) 69 (.int .i64 cur) rfl rfl rfl (by kernel_rfl) (by decide) (by kernel_rfl) (by kernel_rfl) (by kernel_rfl) (by kernel_rfl) (fun _ _ _ h => h) (Or.inl ⟨by rfl, fun w hS => by obtain ⟨s1, s2, s3⟩ := hS; go_simp⟩) S0 ?_
            simp only [Act.put, List.setIfInBounds_toArray, List.set_cons_zero, List.set_cons_succ]
            refine Till.takeD (i := 14) 75 (.slice pb rowB.length qb) rfl rfl rfl (by kernel_rfl) (by decide) (by kernel_rfl) (by kernel_rfl) (by kernel_rfl) (by kernel_rfl) (fun _ _ _ h => h) (Or.inl ⟨by rfl, fun w hS => by obtain ⟨s1, s2, s3⟩ := hS; go_simp⟩) S0 ?_
            simp only [Act.put, List.setIfInBounds_toArray, List.set_cons_zero, List.set_cons_succ]
            refine Till.two (i := 9) (i' := 17) (by kernel_rfl) ?_ ?_
            · refine op_lit (.tmp 69) 70 (cur) (by kernel_rfl) (by kernel_rfl) (fun wx ex rx => ?_)
              have Sx := And.intro (ex.cell S0.1) (And.intro (ex.cell S0.2.1) (ex.cell S0.2.2))
              have hzx := ex.size
              have Ex := Lib.hid (E0.out.trans ex)
              refine ⟨?_, fun _ => Sx⟩
              simp only [Act.put, List.setIfInBounds_toArray, List.set_cons_zero, List.set_cons_succ]
              refine Till.two (i := 10) (i' := 17) (by kernel_rfl) ?_ ?_
              · refine op_app (.tmp 68) (.tmp 70) 71 (by kernel_rfl) w.heap.size w4.heap.size (.slice pa rowA.length qa) rowA cur (by kernel_rfl) (HOA.out.ext Ex.out) (by omega) _ (by kernel_rfl) rx HlA.out (fun ga ka wa hra hBa hga hua => ?_)
                have HUA : Hid (Upd (fun k => (Value.slice pa rowA.length qa).ownBlock = some k) w4 wa) := (Ext.toUpd Ex.out _).trans hua
                have hza := hua.size
                have HOBa := Lib.hid (HOB.out.upd HUA.out (fun b hb _ _ e => hT6.out.dis b (HOWA.out b e) (HOWB.out b hb)))
                have HGA : Hid ((Value.slice pa rowA.length qa).ownBlock = some ga ∨ w4.heap.size ≤ ga) := hga.imp id (fun e => by omega)
                have Sa := And.intro (hua.cell Sx.1 (fun e => HOA.out.offOuter hT6.out.ra e)) (And.intro (hua.cell Sx.2.1 (fun e => HOA.out.offOuter hT6.out.rb e)) (hua.cell Sx.2.2 (fun e => hO6.out.2.2.1 (HOWA.out bv e))))
                refine ⟨?_, fun _ => Sa⟩
                simp only [Act.put, List.setIfInBounds_toArray, List.set_cons_zero, List.set_cons_succ]
                refine Till.one (i := 17) (by kernel_rfl) ?_
                refine op_lit (.tmp 77) 78 ((k : Int) + 1) (by kernel_rfl) (by kernel_rfl) (fun wy ey ry => ?_)
                have Sy := And.intro (ey.cell Sa.1) (And.intro (ey.cell Sa.2.1) (ey.cell Sa.2.2))
                have hzy := ey.size
                have HUay := Lib.hid (Ext.toUpd ey (fun k => (Value.slice pb rowB.length qb).ownBlock = some k))
                have HOBy := Lib.hid (HOBa.out.ext ey)
                refine ⟨?_, fun _ => Sy⟩
                simp only [Act.put, List.setIfInBounds_toArray, List.set_cons_zero, List.set_cons_succ]
                refine Till.one (i := 18) (by kernel_rfl) ?_
                refine op_app (.tmp 75) (.tmp 78) 79 (by kernel_rfl) w.heap.size w4.heap.size (.slice pb rowB.length qb) rowB ((k : Int) + 1) (by kernel_rfl) HOBy.out (by omega) _ (by kernel_rfl) ry HlB.out (fun gb kb wb hrb hBb hgb hub => ?_)
                have HUB : Hid (Upd (fun k => (Value.slice pb rowB.length qb).ownBlock = some k) wa wb) := HUay.out.trans hub
                have hzb := hub.size
                have HGB : Hid ((Value.slice pb rowB.length qb).ownBlock = some gb ∨ wa.heap.size ≤ gb) := hgb.imp id (fun e => by omega)
                have Sb := And.intro (hub.cell Sy.1 (fun e => HOB.out.offOuter hT6.out.ra e)) (And.intro (hub.cell Sy.2.1 (fun e => HOB.out.offOuter hT6.out.rb e)) (hub.cell Sy.2.2 (fun e => hO6.out.2.2.2 (HOWB.out bv e))))
                refine ⟨?_, fun _ => Sb⟩
                simp only [Act.put, List.setIfInBounds_toArray, List.set_cons_zero, List.set_cons_succ]
                refine Till.takeD (i := 19) 80 (.pointer (some ⟨ba6, r, none⟩)) rfl rfl rfl (by kernel_rfl) (by decide) (by kernel_rfl) (by kernel_rfl) (by kernel_rfl) (by kernel_rfl) (fun _ _ _ h => h) (Or.inl ⟨by rfl, fun w hS => by clear hS; go_simp⟩) Sb ?_
                simp only [Act.put, List.setIfInBounds_toArray, List.set_cons_zero, List.set_cons_succ]
                have ra9 := (hT6.out.ra.upd HUA.out (fun e => HOA.out.offOuter hT6.out.ra e)).upd HUB.out (fun e => HOB.out.offOuter hT6.out.ra e)
                have rb9 := (hT6.out.rb.upd HUA.out (fun e => HOA.out.offOuter hT6.out.rb e)).upd HUB.out (fun e => HOB.out.offOuter hT6.out.rb e)
                refine Till.last (by kernel_rfl) (by kernel_rfl) (op_store (.tmp 80) (.tmp 71) (by kernel_rfl) ba6 r (by kernel_rfl) (some ⟨ga, 0, none⟩) (rowA.length + 1) ka (by kernel_rfl) _ Sb.1 (ra9.free r none) ?_)
                refine any_takeD (i := 21) 81 (.pointer (some ⟨bb6, r, none⟩)) rfl rfl (by kernel_rfl) (by kernel_rfl) (by kernel_rfl) (fun _ _ _ h => h) (Or.inl ⟨by rfl, fun w => by go_simp⟩) ?_
                simp only [Act.put, List.setIfInBounds_toArray, List.set_cons_zero, List.set_cons_succ]
                have rc9 := rb9.upd (Upd.setCell wb ⟨ba6, r, none⟩ (.slice (some ⟨ga, 0, none⟩) (rowA.length + 1) ka)) (fun e => hne e.symm)
                refine any_one (i := 22) (by kernel_rfl) (op_store (.tmp 81) (.tmp 79) (by kernel_rfl) bb6 r (by kernel_rfl) (some ⟨gb, 0, none⟩) (rowB.length + 1) kb (by kernel_rfl) _ (rc9.cell (nthV_get HVLB.out)) (rc9.free r none) ?_)
                refine wpAny_done (by kernel_rfl) ?_ _
                have hgr := hT6.out.grow2 (na := rowA.length + 1) (nb := rowB.length + 1) HRA.out HRB.out (by rw [HNVA.out]; exact HUA.out) hra (by rw [HNVA.out]; exact HGA.out) hBa (by rw [HNVB.out]; exact HUB.out) hrb (by rw [HNVB.out]; exact HGB.out) hBb (by simp) (by simp)
                have HTF := Lib.hid hgr.1
                have HEF := Lib.hid (hE6.out.upd hgr.2 (fun i e => e))
                rw [HRWA.out, HRWB.out, hG1.out, hG2.out, ← HRWA.out, ← HRWB.out] at HTF
                go_wp2_with fail
                go_meet
                case rel => exact ⟨ba6, ca6, na6, _, _, bb6, cb6, nb6, _, _, rfl, rfl, HN1, HN2, HIS, HTF, HEF⟩
              · refine op_lit (.tmp 77) 78 ((k : Int) + 1) (by kernel_rfl) (by kernel_rfl) (fun wy ey ry => ?_)
                have Sy := And.intro (ey.cell Sx.1) (And.intro (ey.cell Sx.2.1) (ey.cell Sx.2.2))
                have hzy := ey.size
                have Ey := Lib.hid (Ex.out.trans ey)
                have rrx2 := rx.ext ey
                refine ⟨?_, fun _ => Sy⟩
                simp only [Act.put, List.setIfInBounds_toArray, List.set_cons_zero, List.set_cons_succ]
                refine Till.one (i := 10) (by kernel_rfl) ?_
                refine op_app (.tmp 68) (.tmp 70) 71 (by kernel_rfl) w.heap.size w4.heap.size (.slice pa rowA.length qa) rowA cur (by kernel_rfl) (HOA.out.ext Ey.out) (by omega) _ (by kernel_rfl) rrx2 HlA.out (fun ga ka wa hra hBa hga hua => ?_)
                have HUA : Hid (Upd (fun k => (Value.slice pa rowA.length qa).ownBlock = some k) w4 wa) := (Ext.toUpd Ey.out _).trans hua
                have hza := hua.size
                have HOBa := Lib.hid (HOB.out.upd HUA.out (fun b hb _ _ e => hT6.out.dis b (HOWA.out b e) (HOWB.out b hb)))
                have HGA : Hid ((Value.slice pa rowA.length qa).ownBlock = some ga ∨ w4.heap.size ≤ ga) := hga.imp id (fun e => by omega)
                have Sa := And.intro (hua.cell Sy.1 (fun e => HOA.out.offOuter hT6.out.ra e)) (And.intro (hua.cell Sy.2.1 (fun e => HOA.out.offOuter hT6.out.rb e)) (hua.cell Sy.2.2 (fun e => hO6.out.2.2.1 (HOWA.out bv e))))
                have rya := ry.upd hua (fun e => by have := HNA.out _ e; omega)
                refine ⟨?_, fun _ => Sa⟩
                simp only [Act.put, List.setIfInBounds_toArray, List.set_cons_zero, List.set_cons_succ]
                refine Till.one (i := 18) (by kernel_rfl) ?_
                refine op_app (.tmp 75) (.tmp 78) 79 (by kernel_rfl) w.heap.size w4.heap.size (.slice pb rowB.length qb) rowB ((k : Int) + 1) (by kernel_rfl) HOBa.out (by omega) _ (by kernel_rfl) rya HlB.out (fun gb kb wb hrb hBb hgb hub => ?_)
                have HUB : Hid (Upd (fun k => (Value.slice pb rowB.length qb).ownBlock = some k) wa wb) := hub
                have hzb := hub.size
                have HGB : Hid ((Value.slice pb rowB.length qb).ownBlock = some gb ∨ wa.heap.size ≤ gb) := hgb.imp id (fun e => by omega)
                have Sb := And.intro (hub.cell Sa.1 (fun e => HOB.out.offOuter hT6.out.ra e)) (And.intro (hub.cell Sa.2.1 (fun e => HOB.out.offOuter hT6.out.rb e)) (hub.cell Sa.2.2 (fun e => hO6.out.2.2.2 (HOWB.out bv e))))
                refine ⟨?_, fun _ => Sb⟩
                simp only [Act.put, List.setIfInBounds_toArray, List.set_cons_zero, List.set_cons_succ]
                refine Till.takeD (i := 19) 80 (.pointer (some ⟨ba6, r, none⟩)) rfl rfl rfl (by kernel_rfl) (by decide) (by kernel_rfl) (by kernel_rfl) (by kernel_rfl) (by kernel_rfl) (fun _ _ _ h => h) (Or.inl ⟨by rfl, fun w hS => by clear hS; go_simp⟩) Sb ?_
                simp only [Act.put, List.setIfInBounds_toArray, List.set_cons_zero, List.set_cons_succ]
                have ra9 := (hT6.out.ra.upd HUA.out (fun e => HOA.out.offOuter hT6.out.ra e)).upd HUB.out (fun e => HOB.out.offOuter hT6.out.ra e)
                have rb9 := (hT6.out.rb.upd HUA.out (fun e => HOA.out.offOuter hT6.out.rb e)).upd HUB.out (fun e => HOB.out.offOuter hT6.out.rb e)
                refine Till.last (by kernel_rfl) (by kernel_rfl) (op_store (.tmp 80) (.tmp 71) (by kernel_rfl) ba6 r (by kernel_rfl) (some ⟨ga, 0, none⟩) (rowA.length + 1) ka (by kernel_rfl) _ Sb.1 (ra9.free r none) ?_)
                refine any_takeD (i := 21) 81 (.pointer (some ⟨bb6, r, none⟩)) rfl rfl (by kernel_rfl) (by kernel_rfl) (by kernel_rfl) (fun _ _ _ h => h) (Or.inl ⟨by rfl, fun w => by go_simp⟩) ?_
                simp only [Act.put, List.setIfInBounds_toArray, List.set_cons_zero, List.set_cons_succ]
                have rc9 := rb9.upd (Upd.setCell wb ⟨ba6, r, none⟩ (.slice (some ⟨ga, 0, none⟩) (rowA.length + 1) ka)) (fun e => hne e.symm)
                refine any_one (i := 22) (by kernel_rfl) (op_store (.tmp 81) (.tmp 79) (by kernel_rfl) bb6 r (by kernel_rfl) (some ⟨gb, 0, none⟩) (rowB.length + 1) kb (by kernel_rfl) _ (rc9.cell (nthV_get HVLB.out)) (rc9.free r none) ?_)
                refine wpAny_done (by kernel_rfl) ?_ _
                have hgr := hT6.out.grow2 (na := rowA.length + 1) (nb := rowB.length + 1) HRA.out HRB.out (by rw [HNVA.out]; exact HUA.out) hra (by rw [HNVA.out]; exact HGA.out) hBa (by rw [HNVB.out]; exact HUB.out) hrb (by rw [HNVB.out]; exact HGB.out) hBb (by simp) (by simp)
                have HTF := Lib.hid hgr.1
                have HEF := Lib.hid (hE6.out.upd hgr.2 (fun i e => e))
                rw [HRWA.out, HRWB.out, hG1.out, hG2.out, ← HRWA.out, ← HRWB.out] at HTF
                go_wp2_with fail
                go_meet
                case rel => exact ⟨ba6, ca6, na6, _, _, bb6, cb6, nb6, _, _, rfl, rfl, HN1, HN2, HIS, HTF, HEF⟩
            · refine op_lit (.tmp 77) 78 ((k : Int) + 1) (by kernel_rfl) (by kernel_rfl) (fun wy ey ry => ?_)
              have Sy := And.intro (ey.cell S0.1) (And.intro (ey.cell S0.2.1) (ey.cell S0.2.2))
              have hzy := ey.size
              have Ey := Lib.hid (E0.out.trans ey)
              refine ⟨?_, fun _ => Sy⟩
              simp only [Act.put, List.setIfInBounds_toArray, List.set_cons_zero, List.set_cons_succ]
              refine Till.one (i := 9) (by kernel_rfl) ?_
              refine op_lit (.tmp 69) 70 (cur) (by kernel_rfl) (by kernel_rfl) (fun wx ex rx => ?_)
              have Sx := And.intro (ex.cell Sy.1) (And.intro (ex.cell Sy.2.1) (ex.cell Sy.2.2))
              have hzx := ex.size
              have Ex := Lib.hid (Ey.out.trans ex)
              have rry2 := ry.ext ex
              refine ⟨?_, fun _ => Sx⟩
              simp only [Act.put, List.setIfInBounds_toArray, List.set_cons_zero, List.set_cons_succ]
              refine Till.one (i := 10) (by kernel_rfl) ?_
              refine op_app (.tmp 68) (.tmp 70) 71 (by kernel_rfl) w.heap.size w4.heap.size (.slice pa rowA.length qa) rowA cur (by kernel_rfl) (HOA.out.ext Ex.out) (by omega) _ (by kernel_rfl) rx HlA.out (fun ga ka wa hra hBa hga hua => ?_)
              have HUA : Hid (Upd (fun k => (Value.slice pa rowA.length qa).ownBlock = some k) w4 wa) := (Ext.toUpd Ex.out _).trans hua
              have hza := hua.size
              have HOBa := Lib.hid (HOB.out.upd HUA.out (fun b hb _ _ e => hT6.out.dis b (HOWA.out b e) (HOWB.out b hb)))
              have HGA : Hid ((Value.slice pa rowA.length qa).ownBlock = some ga ∨ w4.heap.size ≤ ga) := hga.imp id (fun e => by omega)
              have Sa := And.intro (hua.cell Sx.1 (fun e => HOA.out.offOuter hT6.out.ra e)) (And.intro (hua.cell Sx.2.1 (fun e => HOA.out.offOuter hT6.out.rb e)) (hua.cell Sx.2.2 (fun e => hO6.out.2.2.1 (HOWA.out bv e))))
              have rya := rry2.upd hua (fun e => by have := HNA.out _ e; omega)
              refine ⟨?_, fun _ => Sa⟩
              simp only [Act.put, List.setIfInBounds_toArray, List.set_cons_zero, List.set_cons_succ]
              refine Till.one (i := 18) (by kernel_rfl) ?_
              refine op_app (.tmp 75) (.tmp 78) 79 (by kernel_rfl) w.heap.size w4.heap.size (.slice pb rowB.length qb) rowB ((k : Int) + 1) (by kernel_rfl) HOBa.out (by omega) _ (by kernel_rfl) rya HlB.out (fun gb kb wb hrb hBb hgb hub => ?_)
              have HUB : Hid (Upd (fun k => (Value.slice pb rowB.length qb).ownBlock = some k) wa wb) := hub
              have hzb := hub.size
              have HGB : Hid ((Value.slice pb rowB.length qb).ownBlock = some gb ∨ wa.heap.size ≤ gb) := hgb.imp id (fun e => by omega)
              have Sb := And.intro (hub.cell Sa.1 (fun e => HOB.out.offOuter hT6.out.ra e)) (And.intro (hub.cell Sa.2.1 (fun e => HOB.out.offOuter hT6.out.rb e)) (hub.cell Sa.2.2 (fun e => hO6.out.2.2.2 (HOWB.out bv e))))
              refine ⟨?_, fun _ => Sb⟩
              simp only [Act.put, List.setIfInBounds_toArray, List.set_cons_zero, List.set_cons_succ]
              refine Till.takeD (i := 19) 80 (.pointer (some ⟨ba6, r, none⟩)) rfl rfl rfl (by kernel_rfl) (by decide) (by kernel_rfl) (by kernel_rfl) (by kernel_rfl) (by kernel_rfl) (fun _ _ _ h => h) (Or.inl ⟨by rfl, fun w hS => by clear hS; go_simp⟩) Sb ?_
              simp only [Act.put, List.setIfInBounds_toArray, List.set_cons_zero, List.set_cons_succ]
              have ra9 := (hT6.out.ra.upd HUA.out (fun e => HOA.out.offOuter hT6.out.ra e)).upd HUB.out (fun e => HOB.out.offOuter hT6.out.ra e)
              have rb9 := (hT6.out.rb.upd HUA.out (fun e => HOA.out.offOuter hT6.out.rb e)).upd HUB.out (fun e => HOB.out.offOuter hT6.out.rb e)
              refine Till.last (by kernel_rfl) (by kernel_rfl) (op_store (.tmp 80) (.tmp 71) (by kernel_rfl) ba6 r (by kernel_rfl) (some ⟨ga, 0, none⟩) (rowA.length + 1) ka (by kernel_rfl) _ Sb.1 (ra9.free r none) ?_)
              refine any_takeD (i := 21) 81 (.pointer (some ⟨bb6, r, none⟩)) rfl rfl (by kernel_rfl) (by kernel_rfl) (by kernel_rfl) (fun _ _ _ h => h) (Or.inl ⟨by rfl, fun w => by go_simp⟩) ?_
              simp only [Act.put, List.setIfInBounds_toArray, List.set_cons_zero, List.set_cons_succ]
              have rc9 := rb9.upd (Upd.setCell wb ⟨ba6, r, none⟩ (.slice (some ⟨ga, 0, none⟩) (rowA.length + 1) ka)) (fun e => hne e.symm)
              refine any_one (i := 22) (by kernel_rfl) (op_store (.tmp 81) (.tmp 79) (by kernel_rfl) bb6 r (by kernel_rfl) (some ⟨gb, 0, none⟩) (rowB.length + 1) kb (by kernel_rfl) _ (rc9.cell (nthV_get HVLB.out)) (rc9.free r none) ?_)
              refine wpAny_done (by kernel_rfl) ?_ _
              have hgr := hT6.out.grow2 (na := rowA.length + 1) (nb := rowB.length + 1) HRA.out HRB.out (by rw [HNVA.out]; exact HUA.out) hra (by rw [HNVA.out]; exact HGA.out) hBa (by rw [HNVB.out]; exact HUB.out) hrb (by rw [HNVB.out]; exact HGB.out) hBb (by simp) (by simp)
              have HTF := Lib.hid hgr.1
              have HEF := Lib.hid (hE6.out.upd hgr.2 (fun i e => e))
              rw [HRWA.out, HRWB.out, hG1.out, hG2.out, ← HRWA.out, ← HRWB.out] at HTF
              go_wp2_with fail
              go_meet
              case rel => exact ⟨ba6, ca6, na6, _, _, bb6, cb6, nb6, _, _, rfl, rfl, HN1, HN2, HIS, HTF, HEF⟩
    · obtain rfl : k = p.length := by omega
      go_wp2_with fail
      go_ret3
      exact IiPost.of ba ca va A bb cb vb T na nb rfl hna.out hnb.out hI.out hT.out he.out
end Go.Proofs.Ytognbiodplodhaa
namespace Go.Proofs.Ytognbiodplodhaa
open Go.RowKit

/-- as many rows, each as long. -/
def Len2 (A A' : List (List Int)) : Prop := A'.length = A.length ∧ ∀ i, (nthL A' i).length = (nthL A i).length
theorem Len2.refl (A : List (List Int)) : Len2 A A := ⟨rfl, fun _ => rfl⟩
theorem Len2.set {A A' : List (List Int)} (h : Len2 A A') (i k : Nat) (x : Int) : Len2 A (A'.set i ((nthL A' i).set k x)) := by
  refine ⟨by rw [List.length_set, h.1], fun j => ?_⟩
  by_cases e : i = j
  · subst e
    by_cases hi : i < A'.length
    · rw [nthL_set_same _ hi, List.length_set, h.2]
    · rw [List.set_eq_of_length_le (by omega), h.2]
  · rw [nthL_set_other _ e, h.2]
theorem OII.len_shape' {B H : Nat} {w : World} {v : Value} {xss : List (List Int)} (h : OII B H w v xss) : ∃ p c, v = .slice p xss.length c := by
  obtain ⟨a, c, h1, _⟩ := h.sii; exact ⟨a, c, h1⟩
/-- a row of rows, looked at and marked. -/
theorem OII.mark {B H : Nat} {w : World} {p : Option Addr} {n c : Nat} {S : List (List Int)} (h : OII B H w (.slice p n c) S) {i : Nat} (hi : i < S.length) :
    ∃ b pu cu, p = some ⟨b, 0, none⟩ ∧ w.cell? ⟨b, i, none⟩ = some (.slice pu (nthL S i).length cu) ∧
      ∀ k, k < (nthL S i).length → ∃ bu, pu = some ⟨bu, 0, none⟩ ∧ B ≤ bu ∧ bu < H ∧ (∃ y, w.cell? ⟨bu, k, none⟩ = some (.int .i64 y)) ∧ w.frozen? ⟨bu, k, none⟩ = false ∧
        ∀ x, OII B H (w.setCell ⟨bu, k, none⟩ (.int .i64 x)) (.slice p n c) (S.set i ((nthL S i).set k x)) := by
  rcases h with ⟨_, rfl⟩ | ⟨b, cap, vs, hv, hB, hH, hr, he, ho⟩
  · simp at hi
  injection hv with e1 e2 e3
  subst e1 e2 e3
  have hl := he.len
  have hoi := he.el i hi
  obtain ⟨pu, cu, hu⟩ := hoi.shape
  have hc := hr.cell (nthV_get (vs := vs) (k := i) (by omega))
  rw [hu] at hc
  refine ⟨b, pu, cu, rfl, hc, fun k hk => ?_⟩
  obtain ⟨bu, cu', hu', hBu, hHu, hru⟩ := hoi.full (by omega)
  have e4 := hu.symm.trans hu'
  injection e4 with e5 e6 e7
  refine ⟨bu, e5, hBu, hHu, ⟨_, hru.icell hk⟩, hru.free k none, fun x => ?_⟩
  have hrs := hru.set k (.int .i64 x)
  rw [vals_set] at hrs
  have hne : bu ≠ b := fun e => ho i hi (by rw [hu', e]; rfl)
  have hs := Upd.setCell w ⟨bu, k, none⟩ (.int .i64 x)
  refine .inr ⟨b, c, vs, by rw [List.length_set], hB, hH, hr.upd hs (fun e => hne e.symm), ?_, fun j hj => ho j (by simpa using hj)⟩
  refine he.set hi (hs.mono (fun j _ e => by rw [hu', show j = bu from e]; rfl)) ?_
  rw [hu']
  exact .inr ⟨bu, cu', by rw [List.length_set], hBu, hHu, hrs⟩
/-- two tables that lie apart, or are nil, in blocks from B on and below H. -/
def Two (B H : Nat) (w : World) (v u : Value) (A T : List (List Int)) : Prop :=
  (v = .slice none 0 0 ∧ u = .slice none 0 0 ∧ A = [] ∧ T = []) ∨ ∃ ba ca va bb cb vb, v = .slice (some ⟨ba, 0, none⟩) A.length ca ∧ u = .slice (some ⟨bb, 0, none⟩) T.length cb ∧ TT B w ba ca va A bb cb vb T ∧
    ∀ k, (k = ba ∨ k = bb ∨ own va k ∨ own vb k) → B ≤ k ∧ k < H
theorem Two.nil (B H : Nat) (w : World) : Two B H w (.slice none 0 0) (.slice none 0 0) [] [] := .inl ⟨rfl, rfl, rfl, rfl⟩
theorem Two.of {B : Nat} {w : World} {ba ca : Nat} {va : List Value} {A : List (List Int)} {bb cb : Nat} {vb : List Value} {T : List (List Int)} {na nb : Nat} (h : TT B w ba ca va A bb cb vb T) (hna : na = A.length) (hnb : nb = T.length) :
    Two B w.heap.size w (.slice (some ⟨ba, 0, none⟩) na ca) (.slice (some ⟨bb, 0, none⟩) nb cb) A T := by
  subst hna hnb
  refine .inr ⟨ba, ca, va, bb, cb, vb, rfl, rfl, h, fun k hk => ?_⟩
  rcases hk with e | e | e | e
  · rw [e]; exact ⟨h.la, h.ra.lt⟩
  · rw [e]; exact ⟨h.lb, h.rb.lt⟩
  · exact ⟨h.lowA k (.inr e), h.ownlt e⟩
  · exact ⟨h.swap.lowA k (.inr e), h.swap.ownlt e⟩
theorem Two.upd {B H : Nat} {D : Nat → Prop} {w w' : World} {v u : Value} {A T : List (List Int)} (h : Two B H w v u A T) (hu : Upd D w w') (hD : ∀ k, B ≤ k → k < H → ¬ D k) : Two B H w' v u A T := by
  rcases h with h | ⟨ba, ca, va, bb, cb, vb, h1, h2, h3, h4⟩
  · exact .inl h
  · refine .inr ⟨ba, ca, va, bb, cb, vb, h1, h2, h3.upd hu (fun k hk => ⟨fun e => ?_, fun e => ?_, fun e => ?_, fun e => ?_⟩), h4⟩
    · have := h4 k (.inl e); exact hD k this.1 this.2 hk
    · have := h4 k (.inr (.inl e)); exact hD k this.1 this.2 hk
    · have := h4 k (.inr (.inr (.inl e))); exact hD k this.1 this.2 hk
    · have := h4 k (.inr (.inr (.inr e))); exact hD k this.1 this.2 hk
theorem Two.ext {B H : Nat} {w w' : World} {v u : Value} {A T : List (List Int)} (h : Two B H w v u A T) (hu : Ext w w') : Two B H w' v u A T := h.upd hu (fun _ _ _ => id)
theorem Two.siiA {B H : Nat} {w : World} {v u : Value} {A T : List (List Int)} (h : Two B H w v u A T) : SII w v A := by
  rcases h with ⟨rfl, rfl, rfl, rfl⟩ | ⟨ba, ca, va, bb, cb, vb, rfl, rfl, h3, h4⟩
  · exact SII.nil w
  · exact (h3.oiiA rfl).sii
theorem Two.siiB {B H : Nat} {w : World} {v u : Value} {A T : List (List Int)} (h : Two B H w v u A T) : SII w u T := by
  rcases h with ⟨rfl, rfl, rfl, rfl⟩ | ⟨ba, ca, va, bb, cb, vb, rfl, rfl, h3, h4⟩
  · exact SII.nil w
  · exact (h3.swap.oiiA rfl).sii
theorem Two.shape {B H : Nat} {w : World} {v u : Value} {A T : List (List Int)} (h : Two B H w v u A T) : (∃ p c, v = .slice p A.length c) ∧ ∃ p c, u = .slice p T.length c := by
  rcases h with ⟨rfl, rfl, rfl, rfl⟩ | ⟨ba, ca, va, bb, cb, vb, rfl, rfl, h3, h4⟩
  · exact ⟨⟨none, 0, rfl⟩, none, 0, rfl⟩
  · exact ⟨⟨_, _, rfl⟩, _, _, rfl⟩
/-- a row of the first table, looked at and marked. -/
theorem TT.mark {B : Nat} {w : World} {ba ca : Nat} {va : List Value} {A : List (List Int)} {bb cb : Nat} {vb : List Value} {T : List (List Int)} (h : TT B w ba ca va A bb cb vb T) (hB : B ≤ w.heap.size) {i : Nat} (hi : i < A.length) :
    ∃ pu cu, w.cell? ⟨ba, i, none⟩ = some (.slice pu (nthL A i).length cu) ∧ ∀ k, k < (nthL A i).length → ∃ bu, pu = some ⟨bu, 0, none⟩ ∧ own va bu ∧ (∃ y, w.cell? ⟨bu, k, none⟩ = some (.int .i64 y)) ∧ w.frozen? ⟨bu, k, none⟩ = false ∧
      ∀ x, TT B (w.setCell ⟨bu, k, none⟩ (.int .i64 x)) ba ca va (A.set i ((nthL A i).set k x)) bb cb vb T := by
  have hl := h.ea.len
  have hoi := h.ea.el i hi
  obtain ⟨pu, cu, hu⟩ := hoi.shape
  have hc := h.ra.cell (nthV_get (vs := va) (k := i) (by omega))
  rw [hu] at hc
  refine ⟨pu, cu, hc, fun k hk => ?_⟩
  obtain ⟨bu, cu', hu', hBu, hHu, hru⟩ := hoi.full (by omega)
  have e4 := hu.symm.trans hu'
  injection e4 with e5 e6 e7
  exact ⟨bu, e5, ⟨i, by omega, by rw [hu']; rfl⟩, ⟨_, hru.icell hk⟩, hru.free k none, fun x => h.setA hB hi hu' hru hBu x⟩
/-- a row of each, looked at and marked. -/
theorem Two.mark {B H : Nat} {w : World} {p p' : Option Addr} {n n' c c' : Nat} {A T : List (List Int)} (h : Two B H w (.slice p n c) (.slice p' n' c') A T) (hB : B ≤ w.heap.size) {i : Nat} (hi : i < A.length) (hi' : i < T.length) :
    ∃ ba bb pu cu pv cv, p = some ⟨ba, 0, none⟩ ∧ p' = some ⟨bb, 0, none⟩ ∧ w.cell? ⟨ba, i, none⟩ = some (.slice pu (nthL A i).length cu) ∧
      ∀ k, k < (nthL A i).length → k < (nthL T i).length → ∃ bu, pu = some ⟨bu, 0, none⟩ ∧ B ≤ bu ∧ bu < H ∧ (∃ y, w.cell? ⟨bu, k, none⟩ = some (.int .i64 y)) ∧ w.frozen? ⟨bu, k, none⟩ = false ∧
        ∀ x, (w.setCell ⟨bu, k, none⟩ (.int .i64 x)).cell? ⟨bb, i, none⟩ = some (.slice pv (nthL T i).length cv) ∧ ∃ bv, pv = some ⟨bv, 0, none⟩ ∧ B ≤ bv ∧ bv < H ∧ (∃ y, (w.setCell ⟨bu, k, none⟩ (.int .i64 x)).cell? ⟨bv, k, none⟩ = some (.int .i64 y)) ∧ (w.setCell ⟨bu, k, none⟩ (.int .i64 x)).frozen? ⟨bv, k, none⟩ = false ∧
          ∀ y, Two B H ((w.setCell ⟨bu, k, none⟩ (.int .i64 x)).setCell ⟨bv, k, none⟩ (.int .i64 y)) (.slice p n c) (.slice p' n' c') (A.set i ((nthL A i).set k x)) (T.set i ((nthL T i).set k y)) := by
  rcases h with ⟨_, _, rfl, rfl⟩ | ⟨ba, ca, va, bb, cb, vb, h1, h2, h3, h4⟩
  · simp at hi
  injection h1 with e1 e2 e3
  injection h2 with e4 e5 e6
  subst e1 e2 e3 e4 e5 e6
  obtain ⟨pu, cu, hc, hm⟩ := h3.mark hB hi
  obtain ⟨pv, cv, hcv, _⟩ := h3.swap.mark hB hi'
  refine ⟨ba, bb, pu, cu, pv, cv, rfl, rfl, hc, fun k hk hk' => ?_⟩
  obtain ⟨bu, hpu, ho, hy, hf, hT⟩ := hm k hk
  have hb := h4 bu (.inr (.inr (.inl ho)))
  refine ⟨bu, hpu, hb.1, hb.2, hy, hf, fun x => ?_⟩
  have hT1 := hT x
  have hB1 : B ≤ (w.setCell ⟨bu, k, none⟩ (.int .i64 x)).heap.size := by simpa using hB
  have hne : bb ≠ bu := fun e => by
    obtain ⟨j, hj, hk⟩ := ho
    exact (h3.ea.el j (by rw [← h3.ea.len]; exact hj)).offOuter h3.rb (by rw [hk, e])
  have hcv2 := (Upd.setCell w ⟨bu, k, none⟩ (.int .i64 x)).cell hcv (fun e => hne e)
  refine ⟨hcv2, ?_⟩
  obtain ⟨pv', cv', hc2, hm2⟩ := hT1.swap.mark hB1 hi'
  rw [hc2] at hcv2
  injection hcv2 with hcv2
  injection hcv2 with q1 q2 q3
  obtain ⟨bv, hpv, ho2, hy2, hf2, hT2⟩ := hm2 k hk'
  have hb2 := h4 bv (.inr (.inr (.inr ho2)))
  refine ⟨bv, by rw [← q1]; exact hpv, hb2.1, hb2.2, hy2, hf2, fun y => .inr ⟨ba, c, va, bb, c', vb, by rw [List.length_set], by rw [List.length_set], (hT2 y).swap, h4⟩⟩
end Go.Proofs.Ytognbiodplodhaa
namespace Go.Proofs.Ytognbiodplodhaa
open Go.RowKit

/-- what the program's InsertPerm hands out, of any list. -/
def IaPost (p : List Int) (w : World) (e : Ending) (w' : World) : Prop := ∃ v A u T, e = .returned (.tuple #[v, u, .bool (isP8 p)]) ∧ InsRes p A T ∧ Two w.heap.size w'.heap.size w' v u A T ∧ Ext w w'
theorem IaPost.of {p : List Int} {w w' : World} {e : Ending} (v : Value) (A : List (List Int)) (u : Value) (T : List (List Int)) (h1 : e = .returned (.tuple #[v, u, .bool (isP8 p)])) (h2 : InsRes p A T) (h3 : Two w.heap.size w'.heap.size w' v u A T) (h4 : Ext w w') : IaPost p w e w' := ⟨v, A, u, T, h1, h2, h3, h4⟩
set_option maxHeartbeats 1000000 in
theorem impl_InsertPerm_ok (v : Value) (p : List Int) (w : World) (h : SI w v p) :
    Calls Try.prog 42 #[v] w (IaPost p w) := by
  cases hp : isP8 p
  · have h00 := h
    obtain ⟨a, cap, rfl, -⟩ := h00.elim
    have HH := Lib.hid h
    have HP := Lib.hid hp
    clear h h00 hp
    go_enter Try.func42, Try.ntmps42
    go_wp2_with fail
    refine (impl_IsPerm_ok _ p _ HH.out).mono ?_
    rintro e w1 ⟨rfl, he⟩
    rw [HP.out]
    have HE := Lib.hid he
    clear he
    go_wp2_with fail
    go_ret3
    exact IaPost.of _ [] _ [] (by rw [HP.out]; rfl) ⟨fun e => by rw [HP.out] at e; exact absurd e (by decide), fun _ => ⟨rfl, rfl⟩⟩ (Two.nil _ _ _) HE.out
  · refine (impl_InsertPerm_t v p w h hp).mono ?_
    rintro e w1 ⟨ba, ca, va, A, bb, cb, vb, T, na, nb, rfl, hna, hnb, hI, hT, he⟩
    exact ⟨_, A, _, T, by rw [hp], ⟨fun _ => hI, fun e => by rw [hp] at e; exact absurd e (by decide)⟩, Two.of hT hna hnb, he⟩
end Go.Proofs.Ytognbiodplodhaa
namespace Go.Proofs.Ytognbiodplodhaa
open Go.RowKit

theorem Row.apart2 {e e' : TypeId} {w : World} {b c b' c' : Nat} {xs ys : List Value} (h : Row e w b c xs) (k : Row e' w b' c' ys) (hne : e ≠ e') : b ≠ b' := by
  rintro rfl
  obtain ⟨cur, h1, _⟩ := h.cur
  obtain ⟨cur2, k1, _⟩ := k.cur
  rw [h1] at k1
  injection k1 with k1
  injection k1 with _ k2 _
  exact hne k2
/-- block b is a row of rows that read as D; rows may be shared with others, none is nil. -/
def LP (B : Nat) (w : World) (b c : Nat) (D : List (List Int)) : Prop :=
  ∃ vs, Row 24 w b c vs ∧ vs.length = D.length ∧ B ≤ b ∧ ∀ i, i < D.length → ∃ bi ci, nthV vs i = .slice (some ⟨bi, 0, none⟩) (nthL D i).length ci ∧ B ≤ bi ∧ Row 3 w bi ci (vals (nthL D i))
theorem LP.lt {B b c : Nat} {w : World} {D : List (List Int)} (h : LP B w b c D) : b < w.heap.size := by obtain ⟨vs, h1, _⟩ := h; exact h1.lt
theorem LP.lo {B b c : Nat} {w : World} {D : List (List Int)} (h : LP B w b c D) : B ≤ b := by obtain ⟨vs, _, _, h1, _⟩ := h; exact h1
theorem LP.row {B b c : Nat} {w : World} {D : List (List Int)} (h : LP B w b c D) : ∃ vs, Row 24 w b c vs ∧ vs.length = D.length := by obtain ⟨vs, h1, h2, _⟩ := h; exact ⟨vs, h1, h2⟩
theorem LP.ext {B b c : Nat} {w w' : World} {D : List (List Int)} (h : LP B w b c D) (hu : Ext w w') : LP B w' b c D := by
  obtain ⟨vs, h1, h2, h3, h4⟩ := h
  exact ⟨vs, h1.ext hu, h2, h3, fun i hi => by obtain ⟨bi, ci, e, g1, g2⟩ := h4 i hi; exact ⟨bi, ci, e, g1, g2.ext hu⟩⟩
theorem LP.mono {B B' b c : Nat} {w : World} {D : List (List Int)} (h : LP B w b c D) (hB : B' ≤ B) : LP B' w b c D := by
  obtain ⟨vs, h1, h2, h3, h4⟩ := h
  exact ⟨vs, h1, h2, by omega, fun i hi => by obtain ⟨bi, ci, e, g1, g2⟩ := h4 i hi; exact ⟨bi, ci, e, by omega, g2⟩⟩
theorem LP.new (B : Nat) (w : World) (hB : B ≤ w.heap.size) : LP B (w.alloc (.cells #[] 24)) w.heap.size 0 [] := ⟨[], Row.new 24 w [] (by simp), rfl, hB, fun i hi => by simp at hi⟩
/-- another row of slices is written: nothing of this one turns. -/
theorem LP.off {B b c : Nat} {w w' : World} {D : List (List Int)} (h : LP B w b c D) {x cx : Nat} {us : List Value} (hx : Row 24 w x cx us) (hne : b ≠ x) (hu : Upd (· = x) w w') : LP B w' b c D := by
  obtain ⟨vs, h1, h2, h3, h4⟩ := h
  exact ⟨vs, h1.upd hu hne, h2, h3, fun i hi => by obtain ⟨bi, ci, e, g1, g2⟩ := h4 i hi; exact ⟨bi, ci, e, g1, g2.upd hu (fun e => g2.apart2 hx (by decide) e)⟩⟩
theorem LP.get {B b c : Nat} {w : World} {D : List (List Int)} (h : LP B w b c D) {k : Nat} (hk : k < D.length) : ∃ bi ci, w.cell? ⟨b, k, none⟩ = some (.slice (some ⟨bi, 0, none⟩) (nthL D k).length ci) ∧ Row 3 w bi ci (vals (nthL D k)) := by
  obtain ⟨vs, h1, h2, h3, h4⟩ := h
  obtain ⟨bi, ci, e, _, g2⟩ := h4 k hk
  exact ⟨bi, ci, by rw [← e]; exact h1.cell (nthV_get (by omega)), g2⟩
theorem LP.app {B b c bt ct b' c' : Nat} {w w' : World} {D : List (List Int)} {t : List Int} (h : LP B w b c D) (ht : Row 3 w bt ct (vals t)) (hB : B ≤ bt) {vs : List Value} (hv : Row 24 w b c vs) (hvl : vs.length = D.length)
    (hr : Row 24 w' b' c' (vs ++ [.slice (some ⟨bt, 0, none⟩) t.length ct])) (hb : b' = b ∨ w.heap.size ≤ b') (hu : Upd (· = b) w w') : LP B w' b' c' (D ++ [t]) := by
  obtain ⟨us, h1, h2, h3, h4⟩ := h
  have hlt := h1.lt
  have e : us = vs := by
    obtain ⟨cur, a1, a2, a3⟩ := h1.cur
    obtain ⟨cur2, k1, k2, k3⟩ := hv.cur
    rw [a1] at k1
    injection k1 with k1
    injection k1 with k1 _ _
    rw [← a3, ← k3, k1, h2, hvl]
  subst e
  refine ⟨_, hr, by simp [h2], by rcases hb with e | e <;> omega, fun i hi => ?_⟩
  rcases Nat.lt_or_ge i D.length with e | e
  · obtain ⟨bi, ci, e1, g1, g2⟩ := h4 i e
    exact ⟨bi, ci, by rw [nthV_append_lt (by omega), nthL_append_lt e]; exact e1, g1, by rw [nthL_append_lt e]; exact g2.upd hu (fun e => g2.apart2 h1 (by decide) e)⟩
  · obtain rfl : i = D.length := by simp at hi; omega
    refine ⟨bt, ct, ?_, hB, ?_⟩
    · rw [nthL_append_last, ← h2, nthV_append_last]
    · rw [nthL_append_last]; exact ht.upd hu (fun e => ht.apart2 h1 (by decide) e)
theorem LP.upd {B b c : Nat} {E : Nat → Prop} {w w' : World} {D : List (List Int)} (h : LP B w b c D) (hu : Upd E w w') (hE : ∀ k, E k → k < B) : LP B w' b c D := by
  obtain ⟨vs, h1, h2, h3, h4⟩ := h
  exact ⟨vs, h1.upd hu (fun e => by have := hE _ e; omega), h2, h3, fun i hi => by
    obtain ⟨bi, ci, e, g1, g2⟩ := h4 i hi
    exact ⟨bi, ci, e, g1, g2.upd hu (fun e => by have := hE _ e; omega)⟩⟩
theorem LP.set {B b c bt ct : Nat} {w : World} {D : List (List Int)} {t : List Int} {k : Nat} (h : LP B w b c D) (_hk : k < D.length) (ht : Row 3 w bt ct (vals t)) (hB : B ≤ bt) : LP B (w.setCell ⟨b, k, none⟩ (.slice (some ⟨bt, 0, none⟩) t.length ct)) b c (D.set k t) := by
  obtain ⟨vs, h1, h2, h3, h4⟩ := h
  refine ⟨_, h1.set k _, by simp [h2], h3, fun i hi => ?_⟩
  have hi' : i < D.length := by simpa using hi
  by_cases e : k = i
  · subst e
    exact ⟨bt, ct, by rw [nthV_set_same _ (by omega), nthL_set_same _ hi'], hB, by rw [nthL_set_same _ hi']; exact ht.upd (Upd.setCell w ⟨b, k, none⟩ _) (fun e => ht.apart2 h1 (by decide) e)⟩
  · obtain ⟨bi, ci, e1, g1, g2⟩ := h4 i hi'
    exact ⟨bi, ci, by rw [nthV_set_other _ e, nthL_set_other _ e]; exact e1, g1, by rw [nthL_set_other _ e]; exact g2.upd (Upd.setCell w ⟨b, k, none⟩ _) (fun e => g2.apart2 h1 (by decide) e)⟩
theorem LP.nl {B b c n : Nat} {w : World} {D : List (List Int)} (h : LP B w b c D) (hn : n = D.length) : NL w (.slice (some ⟨b, 0, none⟩) n c) D := by
  subst hn
  obtain ⟨vs, h1, h2, h3, h4⟩ := h
  refine ⟨b, c, rfl, ⟨_, c, rfl, by have := h1.le; rw [h2] at this; exact this, h1.mx, by simp, .inr ⟨b, 0, rfl, fun i hi => ?_⟩⟩, fun i hi => ?_⟩
  · obtain ⟨bi, ci, e1, g1, g2⟩ := h4 i hi
    exact ⟨nthV vs i, by rw [Nat.zero_add]; exact h1.cell (nthV_get (by omega)), by rw [e1]; exact g2.si⟩
  · obtain ⟨bi, ci, e1, g1, g2⟩ := h4 i hi
    exact ⟨_, ci, by rw [← e1]; exact h1.cell (nthV_get (by omega)), g2.si⟩
def LsPost (B bc : Nat) (w : World) (e : Ending) (w' : World) : Prop := ∃ b c m D, e = .returned (.slice (some ⟨b, 0, none⟩) m c) ∧ m = D.length ∧ m ≤ 5 ∧ LP B w' b c D ∧ (∀ x ∈ D, x.length ≤ 9) ∧ Upd (· = bc) w w'
theorem snoc_each {P : List Int → Prop} {D : List (List Int)} {y : List Int} (h : ∀ x ∈ D, P x) (hy : P y) : ∀ x ∈ D ++ [y], P x := fun x hx => (List.mem_append.1 hx).elim (h x) (fun e => by simp at e; subst e; exact hy)
theorem set_each {P : List Int → Prop} {D : List (List Int)} {y : List Int} {k : Nat} (h : ∀ x ∈ D, P x) (hy : P y) : ∀ x ∈ D.set k y, P x := fun x hx => (List.mem_or_eq_of_mem_set hx).elim (h x) (fun e => by subst e; exact hy)
set_option maxHeartbeats 4000000 in
theorem l3List_ok (bc : Nat) (w : World) (h : Cur bc w) :
    Calls Try.prog 63 #[.pointer (some ⟨bc, 0, none⟩)] w (LsPost w.heap.size bc w) := by
  have hbc := h.lt
  have hA : Ext w (w.alloc (.cells #[] 24)) := Upd.alloc _ _ _
  have hc0 := h.ext hA
  have HL0 := Lib.hid (LP.new w.heap.size w (Nat.le_refl _))
  have HU0 := Lib.hid (Ext.toUpd hA (· = bc))
  clear hA h
  go_enter Try.func63, Try.ntmps63
  go_wp2_with fail
  refine (l1Below_ok bc 5 _ hc0 (by omega) (by omega)).mono ?_
  rintro e w1 ⟨y, hy, rfl, hc1, hu1⟩
  have HL1 := Lib.hid (HL0.out.upd hu1 (fun k e => by omega))
  have HU1 := Lib.hid (HU0.out.trans hu1)
  clear HL0 HU0 hc0 hu1
  go_wp2_with fail
  go_loopw [3, 5] (fun o i wr => ∃ k : Nat, k ≤ y ∧ i = .int .i64 k ∧ (∃ b c D, o = .slice (some ⟨b, 0, none⟩) k c ∧ Hid (k = D.length) ∧ Hid (LP w.heap.size wr b c D) ∧ Hid (∀ x ∈ D, x.length ≤ 9)) ∧ Cur bc wr ∧ Hid (Upd (· = bc) w wr)) (fun _ i _ => y - (intOf i).toNat)
  case atStart => exact ⟨0, Nat.zero_le _, rfl, ⟨_, 0, [], rfl, Lib.hid rfl, HL1, Lib.hid (fun x hx => by simp at hx)⟩, hc1, HU1⟩
  case round =>
    obtain ⟨k, hk, rfl, ⟨b, c, D, rfl, hkl, hL, hD⟩, hc, hU⟩ := hrel
    clear HL1 hc1 HU1
    have hwz := hU.out.size
    by_cases hky : k < y
    · have hkyI : (k : Int) < (y : Int) := by omega
      go_wp2_with fail
      refine (l1Below_ok bc 5 _ hc (by omega) (by omega)).mono ?_
      rintro e w3 ⟨z, hz, rfl, hc3, hu3⟩
      have hz3 := hu3.size
      have HL3 := Lib.hid (hL.out.upd hu3 (fun k e => by omega))
      have HU3 := Lib.hid (hU.out.trans hu3)
      clear hL hU hc hu3
      go_wp2_with fail
      refine (l2Draw_ok bc z _ hc3 (by omega)).mono ?_
      rintro e w4 ⟨b4, c4, m4, L4, rfl, hm4, hl4, hL4, hlo4, hr4, hc4, hu4⟩
      have hz4 := hu4.size
      have HL4 := Lib.hid (HL3.out.upd hu4 (fun k e => by omega))
      have HU4 := Lib.hid (HU3.out.trans hu4)
      have HR4 := Lib.hid hr4
      have HM4 := Lib.hid hm4
      have HD4 := Lib.hid (snoc_each hD.out (show L4.length ≤ 9 by omega))
      obtain ⟨vs, hv, hvl⟩ := HL4.out.row
      have HV := Lib.hid hv
      have HVL := Lib.hid hvl
      have hkv : Hid (k = vs.length) := by show _ = _; rw [hvl]; exact hkl.out
      have hvb : Hid (vs.length ≤ 1000000000) := by show _ ≤ _; rw [← hkv.out]; omega
      have hb4 : w.heap.size ≤ b4 := by omega
      clear HL3 HU3 hc3 hu4 hm4 hl4 hL4 hr4 hv hvl hlo4
      go_wp2_with (at_builtin; go_loud (refine wpl_appv rfl (.tmp 14) (.tmp 19) rfl b c k vs (some ⟨b4, 0, none⟩) m4 c4 rfl HV.out hkv.out rfl hvb.out ?_); intro b9 c9 w9 hr9 hb9 hu9)
      have hz9 := hu9.size
      rw [HM4.out] at hr9
      have HL9 := Lib.hid (HL4.out.app HR4.out hb4 HV.out HVL.out hr9 (hb9.imp id (fun e => by omega)) hu9)
      have hlo := HL4.out.lo
      have hc9 := hc4.upd hu9 (by omega)
      have HU9 := Lib.hid (HU4.out.comp hu9 (D' := (· = bc)) (fun _ _ h => h) (fun i hi e => by omega))
      have HK9 : Hid (k + 1 = (D ++ [L4]).length) := by show _ = _; rw [List.length_append, ← hkl.out]; rfl
      clear hr9 hu9 hb9 HL4 HU4 hc4
      go_roundw
      case rel => exact ⟨k + 1, by omega, by go_num, ⟨b9, c9, _, rfl, HK9, HL9, HD4⟩, hc9, HU9⟩
      case measure => simp [intOf]; omega
    · obtain rfl : k = y := by omega
      by_cases h0 : k = 0
      · subst h0
        go_wp2_with fail
        go_ret
        exact ⟨b, c, _, D, rfl, hkl.out, by omega, hL.out, hD.out, hU.out⟩
      · have h0I : (0 : Int) < (k : Int) := by omega
        go_wp2_with fail
        refine (l1Once_ok bc 12 _ hc (by omega) (by omega)).mono ?_
        rintro e w3 ⟨t, rfl, hc3, hu3⟩
        have hz3 := hu3.size
        have HL3 := Lib.hid (hL.out.upd hu3 (fun k e => by omega))
        have HU3 := Lib.hid (hU.out.trans hu3)
        clear hL hU hc hu3
        cases t
        · go_wp2_with fail
          go_ret
          exact ⟨b, c, _, D, rfl, hkl.out, by omega, HL3.out, hD.out, HU3.out⟩
        · go_wp2_with fail
          refine (l2Bent_ok bc _ hc3).mono ?_
          rintro e w4 ⟨b4, c4, m4, L4, rfl, hm4, hl4, hL4, hlo4, hr4, hc4, hu4⟩
          have hz4 := hu4.size
          have HL4 := Lib.hid (HL3.out.upd hu4 (fun k e => by omega))
          have HU4 := Lib.hid (HU3.out.trans hu4)
          have HM4 := Lib.hid hm4
          have HD4 := Lib.hid (set_each (k := 0) hD.out (show L4.length ≤ 9 by omega))
          have hk0 : Hid (0 < D.length) := by show _ < _; rw [← hkl.out]; omega
          have hs4 := HL4.out.set hk0.out hr4 (show w.heap.size ≤ b4 by omega)
          rw [← hm4] at hs4
          have HS4 := Lib.hid hs4
          obtain ⟨vs, hv, hvl⟩ := HL4.out.row
          have d0 := hv.cell (nthV_get (k := 0) (by rw [hvl]; exact hk0.out))
          have f0 := hv.free 0 none
          have HU5 := Lib.hid (HU4.out.comp (Upd.setCell w4 ⟨b, 0, none⟩ (.slice (some ⟨b4, 0, none⟩) m4 c4)) (D' := (· = bc)) (fun _ _ h => h) (fun i hi e => by have := HL4.out.lo; have e2 : i = b := e; omega))
          have hkd : Hid (k = (D.set 0 L4).length) := by show _ = _; rw [List.length_set]; exact hkl.out
          clear HL3 HU3 hc3 hu4 hm4 hl4 hL4 hr4 hv hvl hlo4 hs4
          go_wp2_with fail
          go_ret
          exact ⟨b, c, _, _, rfl, hkd.out, by omega, HS4.out, HD4.out, HU5.out⟩
set_option maxHeartbeats 1000000 in
theorem DrawInsertPerm_ok (a : Option Addr) (n cap : Nat) (w : World) (hn : n ≤ 1048576) (hb : BY w.heap.size w a n) : Calls Try.prog 39 #[.slice a n cap] w (DrB w) := by
  have HB := Lib.hid hb
  clear hb
  go_enter Try.func39, Try.ntmps39
  go_wp2_with fail
  refine (l1New_ok a n cap _ hn HB.out).mono ?_
  rintro e w1 ⟨bc, rfl, hbc, hc, he⟩
  have hz := he.size
  go_wp2_with fail
  refine (l2Bent_ok bc _ hc).mono ?_
  rintro e w2 ⟨b, c, m, L, rfl, hm, hm9, hL, hlo, hr, hc2, hu⟩
  go_wp2_with fail
  go_ret
  exact ⟨_, L, rfl, OI.row hr (by omega) (by first | rfl | exact hm), by omega, hL, Upd.comp he hu (fun _ _ h => h) (fun i hi e => by omega)⟩
/-- what the draw of a list hands out. -/
def DoPost (w : World) (e : Ending) (w' : World) : Prop := ∃ v L, e = .returned v ∧ NL w' v L ∧ L.length ≤ 5 ∧ (∀ x ∈ L, x.length ≤ 9) ∧ Ext w w'
set_option maxHeartbeats 1000000 in
theorem DrawOrderPerms_ok (a : Option Addr) (n cap : Nat) (w : World) (hn : n ≤ 1048576) (hb : BY w.heap.size w a n) : Calls Try.prog 40 #[.slice a n cap] w (DoPost w) := by
  have HB := Lib.hid hb
  clear hb
  go_enter Try.func40, Try.ntmps40
  go_wp2_with fail
  refine (l1New_ok a n cap _ hn HB.out).mono ?_
  rintro e w1 ⟨bc, rfl, hbc, hc, he⟩
  have hz := he.size
  go_wp2_with fail
  refine (l3List_ok bc _ hc).mono ?_
  rintro e w2 ⟨b, c, m, D, rfl, hm, hm5, hL, hD, hu⟩
  have HNL := Lib.hid (hL.nl hm)
  have HD := Lib.hid hD
  have HM := Lib.hid hm
  have HE : Hid (Ext w w2) := Upd.comp he hu (fun _ _ h => h) (fun i hi e => by omega)
  clear hL hD hm hu he hc
  go_wp2_with fail
  go_ret
  exact ⟨_, D, rfl, HNL.out, by rw [← HM.out]; omega, HD.out, HE.out⟩
end Go.Proofs.Ytognbiodplodhaa
namespace Go.Proofs.Ytognbiodplodhaa
open Go.RowKit

theorem InsRes.one {p : List Int} {A T : List (List Int)} (h : InsRes p A T) : T.length = A.length ∧ ∀ i, (nthL A i).length = (nthL T i).length := by
  cases hp : isP8 p
  · obtain ⟨rfl, rfl⟩ := h.2 hp; exact ⟨rfl, fun _ => rfl⟩
  · exact ⟨(h.1 hp).len.1.symm, (h.1 hp).lens⟩
theorem InsRes.small {p : List Int} {A T : List (List Int)} (h : InsRes p A T) : A.length ≤ 1000000000 ∧ small A ∧ T.length ≤ 1000000000 ∧ small T := by
  obtain ⟨h1, h2, h3, h4⟩ := h.bd
  refine ⟨by omega, fun x hx => ?_, by omega, fun x hx => ?_⟩
  · obtain ⟨i, hi, rfl⟩ := mem_nthL hx
    have := h3 i hi; omega
  · obtain ⟨i, hi, rfl⟩ := mem_nthL hx
    have := h4 i hi; omega
theorem NL.sii {w : World} {v : Value} {L : List (List Int)} (h : NL w v L) : SII w v L := by obtain ⟨_, _, _, h2, _⟩ := h; exact h2
theorem ordL_small {L : List (List Int)} (hl : L.length ≤ 5) (hs : ∀ x ∈ L, x.length ≤ 9) : (ordL L).length ≤ 1000000000 ∧ small (ordL L) := by
  unfold ordL
  cases allP8 L
  · exact ⟨by simp, fun x hx => by simp at hx⟩
  · refine ⟨by have := putAll_len L; show (putAll L).length ≤ _; omega, fun x hx => ?_⟩
    have := hs x ((putAll_mem L x).1 hx)
    omega
theorem rows_bd {L : List (List Int)} (h : L.length ≤ 1000000000 ∧ small L) : L.length ≤ 1000000000 ∧ ∀ k, (nthL L k).length ≤ 10000000 := by
  refine ⟨h.1, fun k => ?_⟩
  rcases Nat.lt_or_ge k L.length with e | e
  · exact h.2.nth e
  · rw [nthL_far e]; simp
theorem sumL_small (P : List Int) : (sumL P).length ≤ 1000000000 ∧ small (sumL P) := ⟨by have := sumL_len P; omega, fun x hx => by have := sumL_each hx; omega⟩
/-- the draw of one list, with its block. -/
def DrX (w : World) (e : Ending) (w' : World) : Prop := ∃ b c m L, e = .returned (.slice (some ⟨b, 0, none⟩) m c) ∧ m = L.length ∧ w.heap.size ≤ b ∧ Row 3 w' b c (vals L) ∧ m ≤ 9 ∧ (∀ x ∈ L, -1 ≤ x ∧ x ≤ 10) ∧ Ext w w'
set_option maxHeartbeats 1000000 in
theorem DrawInsertPerm_x (a : Option Addr) (n cap : Nat) (w : World) (hn : n ≤ 1048576) (hb : BY w.heap.size w a n) : Calls Try.prog 39 #[.slice a n cap] w (DrX w) := by
  have HB := Lib.hid hb
  clear hb
  go_enter Try.func39, Try.ntmps39
  go_wp2_with fail
  refine (l1New_ok a n cap _ hn HB.out).mono ?_
  rintro e w1 ⟨bc, rfl, hbc, hc, he⟩
  have hz := he.size
  go_wp2_with fail
  refine (l2Bent_ok bc _ hc).mono ?_
  rintro e w2 ⟨b, c, m, L, rfl, hm, hm9, hL, hlo, hr, hc2, hu⟩
  go_wp2_with fail
  go_ret
  exact ⟨b, c, _, L, rfl, by first | rfl | exact hm, by omega, hr, by omega, hL, Upd.comp he hu (fun _ _ h => h) (fun i hi e => by omega)⟩
set_option maxHeartbeats 16000000 in
set_option maxRecDepth 30000 in
theorem law_FnPure (a : Option Addr) (n cap : Nat) (w : World) (hb : BY w.heap.size w a n) (hn : n ≤ 9223372036854775807) :
    Calls Try.prog 9 #[.slice a n cap] w fun e w' => e = .returned (.bool true) ∧ Ext w w' := by
  go_enter Try.func9, Try.ntmps9
  go_wp2_with fail
  refine (big_ok a n cap _ hn).mono ?_
  rintro e w0 ⟨rfl, hw0⟩
  have E : Ext w w0 := hw0.ext
  have HB := Lib.hid hb
  clear hb hw0
  by_cases hbig : 1048576 < n
  · rw [decide_eq_true hbig]
    go_wp2_with fail
    go_ret
    exact ⟨rfl, E⟩
  rw [decide_eq_false hbig]
  have hn9 : n ≤ 1048576 := by omega
  clear hn
  go_wp2_with fail
  refine (DrawInsertPerm_x a n cap _ hn9 ((HB.out.ext E).mono E.size)).mono ?_
  rintro e w1 ⟨bP, cP, nP, P, rfl, hnP, hloP, hrP, hnP9, hbP, h1⟩
  have E1 := Lib.hid (E.trans h1)
  have HRP := Lib.hid hrP
  have HNP := Lib.hid hnP
  have HI : Hid (I64s P) := fun x hx => by have := hbP x hx; unfold I64; omega
  have hz1 := hrP.lt
  have hA : Ext w1 (w1.alloc (.cells #[] 3)) := Upd.alloc _ _ _
  have HNEW : Hid (Row 3 (w1.alloc (.cells #[] 3)) w1.heap.size 0 (vals [])) := Row.new 3 w1 [] (by simp)
  have HA := Lib.hid hA
  have HRI : Hid (RI (w1.alloc (.cells #[] 3)) (some ⟨bP, 0, none⟩) P) := (hrP.ext hA).ri
  have HPL : Hid (P.length ≤ 1000000000) := by show _ ≤ _; rw [← hnP]; omega
  clear hnP hloP hrP hbP h1 hA E
  go_wp2_with (at_builtin; go_loud (refine wpl_appSrc rfl (.tmp 31) (.tmp 32) rfl w1.heap.size 0 0 [] P rfl HNEW.out rfl ⟨bP, 0, none⟩ _ _ rfl HNP.out HRI.out (by simp) HPL.out ?_); intro b2 c2 w2 hr2 hb2 hu2; have H12 := Lib.hid (HA.out.upd1 hu2 (Nat.le_refl _)); have hz2 := hu2.size; have HR2 := Lib.hid hr2; clear hr2 hb2 hu2)
  have E2 := Lib.hid (E1.out.trans H12.out)
  have HSB : Hid (SI w2 (.slice (some ⟨b2, 0, none⟩) nP c2) P) := by
    have h := HR2.out.si
    rw [show ([] ++ P : List Int) = P from rfl, ← HNP.out] at h
    exact h
  have HSP : Hid (SI w2 (.slice (some ⟨bP, 0, none⟩) nP cP) P) := by
    have h := (HRP.out.ext H12.out).si
    rw [← HNP.out] at h; exact h
  refine (DrawOrderPerms_ok a n cap _ hn9 ((HB.out.ext E2.out).mono E2.out.size)).mono ?_
  rintro e w3 ⟨vL, L, rfl, hnl, hL5, hL9, h3⟩
  have hnl0 := hnl
  obtain ⟨bL, cL, rfl, -, -⟩ := hnl0
  have HNL := Lib.hid hnl
  have HL9 := Lib.hid hL9
  have E3 := Lib.hid (E2.out.trans h3)
  have HSP3 := Lib.hid (HSP.out.ext h3)
  have HSB3 := Lib.hid (HSB.out.ext h3)
  have HPL' : Hid (P.length ≤ 1048576) := by show _ ≤ _; rw [← HNP.out]; omega
  have HOS := Lib.hid (ordL_small hL5 hL9)
  have HLS : Hid (small L) := fun x hx => by have := HL9.out x hx; omega
  clear hnl hL9 h3
  go_wp2_with fail
  refine (impl_SumParts_ok _ P _ HSP3.out).mono ?_
  rintro e w4 ⟨vS, rfl, hoS, h4⟩
  obtain ⟨pS, cS, hvS⟩ := hoS.len_shape'
  obtain ⟨S, hS⟩ : ∃ S, S = sumL P := ⟨_, rfl⟩
  rw [← hS] at hoS hvS
  have HSe := Lib.hid hS
  have HBDS := Lib.hid (rows_bd (sumL_small P))
  rw [← hS] at HBDS
  obtain ⟨nS, hnS⟩ : ∃ k, k = S.length := ⟨_, rfl⟩
  rw [← hnS] at hvS
  subst hvS
  have HNS := Lib.hid hnS
  have HOS4 := Lib.hid hoS
  have hz4 := h4.size
  have H34 := Lib.hid h4
  clear hS hnS hoS h4
  go_wp2_with fail
  refine (impl_InsertPerm_ok _ P _ (HSP3.out.ext H34.out)).mono ?_
  rintro e w5 ⟨vA, A, vT, T, rfl, hres, htwo, h5⟩
  obtain ⟨⟨pA, cA, hvA⟩, pT, cT, hvT⟩ := htwo.shape
  obtain ⟨nA, hnA⟩ : ∃ k, k = A.length := ⟨_, rfl⟩
  obtain ⟨nT, hnT⟩ : ∃ k, k = T.length := ⟨_, rfl⟩
  rw [← hnA] at hvA
  rw [← hnT] at hvT
  subst hvA hvT
  have HRES := Lib.hid hres
  have HBDA := Lib.hid (rows_bd ⟨hres.small.1, hres.small.2.1⟩)
  have HNA := Lib.hid hnA
  have HNT := Lib.hid hnT
  have HTW := Lib.hid htwo
  have hz5 := h5.size
  have H35 := Lib.hid (H34.out.trans h5)
  have HOS5 := Lib.hid (HOS4.out.ext h5)
  obtain ⟨q, hq⟩ : ∃ q, q = isP8 P := ⟨_, rfl⟩
  have HQ := Lib.hid hq
  rw [← hq]
  have hone : nT = nA := by rw [hnA, hnT]; exact hres.one.1
  clear hres hnA hnT htwo h5 hq
  go_wp2_with fail
  refine (impl_OrderPerms_ok _ L _ ((HNL.out.ext H35.out).sii) (by omega) HLS.out).mono ?_
  rintro e w6 ⟨vO, rfl, hoO, h6⟩
  obtain ⟨pO, cO, hvO⟩ := hoO.len_shape'
  obtain ⟨O, hO⟩ : ∃ O, O = ordL L := ⟨_, rfl⟩
  rw [← hO] at hoO hvO
  obtain ⟨nO, hnO⟩ : ∃ k, k = O.length := ⟨_, rfl⟩
  rw [← hnO] at hvO
  subst hvO
  have HNO := Lib.hid hnO
  have HBDO := Lib.hid (rows_bd HOS.out)
  rw [← hO] at HBDO
  have HOO := Lib.hid hoO
  have hz6 := h6.size
  have H36 := Lib.hid (H35.out.trans h6)
  have HOS6 := Lib.hid (HOS5.out.ext h6)
  have HTW6 := Lib.hid (HTW.out.ext h6)
  clear hO hnO hoO h6
  go_wp2_with fail
  refine (impl_PopTrail_ok _ P _ (HSP3.out.ext H36.out) HPL'.out HI.out).mono ?_
  rintro e w7 ⟨vR, rfl, hoR, h7⟩
  obtain ⟨pR, cR, hvR⟩ := hoR.len_shape'
  obtain ⟨R, hR⟩ : ∃ R, R = trlL popL P := ⟨_, rfl⟩
  rw [← hR] at hoR hvR
  obtain ⟨nR, hnR⟩ : ∃ k, k = R.length := ⟨_, rfl⟩
  rw [← hnR] at hvR
  subst hvR
  have HNR := Lib.hid hnR
  have hbdR := bound_PopTrail P HPL'.out
  have HBDR := Lib.hid (rows_bd ⟨hbdR.1, hbdR.2.1⟩)
  rw [← hR] at HBDR
  have HOR := Lib.hid hoR
  have hz7 := h7.size
  have H37 := Lib.hid (H36.out.trans h7)
  have HOS7 := Lib.hid (HOS6.out.ext h7)
  have HTW7 := Lib.hid (HTW6.out.ext h7)
  have HOO7 := Lib.hid (HOO.out.ext h7)
  have HB45 : Hid (w4.heap.size ≤ w5.heap.size ∧ w5.heap.size ≤ w6.heap.size ∧ w6.heap.size ≤ w7.heap.size) := ⟨hz5, hz6, hz7⟩
  clear hR hnR hoR h7 hbdR
  go_wp2_with fail
  go_loopw [13] (fun i wr => ∃ k S', k ≤ nS ∧ i = .int .i64 ((k : Nat) : Int) ∧ Hid (OII w3.heap.size w4.heap.size wr (.slice pS nS cS) S') ∧ Hid (Len2 S S') ∧ Hid (Upd (fun j => w3.heap.size ≤ j ∧ j < w4.heap.size) w7 wr)) (fun i _ => nS - (intOf i).toNat)
  case atStart => exact ⟨0, S, Nat.zero_le _, rfl, HOS7, Lib.hid (Len2.refl _), Upd.refl _ _⟩
  case round =>
    obtain ⟨k, S', hk, rfl, hO, hL, hU⟩ := hrel
    by_cases hkn : k < nS
    · have hkI : (k : Int) < (nS : Int) := by omega
      have HKS : Hid (k < S'.length) := by show _ < _; rw [hL.out.1, ← HNS.out]; exact hkn
      obtain ⟨m, hm⟩ : ∃ m, m = (nthL S k).length := ⟨_, rfl⟩
      have HM := Lib.hid hm
      have hmb : m ≤ 10000000 := by rw [hm]; exact HBDS.out.2 k
      have hnb : nS ≤ 1000000000 := by rw [HNS.out]; exact HBDS.out.1
      clear hm
      go_wp2_with fail
      obtain ⟨wq, hwq⟩ : ∃ wq, wq = wr := ⟨_, rfl⟩
      subst hwq
      go_loopw [14] (fun j wr => ∃ q S', q ≤ m ∧ j = .int .i64 ((q : Nat) : Int) ∧ Hid (OII w3.heap.size w4.heap.size wr (.slice pS nS cS) S') ∧ Hid (Len2 S S') ∧ Hid (Upd (fun j => w3.heap.size ≤ j ∧ j < w4.heap.size) w7 wr)) (fun j _ => m - (intOf j).toNat)
      case atStart => exact ⟨0, S', Nat.zero_le _, rfl, hO, hL, hU⟩
      case round =>
        obtain ⟨r, S2, hr, rfl, hO2, hL2, hU2⟩ := hrel
        obtain ⟨bb, pu, cu, hpp, hcell, hmk⟩ := hO2.out.mark (i := k) (by rw [hL2.out.1, ← HNS.out]; exact hkn)
        rw [hL2.out.2, ← HM.out] at hcell hmk
        have HMK := Lib.hid hmk
        subst hpp
        clear hmk hO hL hU
        by_cases hrm : r < m
        · obtain ⟨bu, hpu, hBu, hHu, ⟨y, hy⟩, hf, hO3⟩ := HMK.out r hrm
          subst hpu
          have HO3 := Lib.hid (hO3 99)
          have HL3 := Lib.hid (hL2.out.set k r 99)
          have HU3 := Lib.hid (hU2.out.comp (Upd.setCell wr ⟨bu, r, none⟩ (.int .i64 99)) (D' := fun j => w3.heap.size ≤ j ∧ j < w4.heap.size) (fun _ _ h => h) (fun i hi e => by rw [show i = bu from e]; exact ⟨hBu, hHu⟩))
          have hrI : (r : Int) < (m : Int) := by omega
          clear hO3
          go_wp2_with fail
          go_roundw
          case rel => exact ⟨r + 1, _, by omega, by go_num, HO3, HL3, HU3⟩
          case measure => simp [intOf]; omega
        · obtain rfl : r = m := by omega
          go_wp2_with fail
          go_roundw
          case rel => exact ⟨k + 1, _, by omega, by go_num, hO2, hL2, hU2⟩
          case measure => simp [intOf]; omega
    · obtain rfl : k = nS := by omega
      obtain ⟨w8, hw8⟩ : ∃ x, x = wr := ⟨_, rfl⟩
      subst hw8
      have Uw8 := hU
      have hzw8 := hU.out.size
      clear hO hL hU
      have HTW8 := Lib.hid (HTW7.out.upd Uw8.out (fun j h1 h2 h => by omega))
      have HOO8 := Lib.hid (HOO7.out.upd Uw8.out (fun j h1 h2 h => by omega))
      have HOR8 := Lib.hid (HOR.out.upd Uw8.out (fun j h1 h2 h => by omega))
      have H38 := Lib.hid (H37.out.upd Uw8.out (fun j h => h.1))
      clear HOS7 HTW7 HOO7
      go_wp2_with fail
      go_loopw [15] (fun i wr => ∃ k A' T', k ≤ nA ∧ i = .int .i64 ((k : Nat) : Int) ∧ Hid (Two w4.heap.size w5.heap.size wr (.slice pA nA cA) (.slice pT nT cT) A' T') ∧ Hid (Len2 A A') ∧ Hid (Len2 T T') ∧ Hid (Upd (fun j => w4.heap.size ≤ j ∧ j < w5.heap.size) w8 wr)) (fun i _ => nA - (intOf i).toNat)
      case atStart => exact ⟨0, A, T, Nat.zero_le _, rfl, HTW8, Lib.hid (Len2.refl _), Lib.hid (Len2.refl _), Upd.refl _ _⟩
      case round =>
        obtain ⟨k, A', T', hk, rfl, hO, hL, hL', hU⟩ := hrel
        by_cases hkn : k < nA
        · have hkI : (k : Int) < (nA : Int) := by omega
          have hkI' : (k : Int) < (nT : Int) := by omega
          obtain ⟨m, hm⟩ : ∃ m, m = (nthL A k).length := ⟨_, rfl⟩
          have HM := Lib.hid hm
          have HMT : Hid (m = (nthL T k).length) := by show _ = _; rw [hm]; exact HRES.out.one.2 k
          have hmb : m ≤ 10000000 := by rw [hm]; exact HBDA.out.2 k
          have hnb : nA ≤ 1000000000 := by rw [HNA.out]; exact HBDA.out.1
          clear hm
          go_wp2_with fail
          obtain ⟨wq, hwq⟩ : ∃ wq, wq = wr := ⟨_, rfl⟩
          subst hwq
          go_loopw [16] (fun j wr => ∃ q A' T', q ≤ m ∧ j = .int .i64 ((q : Nat) : Int) ∧ Hid (Two w4.heap.size w5.heap.size wr (.slice pA nA cA) (.slice pT nT cT) A' T') ∧ Hid (Len2 A A') ∧ Hid (Len2 T T') ∧ Hid (Upd (fun j => w4.heap.size ≤ j ∧ j < w5.heap.size) w8 wr)) (fun j _ => m - (intOf j).toNat)
          case atStart => exact ⟨0, A', T', Nat.zero_le _, rfl, hO, hL, hL', hU⟩
          case round =>
            obtain ⟨r, A2, T2, hr, rfl, hO2, hL2, hL2', hU2⟩ := hrel
            have hzr := hU2.out.size
            obtain ⟨ba, bb, pu, cu, pv, cv, hpp, hpp', hcell, hmk⟩ := hO2.out.mark (by omega) (i := k) (by rw [hL2.out.1, ← HNA.out]; exact hkn) (by rw [hL2'.out.1, ← HNT.out]; omega)
            rw [hL2.out.2, hL2'.out.2, ← HM.out, ← HMT.out] at hmk
            rw [hL2.out.2, ← HM.out] at hcell
            have HMK := Lib.hid hmk
            subst hpp hpp'
            clear hmk hO hL hL' hU
            by_cases hrm : r < m
            · obtain ⟨bu, hpu, hBu, hHu, ⟨y, hy⟩, hf, hO3⟩ := HMK.out r hrm hrm
              subst hpu
              obtain ⟨hc2, bv, hpv, hBv, hHv, ⟨y2, hy2⟩, hf2, hO4⟩ := hO3 99
              subst hpv
              have HO3 := Lib.hid (hO4 98)
              have HL3 := Lib.hid (hL2.out.set k r 99)
              have HL3' := Lib.hid (hL2'.out.set k r 98)
              have HU3 := Lib.hid ((hU2.out.comp (Upd.setCell wr ⟨bu, r, none⟩ (.int .i64 99)) (D' := fun j => w4.heap.size ≤ j ∧ j < w5.heap.size) (fun _ _ h => h) (fun i hi e => by rw [show i = bu from e]; exact ⟨hBu, hHu⟩)).comp (Upd.setCell (wr.setCell ⟨bu, r, none⟩ (.int .i64 99)) ⟨bv, r, none⟩ (.int .i64 98)) (D' := fun j => w4.heap.size ≤ j ∧ j < w5.heap.size) (fun _ _ h => h) (fun i hi e => by rw [show i = bv from e]; exact ⟨hBv, hHv⟩))
              have hrI : (r : Int) < (m : Int) := by omega
              clear hO3 hO4
              go_wp2_with fail
              go_roundw
              case rel => exact ⟨r + 1, _, _, by omega, by go_num, HO3, HL3, HL3', HU3⟩
              case measure => simp [intOf]; omega
            · obtain rfl : r = m := by omega
              go_wp2_with fail
              go_roundw
              case rel => exact ⟨k + 1, _, _, by omega, by go_num, hO2, hL2, hL2', hU2⟩
              case measure => simp [intOf]; omega
        · obtain rfl : k = nA := by omega
          obtain ⟨w9, hw9⟩ : ∃ x, x = wr := ⟨_, rfl⟩
          subst hw9
          have Uw9 := hU
          have hzw9 := hU.out.size
          clear hO hL hL' hU
          have HOO9 := Lib.hid (HOO8.out.upd Uw9.out (fun j h1 h2 h => by omega))
          have HOR9 := Lib.hid (HOR8.out.upd Uw9.out (fun j h1 h2 h => by omega))
          have H39 := Lib.hid (H38.out.upd Uw9.out (fun j h => by omega))
          clear HTW8 HOO8 HOR8
          go_wp2_with fail
          go_loopw [17] (fun i wr => ∃ k S', k ≤ nO ∧ i = .int .i64 ((k : Nat) : Int) ∧ Hid (OII w5.heap.size w6.heap.size wr (.slice pO nO cO) S') ∧ Hid (Len2 O S') ∧ Hid (Upd (fun j => w5.heap.size ≤ j ∧ j < w6.heap.size) w9 wr)) (fun i _ => nO - (intOf i).toNat)
          case atStart => exact ⟨0, O, Nat.zero_le _, rfl, HOO9, Lib.hid (Len2.refl _), Upd.refl _ _⟩
          case round =>
            obtain ⟨k, S', hk, rfl, hO, hL, hU⟩ := hrel
            by_cases hkn : k < nO
            · have hkI : (k : Int) < (nO : Int) := by omega
              have HKS : Hid (k < S'.length) := by show _ < _; rw [hL.out.1, ← HNO.out]; exact hkn
              obtain ⟨m, hm⟩ : ∃ m, m = (nthL O k).length := ⟨_, rfl⟩
              have HM := Lib.hid hm
              have hmb : m ≤ 10000000 := by rw [hm]; exact HBDO.out.2 k
              have hnb : nO ≤ 1000000000 := by rw [HNO.out]; exact HBDO.out.1
              clear hm
              go_wp2_with fail
              obtain ⟨wq, hwq⟩ : ∃ wq, wq = wr := ⟨_, rfl⟩
              subst hwq
              go_loopw [18] (fun j wr => ∃ q S', q ≤ m ∧ j = .int .i64 ((q : Nat) : Int) ∧ Hid (OII w5.heap.size w6.heap.size wr (.slice pO nO cO) S') ∧ Hid (Len2 O S') ∧ Hid (Upd (fun j => w5.heap.size ≤ j ∧ j < w6.heap.size) w9 wr)) (fun j _ => m - (intOf j).toNat)
              case atStart => exact ⟨0, S', Nat.zero_le _, rfl, hO, hL, hU⟩
              case round =>
                obtain ⟨r, S2, hr, rfl, hO2, hL2, hU2⟩ := hrel
                obtain ⟨bb, pu, cu, hpp, hcell, hmk⟩ := hO2.out.mark (i := k) (by rw [hL2.out.1, ← HNO.out]; exact hkn)
                rw [hL2.out.2, ← HM.out] at hcell hmk
                have HMK := Lib.hid hmk
                subst hpp
                clear hmk hO hL hU
                by_cases hrm : r < m
                · obtain ⟨bu, hpu, hBu, hHu, ⟨y, hy⟩, hf, hO3⟩ := HMK.out r hrm
                  subst hpu
                  have HO3 := Lib.hid (hO3 99)
                  have HL3 := Lib.hid (hL2.out.set k r 99)
                  have HU3 := Lib.hid (hU2.out.comp (Upd.setCell wr ⟨bu, r, none⟩ (.int .i64 99)) (D' := fun j => w5.heap.size ≤ j ∧ j < w6.heap.size) (fun _ _ h => h) (fun i hi e => by rw [show i = bu from e]; exact ⟨hBu, hHu⟩))
                  have hrI : (r : Int) < (m : Int) := by omega
                  clear hO3
                  go_wp2_with fail
                  go_roundw
                  case rel => exact ⟨r + 1, _, by omega, by go_num, HO3, HL3, HU3⟩
                  case measure => simp [intOf]; omega
                · obtain rfl : r = m := by omega
                  go_wp2_with fail
                  go_roundw
                  case rel => exact ⟨k + 1, _, by omega, by go_num, hO2, hL2, hU2⟩
                  case measure => simp [intOf]; omega
            · obtain rfl : k = nO := by omega
              obtain ⟨w10, hw10⟩ : ∃ x, x = wr := ⟨_, rfl⟩
              subst hw10
              have Uw10 := hU
              have hzw10 := hU.out.size
              clear hO hL hU
              have HOR10 := Lib.hid (HOR9.out.upd Uw10.out (fun j h1 h2 h => by omega))
              have H310 := Lib.hid (H39.out.upd Uw10.out (fun j h => by omega))
              clear HOO9 HOR9
              go_wp2_with fail
              go_loopw [19] (fun i wr => ∃ k S', k ≤ nR ∧ i = .int .i64 ((k : Nat) : Int) ∧ Hid (OII w6.heap.size w7.heap.size wr (.slice pR nR cR) S') ∧ Hid (Len2 R S') ∧ Hid (Upd (fun j => w6.heap.size ≤ j ∧ j < w7.heap.size) w10 wr)) (fun i _ => nR - (intOf i).toNat)
              case atStart => exact ⟨0, R, Nat.zero_le _, rfl, HOR10, Lib.hid (Len2.refl _), Upd.refl _ _⟩
              case round =>
                obtain ⟨k, S', hk, rfl, hO, hL, hU⟩ := hrel
                by_cases hkn : k < nR
                · have hkI : (k : Int) < (nR : Int) := by omega
                  have HKS : Hid (k < S'.length) := by show _ < _; rw [hL.out.1, ← HNR.out]; exact hkn
                  obtain ⟨m, hm⟩ : ∃ m, m = (nthL R k).length := ⟨_, rfl⟩
                  have HM := Lib.hid hm
                  have hmb : m ≤ 10000000 := by rw [hm]; exact HBDR.out.2 k
                  have hnb : nR ≤ 1000000000 := by rw [HNR.out]; exact HBDR.out.1
                  clear hm
                  go_wp2_with fail
                  obtain ⟨wq, hwq⟩ : ∃ wq, wq = wr := ⟨_, rfl⟩
                  subst hwq
                  go_loopw [20] (fun j wr => ∃ q S', q ≤ m ∧ j = .int .i64 ((q : Nat) : Int) ∧ Hid (OII w6.heap.size w7.heap.size wr (.slice pR nR cR) S') ∧ Hid (Len2 R S') ∧ Hid (Upd (fun j => w6.heap.size ≤ j ∧ j < w7.heap.size) w10 wr)) (fun j _ => m - (intOf j).toNat)
                  case atStart => exact ⟨0, S', Nat.zero_le _, rfl, hO, hL, hU⟩
                  case round =>
                    obtain ⟨r, S2, hr, rfl, hO2, hL2, hU2⟩ := hrel
                    obtain ⟨bb, pu, cu, hpp, hcell, hmk⟩ := hO2.out.mark (i := k) (by rw [hL2.out.1, ← HNR.out]; exact hkn)
                    rw [hL2.out.2, ← HM.out] at hcell hmk
                    have HMK := Lib.hid hmk
                    subst hpp
                    clear hmk hO hL hU
                    by_cases hrm : r < m
                    · obtain ⟨bu, hpu, hBu, hHu, ⟨y, hy⟩, hf, hO3⟩ := HMK.out r hrm
                      subst hpu
                      have HO3 := Lib.hid (hO3 99)
                      have HL3 := Lib.hid (hL2.out.set k r 99)
                      have HU3 := Lib.hid (hU2.out.comp (Upd.setCell wr ⟨bu, r, none⟩ (.int .i64 99)) (D' := fun j => w6.heap.size ≤ j ∧ j < w7.heap.size) (fun _ _ h => h) (fun i hi e => by rw [show i = bu from e]; exact ⟨hBu, hHu⟩))
                      have hrI : (r : Int) < (m : Int) := by omega
                      clear hO3
                      go_wp2_with fail
                      go_roundw
                      case rel => exact ⟨r + 1, _, by omega, by go_num, HO3, HL3, HU3⟩
                      case measure => simp [intOf]; omega
                    · obtain rfl : r = m := by omega
                      go_wp2_with fail
                      go_roundw
                      case rel => exact ⟨k + 1, _, by omega, by go_num, hO2, hL2, hU2⟩
                      case measure => simp [intOf]; omega
                · obtain rfl : k = nR := by omega
                  obtain ⟨w11, hw11⟩ : ∃ x, x = wr := ⟨_, rfl⟩
                  subst hw11
                  have Uw11 := hU
                  have hzw11 := hU.out.size
                  clear hO hL hU
                  have H311 := Lib.hid (H310.out.upd Uw11.out (fun j h => by omega))
                  clear HOR10
                  have HSP11 := Lib.hid (HSP3.out.ext H311.out)
                  have HSB11 := Lib.hid (HSB3.out.ext H311.out)
                  have HNL11 := Lib.hid (HNL.out.ext H311.out)
                  have E11 := Lib.hid (E3.out.trans H311.out)
                  go_wp2_with fail
                  refine (impl_InsertPerm_ok _ P _ HSP11.out).mono ?_
                  rintro e w12 ⟨vA2, A2, vT2, T2, rfl, hres2, htwo2, h12⟩
                  rw [← HQ.out]
                  have HRES2 := Lib.hid hres2
                  have HTA2 := Lib.hid htwo2.siiA
                  have HTB2 := Lib.hid htwo2.siiB
                  have H12' := Lib.hid h12
                  clear hres2 htwo2 h12
                  go_wp2_with fail
                  refine (spec_InsertPerm_ok _ P _ (HSP11.out.ext H12'.out) (by rw [← HNP.out]; omega)).mono ?_
                  rintro e w13 ⟨vA3, A3, vT3, T3, rfl, hres3, hoA3, hoT3, h13⟩
                  obtain ⟨rfl, rfl⟩ := HRES2.out.det hres3
                  rw [← HQ.out]
                  have HA3 := Lib.hid hoA3.sii
                  have HT3 := Lib.hid hoT3.sii
                  have HTA3 := Lib.hid (HTA2.out.ext h13)
                  have HTB3 := Lib.hid (HTB2.out.ext h13)
                  have HIS := Lib.hid HRES2.out.small
                  have H1113 := Lib.hid (H12'.out.trans h13)
                  have HSP13 := Lib.hid (HSP11.out.ext H1113.out)
                  have HSB13 := Lib.hid (HSB11.out.ext H1113.out)
                  have HNL13 := Lib.hid (HNL11.out.ext H1113.out)
                  have E13 := Lib.hid (E11.out.trans H1113.out)
                  clear hres3 hoA3 hoT3 h13
                  go_wp2_with fail
                  refine (sameInts_same _ _ P _ HSP13.out HSB13.out (by have := HPL'.out; omega)).mono ?_
                  rintro e w14 ⟨rfl, q14⟩
                  have HQ14 := Lib.hid q14.ext
                  clear q14
                  go_wp2_with fail
                  refine (sameLists_same _ _ A2 _ (HTA3.out.ext HQ14.out) (HA3.out.ext HQ14.out) HIS.out.1 HIS.out.2.1).mono ?_
                  rintro e w15 ⟨rfl, q15⟩
                  have HQ15 := Lib.hid (HQ14.out.trans q15.ext)
                  clear q15
                  go_wp2_with fail
                  refine (sameLists_same _ _ T2 _ (HTB3.out.ext HQ15.out) (HT3.out.ext HQ15.out) HIS.out.2.2.1 HIS.out.2.2.2).mono ?_
                  rintro e w16 ⟨rfl, q16⟩
                  have HQ16 := Lib.hid (HQ15.out.trans q16.ext)
                  have HSP16 := Lib.hid (HSP13.out.ext HQ16.out)
                  have HNL16 := Lib.hid (HNL13.out.ext HQ16.out)
                  have E16 := Lib.hid (E13.out.trans HQ16.out)
                  clear q16
                  go_wp2_with fail
                  refine (impl_SumParts_ok _ P _ HSP16.out).mono ?_
                  rintro e w17 ⟨v17, rfl, ho17, h17⟩
                  have HO17 := Lib.hid ho17.sii
                  have H17 := Lib.hid h17
                  clear ho17 h17
                  go_wp2_with fail
                  refine (spec_SumParts_ok _ P _ (HSP16.out.ext H17.out) HPL'.out).mono ?_
                  rintro e w18 ⟨v18, rfl, ho18, h18⟩
                  have HO18 := Lib.hid ho18.sii
                  have HO17' := Lib.hid (HO17.out.ext h18)
                  have H18 := Lib.hid (H17.out.trans h18)
                  clear ho18 h18
                  go_wp2_with fail
                  refine (sameLists_same _ _ (sumL P) _ HO17'.out HO18.out (by have := sumL_len P; omega) (fun x hx => by have := sumL_each hx; omega)).mono ?_
                  rintro e w19 ⟨rfl, q19⟩
                  have H19 := Lib.hid (H18.out.trans q19.ext)
                  have HSP19 := Lib.hid (HSP16.out.ext H19.out)
                  have HNL19 := Lib.hid (HNL16.out.ext H19.out)
                  have E19 := Lib.hid (E16.out.trans H19.out)
                  clear q19
                  go_wp2_with fail
                  refine (impl_OrderPerms_ok _ L _ HNL19.out.sii (by omega) HLS.out).mono ?_
                  rintro e w20 ⟨v20, rfl, ho20, h20⟩
                  have HO20 := Lib.hid ho20.sii
                  have H20 := Lib.hid h20
                  clear ho20 h20
                  go_wp2_with fail
                  refine (spec_OrderPerms_ok _ L _ (HNL19.out.ext H20.out) (by omega) (fun x hx => by have := HL9.out x hx; omega)).mono ?_
                  rintro e w21 ⟨v21, rfl, ho21, h21⟩
                  have HO21 := Lib.hid ho21.sii
                  have HO20' := Lib.hid (HO20.out.ext h21)
                  have H21 := Lib.hid (H20.out.trans h21)
                  clear ho21 h21
                  go_wp2_with fail
                  refine (sameLists_same _ _ (ordL L) _ HO20'.out HO21.out HOS.out.1 HOS.out.2).mono ?_
                  rintro e w22 ⟨rfl, q22⟩
                  have H22 := Lib.hid (H21.out.trans q22.ext)
                  have HSP22 := Lib.hid (HSP19.out.ext H22.out)
                  have E22 := Lib.hid (E19.out.trans H22.out)
                  clear q22
                  go_wp2_with fail
                  refine (impl_PopTrail_ok _ P _ HSP22.out HPL'.out HI.out).mono ?_
                  rintro e w23 ⟨v23, rfl, ho23, h23⟩
                  have HO23 := Lib.hid ho23.sii
                  have H23 := Lib.hid h23
                  clear ho23 h23
                  go_wp2_with fail
                  refine (spec_PopTrail_ok _ P _ (HSP22.out.ext H23.out) HPL'.out HI.out).mono ?_
                  rintro e w24 ⟨v24, rfl, ho24, h24⟩
                  have HO24 := Lib.hid ho24.sii
                  have HO23' := Lib.hid (HO23.out.ext h24)
                  have H24 := Lib.hid (H23.out.trans h24)
                  have HBT := Lib.hid (bound_PopTrail P HPL'.out)
                  clear ho24 h24
                  go_wp2_with fail
                  refine (sameLists_same _ _ (trlL popL P) _ HO23'.out HO24.out HBT.out.1 HBT.out.2.1).mono ?_
                  rintro e w25 ⟨rfl, q25⟩
                  have E25 := Lib.hid ((E22.out.trans H24.out).trans q25.ext)
                  clear q25
                  go_wp2_with fail
                  go_ret
                  exact ⟨rfl, E25.out⟩
end Go.Proofs.Ytognbiodplodhaa
