/- The specification's InsertPerm: two tableaux. Conditions: a slice that can be read. -/
import Derived.Test.YtognbiodplodhaaInsT
import Derived.Test.YtognbiodplodhaaGreat
import Derived.OwnWalk
import Derived.Deep.Cut
import Derived.Deep.CutRange
namespace Go.Proofs.Ytognbiodplodhaa
open Go.RowKit

theorem grow_t {L : List (List Int)} {r : Nat} {x : Int} (h : r ≠ L.length) : grow L r x = L.set r (nthL L r ++ [x]) := by unfold grow; rw [if_neg h]
theorem grow_f {L : List (List Int)} {r : Nat} {x : Int} (h : r = L.length) : grow L r x = (L ++ [[]]).set r (nthL (L ++ [[]]) r ++ [x]) := by
  subst h
  unfold grow; rw [if_pos rfl]
  have e : nthL (L ++ [[]]) L.length = [] := by simp [nthL]
  rw [e, List.set_append_right _ _ (Nat.le_refl _), Nat.sub_self]
  rfl
/-- what the insertion hands out. -/
def InsPost (p : List Int) (w : World) (e : Ending) (w' : World) : Prop := ∃ ba ca va A bb cb vb T na nb, e = .returned (.tuple #[.slice (some ⟨ba, 0, none⟩) na ca, .slice (some ⟨bb, 0, none⟩) nb cb]) ∧ na = A.length ∧ nb = T.length ∧ Ins p p.length A T ∧ TT w.heap.size w' ba ca va A bb cb vb T ∧ Ext w w'
theorem InsPost.of {p : List Int} {w w' : World} {e : Ending} (ba ca : Nat) (va : List Value) (A : List (List Int)) (bb cb : Nat) (vb : List Value) (T : List (List Int)) (na nb : Nat) (h1 : e = .returned (.tuple #[.slice (some ⟨ba, 0, none⟩) na ca, .slice (some ⟨bb, 0, none⟩) nb cb])) (h2 : na = A.length) (h3 : nb = T.length) (h4 : Ins p p.length A T) (h5 : TT w.heap.size w' ba ca va A bb cb vb T) (h6 : Ext w w') : InsPost p w e w' :=
  ⟨ba, ca, va, A, bb, cb, vb, T, na, nb, h1, h2, h3, h4, h5, h6⟩
set_option maxHeartbeats 8000000 in
theorem l19Insert_ok (v : Value) (p : List Int) (w : World) (h : SI w v p) (hp : IsP p) (h8 : p.length ≤ 8) :
    Calls Try.prog 69 #[v] w (InsPost p w) := by
  have h00 := h
  obtain ⟨a, cap, rfl, hri⟩ := h00.elim
  have HRI := Lib.hid hri
  have HP := Lib.hid hp
  have hT0 : Hid (TT w.heap.size ((w.alloc (.cells #[] 24)).alloc (.cells #[] 24)) w.heap.size 0 [] [] (w.heap.size + 1) 0 [] []) := by
    have r1 := Row.new 24 w [] (by simp)
    have r2 := Row.new 24 (w.alloc (.cells #[] 24)) [] (by simp)
    have e : (w.alloc (.cells #[] 24)).heap.size = w.heap.size + 1 := by simp
    rw [e] at r2
    exact ⟨r1.ext (Upd.alloc (w.alloc (.cells #[] 24)) _ _), r2, Els.nil _ _ _, Els.nil _ _ _, fun k h1 => by obtain ⟨i, hi, _⟩ := h1; simp at hi, by omega, by omega, by omega⟩
  have hE0 : Hid (Ext w ((w.alloc (.cells #[] 24)).alloc (.cells #[] 24))) := (show Ext w (w.alloc (.cells #[] 24)) from Upd.alloc _ _ _).alloc _
  clear h h00 hri hp
  go_enter Try.func69, Try.ntmps69
  go_wp2_with fail
  go_loopw [4, 5, 6] (fun oa ob i wr => ∃ k : Nat, k ≤ p.length ∧ i = .int .i64 k ∧ (∃ ba ca na va A bb cb nb vb T, oa = .slice (some ⟨ba, 0, none⟩) na ca ∧ ob = .slice (some ⟨bb, 0, none⟩) nb cb ∧ Hid (na = A.length) ∧ Hid (nb = T.length) ∧ Hid (Ins p k A T) ∧ Hid (TT w.heap.size wr ba ca va A bb cb vb T)) ∧ Hid (Ext w wr)) (fun _ _ i _ => p.length - (intOf i).toNat)
  case atStart => exact ⟨0, Nat.zero_le _, rfl, ⟨_, 0, 0, [], [], _, 0, 0, [], [], rfl, rfl, Lib.hid rfl, Lib.hid rfl, Ins.zero, hT0⟩, hE0⟩
  case round =>
    obtain ⟨k, hk, rfl, ⟨ba, ca, na, va, A, bb, cb, nb, vb, T, rfl, rfl, hna, hnb, hI, hT⟩, he⟩ := hrel
    clear hT0 hE0
    have hwz := he.out.size
    by_cases hlt : k < p.length
    · obtain ⟨b1, off1, rfl, hc⟩ := (HRI.out.ext he.out).get hlt
      have hcell := hc k hlt
      have HAL := Lib.hid hI.out.len
      obtain ⟨x, hx⟩ : ∃ x, x = nth p k := ⟨_, rfl⟩
      have HX := Lib.hid hx
      rw [← hx] at hcell
      have hput := l19Put_ok w.heap.size ba ca na va A x wr hT.out.ra hT.out.ea hna.out hwz (by have := HAL.out.2; omega) (hI.out.ne (by omega) h8)
      have HPUT := Lib.hid hput
      clear hx hc hput
      go_wp2_with fail
      refine HPUT.out.mono ?_
      rintro e w5 ⟨r, ba5, ca5, na5, va5, rfl, hins, hna5, hra5, hea5, how5, hb5, hu5⟩
      have hz5 := hu5.size
      have HT5 := Lib.hid (hT.out.stepA hra5 hea5 how5 hb5 hu5 hwz)
      have HE5 := Lib.hid (he.out.upd hu5 hT.out.lowA)
      have HINS := Lib.hid hins
      have HNA5 := Lib.hid hna5
      have hrT : r ≤ nb := by rw [hnb.out, ← HAL.out.1]; exact hins.1
      have hnb8 : nb ≤ 8 := by have := hnb.out; have := HAL.out; omega
      clear hins hna5 hra5 hea5 how5 hb5 hu5 hT he
      go_upto_if 28 with fail
      go_cut [5] from 25 to 32 (fun v wx => ∃ bb6 cb6 nb6 vb6 T6, v = .slice (some ⟨bb6, 0, none⟩) nb6 cb6 ∧ Hid (nb6 = T6.length) ∧ Hid (TT w.heap.size wx ba5 ca5 va5 (insA A x r) bb6 cb6 vb6 T6) ∧ Hid (Ext w wx) ∧ Hid (r < T6.length) ∧ Hid (T6.set r (nthL T6 r ++ [(k : Int) + 1]) = grow T r ((k : Int) + 1)) ∧ nb6 ≤ 9 ∧ Hid (∀ i, i < T6.length → (nthL T6 i).length ≤ 8))
      case first =>
        have HBD := Lib.hid (hI.out.bd (by omega))
        by_cases hrn : r = nb
        · have g1 : ((r : Int) == (nb : Int)) = true := by rw [beq_iff_eq]; omega
          have HRT : Hid (r = T.length) := by show _ = _; rw [hrn]; exact hnb.out
          have hA : Ext w5 (w5.alloc (.cells #[] 3)) := Upd.alloc _ _ _
          have HTA := Lib.hid (HT5.out.ext hA)
          have HEA := Lib.hid (HE5.out.trans hA)
          have HEB := Lib.hid (HT5.out.eb.ext hA)
          have HA0 := Lib.hid hA
          have HI0 := Lib.hid (Row.new 3 w5 [] (by simp))
          have hws : (w5.alloc (.cells #[] 3)).heap.size = w5.heap.size + 1 := by simp
          have hvb : Hid (nb = vb.length) := by show _ = _; rw [HT5.out.eb.len]; exact hnb.out
          have hvl : Hid (vb.length ≤ 1000000000) := by show _ ≤ _; rw [← hvb.out]; omega
          have hbl := HT5.out.rb.lt
          clear hrn hA
          go_wp2_with (at_builtin; go_loud (refine wpl_appv (w := w5.alloc (.cells #[] 3)) rfl (.tmp 29) (.tmp 31) rfl bb cb nb vb (some ⟨w5.heap.size, 0, none⟩) 0 0 rfl HTA.out.rb hvb.out (by rw [hws]; rfl) hvl.out ?_); intro b9 c9 w9 hr9 hb9 hu9)
          have hz9 := hu9.size
          rw [hws] at hz9 hb9
          have hEa := HEB.out.upd hu9 (fun i k hi hk e => (HEB.out.el i hi).offOuter HTA.out.rb (by rw [hk, e]))
          have hIr : Row 3 w9 w5.heap.size 0 (vals []) := HI0.out.upd hu9 (by omega)
          have hI9 : OI w.heap.size w9.heap.size w9 (.slice (some ⟨w5.heap.size, 0, none⟩) 0 0) [] := OI.row hIr (by omega) rfl
          have hE9 := hEa.push hI9 (by omega) (fun q hq => by simp [Value.ownBlock] at hq; omega)
          have HTT := Lib.hid ((HT5.out.swap.stepA hr9 hE9 (fun i q hi hq => by
            rcases Nat.lt_or_ge i vb.length with e | e
            · rw [nthV_append_lt e] at hq; exact .inl ⟨e, hq⟩
            · obtain rfl : i = vb.length := by simp at hi; omega
              rw [nthV_append_last] at hq
              simp [Value.ownBlock] at hq
              exact .inr (by omega)) (by rcases hb9 with e | e <;> omega) ((Ext.toUpd HA0.out _).trans (hu9.mono (fun i _ e => .inl e))) (by omega)).swap)
          have HE9 := Lib.hid (HEA.out.upd1 hu9 HTA.out.lb)
          have HN9 : Hid (nb + 1 = (T ++ [[]]).length) := by show _ = _; rw [List.length_append, ← hnb.out]; rfl
          have HR9 : Hid (r < (T ++ [[]]).length) := by show _ < _; rw [List.length_append, HRT.out]; simp
          have HG9 : Hid ((T ++ [[]]).set r (nthL (T ++ [[]]) r ++ [(k : Int) + 1]) = grow T r ((k : Int) + 1)) := (grow_f HRT.out).symm
          have HB9 : Hid (∀ i, i < (T ++ [[]]).length → (nthL (T ++ [[]]) i).length ≤ 8) := fun i hi => by
            rcases Nat.lt_or_ge i T.length with e | e
            · rw [nthL_append_lt e]; exact HBD.out i e
            · obtain rfl : i = T.length := by simp at hi; omega
              simp [nthL]
          clear hr9 hu9 hEa hIr hI9 hE9
          go_meet
          case rel => exact ⟨b9, c9, nb + 1, _, _, rfl, HN9, HTT, HE9, HR9, HG9, by omega, HB9⟩
        · have g1 : ((r : Int) == (nb : Int)) = false := by rw [beq_eq_false_iff_ne]; omega
          have HG : Hid (T.set r (nthL T r ++ [(k : Int) + 1]) = grow T r ((k : Int) + 1)) := (grow_t (by rw [← hnb.out]; exact hrn)).symm
          have HRL : Hid (r < T.length) := by show _ < _; rw [← hnb.out]; omega
          clear hrn
          go_wp2_with fail
          go_meet
          case rel => exact ⟨bb, cb, nb, vb, T, rfl, hnb, HT5, HE5, HRL, HG, by omega, HBD⟩
      case rest =>
        obtain ⟨bb6, cb6, nb6, vb6, T6, rfl, hnb6, hT6, hE6, hrl6, hG6, hnb9, hbd6⟩ := hcut
        obtain ⟨w6, hw6⟩ : ∃ w6, w6 = wc := ⟨_, rfl⟩
        subst hw6
        have hwz6 := hE6.out.size
        obtain ⟨row, hrow⟩ : ∃ row, row = nthL T6 r := ⟨_, rfl⟩
        have hoi := hT6.out.eb.el r hrl6.out
        have hrb := hbd6.out r hrl6.out
        rw [← hrow] at hoi hrb
        have HROW := Lib.hid hrow
        obtain ⟨pu, cu, hnv⟩ := hoi.shape
        rw [hnv] at hoi
        have HNV := Lib.hid hnv
        have HOI := Lib.hid hoi
        have hvl : Hid (r < vb6.length) := by show _ < _; rw [hT6.out.eb.len]; exact hrl6.out
        have hcell := hT6.out.rb.cell (nthV_get hvl.out)
        rw [hnv] at hcell
        have hrI : (r : Int) < (nb6 : Int) := by have := hrl6.out; have := hnb6.out; omega
        have hrwl : Hid (row.length ≤ 1000000000) := by show _ ≤ _; omega
        have wk : IntKind.i64.wrap ((k : Int) + 1) = (k : Int) + 1 := IntWalk.i64_in _ (by omega)
        clear hrow hoi hrb hnv HT5 HE5
        go_wp2_with (at_builtin; go_loud (refine wpl_app1T rfl (.tmp 38) (.tmp 41) rfl w.heap.size (.slice pu row.length cu) row ((k : Int) + 1) rfl HOI.out hwz6 _ rfl rfl hrwl.out ?_); intro g8 c8 w8 hr8 hg8 hg8' hu8; have hR8 := hT6.out.rb.upd hu8 (fun e => HOI.out.offOuter hT6.out.rb e); have d0 := hR8.cell (nthV_get hvl.out); have f0 := hR8.free r none; have HR8 := Lib.hid hR8; have HI8 := Lib.hid hr8; have HU8 := Lib.hid hu8; have HG8 := Lib.hid hg8'; have hz8 := hu8.size; clear hR8 hr8 hu8 hg8')
        have hGG : Els w.heap.size w8.heap.size w8 (vb6.set r (.slice (some ⟨g8, 0, none⟩) (row ++ [(k : Int) + 1]).length c8)) (T6.set r (row ++ [(k : Int) + 1])) := hT6.out.eb.grownT hrl6.out (Nat.le_refl _) (by rw [HNV.out]; exact HU8.out) HI8.out hg8 (by rw [HNV.out]; exact HG8.out)
        rw [HROW.out, hG6.out, ← HROW.out, show (row ++ [(k : Int) + 1]).length = row.length + 1 by simp] at hGG
        have hR9 := HR8.out.set r (.slice (some ⟨g8, 0, none⟩) (row.length + 1) c8)
        have hE9 := (hGG.upd (Upd.setCell w8 ⟨bb6, r, none⟩ (.slice (some ⟨g8, 0, none⟩) (row.length + 1) c8)) (fun i k hi hk e => (hGG.el i hi).offOuter HR8.out (by rw [hk, e]))).mono (Nat.le_refl _) (show _ ≤ (w8.setCell ⟨bb6, r, none⟩ (.slice (some ⟨g8, 0, none⟩) (row.length + 1) c8)).heap.size by simp)
        have hU9 : Upd (fun k => k = bb6 ∨ ∃ i, i < vb6.length ∧ (nthV vb6 i).ownBlock = some k) w6 (w8.setCell ⟨bb6, r, none⟩ (.slice (some ⟨g8, 0, none⟩) (row.length + 1) c8)) :=
          HU8.out.comp (Upd.setCell w8 ⟨bb6, r, none⟩ _) (fun i hi e => .inr ⟨r, hvl.out, by rw [HNV.out]; exact e⟩) (fun i hi e => .inl e)
        have HT9 := Lib.hid ((hT6.out.swap.stepA hR9 hE9 (fun i q hi hq => by
          have hi' : i < vb6.length := by simpa using hi
          by_cases e : r = i
          · subst e
            rw [nthV_set_same _ hi'] at hq
            have e2 : g8 = q := by simpa [Value.ownBlock] using hq
            subst e2
            rcases HG8.out with e3 | e3
            · exact .inl ⟨hi', by rw [HNV.out]; exact e3⟩
            · exact .inr e3
          · rw [nthV_set_other _ e] at hq
            exact .inl ⟨hi', hq⟩) (.inl rfl) hU9 hwz6).swap)
        have HE9 := Lib.hid (hE6.out.upd hU9 hT6.out.swap.lowA)
        have HN9 : Hid (nb6 = (grow T r ((k : Int) + 1)).length) := by show _ = _; rw [← hG6.out, List.length_set]; exact hnb6.out
        have HNA : Hid (na5 = (insA A x r).length) := HNA5
        have HIN : Hid (Ins p (k + 1) (insA A x r) (grow T r ((k : Int) + 1))) := by
          show Ins _ _ _ _
          have h1 := HINS.out
          rw [HX.out] at h1 ⊢
          exact Ins.succ hI.out h1
        clear hGG hR9 hE9 hU9 d0 f0 hcell
        go_roundw
        case rel => exact ⟨k + 1, by omega, by go_num, ⟨ba5, ca5, na5, va5, insA A x r, bb6, cb6, nb6, _, grow T r ((k : Int) + 1), rfl, rfl, HNA, HN9, HIN, HT9⟩, HE9⟩
        case measure => simp [intOf]; omega
    · obtain rfl : k = p.length := by omega
      go_wp2_with fail
      go_ret2
      exact InsPost.of ba ca va A bb cb vb T na nb rfl hna.out hnb.out hI.out hT.out he.out
end Go.Proofs.Ytognbiodplodhaa
