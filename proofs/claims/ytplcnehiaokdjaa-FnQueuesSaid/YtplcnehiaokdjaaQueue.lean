/- Contracts of QueuePlan and CountQueues, the program's and the reference's. Conditions: lengths below a bound. -/
import Derived.Test.YtplcnehiaokdjaaRow3
import Derived.Test.YtplcnehiaokdjaaBase2
import Derived.Test.YtplcnehiaokdjaaSort
namespace Go.Proofs.Ytplcnehiaokdjaa
open Go.RowKit

def qp (E : List Int) (v : Int) : Nat := E.findIdx fun e => decide (e ≤ v)
theorem qp_le (E : List Int) (v : Int) : qp E v ≤ E.length := List.findIdx_le_length
theorem qp_lt {E : List Int} {v : Int} {q : Nat} (h : q < qp E v) : q < E.length ∧ v < nth E q := by
  have h1 : q < E.length := by have := qp_le E v; omega
  have h2 := List.not_of_lt_findIdx h
  refine ⟨h1, ?_⟩
  rw [nth_get h1]
  simp at h2
  omega
theorem qp_at {E : List Int} {v : Int} (h : qp E v < E.length) : nth E (qp E v) ≤ v := by
  have h2 := List.findIdx_getElem (w := h)
  rw [nth_get h]
  show E[E.findIdx fun e => decide (e ≤ v)] ≤ v
  exact of_decide_eq_true h2
def qE (E : List Int) (v : Int) : List Int := if qp E v = E.length then E ++ [v] else E.set (qp E v) v
def qSt (xs : List Int) : Nat → List Int × List Int
  | 0 => ([], [])
  | k + 1 => (qE (qSt xs k).1 (nth xs k), (qSt xs k).2 ++ [(qp (qSt xs k).1 (nth xs k) : Int)])
theorem qE_len (E : List Int) (v : Int) : (qE E v).length ≤ E.length + 1 := by unfold qE; split <;> simp
theorem qSt_len (xs : List Int) (k : Nat) : (qSt xs k).1.length ≤ k ∧ (qSt xs k).2.length = k := by
  induction k with
  | zero => simp [qSt]
  | succ k ih => have := qE_len (qSt xs k).1 (nth xs k); simp [qSt]; omega
def planL (xs : List Int) : List Int := (qSt xs xs.length).2
def qpL (xs : List Int) : List Int := bif isP8 xs then planL xs else []
theorem planL_len (xs : List Int) : (planL xs).length = xs.length := (qSt_len xs _).2
theorem bound_QueuePlan (xs : List Int) (_h : xs.length ≤ 1048576) : (qpL xs).length ≤ 1048576 := by
  unfold qpL
  cases isP8 xs
  · simp
  · simp [planL_len]; omega
theorem plan_bd (xs : List Int) : ∀ k, ∀ x ∈ (qSt xs k).2, 0 ≤ x ∧ x < k := by
  intro k
  induction k with
  | zero => intro x h; simp [qSt] at h
  | succ k ih =>
    intro x h
    simp only [qSt, List.mem_append, List.mem_singleton] at h
    rcases h with h | h
    · have := ih x h; omega
    · have := qp_le (qSt xs k).1 (nth xs k)
      have := (qSt_len xs k).1
      omega
theorem planL_bd (xs : List Int) : ∀ x ∈ planL xs, 0 ≤ x ∧ x < xs.length := plan_bd xs _

/-- the ends of the queues in a row of 8, unused ones 0. -/
def padE (E : List Int) : List Int := E ++ List.replicate (8 - E.length) 0
theorem padE_len {E : List Int} (h : E.length ≤ 8) : (padE E).length = 8 := by simp [padE]; omega
theorem padE_lo {E : List Int} {q : Nat} (h : q < E.length) : nth (padE E) q = nth E q := by simp [nth, padE, List.getElem?_append, h]
theorem padE_hi {E : List Int} {q : Nat} (h : E.length ≤ q) (h8 : q < 8) : nth (padE E) q = 0 := by
  have : q - E.length < 8 - E.length := by omega
  simp [nth, padE, List.getElem?_append, show ¬ q < E.length by omega, this]
theorem padE_set {E : List Int} {v : Int} (h : E.length < 8) : (padE E).set (qp E v) v = padE (qE E v) := by
  have hq := qp_le E v
  unfold qE
  split
  · next e =>
    rw [e]
    unfold padE
    rw [List.set_append, if_neg (by omega), Nat.sub_self]
    have : 8 - E.length = (8 - (E ++ [v]).length) + 1 := by simp; omega
    rw [this, List.replicate_succ, List.set_cons_zero, List.append_assoc]; rfl
  · next e =>
    unfold padE
    rw [List.set_append, if_pos (by omega), List.length_set]

set_option maxHeartbeats 2000000 in
theorem queuePlan_ok (v : Value) (xs : List Int) (w : World) (h : SI w v xs) (h8 : xs.length ≤ 8) (hpos : ∀ x ∈ xs, 1 ≤ x) :
    Calls Try.prog 40 #[v] w fun e w' => ∃ b c, e = .returned (.slice (some ⟨b, 0, none⟩) xs.length c) ∧ w.heap.size ≤ b ∧ Row 3 w' b c (vals (planL xs)) ∧ Ext w w' := by
  obtain ⟨a, cap, rfl, hri⟩ := h.elim
  have HPOS := Lib.hid hpos
  have hr0 : Row 57 (w.alloc (.cells #[.int .i64 0, .int .i64 0, .int .i64 0, .int .i64 0, .int .i64 0, .int .i64 0, .int .i64 0, .int .i64 0] 57)) w.heap.size 8 (vals (padE [])) := Row.new 57 w (vals (padE [])) (by simp [padE]; unfold maxLen; omega)
  have hn0 := Row.new 3 (w.alloc (.cells #[.int .i64 0, .int .i64 0, .int .i64 0, .int .i64 0, .int .i64 0, .int .i64 0, .int .i64 0, .int .i64 0] 57)) [] (by simp)
  replace hr0 := hr0.ext (show Ext _ ((w.alloc (.cells #[.int .i64 0, .int .i64 0, .int .i64 0, .int .i64 0, .int .i64 0, .int .i64 0, .int .i64 0, .int .i64 0] 57)).alloc (.cells #[] 3)) from Upd.alloc _ _ _)
  have he0 : Ext w ((w.alloc (.cells #[.int .i64 0, .int .i64 0, .int .i64 0, .int .i64 0, .int .i64 0, .int .i64 0, .int .i64 0, .int .i64 0] 57)).alloc (.cells #[] 3)) := ((Ext.refl w).alloc _).alloc _
  simp only [show (w.alloc (.cells #[.int .i64 0, .int .i64 0, .int .i64 0, .int .i64 0, .int .i64 0, .int .i64 0, .int .i64 0, .int .i64 0] 57)).heap.size = w.heap.size + 1 by simp] at hn0
  clear hpos
  go_enter Try.func40, Try.ntmps40
  go_wp2_with fail
  go_loopw [4, 12] (fun o i wr => ∃ k : Nat, k ≤ xs.length ∧ i = .int .i64 k ∧ Row 57 wr w.heap.size 8 (vals (padE (qSt xs k).1)) ∧ (∃ b c, o = .slice (some ⟨b, 0, none⟩) k c ∧ w.heap.size < b ∧ Row 3 wr b c (vals (qSt xs k).2)) ∧ Ext w wr) (fun _ i _ => xs.length - (intOf i).toNat)
  case atStart => exact ⟨0, Nat.zero_le _, rfl, hr0, ⟨_, 0, rfl, by omega, hn0⟩, he0⟩
  case round =>
    obtain ⟨k, hk, rfl, hr, ⟨b, c, rfl, hb, hn⟩, he⟩ := hrel
    clear hr0 hn0 he0
    by_cases hlt : k < xs.length
    · obtain ⟨bb, off, rfl, hc⟩ := (hri.ext he).get hlt
      have hck := hc k hlt
      obtain ⟨x, hx⟩ : ∃ x, x = nth xs k := ⟨_, rfl⟩
      rw [← hx] at hck
      have hx1 : 1 ≤ x := by rw [hx]; exact HPOS.out _ (nth_mem hlt)
      have hst : qSt xs (k + 1) = (qE (qSt xs k).1 x, (qSt xs k).2 ++ [(qp (qSt xs k).1 x : Int)]) := by rw [hx]; rfl
      have hEl := (qSt_len xs k).1
      have hOl := (qSt_len xs k).2
      obtain ⟨E, hE⟩ : ∃ E, E = (qSt xs k).1 := ⟨_, rfl⟩
      obtain ⟨O, hO⟩ : ∃ O, O = (qSt xs k).2 := ⟨_, rfl⟩
      rw [← hE] at hr hst hEl
      rw [← hO] at hn hst hOl
      have HST := Lib.hid hst
      have HOL := Lib.hid hOl
      have hql := qp_le E x
      have hE8 : E.length < 8 := by omega
      have hpl := Lib.hid (padE_len (show E.length ≤ 8 by omega))
      have hzb := hr.lt
      clear hc hx hst hE hO hOl h
      go_wp2_with fail
      go_loopw [7] (fun i wz => ∃ q : Nat, q ≤ qp E x ∧ i = .int .i64 q ∧ wr = wz) (fun i _ => 8 - (intOf i).toNat)
      case atStart => exact ⟨0, Nat.zero_le _, rfl, rfl⟩
      case round =>
        obtain ⟨q, hq, rfl, rfl⟩ := hrel
        by_cases hql2 : q < qp E x
        · obtain ⟨h1, h2⟩ := qp_lt hql2
          have hcell := hr.icell (j := q) (by rw [hpl.out]; omega)
          rw [padE_lo h1] at hcell
          have h3 : (q : Int) < 8 := by omega
          clear hn
          go_wp2_with fail
          go_roundw
          case rel => exact ⟨q + 1, by omega, by go_num, trivial⟩
          case measure => simp [intOf]; omega
        · obtain rfl : q = qp E x := by omega
          have hcell := hr.icell (j := qp E x) (by rw [hpl.out]; omega)
          have hle : nth (padE E) (qp E x) ≤ x := by
            by_cases e : qp E x < E.length
            · rw [padE_lo e]; exact qp_at e
            · rw [padE_hi (by omega) (by omega)]; omega
          obtain ⟨y, hy⟩ : ∃ y, y = nth (padE E) (qp E x) := ⟨_, rfl⟩
          rw [← hy] at hcell hle
          have hset := hr.set (qp E x) (.int .i64 x)
          rw [vals_set, padE_set hE8] at hset
          have hU := Upd.setCell wr ⟨w.heap.size, qp E x, none⟩ (.int .i64 x)
          have hn2 := hn.upd hU (by simp; omega)
          have he2 := he.setCell (p := ⟨w.heap.size, qp E x, none⟩) (Nat.le_refl _) (.int .i64 x)
          have hf := hr.free (qp E x) none
          obtain ⟨q, hqe⟩ : ∃ q, q = qp E x := ⟨_, rfl⟩
          rw [← hqe] at hcell hset hn2 he2 hf hU ⊢
          have hq8 : (q : Int) < 8 := by omega
          have HQE := Lib.hid hqe
          have HS := Lib.hid hset
          have HN2 := Lib.hid hn2
          have hnl : k = O.length := HOL.out.symm
          have HNL := Lib.hid hnl
          have hz2 := he.size
          clear hy hr hn hset hn2 hqe hnl
          go_wp2_with (at_builtin; refine wpl_app1k rfl _ _ rfl b c k O (q : Int) rfl HN2.out HNL.out _ rfl (by simp) (by have := HOL.out; omega) ?_; intro b6 c6 w6 h3 h4 h5)
          go_roundw
          case rel => exact ⟨k + 1, by omega, by go_num, by rw [HST.out]; exact HS.out.upd h5 (by omega), ⟨b6, c6, rfl, by simp at h4; omega, by rw [HST.out, ← HQE.out]; exact h3⟩, he2.upd1 h5 (by omega)⟩
          case measure => simp [intOf]; omega
    · have hfin : Hid (planL xs = (qSt xs k).2) := by show _ = _; unfold planL; congr 2; omega
      obtain rfl : k = xs.length := by omega
      go_wp2_with fail
      go_ret
      rw [hfin.out]
      exact ⟨_, _, rfl, by omega, hn, he⟩
theorem IsP.pos {xs : List Int} (h : IsP xs) : ∀ x ∈ xs, 1 ≤ x := fun x hx => (h.1 x hx).1
set_option maxHeartbeats 400000 in
theorem impl_QueuePlan_ok (v : Value) (xs : List Int) (w : World) (h : SI w v xs) (_hl : xs.length ≤ 1048576) (_hb : I64s xs) :
    Calls Try.prog 13 #[v] w fun e w' => ∃ v', e = .returned v' ∧ OI w.heap.size w'.heap.size w' v' (qpL xs) ∧ Ext w w' := by
  cases hp : isP8 xs
  · have hP := Lib.hid hp
    have e0 : Hid (qpL xs = []) := by show _ = _; simp [qpL, hp]
    clear hp
    go_enter Try.func13, Try.ntmps13
    go_wp2_with (go_at_call 39; refine (impl_IsPerm_ok _ xs _ h).mono ?_; rintro e w1 ⟨rfl, he⟩; rw [hP.out])
    go_ret
    rw [e0.out]
    exact ⟨_, rfl, OI.nil _ _ _, he⟩
  · have hP := Lib.hid hp
    have h8 : xs.length ≤ 8 := (isP8_iff.1 hp).1
    have hps := Lib.hid ((isP8_iff.1 hp).2.pos)
    have e0 : Hid (qpL xs = planL xs) := by show _ = _; simp [qpL, hp]
    have hpl := Lib.hid (planL_len xs)
    clear hp
    go_enter Try.func13, Try.ntmps13
    go_wp2_with (first | (go_at_call 39; refine (impl_IsPerm_ok _ xs _ h).mono ?_; rintro e w1 ⟨rfl, he⟩; rw [hP.out]) | (go_at_call 40; refine (queuePlan_ok _ xs _ (h.ext he) h8 hps.out).mono ?_; rintro e w2 ⟨b2, c2, rfl, hb2, hr2, he2⟩))
    go_ret
    rw [e0.out]
    exact ⟨_, rfl, OI.row hr2 (by have := he.size; omega) hpl.out.symm, he.trans he2⟩
theorem app0_set (E : List Int) (v : Int) : (E ++ [0]).set E.length v = E ++ [v] := by rw [List.set_append]; simp
set_option maxHeartbeats 2000000 in
theorem spec_QueuePlan_ok (v : Value) (xs : List Int) (w : World) (h : SI w v xs) (hl : xs.length ≤ 1048576) (_hb : I64s xs) :
    Calls Try.prog 19 #[v] w fun e w' => ∃ v', e = .returned v' ∧ OI w.heap.size w'.heap.size w' v' (qpL xs) ∧ Ext w w' := by
  have h0 := h
  obtain ⟨a, cap, rfl, hri⟩ := h0.elim
  have hr00 := Row.new 3 w [] (by simp)
  have hn0 := Row.new 3 (w.alloc (.cells #[] 3)) [] (by simp)
  have hr0 := hr00.ext (show Ext _ ((w.alloc (.cells #[] 3)).alloc (.cells #[] 3)) from Upd.alloc _ _ _)
  have he0 : Ext w ((w.alloc (.cells #[] 3)).alloc (.cells #[] 3)) := ((Ext.refl w).alloc _).alloc _
  simp only [show (w.alloc (.cells #[] 3)).heap.size = w.heap.size + 1 by simp] at hn0
  clear hr00
  cases hp : isP8 xs
  · have hP := Lib.hid hp
    have e0 : Hid (qpL xs = []) := by show _ = _; simp [qpL, hp]
    clear hp
    go_enter Try.func19, Try.ntmps19
    go_wp2_with fail
    go_loopw [3, 4, 5] (fun o e k wr => k = .int .i64 0 ∧ o = .slice (some ⟨w.heap.size, 0, none⟩) 0 0 ∧ (w.alloc (.cells #[] 3)).alloc (.cells #[] 3) = wr) (fun _ _ _ _ => 0)
    case atStart => exact ⟨rfl, rfl, rfl⟩
    case round =>
      obtain ⟨rfl, rfl, rfl⟩ := hrel
      by_cases hz : (0 : Int) < (xs.length : Int)
      · go_wp2_with (go_at_call 26; refine (spec_IsPerm_qt _ xs _ (h.ext he0) (by omega)).mono ?_; rintro e w1 ⟨rfl, hq⟩; rw [hP.out])
        go_ret
        rw [e0.out]
        exact ⟨_, rfl, OI.row (hr0.ext hq.ext) (Nat.le_refl _) rfl, he0.trans hq.ext⟩
      · go_wp2_with fail
        go_ret
        rw [e0.out]
        exact ⟨_, rfl, OI.row hr0 (Nat.le_refl _) rfl, he0⟩
  · have hP := Lib.hid hp
    have h8 : xs.length ≤ 8 := (isP8_iff.1 hp).1
    have hps := Lib.hid ((isP8_iff.1 hp).2.pos)
    have e0 : Hid (qpL xs = planL xs) := by show _ = _; simp [qpL, hp]
    clear hp
    go_enter Try.func19, Try.ntmps19
    go_wp2_with fail
    go_loopw [3, 4, 5] (fun o e i wr => ∃ k : Nat, k ≤ xs.length ∧ i = .int .i64 k ∧ (∃ be ce n, e = .slice (some ⟨be, 0, none⟩) n ce ∧ Hid (n = (qSt xs k).1.length) ∧ w.heap.size ≤ be ∧ Row 3 wr be ce (vals (qSt xs k).1) ∧ ∃ b c, o = .slice (some ⟨b, 0, none⟩) k c ∧ w.heap.size ≤ b ∧ b ≠ be ∧ Row 3 wr b c (vals (qSt xs k).2)) ∧ Ext w wr) (fun _ _ i _ => xs.length - (intOf i).toNat)
    case atStart => exact ⟨0, Nat.zero_le _, rfl, ⟨_, 0, 0, rfl, Lib.hid rfl, by omega, hn0, _, 0, rfl, Nat.le_refl _, by omega, hr0⟩, he0⟩
    case round =>
      obtain ⟨k, hk, rfl, ⟨be, ce, n, rfl, hn, hbe, hre, b, c, rfl, hb, hbb, hro⟩, he⟩ := hrel
      clear hr0 hn0 he0
      by_cases hlt : k < xs.length
      · obtain ⟨x, hx⟩ : ∃ x, x = nth xs k := ⟨_, rfl⟩
        have hst : qSt xs (k + 1) = (qE (qSt xs k).1 x, (qSt xs k).2 ++ [(qp (qSt xs k).1 x : Int)]) := by rw [hx]; rfl
        have hEl := (qSt_len xs k).1
        have hOl := (qSt_len xs k).2
        obtain ⟨E, hE⟩ : ∃ E, E = (qSt xs k).1 := ⟨_, rfl⟩
        obtain ⟨O, hO⟩ : ∃ O, O = (qSt xs k).2 := ⟨_, rfl⟩
        rw [← hE] at hre hst hEl hn
        rw [← hO] at hro hst hOl
        have HST := Lib.hid hst
        have HOL := Lib.hid hOl
        have hql := qp_le E x
        have hx1 := hx
        have hsub := hn.out
        rw [hsub]
        have hki : (k : Int) < (xs.length : Int) := by omega
        clear hst hE hO hOl hsub
        have HX := Lib.hid hx
        clear hx hx1
        go_wp2_with (go_at_call 26; refine (spec_IsPerm_qt _ xs _ (h.ext he) (by omega)).mono ?_; rintro e wp ⟨rfl, hq1⟩; rw [hP.out])
        have he1 : Ext w wp := he.trans hq1.ext
        replace hre := hre.ext hq1.ext
        replace hro := hro.ext hq1.ext
        obtain ⟨bb, off, rfl, hc⟩ := (hri.ext he1).get hlt
        have hck := hc k hlt
        rw [← HX.out] at hck
        have hbbw : bb < w.heap.size := by
          obtain ⟨b7, o7, e7, h7⟩ := hri.get hlt
          have := World.block_lt_of_cell? _ _ (h7 k hlt)
          simp at e7 this; omega
        clear hc he hq1
        go_loopw [6] (fun i wr => ∃ q : Nat, q ≤ qp E x ∧ i = .int .i64 q ∧ Qt wp wr) (fun i _ => 8 - (intOf i).toNat)
        case atStart => exact ⟨0, Nat.zero_le _, rfl, Qt.refl _⟩
        case round =>
          obtain ⟨q, hq, rfl, hqt⟩ := hrel
          have hck2 := hqt.ext.cell hck id
          have w2 : (0 : Int) ≤ (q : Int) := by omega
          by_cases hql2 : q < qp E x
          · obtain ⟨h1, h2⟩ := qp_lt hql2
            have hcell := hqt.ext.cell (hre.icell (j := q) h1) id
            have h3 : (q : Int) < (E.length : Int) := by omega
            clear hro hck hre
            go_wp2_with fail
            go_quiet (fail)
            go_wp2_with fail
            go_roundw
            case rel => exact ⟨q + 1, by omega, by go_num, hqt.drewN _⟩
            case measure => simp [intOf]; omega
          · obtain rfl : q = qp E x := by omega
            have hE2 : Ext w wr := he1.trans hqt.ext
            have hre2 := hre.ext hqt.ext
            have hro2 := hro.ext hqt.ext
            have hbel := hre2.lt
            have hbl := hro2.lt
            have hcle := hre2.le
            have hst2 := HST.out
            have hE2s := hE2.size
            clear hck hre hro he1
            by_cases hend : qp E x < E.length
            · have hle := qp_at hend
              have hqe : qE E x = E.set (qp E x) x := by unfold qE; rw [if_neg (by omega)]
              have hset := fun t => (hre2.ext (Upd.drewN wr t _)).set (qp E x) (.int .i64 x)
              simp only [vals_set, ← hqe] at hset
              have hel : E.length = (qE E x).length := by rw [hqe, List.length_set]
              obtain ⟨q, hqq⟩ : ∃ q, q = qp E x := ⟨_, rfl⟩
              rw [← hqq] at hle hend hset hql ⊢
              have hcell := hre2.icell (j := q) hend
              obtain ⟨y, hy⟩ : ∃ y, y = nth E q := ⟨_, rfl⟩
              rw [← hy] at hle hcell
              have hf := hre2.free q none
              have h3 : (q : Int) < (E.length : Int) := by omega
              have h4 : ((q : Int) == (E.length : Int)) = false := by simp; omega
              have HS := Lib.hid hset
              have HRO := Lib.hid (fun t => (hro2.ext (Upd.drewN wr t _)).upd (Upd.setCell _ ⟨be, q, none⟩ (.int .i64 x)) (by simpa using hbb))
              have HE2 := Lib.hid (fun t => (hE2.drewN t).setCell (p := ⟨be, q, none⟩) hbe (.int .i64 x))
              have HQQ := Lib.hid hqq
              have HEL := Lib.hid hel
              have hnl : k = O.length := HOL.out.symm
              have HNL := Lib.hid hnl
              clear hst2 hqe hset hel hy hqq hre2 hro2 hE2 hnl
              go_wp2_with fail
              go_quiet (fail)
              go_wp2_with (at_builtin; refine wpl_app1k rfl _ _ rfl b c k O (q : Int) rfl (HRO.out _) HNL.out _ rfl (by simp) (by have := HOL.out; omega) ?_; intro b6 c6 w6 h3 h4 h5)
              go_roundw
              case rel => exact ⟨k + 1, by omega, by go_num, ⟨be, ce, E.length, rfl, Lib.hid (by rw [HST.out]; exact HEL.out), hbe, by rw [HST.out]; exact (HS.out _).upd h5 (fun e => hbb e.symm), b6, c6, rfl, by simp at h4; omega, by simp at h4; omega, by rw [HST.out, ← HQQ.out]; exact h3⟩, (HE2.out _).upd1 h5 hb⟩
              case measure => simp [intOf]; omega
            · have hqe0 : qp E x = E.length := by omega
              have hqe : qE E x = E ++ [x] := by unfold qE; rw [if_pos hqe0]
              rw [hqe0] at hst2 ⊢
              rw [hqe] at hst2
              have HST2 := Lib.hid hst2
              have h3 : ¬ (E.length : Int) < (E.length : Int) := by omega
              have hdd : decide ((E.length : Int) < (E.length : Int)) = false := decide_eq_false h3
              have h4 : ((E.length : Int) == (E.length : Int)) = true := by simp
              have hnl : k = O.length := HOL.out.symm
              have HNL := Lib.hid hnl
              have HRE := Lib.hid (fun t => hre2.ext (Upd.drewN wr t _))
              have HRO := Lib.hid (fun t => hro2.ext (Upd.drewN wr t _))
              have HE2 := Lib.hid (fun t => hE2.drewN t)
              have HCK := Lib.hid (fun t => (show Ext wr (wr.drewN t) from Upd.drewN wr t _).cell hck2)
              have hbne : bb ≠ be := by omega
              have hE8 : E.length ≤ 8 := by omega
              clear hqe hqe0 hst2 hnl hre2 hro2 hE2 hck2 hend
              go_wp2_with fail
              go_quiet (fail)
              clear hdd
              go_wp2_with (first | (at_builtin; refine wpl_app1 rfl _ _ rfl be ce E.length E 0 rfl (HRE.out _) rfl rfl (by omega) ?_; intro b5 c5 w5 hr5 hb5 hu5; have hck5 := hu5.cell (HCK.out _) hbne; have hf5 := hr5.free E.length none; have hc5 := hr5.icell (j := E.length) (by simp); have hro5 := (HRO.out nq).upd hu5 hbb; have hex5 := (HE2.out nq).upd1 hu5 hbe; have hset5 := hr5.set E.length (.int .i64 x); rw [vals_set, app0_set] at hset5; have HS5 := Lib.hid hset5; have hb5w : w.heap.size ≤ b5 := hb5.elim (fun e => by omega) (fun e => by simp at e; omega); have hb5b : b ≠ b5 := hb5.elim (fun e => by omega) (fun e => by simp at e; omega); have HRO5 := Lib.hid (hro5.upd (Upd.setCell _ ⟨b5, E.length, none⟩ (.int .i64 x)) hb5b); have hex6 := hex5.setCell (p := ⟨b5, E.length, none⟩) hb5w (.int .i64 x); have hzz5 := hu5.size; have hbl5 := hset5.lt; simp at hzz5 hbl5; clear hset5 hro5 hr5 hu5 hb5) | (at_builtin; refine wpl_app1k rfl _ _ rfl b c k O (E.length : Int) rfl HRO5.out HNL.out _ rfl (by simp) (by have := HOL.out; omega) ?_; intro b6 c6 w6 h3 h4 h5))
              go_roundw
              case rel => exact ⟨k + 1, by omega, by go_num, ⟨b5, c5, E.length + 1, rfl, Lib.hid (by rw [HST2.out]; simp), hb5w, by rw [HST2.out]; exact HS5.out.upd h5 (fun e => hb5b e.symm), b6, c6, rfl, by simp at h4; omega, by simp at h4; omega, by rw [HST2.out]; exact h3⟩, hex6.upd1 h5 hb⟩
              case measure => simp [intOf]; omega
      · have hfin : Hid (planL xs = (qSt xs k).2) := by show _ = _; unfold planL; congr 2; omega
        obtain rfl : k = xs.length := by omega
        have hol := Lib.hid (qSt_len xs xs.length).2
        go_wp2_with fail
        go_ret
        rw [e0.out, hfin.out]
        exact ⟨_, rfl, OI.row hro hb hol.out.symm, he⟩
end Go.Proofs.Ytplcnehiaokdjaa
