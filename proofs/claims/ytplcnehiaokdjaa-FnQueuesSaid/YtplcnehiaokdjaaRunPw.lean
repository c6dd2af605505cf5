/- Contract of the program's RunPlan. Conditions: lengths below a bound. -/
import Derived.Test.YtplcnehiaokdjaaRunPl
namespace Go.Proofs.Ytplcnehiaokdjaa
open Go.RowKit

theorem info8 : (Try.prog.info? 45).map (·.size) = some 8 := by kernel_rfl
theorem part_ints (cs : Array Value) (k : Nat) (hk : k < cs.size) (w : World) : (part 24 cs k).run Try.prog w = .ok (cs.toList.getD k undef) w := by
  have hagg : (isAgg 24).run Try.prog w = .ok false w := by
    unfold isAgg
    rw [Sem.run_bind, run_underlying Try.underlying24 w]; rfl
  unfold part
  rw [Sem.run_bind, hagg]
  simp [hk]
theorem idx8 (cs : Array Value) (hs : cs.size = 8) (k : Nat) (hk : k < 8) (w : World) : (Instr.index 45 (.agg cs) (.int .i64 (k : Int))).run Try.prog w = .ok (cs.toList.getD k undef) w := by
  obtain ⟨i, hi, hz, hs1, hby⟩ := info_ints
  have hp := part_ints cs k (by omega) w
  simp [Instr.index, run_underlying Try.underlying45, asIntOf, sizeOf, typeInfo, hi, hs1, hk, hp, Sem.run_bind]
theorem Els.nils (B H : Nat) (w : World) (n : Nat) : Els B H w (List.replicate n (.slice none 0 0)) (List.replicate n []) := by
  have h1 : ∀ i, i < n → nthV (List.replicate n (.slice none 0 0)) i = .slice none 0 0 := fun i hi => by simp [nthV, hi]
  have h2 : ∀ i, i < n → nthL (List.replicate n []) i = [] := fun i hi => by simp [nthL, hi]
  refine ⟨by simp, fun i hi => ?_, fun i j c hij hj hc => ?_⟩
  · simp only [List.length_replicate] at hi
    rw [h1 i hi, h2 i hi]; exact OI.nil _ _ _
  · simp only [List.length_replicate] at hj
    rw [h1 i (by omega)] at hc
    simp [Value.ownBlock] at hc

theorem qs_len (p plan : List Int) : ∀ j k, (nthL (qsTo p plan j) k).length ≤ j := by
  intro j
  induction j with
  | zero =>
    intro k
    show (nthL (List.replicate 8 []) k).length ≤ 0
    have : ∀ m, nthL (List.replicate m []) k = [] := fun m => by simp [nthL, List.getElem?_replicate]; split <;> rfl
    rw [this]; exact Nat.le_refl _
  | succ j ih =>
    intro k
    show (nthL (qPush (qsTo p plan j) (nth plan j).toNat (nth p j)) k).length ≤ j + 1
    unfold qPush
    have := ih k
    by_cases e : (nth plan j).toNat = k
    · subst e
      rcases Nat.lt_or_ge (nth plan j).toNat (qsTo p plan j).length with h | h
      · rw [nthL_set_same _ h]; simp; omega
      · rw [List.set_eq_of_length_le h]; omega
    · rw [nthL_set_other _ e]; omega

set_option maxHeartbeats 4000000 in
theorem impl_RunPlan_ok (v : Value) (p : List Int) (v2 : Value) (plan : List Int) (w : World) (h : SI w v p) (_hl : p.length ≤ 1048576) (_hb : I64s p) (h2 : SI w v2 plan) (_hl2 : plan.length ≤ 1048576) (_hb2 : I64s plan) :
    Calls Try.prog 15 #[v, v2] w fun e w' => ∃ v', e = .returned (.tuple #[v', .bool (rpB p plan)]) ∧ OI w.heap.size w'.heap.size w' v' (rpL p plan) ∧ Ext w w' := by
  obtain ⟨a, cap, rfl, hri⟩ := h.elim
  obtain ⟨a2, cap2, rfl, hri2⟩ := h2.elim
  cases hp : isP8 p
  · have hP := Lib.hid hp
    have e0 : Hid (rpB p plan = false) := by show _ = _; simp [rpB, hp]
    have e1 : Hid (rpL p plan = []) := by show _ = _; simp [rpL, e0.out]
    clear hp
    go_enter Try.func15, Try.ntmps15
    go_wp2_with (go_at_call 39; refine (impl_IsPerm_ok _ p _ h).mono ?_; rintro e w1 ⟨rfl, he⟩; rw [hP.out])
    go_ret2
    rw [e0.out, e1.out]
    exact ⟨_, rfl, OI.nil _ _ _, he⟩
  by_cases hlen : plan.length = p.length
  · have hP := Lib.hid hp
    have h8 : p.length ≤ 8 := (isP8_iff.1 hp).1
    have HL := Lib.hid hlen
    obtain ⟨n, hn⟩ : ∃ n, n = p.length := ⟨_, rfl⟩
    have HN := Lib.hid hn
    have hne : ((n : Int) != (n : Int)) = false := by simp
    rw [hlen, ← hn]
    have h8n : n ≤ 8 := by omega
    clear hp hlen hn h8
    go_enter Try.func15, Try.ntmps15
    go_wp2_with (go_at_call 39; refine (impl_IsPerm_ok _ p _ (by rw [HN.out]; exact h)).mono ?_; rintro e w1 ⟨rfl, he1⟩; rw [hP.out])
    have HZ1 := he1.size
    have hr0 : Row 45 (w1.alloc (.cells #[.slice none 0 0, .slice none 0 0, .slice none 0 0, .slice none 0 0, .slice none 0 0, .slice none 0 0, .slice none 0 0, .slice none 0 0] 45)) w1.heap.size 8 (List.replicate 8 (.slice none 0 0)) := Row.new 45 w1 (List.replicate 8 (.slice none 0 0)) (by simp; unfold maxLen; omega)
    have he0 : Ext w (w1.alloc (.cells #[.slice none 0 0, .slice none 0 0, .slice none 0 0, .slice none 0 0, .slice none 0 0, .slice none 0 0, .slice none 0 0, .slice none 0 0] 45)) := he1.alloc _
    have hel0 := Els.nils (w1.heap.size + 1) (w1.heap.size + 1) (w1.alloc (.cells #[.slice none 0 0, .slice none 0 0, .slice none 0 0, .slice none 0 0, .slice none 0 0, .slice none 0 0, .slice none 0 0, .slice none 0 0] 45)) 8
    obtain ⟨bq, hbq⟩ : ∃ bq, bq = w1.heap.size := ⟨_, rfl⟩
    have hsz0 : (w1.alloc (.cells #[.slice none 0 0, .slice none 0 0, .slice none 0 0, .slice none 0 0, .slice none 0 0, .slice none 0 0, .slice none 0 0, .slice none 0 0] 45)).heap.size = bq + 1 := by rw [hbq]; simp
    rw [← hbq] at hr0 hel0 ⊢
    rw [← hbq] at HZ1
    generalize w1.alloc (.cells #[.slice none 0 0, .slice none 0 0, .slice none 0 0, .slice none 0 0, .slice none 0 0, .slice none 0 0, .slice none 0 0, .slice none 0 0] 45) = w2 at hr0 he0 hel0 hsz0 ⊢
    clear hbq he1
    go_loopw [26] (fun i wr => ∃ j : Nat, j ≤ n ∧ i = .int .i64 j ∧ (∃ vs, Row 45 wr bq 8 vs ∧ Els (bq + 1) wr.heap.size wr vs (qsTo p plan j)) ∧ Hid (∀ i, i < j → 0 ≤ nth plan i ∧ nth plan i < 8) ∧ Ext w wr ∧ bq < wr.heap.size) (fun i _ => n - (intOf i).toNat)
    case atStart => exact ⟨0, Nat.zero_le _, rfl, ⟨_, hr0, by rw [hsz0]; exact hel0⟩, Lib.hid (fun i h => by omega), he0, by omega⟩
    case round =>
      obtain ⟨j, hj, rfl, ⟨vs, hr, hel⟩, hok, he, hbz⟩ := hrel
      clear hr0 he0 hel0 hsz0
      by_cases hlt : j < n
      · obtain ⟨b, off, rfl, hc⟩ := (hri2.ext he).get (k := j) (by rw [HL.out, ← HN.out]; exact hlt)
        have hck := hc j (by rw [HL.out, ← HN.out]; exact hlt)
        obtain ⟨b3, off3, rfl, hc3⟩ := (hri.ext he).get (k := j) (by rw [← HN.out]; exact hlt)
        have hck3 := hc3 j (by rw [← HN.out]; exact hlt)
        clear hc hc3
        obtain ⟨y, hy⟩ : ∃ y, y = nth p j := ⟨_, rfl⟩
        rw [← hy] at hck3
        have HY := Lib.hid hy
        by_cases hin : 0 ≤ nth plan j ∧ nth plan j < 8
        · obtain ⟨k, hk⟩ : ∃ k : Nat, nth plan j = (k : Int) := ⟨(nth plan j).toNat, by omega⟩
          have HK := Lib.hid hk
          rw [hk] at hck hin
          have hk8 : (k : Int) < 8 := hin.2
          have hk8n : k < 8 := by omega
          have hql := qsTo_len p plan j
          have ho := hel.el k (by omega)
          obtain ⟨pa, ca, hpv⟩ := ho.shape
          have hcell := hr.cell (nthV_get (vs := vs) (k := k) (by rw [hel.len, hql]; exact hk8n))
          rw [hpv] at hcell
          obtain ⟨xs, hxs⟩ : ∃ xs, xs = nthL (qsTo p plan j) k := ⟨_, rfl⟩
          rw [hpv] at ho
          rw [← hxs] at ho hcell hpv
          have hf := hr.free k none
          have hxl := qs_len p plan j k
          rw [← hxs] at hxl
          have hxl9 : xs.length ≤ 1000000000 := by omega
          have HO := Lib.hid ho
          have HXS := Lib.hid hxs
          have HPV := Lib.hid hpv
          have HEL := Lib.hid hel
          have HR := Lib.hid hr
          have HQL := Lib.hid hql
          clear hin hk hy ho hpv hxs hel hr hql
          go_wp2_with fail
          go_region_law (refine step_app1O (by rfl) (.tmp 40) (.tmp 45) (by rfl) (bq + 1) wr.heap.size (.slice pa xs.length ca) xs y (by rfl) (HO.out.ext (by first | exact ((Ext.refl _).alloc _).drew | exact ((Ext.refl _).drew).alloc _)) (by simp; omega) wr.heap.size (by rfl) (by first | exact Upd.cell (Upd.drew _ (fun _ => False)) (World.cell?_alloc_at _ _ _ _ rfl) id | exact World.cell?_alloc_at _ _ _ _ rfl) hxl9 ?_; intro b6 c6 w6 hr6 hb6 hb6' hu6; have hrq := Row.upd (Row.ext HR.out (by first | exact ((Ext.refl _).alloc _).drew | exact ((Ext.refl _).drew).alloc _)) hu6 (fun e => by have := HO.out.own e; omega); obtain ⟨u6, hc6⟩ := hrq.spare (j := k) hk8n; have hf6 := hrq.free k none; have HRQ := Lib.hid hrq; clear hrq)
          all_goals
            have hz6 := hu6.size
            simp at hz6
            have hset := HRQ.out.set k (.slice (some ⟨b6, 0, none⟩) (xs.length + 1) c6)
            have hU6 : Upd (fun j => (Value.slice pa xs.length ca).ownBlock = some j) wr w6 := ((Upd.alloc wr _ _).trans (Upd.drew _ _)).trans hu6
            have hgr := HEL.out.grow (k := k) (by rw [HQL.out]; exact hk8n) (Nat.le_refl _) (by rw [HPV.out]; exact hU6) hr6 hb6 (by rw [HPV.out]; rcases hb6' with e | e; (· exact .inl e); (· right; rw [e]; simp))
            rw [show (xs ++ [y]).length = xs.length + 1 by simp] at hgr
            have hqs : qsTo p plan (j + 1) = (qsTo p plan j).set k (xs ++ [y]) := by
              show qPush (qsTo p plan j) (nth plan j).toNat (nth p j) = _
              unfold qPush
              rw [HK.out, Int.toNat_natCast, ← HXS.out, ← HY.out]
            rw [← hqs] at hgr
            have hgr2 := hgr.upd (Upd.setCell w6 ⟨bq, k, none⟩ (.slice (some ⟨b6, 0, none⟩) (xs.length + 1) c6)) (fun i c hi hc => by have := (hgr.el i hi).own hc; show ¬ c = bq; omega)
            have HG := Lib.hid hgr2
            have HSET := Lib.hid hset
            have hex : Ext w w6 := (he.trans (show Ext wr _ from (Ext.refl wr).alloc _)).drew.upd hu6 (fun i e => by have := HO.out.own e; omega)
            have HEX := Lib.hid (hex.setCell (p := ⟨bq, k, none⟩) HZ1 (.slice (some ⟨b6, 0, none⟩) (xs.length + 1) c6))
            have HOK2 := Lib.hid (show ∀ i, i < j + 1 → 0 ≤ nth plan i ∧ nth plan i < 8 from fun i hi => by
              rcases Nat.lt_or_ge i j with e | e
              · exact hok.out i e
              · obtain rfl : i = j := by omega
                rw [HK.out]; omega)
            clear hset hgr hgr2 hqs hex hu6 hU6 hb6' hcell hf hc6 hf6 hr6
            go_wp2_with fail
            go_roundw
            case rel => exact ⟨j + 1, by omega, by go_num, ⟨_, HSET.out, by simpa using HG.out⟩, HOK2, HEX.out, by simp; omega⟩
            case measure => simp [intOf]; omega
        · have e0 : Hid (rpB p plan = false) := by
            show _ = _
            have := planOK_bad (plan := plan) (k := j) (by rw [HL.out, ← HN.out]; exact hlt) hin
            simp [rpB, this]
          have e1 : Hid (rpL p plan = []) := by show _ = _; simp [rpL, e0.out]
          obtain ⟨x, hx⟩ : ∃ x, x = nth plan j := ⟨_, rfl⟩
          rw [← hx] at hck hin
          clear hx hy
          by_cases hx0 : x < 0
          · go_wp2_with fail
            go_ret2
            rw [e0.out, e1.out]
            exact ⟨_, rfl, OI.nil _ _ _, he⟩
          · have hx8 : 8 ≤ x := by omega
            clear hin
            go_wp2_with fail
            go_ret2
            rw [e0.out, e1.out]
            exact ⟨_, rfl, OI.nil _ _ _, he⟩
      · obtain rfl : j = n := by omega
        have hpl : planOK plan = true := by
          unfold planOK
          rw [List.all_eq_true]
          intro x hx
          obtain ⟨i, hi, rfl⟩ := List.getElem_of_mem hx
          have h5 := hok.out i (by rw [HN.out, ← HL.out]; exact hi)
          rw [nth_get hi] at h5
          exact decide_eq_true h5
        have hrp : rpB p plan = true := by unfold rpB; rw [hP.out, decide_eq_true HL.out, hpl]; rfl
        obtain ⟨Q, hQ⟩ : ∃ Q, Q = qsTo p plan j := ⟨_, rfl⟩
        have hQ8 : Q.length = 8 := by rw [hQ]; exact qsTo_len _ _ _
        have hQn : Q.flatten.length = j := by
          have := (qs_perm HL.out hpl j (by rw [HN.out]; exact Nat.le_refl _)).length_eq
          rw [← hQ] at this; rw [this, List.length_take, ← HN.out, Nat.min_self]
        have hfin : rpL p plan = rpO Q j := by unfold rpL; rw [hrp]; show rpO _ p.length = _; rw [← HN.out, ← hQ]
        rw [← hQ] at hel
        have hpq0 := (PQ.of_els hr hel hQ8).ext (Upd.alloc wr (.cells #[] 3) _)
        have hn0 := Row.new 3 wr [] (by simp)
        have he2 : Ext w (wr.alloc (.cells #[] 3)) := he.alloc _
        have hzz : (wr.alloc (.cells #[] 3)).heap.size = wr.heap.size + 1 := by simp
        have HRP := Lib.hid hrp
        have HFIN := Lib.hid hfin
        have HQ8 := Lib.hid hQ8
        have HQN := Lib.hid hQn
        clear hpl hrp hfin hQ8 hQn hQ hel hr hok he hlt hj
        go_wp2_with fail
        obtain ⟨H, hH⟩ : ∃ H, H = wr.heap.size := ⟨_, rfl⟩
        rw [← hH] at hpq0 hn0 hzz hbz ⊢
        generalize wr.alloc (.cells #[] 3) = w3 at hpq0 hn0 he2 hzz ⊢
        clear hH
        go_loopw [9, 52] (fun o i wr => ∃ t : Nat, t ≤ j ∧ i = .int .i64 t ∧ (∃ vs, PQ 45 wr (bq + 1) H bq vs (rpQ Q t)) ∧ (∃ b c, o = .slice (some ⟨b, 0, none⟩) t c ∧ H ≤ b ∧ Row 3 wr b c (vals (rpO Q t))) ∧ Ext w wr) (fun _ i _ => j - (intOf i).toNat)
        case atStart => exact ⟨0, Nat.zero_le _, rfl, ⟨_, hpq0⟩, ⟨_, 0, rfl, Nat.le_refl _, hn0⟩, he2⟩
        case round =>
          obtain ⟨t, ht, rfl, ⟨vs, hpq⟩, ⟨bo, co, rfl, hbo, hro⟩, he⟩ := hrel
          clear hpq0 hn0 he2 hzz
          by_cases hlt : t < j
          · obtain ⟨cur, hg, hcs, htk⟩ := hpq.row.cur
            have hvl := hpq.len
            have hcv : cur.toList = vs := by rw [hvl, List.take_of_length_le (by rw [Array.length_toList]; omega)] at htk; exact htk
            obtain ⟨RQ, hRQ⟩ : ∃ RQ, RQ = rpQ Q t := ⟨_, rfl⟩
            rw [← hRQ] at hpq
            have HQT := Lib.hid hRQ
            have hbs : 0 < RQ.flatten.length := by rw [hRQ]; exact rp_some HQ8.out (by rw [HQN.out]; exact hlt)
            have HBS := Lib.hid (best_some hpq.qlen hbs)
            have HPQ := Lib.hid hpq
            have HCV := Lib.hid hcv
            have HCS := Lib.hid hcs
            have HRO := Lib.hid hro
            clear hcv htk hvl hRQ hbs hpq hro
            go_wp2_with (refine wpList_load_row (by rfl) 45 (.tmp 6) (by rfl) bq (by rfl) _ cur _ _ hg Try.underlying45 (by rfl) (by rw [HCS.out]; exact info8) ?_)
            obtain ⟨wp, hwp⟩ : ∃ wp, wp = wr := ⟨_, rfl⟩
            subst hwp
            clear hg
            go_loopw [10, 55] (fun b k wr => ∃ m : Nat, m ≤ 8 ∧ k = .int .i64 m ∧ (∃ z : Int, b = .int .i64 z ∧ Hid (z = bestTo RQ m) ∧ -1 ≤ z ∧ z < 8) ∧ Qt wp wr) (fun _ k _ => 8 - (intOf k).toNat)
            case atStart => exact ⟨0, by omega, rfl, ⟨-1, rfl, Lib.hid rfl, by omega, by omega⟩, Qt.refl _⟩
            case round =>
              obtain ⟨m, hm, rfl, ⟨z, rfl, hz, hz1, hz2⟩, hq⟩ := hrel
              by_cases hm8 : m < 8
              · obtain ⟨pa, ca, hv⟩ := HPQ.out.empty hm8
                have hbk := bestTo_ok RQ m
                obtain ⟨L, hL⟩ : ∃ L, L = (nthL RQ m).length := ⟨_, rfl⟩
                rw [← hL] at hv
                have hidx : ∀ w, (Instr.index 45 (.agg cur) (.int .i64 (m : Int))).run Try.prog w = .ok (.slice pa L ca) w := fun w => by rw [idx8 cur hcs m hm8 w, HCV.out]; exact congrArg (fun x => Result.ok x w) hv
                by_cases h0 : 0 < L
                · obtain ⟨b, off, c, hv2, hcf, hlo, hhi, hLc, hcm⟩ := HPQ.out.front hm8 (by rw [← hL]; exact h0)
                  rw [← hL] at hv2
                  rw [hv] at hv2
                  injection hv2 with e1 e2 e3
                  subst e1; subst e3
                  clear e2
                  obtain ⟨x, hx⟩ : ∃ x, x = headI RQ m := ⟨_, rfl⟩
                  rw [← hx] at hcf
                  replace hcf := hq.ext.cell hcf id
                  have hLI : (0 : Int) < (L : Int) := by omega
                  have hLd : decide ((0 : Int) < (L : Int)) = true := decide_eq_true hLI
                  by_cases hz0 : z < 0
                  · have hst : Hid (bestTo RQ (m + 1) = (m : Int)) := by show _ = _; exact bestTo_t (by rw [← hL]; exact h0) (.inl (by rw [← hz.out]; exact hz0))
                    have hzd : decide (z < 0) = true := decide_eq_true hz0
                    clear hL hbk hv hx
                    go_wp2_with fail
                    go_quiet (fail)
                    go_wp2_with fail
                    go_roundw
                    case rel => exact ⟨m + 1, by omega, by go_num, ⟨(m : Int), rfl, Lib.hid hst.out.symm, by omega, by omega⟩, hq.drewN _⟩
                    case measure => simp [intOf]; omega
                  · have hzd : decide (z < 0) = false := decide_eq_false hz0
                    have hbk2 : 0 < (nthL RQ z.toNat).length := by
                      rw [← hz.out] at hbk
                      rcases hbk with ⟨e, _⟩ | ⟨_, _, e, _⟩
                      · omega
                      · exact e
                    have hzz := hz.out
                    obtain ⟨k, hk⟩ : ∃ k : Nat, z = (k : Int) := ⟨z.toNat, by omega⟩
                    rw [hk, Int.toNat_natCast] at hbk2
                    subst hk
                    have hk8 : k < 8 := by omega
                    have hk8I : (k : Int) < 8 := by omega
                    have hk0I : (0 : Int) ≤ (k : Int) := by omega
                    obtain ⟨b2, off2, c2, hv3, hcf2, _, _, _, _⟩ := HPQ.out.front hk8 hbk2
                    have hcq := hq.ext.cell (HPQ.out.cell hk8) id
                    obtain ⟨L2, hL2⟩ : ∃ L2, L2 = (nthL RQ k).length := ⟨_, rfl⟩
                    rw [hv3, ← hL2] at hcq
                    rw [← hL2] at hbk2
                    obtain ⟨y, hy⟩ : ∃ y, y = headI RQ k := ⟨_, rfl⟩
                    rw [← hy] at hcf2
                    replace hcf2 := hq.ext.cell hcf2 id
                    have hL2I : (0 : Int) < (L2 : Int) := by omega
                    by_cases hxy : x < y
                    · have hst : Hid (bestTo RQ (m + 1) = (m : Int)) := by show _ = _; exact bestTo_t (by rw [← hL]; exact h0) (.inr (by rw [← hzz, Int.toNat_natCast, ← hx, ← hy]; exact hxy))
                      have hxd : decide (x < y) = true := decide_eq_true hxy
                      clear hL hbk hv hx hzz hv3 hL2 hy
                      go_wp2_with fail
                      go_quiet (fail)
                      go_wp2_with fail
                      go_roundw
                      case rel => exact ⟨m + 1, by omega, by go_num, ⟨(m : Int), rfl, Lib.hid hst.out.symm, by omega, by omega⟩, hq.drewN _⟩
                      case measure => simp [intOf]; omega
                    · have hst : Hid (bestTo RQ (m + 1) = (k : Int)) := by
                        show _ = _
                        rw [bestTo_f (fun h => by
                          rw [← hzz, Int.toNat_natCast, ← hx, ← hy] at h
                          rcases h.2 with e | e
                          · omega
                          · exact hxy e)]
                        exact hzz.symm
                      have hxd : decide (x < y) = false := decide_eq_false hxy
                      clear hL hbk hv hx hzz hv3 hL2 hy
                      go_wp2_with fail
                      go_quiet (fail)
                      go_wp2_with fail
                      go_roundw
                      case rel => exact ⟨m + 1, by omega, by go_num, ⟨(k : Int), rfl, Lib.hid hst.out.symm, by omega, by omega⟩, hq.drewN _⟩
                      case measure => simp [intOf]; omega
                · obtain rfl : L = 0 := by omega
                  have hst : Hid (bestTo RQ (m + 1) = z) := by show _ = _; rw [hz.out]; exact bestTo_f (fun h => by rw [← hL] at h; omega)
                  clear hL hbk hv
                  go_wp2_with fail
                  go_quiet (fail)
                  go_wp2_with fail
                  go_roundw
                  case rel => exact ⟨m + 1, by omega, by go_num, ⟨z, rfl, Lib.hid hst.out.symm, hz1, hz2⟩, hq.drewN _⟩
                  case measure => simp [intOf]; omega
              · obtain rfl : m = 8 := by omega
                obtain ⟨g1, g2, g3, g4, g5, _⟩ := HBS.out
                have HST := Lib.hid (show rpQ Q (t + 1) = RQ.set (bestN RQ) ((nthL RQ (bestN RQ)).drop 1) by show popQ (rpQ Q t) = _; rw [← HQT.out]; rfl)
                have HSO := Lib.hid (show rpO Q (t + 1) = rpO Q t ++ [headI RQ (bestN RQ)] by show _ ++ _ = _; rw [← HQT.out])
                obtain ⟨k, hk⟩ : ∃ k, k = bestN RQ := ⟨_, rfl⟩
                rw [← hk] at g3 g4 g5
                obtain rfl : z = (k : Int) := by rw [hz.out]; exact g4
                have HK := Lib.hid hk
                obtain ⟨b, off, c, hv, hcf, hlo, hhi, hLc, hcm⟩ := HPQ.out.front g3 g5
                have hcq := hq.ext.cell (HPQ.out.cell g3) id
                rw [hv] at hcq
                obtain ⟨L, hL⟩ : ∃ L, L = (nthL RQ k).length := ⟨_, rfl⟩
                rw [← hL] at hcq g5 hLc hv
                obtain ⟨x, hx⟩ : ∃ x, x = headI RQ k := ⟨_, rfl⟩
                rw [← hx] at hcf
                replace hcf := hq.ext.cell hcf id
                have hLI : (0 : Int) < (L : Int) := by omega
                have hL1 : (1 : Int) ≤ (L : Int) := by omega
                have hLcI : (L : Int) ≤ (c : Int) := by omega
                have hk8I : (k : Int) < 8 := by omega
                have hk0I : (0 : Int) ≤ (k : Int) := by omega
                have hfq := (HPQ.out.row.ext hq.ext).free k none
                have HX := Lib.hid hx
                have HL2 := Lib.hid hL
                have HV := Lib.hid hv
                have hol := Lib.hid (rpO_len Q t)
                have HOI := Lib.hid (show OI H wr.heap.size wr (.slice (some ⟨bo, 0, none⟩) t co) (rpO Q t) from OI.row (HRO.out.ext hq.ext) hbo (rpO_len _ _).symm)
                have hwz : H ≤ wr.heap.size := by have := (HRO.out.ext hq.ext).lt; omega
                have hl9 : (rpO Q t).length ≤ 1000000000 := by rw [rpO_len]; omega
                have hcqA := Ext.cell (show Ext wr (wr.alloc (.cells #[.int .i64 x] 3)) from (Ext.refl _).alloc _) hcq
                have hcfA := Ext.cell (show Ext wr (wr.alloc (.cells #[.int .i64 x] 3)) from (Ext.refl _).alloc _) hcf
                clear g1 g2 g4 hk hv hL hx hz
                go_wp2_with fail
                by_cases hc1 : c = 1
                · subst hc1
                  obtain rfl : L = 1 := by omega
                  go_region_law (refine step_app1O (by rfl) (.tmp 80) (.tmp 86) (by rfl) H wr.heap.size (.slice (some ⟨bo, 0, none⟩) t co) (rpO Q t) x (by rfl) (HOI.out.ext (by first | exact ((Ext.refl _).alloc _).drew | exact ((Ext.refl _).drew).alloc _)) (by simp; omega) wr.heap.size (by rfl) (by first | exact Upd.cell (Upd.drew _ (fun _ => False)) (World.cell?_alloc_at _ _ _ _ rfl) id | exact World.cell?_alloc_at _ _ _ _ rfl) hl9 ?_; intro b6 c6 w6 hr6 hb6 hb6' hu6; have hpq6 := (PQ.ext HPQ.out (hq.ext.trans (by first | exact ((Ext.refl _).alloc _).drew | exact ((Ext.refl _).drew).alloc _))).upd hu6 (fun i e hc => by simp [Value.ownBlock] at hc; omega); have HPQ6 := Lib.hid hpq6; have hcq6 := hpq6.cell g3; rw [HV.out] at hcq6; have hf6 := hpq6.row.free k none; clear hpq6)
                  all_goals
                    have hpop := HPQ6.out.pop g3 (b := b) (off := off) (c := 1) (by rw [← HL2.out]; exact HV.out) (by rw [← HL2.out]; exact g5) (p := (some ⟨b, off, none⟩)) (by rw [if_pos rfl])
                    rw [← HL2.out] at hpop
                    rw [HK.out, ← HST.out, ← HK.out] at hpop
                    have hr7 := hr6.upd (Upd.setCell w6 ⟨bq, k, none⟩ (.slice (some ⟨b, off, none⟩) (1 - 1) (1 - 1))) (by show ¬ b6 = bq; omega)
                    rw [HX.out, HK.out, ← HSO.out, ← HK.out] at hr7
                    have hex : Ext w w6 := (((he.trans hq.ext).trans (show Ext wr _ from (Ext.refl wr).alloc _)).drew).upd hu6 (fun i e => by simp [Value.ownBlock] at e; omega)
                    have HEX := Lib.hid (hex.setCell (p := ⟨bq, k, none⟩) HZ1 (.slice (some ⟨b, off, none⟩) (1 - 1) (1 - 1)))
                    have HPOP := Lib.hid hpop
                    have HR7 := Lib.hid hr7
                    clear hpop hr7 hex hu6 hb6' hcq6 hf6 hr6 hcq hcf hcqA hcfA hfq
                    go_wp2_with fail
                    go_roundw
                    case rel => exact ⟨t + 1, by omega, by go_num, ⟨_, HPOP.out⟩, ⟨b6, c6, by rw [hol.out], hb6, HR7.out⟩, HEX.out⟩
                    case measure => simp [intOf]; omega
                · go_region_law (refine step_app1O (by rfl) (.tmp 80) (.tmp 86) (by rfl) H wr.heap.size (.slice (some ⟨bo, 0, none⟩) t co) (rpO Q t) x (by rfl) (HOI.out.ext (by first | exact ((Ext.refl _).alloc _).drew | exact ((Ext.refl _).drew).alloc _)) (by simp; omega) wr.heap.size (by rfl) (by first | exact Upd.cell (Upd.drew _ (fun _ => False)) (World.cell?_alloc_at _ _ _ _ rfl) id | exact World.cell?_alloc_at _ _ _ _ rfl) hl9 ?_; intro b6 c6 w6 hr6 hb6 hb6' hu6; have hpq6 := (PQ.ext HPQ.out (hq.ext.trans (by first | exact ((Ext.refl _).alloc _).drew | exact ((Ext.refl _).drew).alloc _))).upd hu6 (fun i e hc => by simp [Value.ownBlock] at hc; omega); have HPQ6 := Lib.hid hpq6; have hcq6 := hpq6.cell g3; rw [HV.out] at hcq6; have hf6 := hpq6.row.free k none; clear hpq6)
                  all_goals
                    have hpop := HPQ6.out.pop g3 (b := b) (off := off) (c := c) (by rw [← HL2.out]; exact HV.out) (by rw [← HL2.out]; exact g5) (p := (some ⟨b, off + 1, none⟩)) (by rw [if_neg hc1])
                    rw [← HL2.out] at hpop
                    rw [HK.out, ← HST.out, ← HK.out] at hpop
                    have hr7 := hr6.upd (Upd.setCell w6 ⟨bq, k, none⟩ (.slice (some ⟨b, off + 1, none⟩) (L - 1) (c - 1))) (by show ¬ b6 = bq; omega)
                    rw [HX.out, HK.out, ← HSO.out, ← HK.out] at hr7
                    have hex : Ext w w6 := (((he.trans hq.ext).trans (show Ext wr _ from (Ext.refl wr).alloc _)).drew).upd hu6 (fun i e => by simp [Value.ownBlock] at e; omega)
                    have HEX := Lib.hid (hex.setCell (p := ⟨bq, k, none⟩) HZ1 (.slice (some ⟨b, off + 1, none⟩) (L - 1) (c - 1)))
                    have HPOP := Lib.hid hpop
                    have HR7 := Lib.hid hr7
                    clear hpop hr7 hex hu6 hb6' hcq6 hf6 hr6 hcq hcf hcqA hcfA hfq
                    go_wp2_with fail
                    go_roundw
                    case rel => exact ⟨t + 1, by omega, by go_num, ⟨_, HPOP.out⟩, ⟨b6, c6, by rw [hol.out], hb6, HR7.out⟩, HEX.out⟩
                    case measure => simp [intOf]; omega
          · obtain rfl : t = j := by omega
            go_wp2_with fail
            go_ret2
            rw [HRP.out, HFIN.out]
            exact ⟨_, rfl, OI.row hro (by omega) (rpO_len _ _).symm, he⟩
  · have e0 : Hid (rpB p plan = false) := by show _ = _; simp [rpB, hlen]
    have e1 : Hid (rpL p plan = []) := by show _ = _; simp [rpL, e0.out]
    have hne : ((plan.length : Int) != (p.length : Int)) = true := by simp; omega
    have hP := Lib.hid hp
    clear hp hlen
    go_enter Try.func15, Try.ntmps15
    go_wp2_with (go_at_call 39; refine (impl_IsPerm_ok _ p _ h).mono ?_; rintro e w1 ⟨rfl, he⟩; rw [hP.out])
    go_ret2
    rw [e0.out, e1.out]
    exact ⟨_, rfl, OI.nil _ _ _, he⟩
end Go.Proofs.Ytplcnehiaokdjaa
