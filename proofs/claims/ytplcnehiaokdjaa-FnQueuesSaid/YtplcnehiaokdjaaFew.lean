/- Contracts of FewestQueues, the program's and the reference's. Conditions: the arguments are ints. -/
import Derived.Test.YtplcnehiaokdjaaCntQ
import Derived.Test.YtplcnehiaokdjaaPerm2
import Derived.Test.YtplcnehiaokdjaaCnt
import Derived.Deep.RegionHeld3
namespace Go.Proofs.Ytplcnehiaokdjaa
open Go.RowKit

theorem layer_perm (n : Nat) : ∀ k, ∀ p ∈ layer n k, (∀ x ∈ p, 1 ≤ x ∧ x ≤ n) ∧ p.Nodup := by
  intro k
  induction k with
  | zero => intro p h; simp [layer] at h; subst h; simp
  | succ k ih =>
    intro p h
    simp only [layer, List.mem_flatMap, extTo, one] at h
    obtain ⟨q, hq, v, hv, hp⟩ := h
    obtain ⟨h1, h2⟩ := ih q hq
    cases hb : hasB q v
    · rw [hb] at hp
      simp at hp
      subst hp
      have hnv : v ∉ q := fun hh => by rw [hasB_true hh] at hb; simp at hb
      have hvb : 1 ≤ v ∧ v ≤ n := by
        simp only [idL, List.mem_map, List.mem_range] at hv
        obtain ⟨i, hi, rfl⟩ := hv; omega
      refine ⟨fun x hx => ?_, ?_⟩
      · rcases List.mem_append.1 hx with hx | hx
        · exact h1 x hx
        · simp at hx; subst hx; exact hvb
      · rw [List.nodup_append]
        exact ⟨h2, by simp, fun a ha b hb' => by simp at hb'; subst hb'; exact fun e => hnv (e ▸ ha)⟩
    · rw [hb] at hp; simp at hp
theorem perms_isP {n : Nat} {p : List Int} (h : p ∈ permsL n) : IsP p := by
  have hl := perms_each h
  rw [← layer_perms] at h
  have := layer_perm n n p h
  exact ⟨fun x hx => by rw [hl]; exact this.1 x hx, this.2⟩

def fqI (n k : Int) : Int := if 0 ≤ n ∧ n ≤ 6 ∧ 0 ≤ k ∧ k ≤ 8 then (cntP (fun p => decide (mxP (planL p) ≤ k)) (permsL n.toNat) : Nat) else -1

set_option maxHeartbeats 400000 in
theorem isSix_ok (x : Int) (w : World) : Calls Try.prog 48 #[.int .i64 x] w fun e w' => e = .returned (.bool (inB x 0 6)) ∧ Qt w w' := by
  by_cases h1 : 0 ≤ x
  · by_cases h2 : x ≤ 6
    · rw [inB_true ⟨h1, h2⟩]
      go_enter Try.func48, Try.ntmps48
      go_wp2
      go_ret
      exact ⟨rfl, Qt.refl _⟩
    · rw [inB_false (by omega)]
      go_enter Try.func48, Try.ntmps48
      go_wp2
      go_ret
      exact ⟨rfl, Qt.refl _⟩
  · rw [inB_false (by omega)]
    go_enter Try.func48, Try.ntmps48
    go_wp2
    go_ret
    exact ⟨rfl, Qt.refl _⟩
set_option maxHeartbeats 1000000 in
theorem few1_ok (u : Value) (p : List Int) (k : Int) (bx : Nat) (w : World) (h : SI w u p) (hx : w.cell? ⟨bx, 0, none⟩ = some (.int .i64 k)) (h8 : p.length ≤ 8) (hpos : ∀ x ∈ p, 1 ≤ x) :
    Calls Try.prog 50 #[u, .pointer (some ⟨bx, 0, none⟩)] w fun e w' => e = .returned (.bool (decide (mxP (planL p) ≤ k))) ∧ Ext w w' := by
  have HPOS := Lib.hid hpos
  have HH := Lib.hid h
  obtain ⟨q, hq⟩ : ∃ q, q = mxP (planL p) := ⟨_, rfl⟩
  have HQ := Lib.hid hq
  rw [← hq]
  clear hpos hq h
  go_enter Try.func50, Try.ntmps50
  go_wp2_with fail
  go_region_held3 (fun w' => w'.cell? ⟨bx, 0, none⟩ = some (.int .i64 k))
    (first | go_keep | (exact he2.cell (by assumption)))
    ((go_at_call 51; refine (countQueues_ok _ p _ (HH.out.ext (Upd.drew _ _)) h8 HPOS.out).mono ?_; rintro e w2 ⟨rfl, he2⟩; rw [← HQ.out]))
  all_goals
    go_wp2_with fail
    go_ret
    exact ⟨rfl, (Upd.drew w _ : Ext w w.drew).trans he2⟩
set_option maxHeartbeats 1000000 in
theorem impl_FewestQueues_ok (n k : Int) (w : World) (_hn : I64 n) (_hk : I64 k) :
    Calls Try.prog 22 #[.int .i64 n, .int .i64 k] w fun e w' => e = .returned (.int .i64 (fqI n k)) ∧ Ext w w' := by
  have he0 : Ext w (w.alloc (.cells #[.int .i64 k] 3)) := Upd.alloc _ _ _
  have hcx0 : (w.alloc (.cells #[.int .i64 k] 3)).cell? ⟨w.heap.size, 0, none⟩ = some (.int .i64 k) := World.cell?_alloc_at _ _ _ _ rfl
  by_cases h1 : 0 ≤ n ∧ n ≤ 6
  · have HI := Lib.hid (inB_true h1)
    obtain ⟨h1a, h1b⟩ := h1
    by_cases h2 : k < 0
    · have e0 : Hid (fqI n k = -1) := by show _ = _; unfold fqI; rw [if_neg (by omega)]
      go_enter Try.func22, Try.ntmps22
      go_wp2_with (go_at_call 48; refine (isSix_ok _ _).mono ?_; rintro e w1 ⟨rfl, hq⟩; rw [HI.out]; have hcx := hq.ext.cell hcx0 id)
      go_ret
      exact ⟨by rw [e0.out]; rfl, he0.trans hq.ext⟩
    by_cases h3 : 8 < k
    · have e0 : Hid (fqI n k = -1) := by show _ = _; unfold fqI; rw [if_neg (by omega)]
      go_enter Try.func22, Try.ntmps22
      go_wp2_with (go_at_call 48; refine (isSix_ok _ _).mono ?_; rintro e w1 ⟨rfl, hq⟩; rw [HI.out]; have hcx := hq.ext.cell hcx0 id)
      go_ret
      exact ⟨by rw [e0.out]; rfl, he0.trans hq.ext⟩
    obtain ⟨m, rfl⟩ : ∃ m : Nat, n = (m : Int) := ⟨n.toNat, by omega⟩
    have e0 : Hid (fqI (m : Int) k = (cntP (fun p => decide (mxP (planL p) ≤ k)) (permsL m) : Nat)) := by show _ = _; unfold fqI; rw [if_pos (by omega)]; simp
    have hen : Enters 50 := enters_of Try.func50 rfl rfl
    have HEN := Lib.hid hen
    clear hen
    go_enter Try.func22, Try.ntmps22
    go_wp2_with fail
    refine (isSix_ok _ _).mono ?_
    rintro e w1 ⟨rfl, hq⟩
    rw [HI.out]
    have hcx : w1.cell? ⟨w.heap.size, 0, none⟩ = some (.int .i64 k) := hq.ext.cell hcx0 id
    go_wp2_with fail
    refine (counted_ok m 50 #[.pointer (some ⟨w.heap.size, 0, none⟩)] (fun p => decide (mxP (planL p) ≤ k)) _ (by omega) HEN.out (fun p hp u w5 hw hs => ?_)).mono ?_
    · exact few1_ok u p k w.heap.size w5 hs (hw.cell hcx) (by have := perms_each hp; omega) (perms_isP hp).pos
    rintro e w3 ⟨rfl, he3⟩
    rw [← e0.out]
    go_wp2_with fail
    go_ret
    exact ⟨rfl, (he0.trans hq.ext).trans he3⟩
  · have HI := Lib.hid (inB_false h1)
    have e0 : Hid (fqI n k = -1) := by show _ = _; unfold fqI; rw [if_neg (by omega)]
    clear h1
    go_enter Try.func22, Try.ntmps22
    go_wp2_with (go_at_call 48; refine (isSix_ok _ _).mono ?_; rintro e w1 ⟨rfl, hq⟩; rw [HI.out])
    go_ret
    exact ⟨by rw [e0.out]; rfl, he0.trans hq.ext⟩
set_option maxHeartbeats 1000000 in
theorem spec_FewestQueues_ok (n k : Int) (w : World) (_hn : I64 n) (_hk : I64 k) :
    Calls Try.prog 23 #[.int .i64 n, .int .i64 k] w fun e w' => e = .returned (.int .i64 (fqI n k)) ∧ Ext w w' := by
  by_cases h1 : 0 ≤ n ∧ n ≤ 6
  · have HI := Lib.hid (inB_true h1)
    obtain ⟨h1a, h1b⟩ := h1
    by_cases h2 : 0 ≤ k ∧ k ≤ 8
    · have HK := Lib.hid (inB_true h2)
      obtain ⟨m, rfl⟩ : ∃ m : Nat, n = (m : Int) := ⟨n.toNat, by omega⟩
      have e0 : Hid (fqI (m : Int) k = (cntP (fun p => decide (mxP (planL p) ≤ k)) (permsL m) : Nat)) := by show _ = _; unfold fqI; rw [if_pos (by omega)]; simp
      obtain ⟨P, hP⟩ : ∃ P, P = (permsL m).length := ⟨_, rfl⟩
      have hps : P ≤ 1000 := by rw [hP]; exact perms_small m (by omega)
      have HP := Lib.hid hP
      clear hP h2
      go_enter Try.func23, Try.ntmps23
      go_wp2_with fail
      refine (l1In_ok _ _ _ _).mono ?_
      rintro e w1 ⟨rfl, hq1⟩
      rw [HI.out]
      go_wp2_with fail
      refine (l1In_ok _ _ _ _).mono ?_
      rintro e w2 ⟨rfl, hq2⟩
      rw [HK.out]
      go_wp2_with fail
      refine (permsOf_ok m _ (by omega)).mono ?_
      rintro e w3 ⟨v3, rfl, ho3, he3⟩
      obtain ⟨a3, c3, rfl, hri⟩ := ho3.sii.elim
      rw [← HP.out] at hri ⊢
      have he : Ext w w3 := ((show Ext w w1 from hq1.ext).trans hq2.ext).trans he3
      clear ho3 he3
      go_wp2_with fail
      go_loopw [5, 7] (fun c i wr => ∃ j : Nat, j ≤ P ∧ i = .int .i64 j ∧ (∃ m1 : Nat, c = .int .i64 m1 ∧ Hid (m1 = cntP (fun p => decide (mxP (planL p) ≤ k)) ((permsL m).take j)) ∧ m1 ≤ j) ∧ Ext w3 wr) (fun _ i _ => P - (intOf i).toNat)
      case atStart => exact ⟨0, Nat.zero_le _, rfl, ⟨0, rfl, Lib.hid rfl, Nat.le_refl _⟩, Ext.refl _⟩
      case round =>
        obtain ⟨j, hj, rfl, ⟨m1, rfl, hm, hmj⟩, he4⟩ := hrel
        by_cases hlt : j < P
        · obtain ⟨b, off, rfl, u, hc, hu⟩ := hri j hlt
          replace hc := Ext.cell he4 hc
          replace hu := hu.ext he4
          have hlt' : j < (permsL m).length := by rw [← HP.out]; exact hlt
          have hst := cntP_succ (g := fun p => decide (mxP (planL p) ≤ k)) hlt'
          have hmem := nthL_mem hlt'
          obtain ⟨p, hp⟩ : ∃ p, p = nthL (permsL m) j := ⟨_, rfl⟩
          rw [← hp] at hu hst hmem
          have hpl := perms_each hmem
          have hpp := perms_isP hmem
          have hcq : cqI p = mxP (planL p) := by simp [cqI, isP8_true (by omega) hpp]
          have hib : I64s p := fun x hx => by have := hpp.1 x hx; unfold I64; omega
          have HCQ := Lib.hid hcq
          have HIB := Lib.hid hib
          have hpl2 : p.length ≤ 1048576 := by omega
          obtain ⟨au, cu, rfl, -⟩ := hu.elim
          obtain ⟨y, hy⟩ : ∃ y, y = mxP (planL p) := ⟨_, rfl⟩
          rw [← hy] at hst hcq
          have HY := Lib.hid hy
          clear hri hlt' hmem hp hpl hpp hcq hib hy
          by_cases hle : y ≤ k
          · rw [decide_eq_true hle] at hst
            have HST := Lib.hid hst
            clear hst
            go_wp2_with (first | (go_at_call 25; refine (spec_CountQueues_ok _ p _ hu hpl2 HIB.out).mono ?_; rintro e w5 ⟨rfl, he5⟩; rw [HCQ.out, ← HY.out]) | (go_at_call 44; refine (l1Bit_t _).mono ?_; rintro e w6 ⟨rfl, hq6⟩))
            go_roundw
            case rel => exact ⟨j + 1, by omega, by go_num, ⟨m1 + 1, by go_num, Lib.hid (by rw [HST.out, hm.out]; simp), by omega⟩, (he4.trans he5).trans hq6.ext⟩
            case measure => simp [intOf]; omega
          · rw [decide_eq_false hle] at hst
            have hdd : decide (y ≤ k) = false := decide_eq_false hle
            have HST := Lib.hid hst
            clear hst
            go_wp2_with (first | (go_at_call 25; refine (spec_CountQueues_ok _ p _ hu hpl2 HIB.out).mono ?_; rintro e w5 ⟨rfl, he5⟩; rw [HCQ.out, ← HY.out]) | (go_at_call 44; refine (l1Bit_f _).mono ?_; rintro e w6 ⟨rfl, hq6⟩))
            go_roundw
            case rel => exact ⟨j + 1, by omega, by go_num, ⟨m1, by go_num, Lib.hid (by rw [HST.out, hm.out]; simp), by omega⟩, (he4.trans he5).trans hq6.ext⟩
            case measure => simp [intOf]; omega
        · have hfin : Hid (cntP (fun p => decide (mxP (planL p) ≤ k)) (permsL m) = m1) := by show _ = _; rw [hm.out, take_all (by rw [← HP.out]; omega)]
          go_wp2_with fail
          go_ret
          exact ⟨by rw [e0.out, hfin.out]; rfl, he.trans he4⟩
    · have HK := Lib.hid (inB_false h2)
      have e0 : Hid (fqI n k = -1) := by show _ = _; unfold fqI; rw [if_neg (by omega)]
      clear h2
      go_enter Try.func23, Try.ntmps23
      go_wp2_with fail
      refine (l1In_ok _ _ _ _).mono ?_
      rintro e w1 ⟨rfl, hq1⟩
      rw [HI.out]
      go_wp2_with fail
      refine (l1In_ok _ _ _ _).mono ?_
      rintro e w2 ⟨rfl, hq2⟩
      rw [HK.out]
      go_wp2_with fail
      go_ret
      exact ⟨by rw [e0.out]; rfl, (show Ext w w1 from hq1.ext).trans hq2.ext⟩
  · have HI := Lib.hid (inB_false h1)
    have e0 : Hid (fqI n k = -1) := by show _ = _; unfold fqI; rw [if_neg (by omega)]
    clear h1
    go_enter Try.func23, Try.ntmps23
    go_wp2_with (go_at_call 42; refine (l1In_ok _ _ _ _).mono ?_; rintro e w1 ⟨rfl, hq⟩; rw [HI.out])
    go_ret
    exact ⟨by rw [e0.out]; rfl, hq.ext⟩
end Go.Proofs.Ytplcnehiaokdjaa
