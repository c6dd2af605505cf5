/- Contracts of IsNetwork, the program's and the reference's. Conditions: lengths below a bound. -/
import Derived.Test.YtapcnhbgoolcgaaBd
import Derived.Test.YtapcnhbgoolcgaaFunc
import Derived.Test.YtapcnhbgoolcgaaBase
namespace Go.Proofs.Ytapcnhbgoolcgaa
open Go.RowKit

def gateB (n : Int) (g : List Int) : Bool := decide (g.length = 2 ∧ 1 ≤ nth g 0 ∧ nth g 0 < nth g 1 ∧ nth g 1 ≤ n)
def netB (n : Int) (gs : List (List Int)) : Bool := decide (1 ≤ n ∧ n ≤ 8 ∧ gs.length ≤ 40) && gs.all (gateB n)
theorem gate_true {n : Int} {g : List Int} (h : gateB n g = true) : g.length = 2 ∧ 1 ≤ nth g 0 ∧ nth g 0 < nth g 1 ∧ nth g 1 ≤ n := by simpa [gateB] using h
theorem gate_cases (n : Int) (g : List Int) : (g.length ≠ 2 ∧ gateB n g = false) ∨ (g.length = 2 ∧ ((nth g 0 < 1 ∧ gateB n g = false) ∨ (1 ≤ nth g 0 ∧ nth g 1 ≤ nth g 0 ∧ gateB n g = false) ∨
    (1 ≤ nth g 0 ∧ nth g 0 < nth g 1 ∧ n < nth g 1 ∧ gateB n g = false) ∨ (1 ≤ nth g 0 ∧ nth g 0 < nth g 1 ∧ nth g 1 ≤ n ∧ gateB n g = true))) := by
  have hg : gateB n g = decide (g.length = 2 ∧ 1 ≤ nth g 0 ∧ nth g 0 < nth g 1 ∧ nth g 1 ≤ n) := rfl
  by_cases h1 : g.length = 2
  · refine .inr ⟨h1, ?_⟩
    by_cases h2 : nth g 0 < 1
    · exact .inl ⟨h2, by rw [hg]; exact decide_eq_false (by omega)⟩
    · by_cases h3 : nth g 1 ≤ nth g 0
      · exact .inr (.inl ⟨by omega, h3, by rw [hg]; exact decide_eq_false (by omega)⟩)
      · by_cases h4 : n < nth g 1
        · exact .inr (.inr (.inl ⟨by omega, by omega, h4, by rw [hg]; exact decide_eq_false (by omega)⟩))
        · exact .inr (.inr (.inr ⟨by omega, by omega, by omega, by rw [hg]; exact decide_eq_true (by omega)⟩))
  · exact .inl ⟨h1, by rw [hg]; exact decide_eq_false (by omega)⟩
theorem net_true {n : Int} {gs : List (List Int)} (h : netB n gs = true) : 1 ≤ n ∧ n ≤ 8 ∧ gs.length ≤ 40 ∧ ∀ g ∈ gs, gateB n g = true := by
  simp only [netB, Bool.and_eq_true, decide_eq_true_eq, List.all_eq_true] at h
  exact ⟨h.1.1, h.1.2.1, h.1.2.2, h.2⟩
theorem net_any (n : Int) (gs : List (List Int)) : anyL (fun g => !gateB n g) gs = !gs.all (gateB n) := by
  unfold anyL
  induction gs with
  | nil => rfl
  | cons g gs ih => simp only [List.any_cons, List.all_cons, Bool.not_and, ih]

set_option maxHeartbeats 1000000 in
theorem gate_ok (u : Value) (g : List Int) (n : Int) (bx : Nat) (w : World) (h : SI w u g) (hx : w.cell? ⟨bx, 0, none⟩ = some (.int .i64 n)) :
    Calls Try.prog 62 #[u, .pointer (some ⟨bx, 0, none⟩)] w fun e w' => e = .returned (.bool (!gateB n g)) ∧ Ext w w' := by
  obtain ⟨a, cap, rfl, hri⟩ := h.elim
  clear h
  rcases gate_cases n g with ⟨hl, hb⟩ | ⟨hl, hc⟩
  · have HB := Lib.hid hb
    have hb2 : ((g.length : Int) != 2) = true := by simp; omega
    clear hb hl
    go_enter Try.func62, Try.ntmps62
    go_wp2_with fail
    go_quiet (fail)
    go_wp2_with fail
    go_ret
    exact ⟨by rw [HB.out]; rfl, Upd.drewN _ _ _⟩
  · obtain ⟨b, off, rfl, hcl⟩ := hri.get (k := 0) (by omega)
    have c0 : w.cell? ⟨b, off, none⟩ = some (.int .i64 (nth g 0)) := hcl 0 (by omega)
    have c1 : w.cell? ⟨b, off + 1, none⟩ = some (.int .i64 (nth g 1)) := hcl 1 (by omega)
    rw [hl]
    clear hl hcl hri
    rcases hc with ⟨h1, hb⟩ | ⟨h1, h2, hb⟩ | ⟨h1, h2, h3, hb⟩ | ⟨h1, h2, h3, hb⟩
    all_goals
      have HB := Lib.hid hb
      clear hb
      go_enter Try.func62, Try.ntmps62
      go_wp2_with fail
      go_quiet (fail)
      go_wp2_with fail
      go_ret
      exact ⟨by rw [HB.out]; first | rfl | exact ret_bool (by simp; omega), Upd.drewN _ _ _⟩
set_option maxHeartbeats 1000000 in
theorem impl_IsNetwork_ok (n : Int) (v : Value) (gs : List (List Int)) (w : World) (_hn : I64 n) (h : SII w v gs) (hl : gs.length ≤ 1000000000) :
    Calls Try.prog 29 #[.int .i64 n, v] w fun e w' => e = .returned (.bool (netB n gs)) ∧ Ext w w' := by
  obtain ⟨a, cap, rfl, -⟩ := h.elim
  have he0 : Ext w (w.alloc (.cells #[.int .i64 n] 3)) := Upd.alloc _ _ _
  by_cases h1 : n < 1
  · have e0 : Hid (netB n gs = false) := by show _ = _; unfold netB; rw [decide_eq_false (by omega)]; rfl
    go_enter Try.func29, Try.ntmps29
    go_wp2_with fail
    go_ret
    exact ⟨by rw [e0.out]; rfl, he0⟩
  by_cases h2 : 8 < n
  · have e0 : Hid (netB n gs = false) := by show _ = _; unfold netB; rw [decide_eq_false (by omega)]; rfl
    go_enter Try.func29, Try.ntmps29
    go_wp2_with fail
    go_ret
    exact ⟨by rw [e0.out]; rfl, he0⟩
  by_cases h3 : 40 < gs.length
  · have e0 : Hid (netB n gs = false) := by show _ = _; unfold netB; rw [decide_eq_false (by omega)]; rfl
    go_enter Try.func29, Try.ntmps29
    go_wp2_with fail
    go_ret
    exact ⟨by rw [e0.out]; rfl, he0⟩
  have e0 : Hid (netB n gs = gs.all (gateB n)) := by show _ = _; unfold netB; rw [decide_eq_true (by omega)]; rfl
  have hcx : (w.alloc (.cells #[.int .i64 n] 3)).cell? ⟨w.heap.size, 0, none⟩ = some (.int .i64 n) := World.cell?_alloc_at _ _ _ _ rfl
  have hen : Enters 62 := enters_of Try.func62 rfl rfl
  have HEN := Lib.hid hen
  have HCX := Lib.hid hcx
  have hna := Lib.hid (net_any n gs)
  clear hen hcx
  go_enter Try.func29, Try.ntmps29
  go_wp2_with fail
  refine (containsFuncL_ok _ gs 62 #[.pointer (some ⟨w.heap.size, 0, none⟩)] (fun g => !gateB n g) _ (h.ext he0) hl HEN.out (fun i hi u w1 hw hs => gate_ok u _ n w.heap.size w1 hs (hw.cell HCX.out))).mono ?_
  rintro e w1 ⟨rfl, he1⟩
  rw [hna.out]
  go_wp2_with fail
  go_ret
  exact ⟨by rw [e0.out]; simp, he0.trans he1⟩
set_option maxHeartbeats 1000000 in
theorem spec_IsNetwork_ok (n : Int) (v : Value) (gs : List (List Int)) (w : World) (_hn : I64 n) (h : SII w v gs) (hl : gs.length ≤ 1000000000) :
    Calls Try.prog 30 #[.int .i64 n, v] w fun e w' => e = .returned (.bool (netB n gs)) ∧ Ext w w' := by
  obtain ⟨a, cap, rfl, hri⟩ := h.elim
  clear h
  go_enter Try.func30, Try.ntmps30
  go_wp2_with fail
  go_loopw [5] (fun i wr => ∃ k : Nat, k ≤ gs.length ∧ i = .int .i64 k ∧ Hid ((gs.take k).all (gateB n) = true) ∧ Qt w wr) (fun i _ => gs.length - (intOf i).toNat)
  case atStart => exact ⟨0, by omega, rfl, Lib.hid (by simp), Qt.refl _⟩
  case round =>
    obtain ⟨k, hk, rfl, ha, hq⟩ := hrel
    by_cases hlt : k < gs.length
    · obtain ⟨b, off, rfl, u, hc, hu⟩ := hri k hlt
      replace hc := Ext.cell hq.ext hc
      replace hu := hu.ext hq.ext
      clear hri
      have hmem : nthL gs k ∈ gs := nthL_mem hlt
      have hgen : ∀ g, g = nthL gs k → gateB n g = false → netB n gs = false := by
        intro g hg hb
        unfold netB
        have : gs.all (gateB n) = false := by
          rw [Bool.eq_false_iff]; intro hh
          have := List.all_eq_true.1 hh g (hg ▸ hmem)
          rw [hb] at this; simp at this
        rw [this, Bool.and_false]
      obtain ⟨g, hg⟩ : ∃ g, g = nthL gs k := ⟨_, rfl⟩
      rw [← hg] at hu
      have HG := Lib.hid hg
      have HF := Lib.hid (hgen g hg)
      clear hg hgen hmem
      obtain ⟨a2, cap2, rfl, hri2⟩ := hu.elim
      clear hu
      rcases gate_cases n g with ⟨hgl, hb⟩ | ⟨hgl, hcs⟩
      · have HB := Lib.hid (HF.out hb)
        have hb2 : ((g.length : Int) != 2) = true := by simp; omega
        clear hb hgl
        go_wp2_with fail
        go_quiet (fail)
        go_wp2_with fail
        go_ret
        exact ⟨by rw [HB.out]; rfl, (hq.drewN _).ext⟩
      · obtain ⟨b2, off2, rfl, hcl⟩ := hri2.get (k := 0) (by omega)
        have c0 : wr.cell? ⟨b2, off2, none⟩ = some (.int .i64 (nth g 0)) := hcl 0 (by omega)
        have c1 : wr.cell? ⟨b2, off2 + 1, none⟩ = some (.int .i64 (nth g 1)) := hcl 1 (by omega)
        rw [hgl] at hc
        clear hgl hcl hri2
        rcases hcs with ⟨h1, hb⟩ | ⟨h1, h2, hb⟩ | ⟨h1, h2, h3, hb⟩ | ⟨h1, h2, h3, hb⟩
        · have HB := Lib.hid (HF.out hb)
          clear hb
          go_wp2_with fail
          go_quiet (fail)
          go_wp2_with fail
          go_ret
          exact ⟨by rw [HB.out]; rfl, (hq.drewN _).ext⟩
        · have HB := Lib.hid (HF.out hb)
          clear hb
          go_wp2_with fail
          go_quiet (fail)
          go_wp2_with fail
          go_ret
          exact ⟨by rw [HB.out]; rfl, (hq.drewN _).ext⟩
        · have HB := Lib.hid (HF.out hb)
          clear hb
          go_wp2_with fail
          go_quiet (fail)
          go_wp2_with fail
          go_ret
          exact ⟨by rw [HB.out]; rfl, (hq.drewN _).ext⟩
        · have HB := Lib.hid hb
          clear hb
          go_wp2_with fail
          go_quiet (fail)
          go_wp2_with fail
          go_roundw
          case rel => exact ⟨k + 1, by omega, by go_num, Lib.hid (by rw [take_nthL hlt, List.all_append, ha.out, ← HG.out]; simp [HB.out]), hq.drewN _⟩
          case measure => simp [intOf]; omega
    · have hall : Hid (gs.all (gateB n) = true) := by show _ = _; rw [← ha.out, take_all (by omega)]
      have HE : Hid (netB n gs = (inB n 1 8 && decide (gs.length ≤ 40))) := by
        show _ = _; unfold netB inB; rw [hall.out, Bool.and_true]
        by_cases h1 : 1 ≤ n ∧ n ≤ 8
        · rw [decide_eq_true h1]; simp [h1.1, h1.2]
        · rw [decide_eq_false h1, Bool.false_and, decide_eq_false (fun h => h1 ⟨h.1, h.2.1⟩)]
      cases hin : inB n 1 8
      · have HI := Lib.hid hin
        rw [hin] at HE
        clear hin
        go_wp2_with (go_at_call 56; refine (l1In_ok _ _ _ _).mono ?_; rintro e w1 ⟨rfl, hq1⟩; rw [HI.out])
        go_ret
        exact ⟨by rw [HE.out]; rfl, (hq.trans hq1).ext⟩
      · have HI := Lib.hid hin
        rw [hin] at HE
        clear hin
        by_cases h40 : gs.length ≤ 40
        · have hd := decide_eq_true h40
          rw [hd] at HE
          clear hd
          go_wp2_with (go_at_call 56; refine (l1In_ok _ _ _ _).mono ?_; rintro e w1 ⟨rfl, hq1⟩; rw [HI.out])
          go_ret
          exact ⟨by rw [HE.out]; exact ret_bool (by simp; omega), (hq.trans hq1).ext⟩
        · have hd := decide_eq_false h40
          rw [hd] at HE
          clear hd
          go_wp2_with (go_at_call 56; refine (l1In_ok _ _ _ _).mono ?_; rintro e w1 ⟨rfl, hq1⟩; rw [HI.out])
          go_ret
          exact ⟨by rw [HE.out]; exact ret_bool (by simp; omega), (hq.trans hq1).ext⟩
end Go.Proofs.Ytapcnhbgoolcgaa
