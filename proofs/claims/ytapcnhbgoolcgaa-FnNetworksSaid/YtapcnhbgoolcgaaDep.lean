/- Contracts of DepthOf, the program's and the reference's. Conditions: lengths below a bound. -/
import Derived.Test.YtapcnhbgoolcgaaNet
import Derived.Deep.RegionWith
namespace Go.Proofs.Ytapcnhbgoolcgaa
open Go.RowKit

def fupd (f : Nat → Int) (i : Nat) (v : Int) : Nat → Int := fun j => if j = i then v else f j
def mapN (f : Nat → Int) (m : Nat) : List Int := (List.range m).map f
theorem mapN_len (f : Nat → Int) (m : Nat) : (mapN f m).length = m := by simp [mapN]
theorem mapN_nth (f : Nat → Int) {m i : Nat} (h : i < m) : nth (mapN f m) i = f i := by simp [nth, mapN, h]
theorem mapN_set (f : Nat → Int) (m i : Nat) (v : Int) : (mapN f m).set i v = mapN (fupd f i v) m := by
  refine List.ext_getElem (by simp [mapN]) fun j h1 h2 => ?_
  simp only [mapN, List.getElem_set, List.getElem_map, List.getElem_range, fupd]
  by_cases e : i = j
  · subst e; simp
  · rw [if_neg e, if_neg (fun h => e h.symm)]
theorem mapN_zero (m : Nat) : mapN (fun _ => 0) m = List.replicate m 0 := by
  refine List.ext_getElem (by simp [mapN]) fun j h1 h2 => ?_
  simp [mapN]

def dR (f : Nat → Int) (g : List Int) : Int := 1 + max (f (nth g 0).toNat) (f (nth g 1).toNat)
def dS (st : (Nat → Int) × Int) (g : List Int) : (Nat → Int) × Int := (fupd (fupd st.1 (nth g 0).toNat (dR st.1 g)) (nth g 1).toNat (dR st.1 g), max st.2 (dR st.1 g))
def dF (gs : List (List Int)) : (Nat → Int) × Int := gs.foldl dS (fun _ => 0, 0)
def depI (n : Int) (gs : List (List Int)) : Int := bif netB n gs then (dF gs).2 else -1
theorem dF_take {gs : List (List Int)} {k : Nat} (h : k < gs.length) : dF (gs.take (k + 1)) = dS (dF (gs.take k)) (nthL gs k) := by rw [take_nthL h]; simp [dF, List.foldl_append]
theorem dF_bd (gs : List (List Int)) : ∀ k, k ≤ gs.length → (∀ i, 0 ≤ (dF (gs.take k)).1 i ∧ (dF (gs.take k)).1 i ≤ k) ∧ 0 ≤ (dF (gs.take k)).2 ∧ (dF (gs.take k)).2 ≤ k := by
  intro k
  induction k with
  | zero => intro _; simp [dF]
  | succ k ih =>
    intro hk
    obtain ⟨h1, h2, h3⟩ := ih (by omega)
    rw [dF_take (by omega)]
    have hr : 0 ≤ dR (dF (gs.take k)).1 (nthL gs k) ∧ dR (dF (gs.take k)).1 (nthL gs k) ≤ k + 1 := by
      unfold dR; have := h1 (nth (nthL gs k) 0).toNat; have := h1 (nth (nthL gs k) 1).toNat; omega
    refine ⟨fun i => ?_, ?_, ?_⟩
    · unfold dS fupd
      simp only
      have := h1 i
      split
      · push_cast; omega
      · split
        · push_cast; omega
        · push_cast; omega
    · unfold dS; simp only; omega
    · unfold dS; simp only; push_cast; omega
theorem gate_pos {n : Int} {g : List Int} (h : gateB n g = true) : ∃ a b : Nat, nth g 0 = (a : Int) ∧ nth g 1 = (b : Int) ∧ 1 ≤ a ∧ a < b ∧ (b : Int) ≤ n ∧ g.length = 2 := by
  obtain ⟨h1, h2, h3, h4⟩ := gate_true h
  exact ⟨(nth g 0).toNat, (nth g 1).toNat, by omega, by omega, by omega, by omega, by omega, h1⟩
theorem dR_of {f : Nat → Int} {g : List Int} {a b : Nat} (ha : nth g 0 = (a : Int)) (hb : nth g 1 = (b : Int)) : dR f g = 1 + max (f a) (f b) := by simp [dR, ha, hb]
theorem dS_of {f : Nat → Int} {m : Int} {g : List Int} {a b : Nat} (ha : nth g 0 = (a : Int)) (hb : nth g 1 = (b : Int)) : dS (f, m) g = (fupd (fupd f a (1 + max (f a) (f b))) b (1 + max (f a) (f b)), max m (1 + max (f a) (f b))) := by
  simp only [dS, dR_of ha hb]; simp [ha, hb]

theorem l1Max_z (x y z : Int) (hz : Hid (z = max x y)) (w : World) : Calls Try.prog 61 #[.int .i64 x, .int .i64 y] w fun e w' => e = .returned (.int .i64 z) ∧ Qt w w' := by
  rw [hz.out]; exact l1Max_ok x y w
set_option maxHeartbeats 2000000 in
theorem spec_DepthOf_ok (n : Int) (v : Value) (gs : List (List Int)) (w : World) (hn : I64 n) (h : SII w v gs) (hl : gs.length ≤ 1000000000) :
    Calls Try.prog 28 #[.int .i64 n, v] w fun e w' => e = .returned (.int .i64 (depI n gs)) ∧ Ext w w' := by
  obtain ⟨av, capv, rfl, hri⟩ := h.elim
  cases hnet : netB n gs
  · have HT := Lib.hid hnet
    have e0 : Hid (depI n gs = -1) := by show _ = _; simp [depI, hnet]
    clear hnet
    go_enter Try.func28, Try.ntmps28
    go_wp2_with (go_at_call 30; refine (spec_IsNetwork_ok _ _ gs _ hn h hl).mono ?_; rintro e w1 ⟨rfl, he1⟩; rw [HT.out])
    go_ret
    exact ⟨by rw [e0.out]; rfl, he1⟩
  · have HT := Lib.hid hnet
    have e0 : Hid (depI n gs = (dF gs).2) := by show _ = _; simp [depI, hnet]
    obtain ⟨n1, n2, n3, n4⟩ := net_true hnet
    have N4 := Lib.hid n4
    obtain ⟨m, rfl⟩ : ∃ m : Nat, n = (m : Int) := ⟨n.toNat, by omega⟩
    have hbd := Lib.hid (dF_bd gs)
    clear hnet n4
    go_enter Try.func28, Try.ntmps28
    go_wp2_with (first | (go_at_call 30; refine (spec_IsNetwork_ok _ _ gs _ hn h hl).mono ?_; rintro e w1 ⟨rfl, he1⟩; rw [HT.out]) | (at_make; refine wpl_make_int rfl _ _ rfl (m + 1) _ _ _ _ rfl rfl (by simp) (by simp) (by omega) ?_; intro w2 hr0 he2 hs2))
    rw [← mapN_zero] at hr0
    have he0 : Ext w w2 := he1.trans he2
    have hbb : w.heap.size ≤ w1.heap.size := he1.size
    obtain ⟨B, hB⟩ : ∃ B, B = w1.heap.size := ⟨_, rfl⟩
    rw [← hB] at hr0 hbb ⊢
    clear he2 hs2 hB h he1
    go_loopw [6, 7] (fun c i wr => ∃ k : Nat, k ≤ gs.length ∧ i = .int .i64 k ∧ (∃ q : Int, c = .int .i64 q ∧ Hid (q = (dF (gs.take k)).2) ∧ 0 ≤ q ∧ q ≤ k) ∧ Row 3 wr B (m + 1) (vals (mapN (dF (gs.take k)).1 (m + 1))) ∧ Ext w wr) (fun _ i _ => gs.length - (intOf i).toNat)
    case atStart => exact ⟨0, by omega, rfl, ⟨0, rfl, Lib.hid rfl, by omega, by omega⟩, by simpa [dF] using hr0, he0⟩
    case round =>
      obtain ⟨k, hk, rfl, ⟨best, rfl, hbe, hbe0, hbe1⟩, hr, he⟩ := hrel
      clear hr0 he0
      by_cases hlt : k < gs.length
      · obtain ⟨b1, off1, rfl, u, hc, hu⟩ := hri k hlt
        have hB1 : b1 < B := by have := World.block_lt_of_cell? _ _ hc; simp at this; omega
        have hB2 : ∀ b off, (∀ i, i < (nthL gs k).length → w.cell? ⟨b, off + i, none⟩ = some (.int .i64 (nth (nthL gs k) i))) → 0 < (nthL gs k).length → b < B := fun b off hh h0 => by have := World.block_lt_of_cell? _ _ (hh 0 h0); simp at this; omega
        replace hc := Ext.cell he hc
        clear hri
        obtain ⟨p, q, hp, hq, hp1, hpq, hqn, hgl⟩ := gate_pos (N4.out _ (nthL_mem hlt))
        obtain ⟨a2, cap2, rfl, hri2⟩ := hu.elim
        obtain ⟨b2, off2, rfl, hcl2⟩ := hri2.get (k := 0) (by omega)
        have hB3 : b2 < B := hB2 b2 off2 hcl2 (by omega)
        replace hcl2 := fun i hi => he.cell (hcl2 i hi)
        have c0 : wr.cell? ⟨b2, off2, none⟩ = some (.int .i64 (p : Int)) := by rw [← hp]; exact hcl2 0 (by omega)
        have c1 : wr.cell? ⟨b2, off2 + 1, none⟩ = some (.int .i64 (q : Int)) := by rw [← hq]; exact hcl2 1 (by omega)
        rw [hgl] at hc
        obtain ⟨f, hf⟩ : ∃ f, f = (dF (gs.take k)).1 := ⟨_, rfl⟩
        have hbf := (hbd.out k hk).1
        rw [← hf] at hr hbf
        have hfp := hbf p
        have hfq := hbf q
        have hst := dF_take hlt
        rw [show dF (gs.take k) = (f, best) by rw [hf, hbe.out], dS_of hp hq] at hst
        have d0 := hr.icell (j := p) (by rw [mapN_len]; omega)
        have d1 := hr.icell (j := q) (by rw [mapN_len]; omega)
        rw [mapN_nth _ (by omega)] at d0 d1
        have f0 := hr.free p none
        have f1 := hr.free q none
        obtain ⟨x, hx⟩ : ∃ x, x = f p := ⟨_, rfl⟩
        obtain ⟨y, hy⟩ : ∃ y, y = f q := ⟨_, rfl⟩
        rw [← hx] at d0 hfp hst
        rw [← hy] at d1 hfq hst
        obtain ⟨z, hz⟩ : ∃ z, z = max x y := ⟨_, rfl⟩
        rw [← hz] at hst
        have HZ := Lib.hid hz
        have hz1 : 0 ≤ z ∧ z ≤ 40 := by omega
        have w1 : IntKind.i64.wrap (1 + z) = 1 + z := IntWalk.i64_in _ (by omega)
        have hpl : (p : Int) < (m : Int) + 1 := by omega
        have hql : (q : Int) < (m : Int) + 1 := by omega
        have hpl2 : p < m + 1 := by omega
        have hql2 : q < m + 1 := by omega
        have hset := fun k => ((hr.ext (Upd.drewN wr k _)).set p (.int .i64 (1 + z))).set q (.int .i64 (1 + z))
        simp only [vals_set, mapN_set] at hset
        have HS := Lib.hid hset
        have HU := Lib.hid (fun m => ((he.drewN m).setCell (p := ⟨B, p, none⟩) hbb (.int .i64 (1 + z))).setCell (p := ⟨B, q, none⟩) hbb (.int .i64 (1 + z)))
        have HST := Lib.hid hst
        obtain ⟨z2, hz2⟩ : ∃ z2, z2 = max best (1 + z) := ⟨_, rfl⟩
        have hz3 : 0 ≤ z2 ∧ z2 ≤ (k : Int) + 1 := by omega
        have HZ2 := Lib.hid hz2
        clear hB2 hr hset hf hbf hst hx hy hz hz2 hp hq hgl hcl2 hri2 hu
        go_wp2_with fail
        go_quiet ((go_at_call 61; exact Calls.quiet_of (l1Max_z x y z HZ _)))
        clear w1
        go_wp2_with (go_at_call 61; refine (l1Max_z _ _ z2 HZ2 _).mono ?_; rintro e w3 ⟨rfl, hq3⟩)
        go_roundw
        case rel => exact ⟨k + 1, by omega, by go_num, ⟨z2, rfl, Lib.hid (by rw [HST.out, HZ2.out]), by omega, by omega⟩, by rw [HST.out]; exact (HS.out _).ext hq3.ext, (HU.out _).trans hq3.ext⟩
        case measure => simp [intOf]; omega
      · have hfin : Hid ((dF gs).2 = best) := by show _ = _; rw [hbe.out, take_all (by omega)]
        go_wp2_with fail
        go_ret
        exact ⟨by rw [e0.out, hfin.out]; rfl, he⟩
set_option maxHeartbeats 2000000 in
theorem impl_DepthOf_ok (n : Int) (v : Value) (gs : List (List Int)) (w : World) (hn : I64 n) (h : SII w v gs) (hl : gs.length ≤ 1000000000) :
    Calls Try.prog 27 #[.int .i64 n, v] w fun e w' => e = .returned (.int .i64 (depI n gs)) ∧ Ext w w' := by
  obtain ⟨av, capv, rfl, hri⟩ := h.elim
  cases hnet : netB n gs
  · have HT := Lib.hid hnet
    have e0 : Hid (depI n gs = -1) := by show _ = _; simp [depI, hnet]
    clear hnet
    go_enter Try.func27, Try.ntmps27
    go_wp2_with (go_at_call 29; refine (impl_IsNetwork_ok _ _ gs _ hn h hl).mono ?_; rintro e w1 ⟨rfl, he1⟩; rw [HT.out])
    go_ret
    exact ⟨by rw [e0.out]; rfl, he1⟩
  · have HT := Lib.hid hnet
    have e0 : Hid (depI n gs = (dF gs).2) := by show _ = _; simp [depI, hnet]
    obtain ⟨n1, n2, n3, n4⟩ := net_true hnet
    have N4 := Lib.hid n4
    obtain ⟨m, rfl⟩ : ∃ m : Nat, n = (m : Int) := ⟨n.toNat, by omega⟩
    have hbd := Lib.hid (dF_bd gs)
    clear hnet n4
    go_enter Try.func27, Try.ntmps27
    go_wp2_with (go_at_call 29; refine (impl_IsNetwork_ok _ _ gs _ hn h hl).mono ?_; rintro e w1 ⟨rfl, he1⟩; rw [HT.out])
    have hr0 : Row 62 (w1.alloc (.cells #[.int .i64 0, .int .i64 0, .int .i64 0, .int .i64 0, .int .i64 0, .int .i64 0, .int .i64 0, .int .i64 0, .int .i64 0] 62)) w1.heap.size 9 (vals (mapN (fun _ => 0) 9)) := Row.new 62 w1 (vals (mapN (fun _ => 0) 9)) (by simp [mapN]; unfold maxLen; omega)
    have he0 := he1.alloc (.cells #[.int .i64 0, .int .i64 0, .int .i64 0, .int .i64 0, .int .i64 0, .int .i64 0, .int .i64 0, .int .i64 0, .int .i64 0] 62)
    have hbb : w.heap.size ≤ w1.heap.size := he1.size
    obtain ⟨B, hB⟩ : ∃ B, B = w1.heap.size := ⟨_, rfl⟩
    rw [← hB] at hr0 hbb ⊢
    clear hB h he1
    go_loopw [6, 17] (fun c i wr => ∃ k : Nat, k ≤ gs.length ∧ i = .int .i64 k ∧ (∃ q : Int, c = .int .i64 q ∧ Hid (q = (dF (gs.take k)).2) ∧ 0 ≤ q ∧ q ≤ k) ∧ Row 62 wr B 9 (vals (mapN (dF (gs.take k)).1 9)) ∧ Ext w wr) (fun _ i _ => gs.length - (intOf i).toNat)
    case atStart => exact ⟨0, by omega, rfl, ⟨0, rfl, Lib.hid rfl, by omega, by omega⟩, by simpa [dF] using hr0, he0⟩
    case round =>
      obtain ⟨k, hk, rfl, ⟨best, rfl, hbe, hbe0, hbe1⟩, hr, he⟩ := hrel
      clear hr0 he0
      by_cases hlt : k < gs.length
      · obtain ⟨b1, off1, rfl, u, hc, hu⟩ := hri k hlt
        have hB1 : b1 < B := by have := World.block_lt_of_cell? _ _ hc; simp at this; omega
        have hB2 : ∀ b off, (∀ i, i < (nthL gs k).length → w.cell? ⟨b, off + i, none⟩ = some (.int .i64 (nth (nthL gs k) i))) → 0 < (nthL gs k).length → b < B := fun b off hh h0 => by have := World.block_lt_of_cell? _ _ (hh 0 h0); simp at this; omega
        replace hc := Ext.cell he hc
        clear hri
        obtain ⟨p, q, hp, hq, hp1, hpq, hqn, hgl⟩ := gate_pos (N4.out _ (nthL_mem hlt))
        obtain ⟨a2, cap2, rfl, hri2⟩ := hu.elim
        obtain ⟨b2, off2, rfl, hcl2⟩ := hri2.get (k := 0) (by omega)
        have hB3 : b2 < B := hB2 b2 off2 hcl2 (by omega)
        replace hcl2 := fun i hi => he.cell (hcl2 i hi)
        have c0 : wr.cell? ⟨b2, off2, none⟩ = some (.int .i64 (p : Int)) := by rw [← hp]; exact hcl2 0 (by omega)
        have c1 : wr.cell? ⟨b2, off2 + 1, none⟩ = some (.int .i64 (q : Int)) := by rw [← hq]; exact hcl2 1 (by omega)
        rw [hgl] at hc
        obtain ⟨f, hf⟩ : ∃ f, f = (dF (gs.take k)).1 := ⟨_, rfl⟩
        have hbf := (hbd.out k hk).1
        rw [← hf] at hr hbf
        have hfp := hbf p
        have hfq := hbf q
        have hst := dF_take hlt
        rw [show dF (gs.take k) = (f, best) by rw [hf, hbe.out], dS_of hp hq] at hst
        have d0 := hr.icell (j := p) (by rw [mapN_len]; omega)
        have d1 := hr.icell (j := q) (by rw [mapN_len]; omega)
        rw [mapN_nth _ (by omega)] at d0 d1
        have f0 := hr.free p none
        have f1 := hr.free q none
        obtain ⟨x, hx⟩ : ∃ x, x = f p := ⟨_, rfl⟩
        obtain ⟨y, hy⟩ : ∃ y, y = f q := ⟨_, rfl⟩
        rw [← hx] at d0 hfp hst
        rw [← hy] at d1 hfq hst
        have hpl : (p : Int) < 9 := by omega
        have hql : (q : Int) < 9 := by omega
        obtain ⟨z, hz⟩ : ∃ z, z = max x y := ⟨_, rfl⟩
        rw [← hz] at hst
        have hz1 : 0 ≤ z ∧ z ≤ k := by omega
        obtain ⟨z2, hz2⟩ : ∃ z2, z2 = max best (1 + z) := ⟨_, rfl⟩
        rw [← hz2] at hst
        have hz3 : 0 ≤ z2 ∧ z2 ≤ (k : Int) + 1 := by omega
        have hset := fun k => ((hr.ext (Upd.drewN wr k _)).set p (.int .i64 (1 + z))).set q (.int .i64 (1 + z))
        simp only [vals_set, mapN_set] at hset
        have HS := Lib.hid hset
        have HU := Lib.hid (fun m => ((he.drewN m).setCell (p := ⟨B, p, none⟩) hbb (.int .i64 (1 + z))).setCell (p := ⟨B, q, none⟩) hbb (.int .i64 (1 + z)))
        have HST := Lib.hid hst
        clear hB2 hr hset hf hbf hst hx hy hp hq hgl hcl2 hri2 hu
        have hcz : (x < y ∧ z = y) ∨ (¬ x < y ∧ z = x) := by omega
        have hcb : (best < 1 + z ∧ z2 = 1 + z) ∨ (¬ best < 1 + z ∧ z2 = best) := by omega
        clear hz hz2
        rcases hcz with ⟨hxy, rfl⟩ | ⟨hxy, rfl⟩
        all_goals
          rcases hcb with ⟨hbz, rfl⟩ | ⟨hbz, rfl⟩
          all_goals
            have w1 : ∀ t : Int, 0 ≤ t → t ≤ 1000 → IntKind.i64.wrap (1 + t) = 1 + t := fun t h1 h2 => IntWalk.i64_in _ (by omega)
            have w1 := w1 z (by omega) (by omega)
            go_wp2_with fail
            go_quiet (fail)
            clear w1
            go_wp2_with fail
            go_region
            go_wp2_with fail
            go_roundw
            case rel => exact ⟨k + 1, by omega, by go_num, ⟨_, rfl, Lib.hid (by rw [HST.out]), by omega, by omega⟩, by rw [HST.out]; exact HS.out _, HU.out _⟩
            case measure => simp [intOf]; omega
      · have hfin : Hid ((dF gs).2 = best) := by show _ = _; rw [hbe.out, take_all (by omega)]
        go_wp2_with fail
        go_ret
        exact ⟨by rw [e0.out, hfin.out]; rfl, he⟩
end Go.Proofs.Ytapcnhbgoolcgaa
