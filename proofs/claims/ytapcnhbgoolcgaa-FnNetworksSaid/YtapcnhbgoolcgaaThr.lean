/- A list run through the gates of a network: contracts of the program's and the reference's. Conditions: the gates are a network for the list's length. -/
import Derived.Test.YtapcnhbgoolcgaaNet
import Derived.Test.YtapcnhbgoolcgaaCopy
import Derived.Test.YtapcnhbgoolcgaaBase2
namespace Go.Proofs.Ytapcnhbgoolcgaa
open Go.RowKit

def gA (g : List Int) : Nat := (nth g 0 - 1).toNat
def gB (g : List Int) : Nat := (nth g 1 - 1).toNat
def gst (ys g : List Int) : List Int := (ys.set (gA g) (min (nth ys (gA g)) (nth ys (gB g)))).set (gB g) (max (nth ys (gA g)) (nth ys (gB g)))
def runL (gs : List (List Int)) (xs : List Int) : List Int := gs.foldl gst xs
theorem gst_len (ys g : List Int) : (gst ys g).length = ys.length := by simp [gst]
theorem runL_len (gs : List (List Int)) : ∀ xs : List Int, (runL gs xs).length = xs.length := by
  induction gs with
  | nil => intro xs; rfl
  | cons g gs ih => intro xs; show (runL gs (gst xs g)).length = _; rw [ih, gst_len]
theorem runL_take {gs : List (List Int)} {k : Nat} (h : k < gs.length) (xs : List Int) : runL (gs.take (k + 1)) xs = gst (runL (gs.take k) xs) (nthL gs k) := by
  rw [take_nthL h]; simp [runL, List.foldl_append]
theorem gate_nat {n : Int} {g : List Int} (h : gateB n g = true) : ∃ a b : Nat, nth g 0 = (a : Int) + 1 ∧ nth g 1 = (b : Int) + 1 ∧ gA g = a ∧ gB g = b ∧ a < b ∧ (b : Int) < n ∧ g.length = 2 := by
  obtain ⟨h1, h2, h3, h4⟩ := gate_true h
  exact ⟨gA g, gB g, by unfold gA; omega, by unfold gB; omega, rfl, rfl, by unfold gA gB; omega, by unfold gB; omega, h1⟩
theorem gst_swap {ys g : List Int} {a b : Nat} (ha : gA g = a) (hb : gB g = b) (h : nth ys b < nth ys a) : gst ys g = (ys.set a (nth ys b)).set b (nth ys a) := by
  unfold gst; rw [ha, hb, Int.min_eq_right (by omega), Int.max_eq_left (by omega)]
theorem gst_keep {ys g : List Int} {a b : Nat} (ha : gA g = a) (hb : gB g = b) (h : ¬ nth ys b < nth ys a) : gst ys g = (ys.set a (nth ys a)).set b (nth ys b) := by
  unfold gst; rw [ha, hb, Int.min_eq_left (by omega), Int.max_eq_right (by omega)]
theorem gst_eq {ys g : List Int} {a b : Nat} (ha : gA g = a) (hb : gB g = b) (h : ¬ nth ys b < nth ys a) (h2 : ¬ nth ys a < nth ys b) : gst ys g = (ys.set a (nth ys a)).set b (nth ys a) := by
  rw [gst_keep ha hb h, show nth ys b = nth ys a by omega]
theorem set_nth (ys : List Int) (a : Nat) : ys.set a (nth ys a) = ys := by
  rcases Nat.lt_or_ge a ys.length with h | h
  · rw [nth_get h]; exact List.set_getElem_self h
  · exact List.set_eq_of_length_le h
theorem gst_same {ys g : List Int} {a b : Nat} (ha : gA g = a) (hb : gB g = b) (h : ¬ nth ys b < nth ys a) : gst ys g = ys := by
  rw [gst_keep ha hb h, set_nth, set_nth]

set_option maxHeartbeats 2000000 in
theorem through_ok (v v2 : Value) (gs : List (List Int)) (xs : List Int) (w : World) (h : SII w v gs) (h2 : SI w v2 xs) (hl : xs.length ≤ 1000) (h0 : 1 ≤ xs.length) (hg : gs.length ≤ 1000) (hok : ∀ g ∈ gs, gateB xs.length g = true) :
    Calls Try.prog 47 #[v, v2] w fun e w' => ∃ v', e = .returned v' ∧ OI w.heap.size w'.heap.size w' v' (runL gs xs) ∧ Ext w w' := by
  obtain ⟨a, cap, rfl, hri⟩ := h.elim
  have HOK := Lib.hid hok
  clear hok h
  go_enter Try.func47, Try.ntmps47
  go_wp2_with fail
  refine (slicesClone_ok _ xs _ h2 (by omega)).mono ?_
  rintro e w1 ⟨v1, rfl, ho, he1⟩
  rcases ho with ⟨rfl, hx⟩ | ⟨b, c, rfl, hbb, hbz, hr0⟩
  · rw [hx] at h0; simp at h0
  have hcl := hr0.le
  go_wp2_with fail
  go_loopw [14] (fun i wr => ∃ k : Nat, k ≤ gs.length ∧ i = .int .i64 k ∧ Row 3 wr b c (vals (runL (gs.take k) xs)) ∧ Ext w wr) (fun i _ => gs.length - (intOf i).toNat)
  case atStart => exact ⟨0, by omega, rfl, by simpa [runL] using hr0, he1⟩
  case round =>
    obtain ⟨k, hk, rfl, hr, he⟩ := hrel
    clear hr0
    by_cases hlt : k < gs.length
    · obtain ⟨b1, off1, rfl, u, hc, hu⟩ := hri k hlt
      replace hc := Ext.cell he hc
      replace hu := hu.ext he
      clear hri
      obtain ⟨p, q, hp, hq, hgp, hgq, hpq, hqn, hgl⟩ := gate_nat (HOK.out _ (nthL_mem hlt))
      obtain ⟨a2, cap2, rfl, hri2⟩ := hu.elim
      obtain ⟨b2, off2, rfl, hcl2⟩ := hri2.get (k := 0) (by omega)
      have c0 : wr.cell? ⟨b2, off2, none⟩ = some (.int .i64 ((p : Int) + 1)) := by rw [← hp]; exact hcl2 0 (by omega)
      have c1 : wr.cell? ⟨b2, off2 + 1, none⟩ = some (.int .i64 ((q : Int) + 1)) := by rw [← hq]; exact hcl2 1 (by omega)
      rw [hgl] at hc
      obtain ⟨ys, hys⟩ : ∃ ys, ys = runL (gs.take k) xs := ⟨_, rfl⟩
      rw [← hys] at hr
      have hyl : ys.length = xs.length := by rw [hys, runL_len]
      have hst := runL_take hlt xs
      rw [← hys] at hst
      have d0 := hr.icell (j := p) (by omega)
      have d1 := hr.icell (j := q) (by omega)
      have f0 := hr.free p none
      have f1 := hr.free q none
      have w1 : IntKind.i64.wrap ((p : Int) + 1 - 1) = (p : Int) := by rw [IntWalk.i64_in _ (by omega)]; omega
      have w2 : IntKind.i64.wrap ((q : Int) + 1 - 1) = (q : Int) := by rw [IntWalk.i64_in _ (by omega)]; omega
      have hpl : (p : Int) < (xs.length : Int) := by omega
      have hql : (q : Int) < (xs.length : Int) := by omega
      have HYL := Lib.hid hyl
      by_cases hgt : nth ys q < nth ys p
      · have hset := fun m => ((hr.ext (Upd.drewN wr m _)).set p (.int .i64 (nth ys q))).set q (.int .i64 (nth ys p))
        simp only [vals_set, ← gst_swap hgp hgq hgt, ← hst] at hset
        have HS := Lib.hid hset
        have HU := Lib.hid (fun m => ((he.drewN m).setCell (p := ⟨b, p, none⟩) hbb (.int .i64 (nth ys q))).setCell (p := ⟨b, q, none⟩) hbb (.int .i64 (nth ys p)))
        clear hr hset hys hyl hst hp hq hgp hgq hgl hcl2 hri2 hu h2
        go_wp2_with fail
        go_quiet (fail)
        go_wp2_with fail
        go_region
        go_wp2_with fail
        go_roundw
        case rel => exact ⟨k + 1, by omega, by go_num, HS.out _, HU.out _⟩
        case measure => simp [intOf]; omega
      · by_cases hls : nth ys p < nth ys q
        · have hset := fun m => ((hr.ext (Upd.drewN wr m _)).set p (.int .i64 (nth ys p))).set q (.int .i64 (nth ys q))
          simp only [vals_set, ← gst_keep hgp hgq hgt, ← hst] at hset
          have HS := Lib.hid hset
          have HU := Lib.hid (fun m => ((he.drewN m).setCell (p := ⟨b, p, none⟩) hbb (.int .i64 (nth ys p))).setCell (p := ⟨b, q, none⟩) hbb (.int .i64 (nth ys q)))
          clear hr hset hys hyl hst hp hq hgp hgq hgl hcl2 hri2 hu h2
          go_wp2_with fail
          go_quiet (fail)
          go_wp2_with fail
          go_region
          go_wp2_with fail
          go_roundw
          case rel => exact ⟨k + 1, by omega, by go_num, HS.out _, HU.out _⟩
          case measure => simp [intOf]; omega
        · have hset := fun m => ((hr.ext (Upd.drewN wr m _)).set p (.int .i64 (nth ys p))).set q (.int .i64 (nth ys p))
          simp only [vals_set, ← gst_eq hgp hgq hgt hls, ← hst] at hset
          have HS := Lib.hid hset
          have HU := Lib.hid (fun m => ((he.drewN m).setCell (p := ⟨b, p, none⟩) hbb (.int .i64 (nth ys p))).setCell (p := ⟨b, q, none⟩) hbb (.int .i64 (nth ys p)))
          clear hr hset hys hyl hst hp hq hgp hgq hgl hcl2 hri2 hu h2
          go_wp2_with fail
          go_quiet (fail)
          go_wp2_with fail
          go_region
          go_wp2_with fail
          go_roundw
          case rel => exact ⟨k + 1, by omega, by go_num, HS.out _, HU.out _⟩
          case measure => simp [intOf]; omega
    · obtain rfl : k = gs.length := by omega
      go_wp2_with fail
      go_ret
      rw [take_all (Nat.le_refl _)] at hr
      exact ⟨_, rfl, OI.row hr hbb (by rw [runL_len]), he⟩
/-! ### which gates exchange -/
def useB (gs : List (List Int)) (xs : List Int) (i : Nat) : Bool := decide (nth (runL (gs.take i) xs) (gB (nthL gs i)) < nth (runL (gs.take i) xs) (gA (nthL gs i)))
def useL (gs : List (List Int)) (xs : List Int) (k : Nat) : List Bool := (List.range gs.length).map fun i => decide (i < k) && useB gs xs i
theorem useL_len (gs : List (List Int)) (xs : List Int) (k : Nat) : (useL gs xs k).length = gs.length := by simp [useL]
theorem useL_zero (gs : List (List Int)) (xs : List Int) : useL gs xs 0 = List.replicate gs.length false := by
  refine List.ext_getElem (by simp [useL]) fun i h1 h2 => ?_
  simp [useL]
theorem useL_nth (gs : List (List Int)) (xs : List Int) (k i : Nat) (h : i < gs.length) : nthB (useL gs xs k) i = (decide (i < k) && useB gs xs i) := by simp [nthB, useL, h]
theorem useL_t {gs : List (List Int)} {xs : List Int} {k : Nat} (h : useB gs xs k = true) : (useL gs xs k).set k true = useL gs xs (k + 1) := by
  refine List.ext_getElem (by simp [useL]) fun i h1 h2 => ?_
  simp only [useL, List.getElem_set, List.getElem_map, List.getElem_range]
  by_cases e : k = i
  · subst e; simp [h]
  · rw [if_neg e]; congr 1; simp; omega
theorem useL_f {gs : List (List Int)} {xs : List Int} {k : Nat} (h : useB gs xs k = false) : useL gs xs k = useL gs xs (k + 1) := by
  refine List.ext_getElem (by simp [useL]) fun i h1 h2 => ?_
  simp only [useL, List.getElem_map, List.getElem_range]
  by_cases e : k = i
  · subst e; simp [h]
  · congr 1; simp; omega
set_option maxHeartbeats 2000000 in
theorem l26Run_ok (v v2 : Value) (gs : List (List Int)) (xs : List Int) (w : World) (h : SII w v gs) (h2 : SI w v2 xs) (hl : xs.length ≤ 1000) (hg : gs.length ≤ 1000) (hok : ∀ g ∈ gs, gateB xs.length g = true) :
    Calls Try.prog 57 #[v, v2] w fun e w' => ∃ b c b2 c2, e = .returned (.tuple #[.slice (some ⟨b, 0, none⟩) xs.length c, .slice (some ⟨b2, 0, none⟩) gs.length c2]) ∧ w.heap.size ≤ b ∧ b < b2 ∧ Row 3 w' b c (vals (runL gs xs)) ∧ Row 4 w' b2 c2 (bvals (useL gs xs gs.length)) ∧ Ext w w' := by
  obtain ⟨a, cap, rfl, hri⟩ := h.elim
  obtain ⟨av, capv, rfl, -⟩ := h2.elim
  have HOK := Lib.hid hok
  clear hok h
  go_enter Try.func57, Try.ntmps57
  go_wp2_with (first | (at_builtin; refine wpl_appSI rfl _ _ rfl w.heap.size 0 0 [] xs rfl (Row.new 3 w [] (by simp)) rfl _ rfl (h2.ext (Upd.alloc _ _ _)) (by simp) (by omega) ?_; intro b c w2 hr0 hs hu) | (at_make; refine wpl_make_bool rfl _ _ rfl gs.length _ _ _ _ rfl rfl rfl rfl (by omega) ?_; intro w3 hb0 he3 hs3))
  rw [List.nil_append] at hr0
  have hbb : w.heap.size ≤ b := by
    rcases hs with e | e
    · omega
    · simp at e; omega
  have he2 : Ext w w2 := ((Ext.refl w).alloc _).upd1 hu (Nat.le_refl _)
  have he3' : Ext w w3 := he2.trans he3
  have hb2 : b < w2.heap.size := hr0.lt
  have hcl := hr0.le
  rw [useL_zero gs xs |>.symm] at hb0
  replace hr0 := hr0.ext he3
  obtain ⟨B3, hB3⟩ : ∃ B3, B3 = w2.heap.size := ⟨_, rfl⟩
  rw [← hB3] at hb0 hb2 ⊢
  clear hu hs he2 he3 hs3 hB3
  go_loopw [8] (fun i wr => ∃ k : Nat, k ≤ gs.length ∧ i = .int .i64 k ∧ Row 3 wr b c (vals (runL (gs.take k) xs)) ∧ Row 4 wr B3 gs.length (bvals (useL gs xs k)) ∧ Ext w wr) (fun i _ => gs.length - (intOf i).toNat)
  case atStart => exact ⟨0, by omega, rfl, by simpa [runL] using hr0, hb0, he3'⟩
  case round =>
    obtain ⟨k, hk, rfl, hr, hb, he⟩ := hrel
    clear hr0 hb0 he3'
    by_cases hlt : k < gs.length
    · obtain ⟨b1, off1, rfl, u, hc, hu⟩ := hri k hlt
      replace hc := Ext.cell he hc
      replace hu := hu.ext he
      clear hri
      obtain ⟨p, q, hp, hq, hgp, hgq, hpq, hqn, hgl⟩ := gate_nat (HOK.out _ (nthL_mem hlt))
      obtain ⟨a2, cap2, rfl, hri2⟩ := hu.elim
      obtain ⟨b2, off2, rfl, hcl2⟩ := hri2.get (k := 0) (by omega)
      have c0 : wr.cell? ⟨b2, off2, none⟩ = some (.int .i64 ((p : Int) + 1)) := by rw [← hp]; exact hcl2 0 (by omega)
      have c1 : wr.cell? ⟨b2, off2 + 1, none⟩ = some (.int .i64 ((q : Int) + 1)) := by rw [← hq]; exact hcl2 1 (by omega)
      rw [hgl] at hc
      obtain ⟨ys, hys⟩ : ∃ ys, ys = runL (gs.take k) xs := ⟨_, rfl⟩
      rw [← hys] at hr
      have hyl : ys.length = xs.length := by rw [hys, runL_len]
      have hst := runL_take hlt xs
      rw [← hys] at hst
      have hub : useB gs xs k = decide (nth ys q < nth ys p) := by unfold useB; rw [← hys, hgp, hgq]
      have d0 := hr.icell (j := p) (by omega)
      have d1 := hr.icell (j := q) (by omega)
      have f0 := hr.free p none
      have f1 := hr.free q none
      have w1 : IntKind.i64.wrap ((p : Int) + 1 - 1) = (p : Int) := by rw [IntWalk.i64_in _ (by omega)]; omega
      have w2 : IntKind.i64.wrap ((q : Int) + 1 - 1) = (q : Int) := by rw [IntWalk.i64_in _ (by omega)]; omega
      have w3 : (p : Int) + 1 - 1 = (p : Int) := by omega
      have w4 : (q : Int) + 1 - 1 = (q : Int) := by omega
      have hpl : (p : Int) < (xs.length : Int) := by omega
      have hql : (q : Int) < (xs.length : Int) := by omega
      have hpl2 : p < xs.length := by omega
      have hql2 : q < xs.length := by omega
      have HYL := Lib.hid hyl
      by_cases hgt : nth ys q < nth ys p
      · have hub' : useB gs xs k = true := by rw [hub, decide_eq_true hgt]
        have gc := hb.cell (bvals_get (bs := useL gs xs k) (j := k) (by rw [useL_len]; omega))
        have gf := hb.free k none
        have hset := fun m => (((hr.ext (Upd.drewN wr m _)).set p (.int .i64 (nth ys q))).set q (.int .i64 (nth ys p))).upd (Upd.setCell _ ⟨B3, k, none⟩ (.bool true)) (by simp; omega)
        simp only [vals_set, ← gst_swap hgp hgq hgt, ← hst] at hset
        have hsb := fun m => (((hb.ext (Upd.drewN wr m _)).upd (Upd.setCell _ ⟨b, p, none⟩ (.int .i64 (nth ys q))) (by simp; omega)).upd (Upd.setCell _ ⟨b, q, none⟩ (.int .i64 (nth ys p))) (by simp; omega)).set k (.bool true)
        simp only [bvals_set, useL_t hub'] at hsb
        have HS := Lib.hid hset
        have HB := Lib.hid hsb
        have hbB : w.heap.size ≤ B3 := by omega
        have HU := Lib.hid (fun m => (((he.drewN m).setCell (p := ⟨b, p, none⟩) hbb (.int .i64 (nth ys q))).setCell (p := ⟨b, q, none⟩) hbb (.int .i64 (nth ys p))).setCell (p := ⟨B3, k, none⟩) hbB (.bool true))
        clear hr hb hset hsb hys hyl hst hp hq hgp hgq hgl hcl2 hri2 hu h2 hub hub'
        go_wp2_with fail
        go_quiet (fail)
        go_wp2_with fail
        go_roundw
        case rel => exact ⟨k + 1, by omega, by go_num, HS.out _, HB.out _, HU.out _⟩
        case measure => simp [intOf]; omega
      · have hub' : useB gs xs k = false := by rw [hub, decide_eq_false hgt]
        rw [useL_f hub'] at hb
        rw [gst_same hgp hgq hgt] at hst
        have HST := Lib.hid hst
        have hrd := Lib.hid (fun m => hr.ext (Upd.drewN wr m _))
        have hbd := Lib.hid (fun m => hb.ext (Upd.drewN wr m _))
        clear hr hb hys hyl hst hp hq hgp hgq hgl hcl2 hri2 hu h2 hub hub'
        go_wp2_with fail
        go_quiet (fail)
        go_wp2_with fail
        go_roundw
        case rel => exact ⟨k + 1, by omega, by go_num, by rw [HST.out]; exact hrd.out _, hbd.out _, he.drewN _⟩
        case measure => simp [intOf]; omega
    · obtain rfl : k = gs.length := by omega
      go_wp2_with fail
      go_ret2
      rw [take_all (Nat.le_refl _)] at hr
      exact ⟨b, c, B3, gs.length, rfl, hbb, hb2, hr, hb, he⟩
end Go.Proofs.Ytapcnhbgoolcgaa
