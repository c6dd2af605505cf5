/- slices.Max and slices.Min; a run of places, as the program and the reference test it. Conditions: a permutation, at most 8 numbers. -/
import Derived.Test.YtcifngcmdiokpaaSmi
import Derived.Test.YtcifngcmdiokpaaPop
namespace Go.Proofs.Ytcifngcmdiokpaa
open Go.RowKit

def mxT (L : List Int) (k : Nat) : Int := (L.take k).foldl max (nth L 0)
def mnT (L : List Int) (k : Nat) : Int := (L.take k).foldl min (nth L 0)
theorem mxT_succ {L : List Int} {k : Nat} (h : k < L.length) : mxT L (k + 1) = max (mxT L k) (nth L k) := by unfold mxT; rw [take_nth h, List.foldl_append]; rfl
theorem mnT_succ {L : List Int} {k : Nat} (h : k < L.length) : mnT L (k + 1) = min (mnT L k) (nth L k) := by unfold mnT; rw [take_nth h, List.foldl_append]; rfl
theorem mxT_one {L : List Int} (h : 0 < L.length) : mxT L 1 = nth L 0 := by
  have := mxT_succ (L := L) (k := 0) h
  rw [Nat.zero_add] at this
  rw [this]; simp [mxT]
theorem mnT_one {L : List Int} (h : 0 < L.length) : mnT L 1 = nth L 0 := by
  have := mnT_succ (L := L) (k := 0) h
  rw [Nat.zero_add] at this
  rw [this]; simp [mnT]
theorem mxT_bd {L : List Int} {m : Int} (h : 0 < L.length) (hp : ∀ x ∈ L, 1 ≤ x ∧ x ≤ m) : ∀ k, k ≤ L.length → 1 ≤ mxT L k ∧ mxT L k ≤ m := by
  intro k
  induction k with
  | zero => intro _; exact hp _ (nth_mem h)
  | succ k ih =>
    intro hk
    have h1 := ih (by omega)
    have h2 := hp _ (nth_mem (xs := L) (k := k) (by omega))
    rw [mxT_succ (by omega)]; omega
theorem mnT_bd {L : List Int} {m : Int} (h : 0 < L.length) (hp : ∀ x ∈ L, 1 ≤ x ∧ x ≤ m) : ∀ k, k ≤ L.length → 1 ≤ mnT L k ∧ mnT L k ≤ m := by
  intro k
  induction k with
  | zero => intro _; exact hp _ (nth_mem h)
  | succ k ih =>
    intro hk
    have h1 := ih (by omega)
    have h2 := hp _ (nth_mem (xs := L) (k := k) (by omega))
    rw [mnT_succ (by omega)]; omega
set_option maxHeartbeats 1000000 in
theorem slicesMax_ok (v : Value) (xs : List Int) (w : World) (h : SI w v xs) (h0 : 0 < xs.length) (hl : xs.length ≤ 1000000000) :
    Calls Try.prog 102 #[v] w fun e w' => e = .returned (.int .i64 (mxT xs xs.length)) ∧ Qt w w' := by
  obtain ⟨a, cap, rfl, hri⟩ := h.elim
  clear h
  obtain ⟨b0, off0, rfl, hc0⟩ := hri.get h0
  have c0 : w.cell? ⟨b0, off0, none⟩ = some (.int .i64 (nth xs 0)) := hc0 0 h0
  have hone := Lib.hid (mxT_one h0)
  clear hc0
  go_enter Try.func102, Try.ntmps102
  go_wp2_with fail
  go_loopw [3, 4] (fun c i wr => ∃ k : Nat, k ≤ xs.length ∧ 1 ≤ k ∧ i = .int .i64 k ∧ (∃ q : Int, c = .int .i64 q ∧ Hid (q = mxT xs k)) ∧ Qt w wr) (fun _ i _ => xs.length - (intOf i).toNat)
  case atStart => exact ⟨1, by omega, by omega, rfl, ⟨_, rfl, Lib.hid hone.out.symm⟩, Qt.refl _⟩
  case round =>
    obtain ⟨k, hk, hk1, rfl, ⟨q, rfl, hq⟩, hqt⟩ := hrel
    by_cases hlt : k < xs.length
    · obtain ⟨b, off, e, hc⟩ := (hri.ext hqt.ext).get hlt
      obtain ⟨rfl, rfl⟩ : b0 = b ∧ off0 = off := by simpa using e
      have hck := hc k hlt
      have hst := mxT_succ hlt
      rw [← hq.out] at hst
      obtain ⟨x, hx⟩ : ∃ x, x = nth xs k := ⟨_, rfl⟩
      rw [← hx] at hck hst
      have HST := Lib.hid hst
      clear hc hri e hx hst
      by_cases hqx : q < x
      · have hm := Lib.hid (show max q x = x by omega)
        go_wp2_with fail
        go_roundw
        case rel => exact ⟨k + 1, by omega, by omega, by go_num, ⟨_, rfl, Lib.hid (by rw [HST.out, hm.out])⟩, hqt⟩
        case measure => simp [intOf]; omega
      · have hm := Lib.hid (show max q x = q by omega)
        go_wp2_with fail
        go_roundw
        case rel => exact ⟨k + 1, by omega, by omega, by go_num, ⟨_, rfl, Lib.hid (by rw [HST.out, hm.out])⟩, hqt⟩
        case measure => simp [intOf]; omega
    · obtain rfl : k = xs.length := by omega
      go_wp2_with fail
      go_ret
      exact ⟨by rw [← hq.out]; rfl, hqt⟩
set_option maxHeartbeats 1000000 in
theorem slicesMin_ok (v : Value) (xs : List Int) (w : World) (h : SI w v xs) (h0 : 0 < xs.length) (hl : xs.length ≤ 1000000000) :
    Calls Try.prog 103 #[v] w fun e w' => e = .returned (.int .i64 (mnT xs xs.length)) ∧ Qt w w' := by
  obtain ⟨a, cap, rfl, hri⟩ := h.elim
  clear h
  obtain ⟨b0, off0, rfl, hc0⟩ := hri.get h0
  have c0 : w.cell? ⟨b0, off0, none⟩ = some (.int .i64 (nth xs 0)) := hc0 0 h0
  have hone := Lib.hid (mnT_one h0)
  clear hc0
  go_enter Try.func103, Try.ntmps103
  go_wp2_with fail
  go_loopw [3, 4] (fun c i wr => ∃ k : Nat, k ≤ xs.length ∧ 1 ≤ k ∧ i = .int .i64 k ∧ (∃ q : Int, c = .int .i64 q ∧ Hid (q = mnT xs k)) ∧ Qt w wr) (fun _ i _ => xs.length - (intOf i).toNat)
  case atStart => exact ⟨1, by omega, by omega, rfl, ⟨_, rfl, Lib.hid hone.out.symm⟩, Qt.refl _⟩
  case round =>
    obtain ⟨k, hk, hk1, rfl, ⟨q, rfl, hq⟩, hqt⟩ := hrel
    by_cases hlt : k < xs.length
    · obtain ⟨b, off, e, hc⟩ := (hri.ext hqt.ext).get hlt
      obtain ⟨rfl, rfl⟩ : b0 = b ∧ off0 = off := by simpa using e
      have hck := hc k hlt
      have hst := mnT_succ hlt
      rw [← hq.out] at hst
      obtain ⟨x, hx⟩ : ∃ x, x = nth xs k := ⟨_, rfl⟩
      rw [← hx] at hck hst
      have HST := Lib.hid hst
      clear hc hri e hx hst
      by_cases hqx : x < q
      · have hm := Lib.hid (show min q x = x by omega)
        go_wp2_with fail
        go_roundw
        case rel => exact ⟨k + 1, by omega, by omega, by go_num, ⟨_, rfl, Lib.hid (by rw [HST.out, hm.out])⟩, hqt⟩
        case measure => simp [intOf]; omega
      · have hm := Lib.hid (show min q x = q by omega)
        go_wp2_with fail
        go_roundw
        case rel => exact ⟨k + 1, by omega, by omega, by go_num, ⟨_, rfl, Lib.hid (by rw [HST.out, hm.out])⟩, hqt⟩
        case measure => simp [intOf]; omega
    · obtain rfl : k = xs.length := by omega
      go_wp2_with fail
      go_ret
      exact ⟨by rw [← hq.out]; rfl, hqt⟩
/-- the places from f up to t are a run of numbers. -/
def runB (p : List Int) (f t : Nat) : Bool := mxT (seg p f t) (t - f) - mnT (seg p f t) (t - f) == ((t - f : Nat) : Int) - 1
theorem seg_mem {p : List Int} {f t : Nat} {x : Int} (h : x ∈ seg p f t) : x ∈ p := List.mem_of_mem_drop (List.mem_of_mem_take h)
set_option maxHeartbeats 1000000 in
theorem isInterval_ok (v : Value) (p : List Int) (f t : Nat) (w : World) (h : SI w v p) (hp : ∀ x ∈ p, 1 ≤ x ∧ x ≤ 8) (hf : f < t) (ht : t ≤ p.length) (h8 : p.length ≤ 8) :
    Calls Try.prog 93 #[v, .int .i64 (f : Int), .int .i64 (t : Int)] w fun e w' => e = .returned (.bool (runB p f t)) ∧ Qt w w' := by
  have h0 := h
  obtain ⟨a, cap, rfl, hc1, hc2, -, hri⟩ := h0
  obtain ⟨b, off, rfl, hc⟩ := hri.get (show f < p.length by omega)
  obtain ⟨sg, hsg⟩ : ∃ sg, sg = seg p f t := ⟨_, rfl⟩
  have hsl : sg.length = t - f := by rw [hsg]; exact seg_len ht
  have hseg : SI w (.slice (some ⟨b, off + f, none⟩) (t - f) (cap - f)) sg := by
    have := SI.seg (w := w) (b := b) (off := off) (cap := cap) (xs := p) hc f (t - f) (by omega) hc1 hc2
    rw [hsg]; exact this
  have hbd : ∀ x ∈ sg, 1 ≤ x ∧ x ≤ 8 := fun x hx => hp x (by rw [hsg] at hx; exact seg_mem hx)
  have h1 := mxT_bd (L := sg) (by omega) hbd (t - f) (by omega)
  have h2 := mnT_bd (L := sg) (by omega) hbd (t - f) (by omega)
  obtain ⟨x, hx⟩ : ∃ x, x = mxT sg (t - f) := ⟨_, rfl⟩
  obtain ⟨y, hy⟩ : ∃ y, y = mnT sg (t - f) := ⟨_, rfl⟩
  obtain ⟨l, hl⟩ : ∃ l, l = t - f := ⟨_, rfl⟩
  have HR : Hid (runB p f t = (x - y == (l : Int) - 1)) := by show _ = _; unfold runB; rw [← hsg, ← hx, ← hy, ← hl]
  rw [← hl] at hx hy hseg hsl h1 h2
  rw [← hx] at h1
  rw [← hy] at h2
  have HX := Lib.hid hx
  have HY := Lib.hid hy
  have HSG := Lib.hid hseg
  have HSL := Lib.hid hsl
  have HL := Lib.hid hl
  have hl0 : 0 < l := by omega
  have hl8 : l ≤ 8 := by omega
  have f1 : (f : Int) ≤ (t : Int) := by omega
  have f2 : (t : Int) ≤ (cap : Int) := by omega
  have f5 : (f : Int) ≤ (cap : Int) := by omega
  have f6 : ¬ (cap = f) := by omega
  have f7 : IntKind.i64.wrap (x - y) = x - y := IntWalk.i64_in _ (by omega)
  have f8 : IntKind.i64.wrap ((l : Int) - 1) = (l : Int) - 1 := IntWalk.i64_in _ (by omega)
  clear h hp hri hc hsg hsl hseg hbd hx hy hl
  go_enter Try.func93, Try.ntmps93
  go_wp2_with fail
  rw [← HL.out]
  refine (slicesMax_ok _ sg _ HSG.out (by rw [HSL.out]; exact hl0) (by rw [HSL.out]; omega)).mono ?_
  rintro e w1 ⟨rfl, q1⟩
  rw [HSL.out, ← HX.out]
  have HQ1 := Lib.hid q1
  clear q1
  go_wp2_with fail
  refine (slicesMin_ok _ sg _ (HSG.out.ext HQ1.out.ext) (by rw [HSL.out]; exact hl0) (by rw [HSL.out]; omega)).mono ?_
  rintro e w2 ⟨rfl, q2⟩
  rw [HSL.out, ← HY.out]
  have HQ2 := Lib.hid (HQ1.out.trans q2)
  clear q2
  go_wp2_with fail
  go_ret
  exact ⟨by rw [HR.out]; rfl, HQ2.out⟩
set_option maxHeartbeats 2000000 in
theorem l5Run_ok (v : Value) (p : List Int) (f n : Nat) (w : World) (h : SI w v p) (hp : ∀ x ∈ p, 1 ≤ x ∧ x ≤ 8) (hn : f + n < p.length) (h8 : p.length ≤ 8) :
    Calls Try.prog 76 #[v, .int .i64 (f : Int), .int .i64 ((f + n : Nat) : Int)] w fun e w' => e = .returned (.bool (runB p f (f + n + 1))) ∧ Qt w w' := by
  have h0 := h
  obtain ⟨a, cap, rfl, hc1, hc2, -, hri⟩ := h0
  obtain ⟨sg, hsg⟩ : ∃ sg, sg = seg p f (f + n + 1) := ⟨_, rfl⟩
  have hsl : sg.length = n + 1 := by rw [hsg, seg_len (by omega)]; omega
  have hnth : ∀ j, j < n + 1 → nth sg j = nth p (f + j) := fun j hj => by rw [hsg]; exact seg_nth (by omega)
  have hbd : ∀ x ∈ sg, 1 ≤ x ∧ x ≤ 8 := fun x hx => hp x (by rw [hsg] at hx; exact seg_mem hx)
  have HR : Hid (runB p f (f + n + 1) = (mxT sg (n + 1) - mnT sg (n + 1) == ((n + 1 : Nat) : Int) - 1)) := by show _ = _; unfold runB; rw [← hsg, show f + n + 1 - f = n + 1 by omega]
  obtain ⟨b, off, rfl, hc⟩ := hri.get (show f < p.length by omega)
  have c0 := hc f (by omega)
  obtain ⟨x0, hx0⟩ : ∃ x, x = nth p f := ⟨_, rfl⟩
  rw [← hx0] at c0
  have HX0 : Hid (x0 = nth sg 0) := by show _ = _; rw [hnth 0 (by omega), hx0]; rfl
  have HC := Lib.hid hc
  have HBD := Lib.hid hbd
  have HSL := Lib.hid hsl
  have HN := Lib.hid hnth
  have f1 : (f : Int) < (p.length : Int) := by omega
  obtain ⟨m, hm⟩ : ∃ m, m = f + n := ⟨_, rfl⟩
  rw [← hm] at hn HR ⊢
  have HM := Lib.hid hm
  clear h hp hri hc hsg hsl hnth hbd hx0 hm
  go_enter Try.func76, Try.ntmps76
  go_wp2_with fail
  go_loopw [7, 8, 9] (fun lo hi i wr => ∃ k : Nat, k ≤ n + 1 ∧ i = .int .i64 ((f : Int) + (k : Int)) ∧ (∃ x y : Int, lo = .int .i64 y ∧ hi = .int .i64 x ∧ Hid (x = mxT sg k) ∧ Hid (y = mnT sg k)) ∧ Qt w wr) (fun _ _ i _ => f + n + 1 - (intOf i).toNat)
  case atStart => exact ⟨0, by omega, by simp, ⟨x0, x0, rfl, rfl, by show _ = _; rw [HX0.out]; rfl, by show _ = _; rw [HX0.out]; rfl⟩, Qt.refl _⟩
  case round =>
    obtain ⟨k, hk, rfl, ⟨x, y, rfl, rfl, hx, hy⟩, hq⟩ := hrel
    have hM := HM.out
    by_cases hlt : k ≤ n
    · have ck := hq.ext.cell (HC.out (f + k) (by omega)) id
      obtain ⟨z, hz⟩ : ∃ z, z = nth p (f + k) := ⟨_, rfl⟩
      rw [← hz] at ck
      have HX2 : Hid (max x z = mxT sg (k + 1)) := by show _ = _; rw [mxT_succ (by rw [HSL.out]; omega), HN.out k (by omega), ← hx.out, hz]
      have HY2 : Hid (min y z = mnT sg (k + 1)) := by show _ = _; rw [mnT_succ (by rw [HSL.out]; omega), HN.out k (by omega), ← hy.out, hz]
      have g1 : (f : Int) + (k : Int) ≤ (m : Int) := by omega
      have g2 : 0 ≤ (f : Int) + (k : Int) := by omega
      have g3 : ((f : Int) + (k : Int)).toNat = f + k := by omega
      have g4 : (f : Int) + (k : Int) < (p.length : Int) := by omega
      clear hz hM
      go_wp2_with fail
      refine (l1Min_ok y z _).mono ?_
      rintro e w1 ⟨rfl, q1⟩
      have ck1 := q1.ext.cell ck id
      have HQ1 := Lib.hid (hq.trans q1)
      clear q1
      go_wp2_with fail
      refine (l1Max_ok x z _).mono ?_
      rintro e w2 ⟨rfl, q2⟩
      have HQ2 := Lib.hid (HQ1.out.trans q2)
      clear q2
      go_wp2_with fail
      go_roundw
      case rel => exact ⟨k + 1, by omega, by rw [Value.int.injEq]; exact ⟨rfl, by push_cast; omega⟩, ⟨_, _, rfl, rfl, HX2, HY2⟩, HQ2.out⟩
      case measure => simp [intOf]; omega
    · obtain rfl : k = n + 1 := by omega
      have h1 := mxT_bd (L := sg) (by rw [HSL.out]; omega) HBD.out (n + 1) (by rw [HSL.out]; omega)
      have h2 := mnT_bd (L := sg) (by rw [HSL.out]; omega) HBD.out (n + 1) (by rw [HSL.out]; omega)
      rw [← hx.out] at h1
      rw [← hy.out] at h2
      have g1 : ¬ (f : Int) + ((n + 1 : Nat) : Int) ≤ (m : Int) := by omega
      have f7 : IntKind.i64.wrap (x - y) = x - y := IntWalk.i64_in _ (by omega)
      have f8 : IntKind.i64.wrap ((m : Int) - (f : Int)) = (m : Int) - (f : Int) := IntWalk.i64_in _ (by omega)
      have HF : Hid (runB p f (m + 1) = (x - y == (m : Int) - (f : Int))) := by show _ = _; rw [HR.out, ← hx.out, ← hy.out]; congr 1; omega
      clear hM
      go_wp2_with fail
      go_ret
      exact ⟨by rw [HF.out]; rfl, hq⟩
end Go.Proofs.Ytcifngcmdiokpaa
