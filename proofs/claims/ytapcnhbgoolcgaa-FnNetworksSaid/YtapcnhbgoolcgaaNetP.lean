/- Networks, without program text: zeros and ones are enough; gates that never exchange can be left out; the brick network sorts. Conditions: none. -/
import Derived.Test.YtapcnhbgoolcgaaSall
import Derived.Test.YtapcnhbgoolcgaaIdle
import Derived.Test.YtapcnhbgoolcgaaDep
import Derived.Test.YtapcnhbgoolcgaaBrick
import Derived.Test.YtapcnhbgoolcgaaPermP
namespace Go.Proofs.Ytapcnhbgoolcgaa
open Go.RowKit

theorem nth_map (f : Int → Int) {xs : List Int} {i : Nat} (h : i < xs.length) : nth (xs.map f) i = f (nth xs i) := by simp [nth, h]
theorem nth_setI {xs : List Int} {i j : Nat} {v : Int} (h : j < xs.length) : nth (xs.set i v) j = if i = j then v else nth xs j := by
  rw [nth_get (by simpa using h), nth_get h, List.getElem_set]
theorem gst_map {f : Int → Int} (hf : ∀ a b, a ≤ b → f a ≤ f b) {ys g : List Int} (ha : gA g < ys.length) (hb : gB g < ys.length) : gst (ys.map f) g = (gst ys g).map f := by
  unfold gst
  rw [nth_map f ha, nth_map f hb, List.map_set, List.map_set]
  obtain ⟨x, hx⟩ : ∃ x, x = nth ys (gA g) := ⟨_, rfl⟩
  obtain ⟨y, hy⟩ : ∃ y, y = nth ys (gB g) := ⟨_, rfl⟩
  rw [← hx, ← hy]
  rcases Int.le_total x y with h | h
  · have := hf x y h
    rw [Int.min_eq_left h, Int.max_eq_right h, Int.min_eq_left this, Int.max_eq_right this]
  · have := hf y x h
    rw [Int.min_eq_right h, Int.max_eq_left h, Int.min_eq_right this, Int.max_eq_left this]
theorem gate_in {n : Nat} {g : List Int} (h : gateB n g = true) : gA g < n ∧ gB g < n := by
  obtain ⟨a, b, _, _, h1, h2, h3, h4, _⟩ := gate_nat h; omega
theorem runL_map {f : Int → Int} (hf : ∀ a b, a ≤ b → f a ≤ f b) (n : Nat) (gs : List (List Int)) : ∀ ys : List Int, ys.length = n → (∀ g ∈ gs, gateB n g = true) → runL gs (ys.map f) = (runL gs ys).map f := by
  induction gs with
  | nil => intro ys _ _; rfl
  | cons g gs ih =>
    intro ys hl hok
    obtain ⟨h1, h2⟩ := gate_in (hok g (by simp))
    show runL gs (gst (ys.map f) g) = (runL gs (gst ys g)).map f
    rw [gst_map hf (by omega) (by omega)]
    exact ih _ (by rw [gst_len]; exact hl) (fun g' hg' => hok g' (by simp [hg']))

def thr (t x : Int) : Int := if t ≤ x then 1 else 0
theorem thr_mono (t a b : Int) (h : a ≤ b) : thr t a ≤ thr t b := by unfold thr; split <;> split <;> omega
def Bit (b : List Int) : Prop := ∀ x ∈ b, x = 0 ∨ x = 1
theorem bits_to_all {n : Nat} {gs : List (List Int)} (hok : ∀ g ∈ gs, gateB n g = true) (h : ∀ b : List Int, b.length = n → Bit b → Srt (runL gs b)) (p : List Int) (hp : p.length = n) : Srt (runL gs p) := by
  intro i hi
  rcases Int.lt_or_le (nth (runL gs p) (i + 1)) (nth (runL gs p) i) with hlt | hle
  · have h1 := h (p.map (thr (nth (runL gs p) i))) (by simpa using hp) (fun x hx => by
      simp only [List.mem_map] at hx
      obtain ⟨y, _, rfl⟩ := hx
      unfold thr; split <;> simp)
    rw [runL_map (thr_mono _) n gs p hp hok] at h1
    have h2 := h1 i (by simpa using hi)
    rw [nth_map _ (by omega), nth_map _ hi] at h2
    unfold thr at h2
    rw [if_pos (Int.le_refl _), if_neg (by omega)] at h2
    omega
  · exact hle
theorem bit_perm : ∀ (n : Nat) (b : List Int), b.length = n → Bit b → ∃ (p : List Int) (z : Int), p.length = n ∧ 0 ≤ z ∧ z ≤ n ∧ (∀ x ∈ p, 1 ≤ x ∧ x ≤ n) ∧ p.Nodup ∧ b = p.map (thr (z + 1)) := by
  intro n
  induction n with
  | zero =>
    intro b hb _
    have : b = [] := List.eq_nil_of_length_eq_zero hb
    subst this
    exact ⟨[], 0, rfl, by omega, by simp, by simp, by simp, rfl⟩
  | succ n ih =>
    intro b hb hbit
    have hne : b ≠ [] := fun e => by rw [e] at hb; simp at hb
    obtain ⟨b0, x, rfl⟩ : ∃ b0 x, b = b0 ++ [x] := ⟨b.dropLast, b.getLast hne, (List.dropLast_concat_getLast hne).symm⟩
    obtain ⟨p, z, h1, h2, h3, h4, h5, h6⟩ := ih b0 (by simpa using hb) (fun y hy => hbit y (by simp [hy]))
    rcases hbit x (by simp) with hx | hx
    · -- a zero: the numbers above z move up
      refine ⟨(p.map fun v => if z < v then v + 1 else v) ++ [z + 1], z + 1, by simp [h1], by omega, by push_cast; omega, ?_, ?_, ?_⟩
      · intro y hy
        simp only [List.mem_append, List.mem_map, List.mem_singleton] at hy
        rcases hy with ⟨v, hv, rfl⟩ | rfl
        · have := h4 v hv
          split <;> (push_cast; omega)
        · push_cast; omega
      · rw [List.nodup_append]
        refine ⟨?_, by simp, ?_⟩
        · rw [List.Nodup, List.pairwise_map]
          refine List.Pairwise.imp ?_ h5
          intro a c hac
          by_cases e1 : z < a <;> by_cases e2 : z < c <;> simp only [e1, e2, if_true, if_false] <;> omega
        · intro a ha c hc
          simp only [List.mem_map, List.mem_singleton] at ha hc
          obtain ⟨v, hv, rfl⟩ := ha
          subst hc
          split <;> omega
      · rw [h6, List.map_append, List.map_map]
        congr 1
        · refine List.map_congr_left fun v _ => ?_
          simp only [Function.comp, thr]
          by_cases e : z < v
          · simp only [e, if_true]; rw [if_pos (by omega), if_pos (by omega)]
          · simp only [e, if_false]; rw [if_neg (by omega), if_neg (by omega)]
        · simp [thr, hx]; omega
    · refine ⟨p ++ [(n : Int) + 1], z, by simp [h1], h2, by push_cast; omega, ?_, ?_, ?_⟩
      · intro y hy
        simp only [List.mem_append, List.mem_singleton] at hy
        rcases hy with hy | rfl
        · have := h4 y hy; push_cast; omega
        · push_cast; omega
      · rw [List.nodup_append]
        refine ⟨h5, by simp, ?_⟩
        intro a ha c hc
        simp only [List.mem_singleton] at hc
        have := h4 a ha
        omega
      · rw [h6, List.map_append]
        congr 1
        simp [thr, hx]; omega
theorem all_to_bits {n : Nat} {gs : List (List Int)} (hok : ∀ g ∈ gs, gateB n g = true) (h : ∀ p : List Int, p.length = n → IsP p → Srt (runL gs p)) (b : List Int) (hb : b.length = n) (hbit : Bit b) : Srt (runL gs b) := by
  obtain ⟨p, z, h1, h2, h3, h4, h5, rfl⟩ := bit_perm n b hb hbit
  have hs := h p h1 ⟨fun x hx => by rw [h1]; exact h4 x hx, h5⟩
  rw [runL_map (thr_mono _) n gs p h1 hok]
  intro i hi
  rw [nth_map _ (by simp at hi; omega), nth_map _ (by simpa using hi)]
  exact thr_mono _ _ _ (hs i (by simpa using hi))

/-! ### all lists of zeros and ones, all permutations -/
theorem bitI_low (k c j i : Nat) (h : i < j) : bitI (k + 2 ^ j * c) i = bitI k i := by
  unfold bitI
  obtain ⟨d, rfl⟩ : ∃ d, j = i + 1 + d := ⟨j - i - 1, by omega⟩
  have e : (2 : Nat) ^ (i + 1 + d) = 2 ^ i * (2 * 2 ^ d) := by rw [Nat.pow_add, Nat.pow_succ, Nat.mul_assoc]
  have hp : 0 < 2 ^ i := Nat.pow_pos (by omega)
  have e2 : (k + 2 ^ (i + 1 + d) * c) / 2 ^ i = k / 2 ^ i + 2 * (2 ^ d * c) := by
    rw [e, Nat.mul_assoc, Nat.add_mul_div_left _ _ hp, Nat.mul_assoc]
  have e3 : (((k + 2 ^ (i + 1 + d) * c : Nat) : Int)) / 2 ^ i = (((k + 2 ^ (i + 1 + d) * c) / 2 ^ i : Nat) : Int) := by push_cast; rfl
  have e4 : ((k : Nat) : Int) / 2 ^ i = ((k / 2 ^ i : Nat) : Int) := by push_cast; rfl
  rw [e3, e4, e2]
  omega
theorem bitI_top (k c j : Nat) (h : k < 2 ^ j) (hc : c < 2) : bitI (k + 2 ^ j * c) j = c := by
  unfold bitI
  have hp : 0 < 2 ^ j := Nat.pow_pos (by omega)
  have e2 : (k + 2 ^ j * c) / 2 ^ j = c := by
    rw [Nat.add_mul_div_left _ _ hp, Nat.div_eq_of_lt h]; omega
  have e3 : (((k + 2 ^ j * c : Nat) : Int)) / 2 ^ j = (((k + 2 ^ j * c) / 2 ^ j : Nat) : Int) := by push_cast; rfl
  rw [e3, e2]
  omega
theorem bits_all : ∀ (n : Nat) (b : List Int), b.length = n → Bit b → ∃ k, k < 2 ^ n ∧ bitRow n k = b := by
  intro n
  induction n with
  | zero => intro b hb _; exact ⟨0, by simp, (List.eq_nil_of_length_eq_zero hb).symm⟩
  | succ n ih =>
    intro b hb hbit
    have hne : b ≠ [] := fun e => by rw [e] at hb; simp at hb
    obtain ⟨b0, x, rfl⟩ : ∃ b0 x, b = b0 ++ [x] := ⟨b.dropLast, b.getLast hne, (List.dropLast_concat_getLast hne).symm⟩
    obtain ⟨k, hk, h1⟩ := ih b0 (by simpa using hb) (fun y hy => hbit y (by simp [hy]))
    have key : ∀ c, c < 2 → bitRow (n + 1) (k + 2 ^ n * c) = b0 ++ [(c : Int)] := by
      intro c hc
      rw [bitRow_succ, bitI_top k c n hk hc, ← h1]
      congr 1
      unfold bitRow
      refine List.map_congr_left fun i hi => ?_
      exact bitI_low k c n i (by simpa using hi)
    have hp : 2 ^ (n + 1) = 2 ^ n * 2 := Nat.pow_succ ..
    rcases hbit x (by simp) with rfl | rfl
    · exact ⟨k, by omega, by have := key 0 (by omega); simpa using this⟩
    · exact ⟨k + 2 ^ n * 1, by omega, by have := key 1 (by omega); simpa using this⟩
theorem bitRow_bit (n k : Nat) : Bit (bitRow n k) := by
  intro x hx
  simp only [bitRow, List.mem_map] at hx
  obtain ⟨i, _, rfl⟩ := hx
  unfold bitI
  omega
theorem mem_bits {n : Nat} {b : List Int} (h : b ∈ bitsL n) : b.length = n ∧ Bit b := by
  simp only [bitsL, bitsTo, List.mem_map] at h
  obtain ⟨k, _, rfl⟩ := h
  exact ⟨bitRow_len _ _, bitRow_bit _ _⟩
theorem bits_mem {n : Nat} {b : List Int} (h : b.length = n) (hb : Bit b) : b ∈ bitsL n := by
  obtain ⟨k, hk, rfl⟩ := bits_all n b h hb
  simp only [bitsL, bitsTo, List.mem_map, List.mem_range]
  exact ⟨k, hk, rfl⟩
theorem perms_mem {p : List Int} (hp : IsP p) : p ∈ permsL p.length := by
  rw [← layer_perms]
  have key : ∀ k, k ≤ p.length → p.take k ∈ layer p.length k := by
    intro k
    induction k with
    | zero => intro _; simp [layer]
    | succ k ih =>
      intro hk
      have h1 := ih (by omega)
      simp only [layer, List.mem_flatMap]
      refine ⟨_, h1, ?_⟩
      have hx := hp.1 _ (nth_mem (xs := p) (k := k) (by omega))
      simp only [extTo, List.mem_flatMap]
      refine ⟨nth p k, ?_, ?_⟩
      · simp only [idL, List.mem_map, List.mem_range]
        exact ⟨(nth p k - 1).toNat, by omega, by omega⟩
      · have hn : nth p k ∉ p.take k := fun h => not_isP_twice (by omega) h hp
        unfold one
        rw [hasB_false hn, take_nth (by omega)]
        simp
  have := key p.length (Nat.le_refl _)
  simpa using this
theorem zero_one {n : Int} {gs : List (List Int)} (hn : n ≤ 6) : saB n gs = sbB n gs := by
  unfold saB sbB
  cases hnet : netB n gs
  · rfl
  obtain ⟨h1, h2, h3, h4⟩ := net_true hnet
  obtain ⟨m, rfl⟩ : ∃ m : Nat, n = (m : Int) := ⟨n.toNat, by omega⟩
  rw [decide_eq_true hn]
  simp only [Bool.true_and, Int.toNat_natCast]
  rw [Bool.eq_iff_iff, List.all_eq_true, List.all_eq_true]
  constructor
  · intro h b hb
    obtain ⟨e1, e2⟩ := mem_bits hb
    refine srtB_true (all_to_bits h4 (fun p hp hpp => ?_) b e1 e2)
    subst hp
    exact srtB_iff.1 (h p (perms_mem hpp))
  · intro h p hp
    refine srtB_true (bits_to_all h4 (fun b e1 e2 => srtB_iff.1 (h b (bits_mem e1 e2))) p (perms_each hp))

/-! ### sums -/
def sumI (xs : List Int) : Int := xs.foldl (· + ·) 0
theorem foldl_add (xs : List Int) : ∀ c : Int, xs.foldl (· + ·) c = c + sumI xs := by
  induction xs with
  | nil => intro c; simp [sumI]
  | cons x xs ih => intro c; unfold sumI; simp only [List.foldl_cons]; rw [ih, ih (0 + x)]; omega
theorem sumI_cons (x : Int) (xs : List Int) : sumI (x :: xs) = x + sumI xs := by
  show xs.foldl (· + ·) (0 + x) = _; rw [foldl_add]; omega
theorem sumI_set : ∀ (xs : List Int) (i : Nat) (v : Int), i < xs.length → sumI (xs.set i v) = sumI xs - nth xs i + v := by
  intro xs
  induction xs with
  | nil => intro i v h; simp at h
  | cons x xs ih =>
    intro i v h
    cases i with
    | zero => simp [sumI_cons, nth]; omega
    | succ i =>
      rw [List.set_cons_succ, sumI_cons, sumI_cons, ih i v (by simpa using h)]
      have : nth (x :: xs) (i + 1) = nth xs i := by simp [nth]
      rw [this]; omega
theorem gst_sum {ys g : List Int} (h1 : gA g < gB g) (h2 : gB g < ys.length) : sumI (gst ys g) = sumI ys := by
  unfold gst
  rw [sumI_set _ _ _ (by simpa using h2), sumI_set _ _ _ (by omega), nth_setI h2, if_neg (by omega)]
  omega
theorem runL_sum (n : Nat) (gs : List (List Int)) : ∀ ys : List Int, ys.length = n → (∀ g ∈ gs, gateB n g = true) → sumI (runL gs ys) = sumI ys := by
  induction gs with
  | nil => intro ys _ _; rfl
  | cons g gs ih =>
    intro ys hl hok
    obtain ⟨a, b, _, _, e1, e2, h3, h4, _⟩ := gate_nat (hok g (by simp))
    show sumI (runL gs (gst ys g)) = _
    rw [ih _ (by rw [gst_len]; exact hl) (fun g' hg' => hok g' (by simp [hg'])), gst_sum (by omega) (by omega)]

/-! ### gates that never exchange -/
def lessTo (gs : List (List Int)) (m k : Nat) : List (List Int) := ((List.range k).filter (busyB gs m (2 ^ m))).map (nthL gs)
def lessL (gs : List (List Int)) (m : Nat) : List (List Int) := lessTo gs m gs.length
theorem lessTo_t {gs : List (List Int)} {m k : Nat} (h : busyB gs m (2 ^ m) k = true) : lessTo gs m (k + 1) = lessTo gs m k ++ [nthL gs k] := by simp [lessTo, List.range_succ, List.filter_append, h]
theorem lessTo_f {gs : List (List Int)} {m k : Nat} (h : busyB gs m (2 ^ m) k = false) : lessTo gs m (k + 1) = lessTo gs m k := by simp [lessTo, List.range_succ, List.filter_append, h]
theorem lessTo_len (gs : List (List Int)) (m k : Nat) : (lessTo gs m k).length ≤ k := by
  unfold lessTo; rw [List.length_map]
  have := List.length_filter_le (busyB gs m (2 ^ m)) (List.range k)
  simpa using this
theorem lessTo_mem {gs : List (List Int)} {m k : Nat} (hk : k ≤ gs.length) {g : List Int} (h : g ∈ lessTo gs m k) : g ∈ gs := by
  simp only [lessTo, List.mem_map, List.mem_filter, List.mem_range] at h
  obtain ⟨i, ⟨hi, _⟩, rfl⟩ := h
  exact nthL_mem (by omega)
theorem less_net {n : Int} {gs : List (List Int)} (h : netB n gs = true) : netB n (lessL gs n.toNat) = true := by
  obtain ⟨h1, h2, h3, h4⟩ := net_true h
  unfold netB
  have hl := lessTo_len gs n.toNat gs.length
  rw [decide_eq_true (by unfold lessL; omega), Bool.true_and, List.all_eq_true]
  exact fun g hg => h4 g (lessTo_mem (Nat.le_refl _) hg)
theorem less_run (gs : List (List Int)) (m k0 : Nat) (h0 : k0 < 2 ^ m) : ∀ k, k ≤ gs.length → runL (lessTo gs m k) (bitRow m k0) = runL (gs.take k) (bitRow m k0) := by
  intro k
  induction k with
  | zero => intro _; rfl
  | succ k ih =>
    intro hk
    have h1 := ih (by omega)
    rw [runL_take (by omega)]
    cases hb : busyB gs m (2 ^ m) k
    · rw [lessTo_f hb, h1]
      have hu : useB gs (bitRow m k0) k = false := by
        unfold busyB at hb
        rw [List.any_eq_false] at hb
        have := hb k0 (by simpa using h0)
        simpa using this
      unfold useB at hu
      exact (gst_same rfl rfl (of_decide_eq_false hu)).symm
    · rw [lessTo_t hb]
      show ((lessTo gs m k) ++ [nthL gs k]).foldl gst _ = _
      rw [List.foldl_append]
      show gst (runL (lessTo gs m k) (bitRow m k0)) (nthL gs k) = _
      rw [h1]
theorem less_sbB {n : Int} {gs : List (List Int)} (h : netB n gs = true) : sbB n (lessL gs n.toNat) = sbB n gs := by
  unfold sbB
  rw [less_net h, h]
  simp only [Bool.true_and]
  rw [Bool.eq_iff_iff, List.all_eq_true, List.all_eq_true]
  have key : ∀ b ∈ bitsL n.toNat, runL (lessL gs n.toNat) b = runL gs b := by
    intro b hb
    simp only [bitsL, bitsTo, List.mem_map, List.mem_range] at hb
    obtain ⟨k0, hk0, rfl⟩ := hb
    have := less_run gs n.toNat k0 hk0 gs.length (Nat.le_refl _)
    rw [take_all (Nat.le_refl _)] at this
    exact this
  exact ⟨fun h b hb => by rw [← key b hb]; exact h b hb, fun h b hb => by rw [key b hb]; exact h b hb⟩
theorem dS_ge (st : (Nat → Int) × Int) (g : List Int) : (∀ i, st.1 i ≤ (dS st g).1 i) ∧ st.2 ≤ (dS st g).2 := by
  unfold dS dR fupd
  refine ⟨fun i => ?_, by simp only; omega⟩
  simp only
  split
  · next e => subst e; omega
  · split
    · next e => subst e; omega
    · omega
theorem dS_mono {st st2 : (Nat → Int) × Int} (g : List Int) (h : (∀ i, st.1 i ≤ st2.1 i) ∧ st.2 ≤ st2.2) : (∀ i, (dS st g).1 i ≤ (dS st2 g).1 i) ∧ (dS st g).2 ≤ (dS st2 g).2 := by
  have h0 := h.1 (nth g 0).toNat
  have h1 := h.1 (nth g 1).toNat
  unfold dS dR fupd
  refine ⟨fun i => ?_, by have := h.2; simp only; omega⟩
  have := h.1 i
  simp only
  split
  · omega
  · split
    · omega
    · omega
theorem less_dep (gs : List (List Int)) (m : Nat) : ∀ k, k ≤ gs.length → (∀ i, (dF (lessTo gs m k)).1 i ≤ (dF (gs.take k)).1 i) ∧ (dF (lessTo gs m k)).2 ≤ (dF (gs.take k)).2 := by
  intro k
  induction k with
  | zero => intro _; exact ⟨fun i => Int.le_refl _, Int.le_refl _⟩
  | succ k ih =>
    intro hk
    have h1 := ih (by omega)
    rw [dF_take (by omega)]
    cases hb : busyB gs m (2 ^ m) k
    · rw [lessTo_f hb]
      have h2 := dS_ge (dF (gs.take k)) (nthL gs k)
      exact ⟨fun i => Int.le_trans (h1.1 i) (h2.1 i), Int.le_trans h1.2 h2.2⟩
    · rw [lessTo_t hb]
      have e : dF (lessTo gs m k ++ [nthL gs k]) = dS (dF (lessTo gs m k)) (nthL gs k) := by simp [dF, List.foldl_append]
      rw [e]
      exact dS_mono _ h1
theorem less_depI {n : Int} {gs : List (List Int)} (h : netB n gs = true) : depI n (lessL gs n.toNat) ≤ depI n gs := by
  unfold depI
  rw [less_net h, h]
  have := (less_dep gs n.toNat gs.length (Nat.le_refl _)).2
  rw [take_all (Nat.le_refl _)] at this
  exact this
theorem less_at (gs : List (List Int)) (m : Nat) : ∀ k, k ≤ gs.length → ∀ j, j < (lessTo gs m k).length → ∃ i, i < k ∧ busyB gs m (2 ^ m) i = true ∧ nthL (lessTo gs m k) j = nthL gs i ∧ (lessTo gs m k).take j = lessTo gs m i := by
  intro k
  induction k with
  | zero => intro _ j hj; simp [lessTo] at hj
  | succ k ih =>
    intro hk j hj
    cases hb : busyB gs m (2 ^ m) k
    · rw [lessTo_f hb] at hj ⊢
      obtain ⟨i, h1, h2⟩ := ih (by omega) j hj
      exact ⟨i, by omega, h2⟩
    · rw [lessTo_t hb] at hj ⊢
      rcases Nat.lt_or_ge j (lessTo gs m k).length with h | h
      · obtain ⟨i, h1, h2, h3, h4⟩ := ih (by omega) j h
        exact ⟨i, by omega, h2, by rw [nthL_append_lt h]; exact h3, by rw [List.take_append_of_le_length (by omega)]; exact h4⟩
      · obtain rfl : j = (lessTo gs m k).length := by simp at hj; omega
        exact ⟨k, by omega, hb, nthL_append_last _ _, List.take_left' rfl⟩
theorem less_idle {n : Int} {gs : List (List Int)} (h : netB n gs = true) : idleL n (lessL gs n.toNat) = [] := by
  unfold idleL
  rw [less_net h]
  simp only [cond_true]
  unfold idleTo
  rw [List.map_eq_nil_iff, List.filter_eq_nil_iff]
  intro j hj
  rw [List.mem_range] at hj
  obtain ⟨i, h1, h2, h3, h4⟩ := less_at gs n.toNat gs.length (Nat.le_refl _) j hj
  have : busyB (lessL gs n.toNat) n.toNat (2 ^ n.toNat) j = true := by
    unfold busyB at h2 ⊢
    rw [List.any_eq_true] at h2 ⊢
    obtain ⟨k0, hk0, hu⟩ := h2
    refine ⟨k0, hk0, ?_⟩
    unfold useB at hu ⊢
    have e3 : nthL (lessL gs n.toNat) j = nthL gs i := h3
    have e4 : (lessL gs n.toNat).take j = lessTo gs n.toNat i := h4
    rw [e3, e4, less_run gs n.toNat k0 (by simpa using hk0) i (by omega)]
    exact hu
  rw [this]; simp
/-- the gates whose numbers are not in the list of the idle ones. -/
theorem less_keep {n : Int} {gs : List (List Int)} (h : netB n gs = true) {i : Nat} (hi : i < gs.length) : hasB (idleL n gs) (i : Int) = !busyB gs n.toNat (2 ^ n.toNat) i := by
  unfold idleL
  rw [h]
  simp only [cond_true]
  rw [Bool.eq_iff_iff, hasB_iff]
  simp only [idleTo, List.mem_map, List.mem_filter, List.mem_range]
  constructor
  · rintro ⟨j, ⟨_, h2⟩, e⟩
    obtain rfl : j = i := by omega
    exact h2
  · intro h2; exact ⟨i, ⟨hi, h2⟩, rfl⟩
/-! ### the brick network -/
theorem brick_ok : ∀ n ∈ [1, 2, 3, 4, 5, 6, 7, 8], sbB (n : Int) (brI n) = true ∧ depI (n : Int) (brI n) ≤ n := by decide +kernel
end Go.Proofs.Ytapcnhbgoolcgaa
