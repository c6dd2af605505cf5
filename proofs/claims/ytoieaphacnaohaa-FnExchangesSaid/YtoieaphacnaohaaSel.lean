/- Contracts of SelectionTrail, the program's and the reference's. Conditions: lengths below a bound. -/
import Derived.Test.YtoieaphacnaohaaSurj
import Derived.Test.YtoieaphacnaohaaRow4
import Derived.Test.YtoieaphacnaohaaCopy
import Derived.Test.YtoieaphacnaohaaBase2
import Derived.Test.YtoieaphacnaohaaFunc
namespace Go.Proofs.Ytoieaphacnaohaa
open Go.RowKit

theorem isP_of_inj {xs : List Int} (h1 : ∀ i, i < xs.length → 1 ≤ nth xs i ∧ nth xs i ≤ xs.length) (h2 : ∀ i j, i < xs.length → j < xs.length → nth xs i = nth xs j → i = j) : IsP xs := by
  refine ⟨fun x hx => ?_, ?_⟩
  · obtain ⟨j, hj, e⟩ := List.getElem_of_mem hx
    have := h1 j hj
    rw [nth_get hj, e] at this; exact this
  · rw [List.nodup_iff_pairwise_ne, List.pairwise_iff_getElem]
    intro i j hi hj hij e
    have := h2 i j hi hj (by rw [nth_get hi, nth_get hj]; exact e)
    omega
theorem nth_set3 (xs : List Int) (i j : Nat) (x : Int) (h : j < xs.length) : nth (xs.set i x) j = if i = j then x else nth xs j := by
  rw [nth_get (by simpa using h), nth_get h, List.getElem_set]
def swk (ys : List Int) (k j : Nat) : List Int := (ys.set k (nth ys j)).set j (nth ys k)
theorem swk_len (ys : List Int) (k j : Nat) : (swk ys k j).length = ys.length := by simp [swk]
theorem swk_nth {ys : List Int} {k j i : Nat} (h : i < ys.length) : nth (swk ys k j) i = if j = i then nth ys k else if k = i then nth ys j else nth ys i := by
  unfold swk
  rw [nth_set3 _ _ _ _ (by simpa using h), nth_set3 _ _ _ _ h]
def sig (k j i : Nat) : Nat := if j = i then k else if k = i then j else i
theorem sig_inj {k j i i' : Nat} (h : sig k j i = sig k j i') : i = i' := by
  unfold sig at h
  by_cases h1 : j = i
  · rw [if_pos h1] at h
    by_cases h3 : j = i'
    · omega
    · rw [if_neg h3] at h
      by_cases h4 : k = i'
      · rw [if_pos h4] at h; omega
      · rw [if_neg h4] at h; omega
  · rw [if_neg h1] at h
    by_cases h2 : k = i
    · rw [if_pos h2] at h
      by_cases h3 : j = i'
      · rw [if_pos h3] at h; omega
      · rw [if_neg h3] at h
        by_cases h4 : k = i'
        · omega
        · rw [if_neg h4] at h; omega
    · rw [if_neg h2] at h
      by_cases h3 : j = i'
      · rw [if_pos h3] at h; omega
      · rw [if_neg h3] at h
        by_cases h4 : k = i'
        · rw [if_pos h4] at h; omega
        · rw [if_neg h4] at h; omega
theorem sig_lt {k j i n : Nat} (hk : k < n) (hj : j < n) (hi : i < n) : sig k j i < n := by
  unfold sig; split
  · exact hk
  · split <;> assumption
theorem swk_sig {ys : List Int} {k j i : Nat} (h : i < ys.length) : nth (swk ys k j) i = nth ys (sig k j i) := by
  rw [swk_nth h]; unfold sig
  split
  · rfl
  · split <;> rfl
theorem swk_isP {ys : List Int} (h : IsP ys) {k j : Nat} (hk : k < ys.length) (hj : j < ys.length) : IsP (swk ys k j) := by
  refine isP_of_inj (fun i hi => ?_) (fun i i' hi hi' e => ?_)
  · rw [swk_len] at hi ⊢
    rw [swk_sig hi]
    exact IsP.bd h (sig_lt hk hj hi)
  · rw [swk_len] at hi hi'
    rw [swk_sig hi, swk_sig hi'] at e
    exact sig_inj (h.inj (sig_lt hk hj hi) (sig_lt hk hj hi') e)

def pos (ys : List Int) (v : Int) : Nat := ys.findIdx fun y => decide (y = v)
theorem pos_of {ys : List Int} (h : IsP ys) {j : Nat} (hj : j < ys.length) : pos ys (nth ys j) = j := by
  unfold pos
  have hlt : ys.findIdx (fun y => decide (y = nth ys j)) < ys.length := List.findIdx_lt_length_of_exists ⟨nth ys j, nth_mem hj, by simp⟩
  have h1 : decide (ys[ys.findIdx (fun y => decide (y = nth ys j))] = nth ys j) = true := List.findIdx_getElem (w := hlt)
  have h2 := of_decide_eq_true h1
  refine h.inj hlt hj ?_
  rw [nth_get hlt]; exact h2
def slY (xs : List Int) : Nat → List Int
  | 0 => xs
  | k + 1 => if nth (slY xs k) k = (k : Int) + 1 then slY xs k else swk (slY xs k) k (pos (slY xs k) ((k : Int) + 1))
def slD (xs : List Int) : Nat → List (List Int)
  | 0 => [xs]
  | k + 1 => if nth (slY xs k) k = (k : Int) + 1 then slD xs k else slD xs k ++ [slY xs (k + 1)]
def selL (xs : List Int) : List (List Int) := bif isP8 xs then slD xs xs.length else []
structure SelOK (xs : List Int) (k : Nat) (ys : List Int) : Prop where
  len : ys.length = xs.length
  isP : IsP ys
  low : ∀ i, i < k → nth ys i = (i : Int) + 1
theorem SelOK.find {xs ys : List Int} {k : Nat} (h : SelOK xs k ys) (hk : k < xs.length) (hne : ¬ nth ys k = (k : Int) + 1) : ∃ j, k < j ∧ j < xs.length ∧ nth ys j = (k : Int) + 1 ∧ pos ys ((k : Int) + 1) = j := by
  have hl := h.len
  obtain ⟨j, hj, e⟩ := h.isP.surj (v := (k : Int) + 1) (by omega) (by omega)
  refine ⟨j, ?_, by omega, e, by rw [← e]; exact pos_of h.isP hj⟩
  rcases Nat.lt_trichotomy j k with h1 | h1 | h1
  · have := h.low j h1; omega
  · subst h1; exact absurd e hne
  · exact h1
theorem slY_ok {xs : List Int} (hp : IsP xs) : ∀ k, k ≤ xs.length → SelOK xs k (slY xs k) := by
  intro k
  induction k with
  | zero => intro _; exact ⟨rfl, hp, fun i h => by omega⟩
  | succ k ih =>
    intro hk
    have h := ih (by omega)
    have hl := h.len
    simp only [slY]
    split
    · next e => exact ⟨h.len, h.isP, fun i hi => by
        by_cases e2 : i = k
        · subst e2; exact e
        · exact h.low i (by omega)⟩
    · next e =>
      obtain ⟨j, hkj, hj, e1, e2⟩ := h.find (by omega) e
      rw [e2]
      refine ⟨by rw [swk_len]; exact hl, swk_isP h.isP (by omega) (by omega), fun i hi => ?_⟩
      rw [swk_nth (by omega), if_neg (by omega)]
      split
      · next e3 => subst e3; exact e1
      · exact h.low i (by omega)
theorem slD_len (xs : List Int) (k : Nat) : (slD xs k).length ≤ k + 1 := by
  induction k with
  | zero => simp [slD]
  | succ k ih =>
    simp only [slD]
    split
    · omega
    · rw [List.length_append, List.length_singleton]; omega
theorem slY_len (xs : List Int) (k : Nat) : (slY xs k).length = xs.length := by
  induction k with
  | zero => rfl
  | succ k ih => simp only [slY]; split <;> simp [swk_len, ih]
theorem slD_each (xs : List Int) (k : Nat) : ∀ ys ∈ slD xs k, ys.length = xs.length := by
  induction k with
  | zero => intro ys h; simp [slD] at h; subst h; rfl
  | succ k ih =>
    intro ys h
    simp only [slD] at h
    split at h
    · exact ih ys h
    · rcases List.mem_append.1 h with h | h
      · exact ih ys h
      · simp at h; subst h; exact slY_len _ _
theorem bound_SelectionTrail (xs : List Int) (_h : xs.length ≤ 1048576) : Bd (selL xs) := by
  unfold selL
  cases h : isP8 xs
  · exact Bd.nil
  · have h8 : xs.length ≤ 8 := (isP8_iff.1 h).1
    have h1 := slD_len xs xs.length
    exact Bd.of 9 8 (by simp; omega) (fun ys hy => by have := slD_each xs _ ys hy; omega) (by omega) (by omega)

set_option maxHeartbeats 2000000 in
theorem impl_SelectionTrail_ok (v : Value) (xs : List Int) (w : World) (h : SI w v xs) (hl : xs.length ≤ 1048576) (_hb : I64s xs) :
    Calls Try.prog 18 #[v] w fun e w' => ∃ v', e = .returned v' ∧ OII w.heap.size w'.heap.size w' v' (selL xs) ∧ Ext w w' := by
  have h00 := h
  obtain ⟨a, cap, rfl, -⟩ := h00.elim
  cases hp : isP8 xs
  · have hP := Lib.hid hp
    have e0 : Hid (selL xs = []) := by show _ = _; simp [selL, hp]
    clear hp
    go_enter Try.func18, Try.ntmps18
    go_wp2_with (go_at_call 50; refine (impl_IsPerm_ok _ xs _ h).mono ?_; rintro e w1 ⟨rfl, he⟩; rw [hP.out])
    go_ret
    rw [e0.out]
    exact ⟨_, rfl, OII.nil _ _ _, he⟩
  · have hP := Lib.hid hp
    have h8 : xs.length ≤ 8 := (isP8_iff.1 hp).1
    have HPP := Lib.hid (isP8_iff.1 hp).2
    have e0 : Hid (selL xs = slD xs xs.length) := by show _ = _; simp [selL, hp]
    clear hp
    go_enter Try.func18, Try.ntmps18
    go_wp2_with fail
    refine (impl_IsPerm_ok _ xs _ h).mono ?_
    rintro e w1 ⟨rfl, he1⟩
    rw [hP.out]
    go_wp2_with fail
    refine (slicesClone_ok _ xs _ (h.ext he1) (by omega)).mono ?_
    rintro e w2 ⟨v2, rfl, ho2, he2⟩
    obtain ⟨p2, c2, hv2⟩ := ho2.shape
    subst hv2
    have hr0 := RR.single w.heap.size (ho2.mono he1.size (Nat.le_refl _)) (he1.trans he2).size
    have hex0 : Ext w (w2.alloc (.cells #[.slice p2 xs.length c2] 24)) := (he1.trans he2).alloc _
    have hs2 := h.ext hex0
    clear ho2 he1 he2 h
    go_wp2_with fail
    refine (slicesClone_ok _ xs _ hs2 (by omega)).mono ?_
    rintro e w3 ⟨v3, rfl, ho3, he3⟩
    have hz3 := he3.size
    simp at hz3
    replace hr0 := hr0.ext he3
    have he03 : Ext w w3 := hex0.trans he3
    have hwz := hex0.size
    simp at hwz
    rcases ho3 with ⟨rfl, hx⟩ | ⟨b3, c3, rfl, hb3, hb3z, hr3⟩
    · subst hx
      go_wp2_with fail
      go_loopw [3, 17] (fun o i wr => i = .int .i64 0 ∧ o = .slice (some ⟨w2.heap.size, 0, none⟩) 1 1 ∧ w3 = wr) (fun _ _ _ => 0)
      case atStart => exact ⟨rfl, rfl, rfl⟩
      case round =>
        obtain ⟨rfl, rfl, rfl⟩ := hrel
        go_wp2_with fail
        go_ret
        rw [e0.out]
        exact ⟨_, rfl, (hr0.mono (by omega)).oii rfl, he03⟩
    · simp at hb3
      have hcl := hr3.le
      simp at hcl
      go_wp2_with fail
      go_loopw [3, 17] (fun o i wr => ∃ k : Nat, k ≤ xs.length ∧ i = .int .i64 k ∧ Row 3 wr b3 c3 (vals (slY xs k)) ∧ (∃ b c n, o = .slice (some ⟨b, 0, none⟩) n c ∧ Hid (n = (slD xs k).length) ∧ RA w.heap.size wr.heap.size wr b c (slD xs k) b3) ∧ Ext w wr) (fun _ i _ => xs.length - (intOf i).toNat)
      case atStart => exact ⟨0, Nat.zero_le _, rfl, hr3, ⟨_, 1, 1, rfl, Lib.hid rfl, (hr0.ra (by omega)).mono (by omega)⟩, he03⟩
      case round =>
        obtain ⟨k, hk, rfl, hr, ⟨b, c, n, rfl, hn, hra⟩, he⟩ := hrel
        clear hr3 hr0 he03 hs2
        by_cases hlt : k < xs.length
        · have hok := slY_ok HPP.out k hk
          have hyl := hok.len
          have hst1 : slY xs (k + 1) = if nth (slY xs k) k = (k : Int) + 1 then slY xs k else swk (slY xs k) k (pos (slY xs k) ((k : Int) + 1)) := rfl
          have hst2 : slD xs (k + 1) = if nth (slY xs k) k = (k : Int) + 1 then slD xs k else slD xs k ++ [slY xs (k + 1)] := rfl
          obtain ⟨ys, hys⟩ : ∃ ys, ys = slY xs k := ⟨_, rfl⟩
          rw [← hys] at hr hok hyl hst1 hst2
          have hck := hr.icell (j := k) (by omega)
          have hdl := slD_len xs k
          have hn9 : n ≤ 9 := by have := hn.out; omega
          have hki : (k : Int) < (xs.length : Int) := by omega
          by_cases heq : nth ys k = (k : Int) + 1
          · rw [if_pos heq] at hst1 hst2
            have HS1 := Lib.hid hst1
            have HS2 := Lib.hid hst2
            have HR := Lib.hid hr
            have hb : (nth ys k != (k : Int) + 1) = false := by simp [heq]
            clear hst1 hst2 heq hok hyl hys hr
            go_wp2_with fail
            go_roundw
            case rel => exact ⟨k + 1, by omega, by go_num, by rw [HS1.out]; exact HR.out, ⟨b, c, n, rfl, Lib.hid (by rw [HS2.out]; exact hn.out), by rw [HS2.out]; exact hra⟩, he⟩
            case measure => simp [intOf]; omega
          · obtain ⟨j, hkj, hj, hjv, hpos⟩ := hok.find hlt heq
            rw [if_neg heq, hpos] at hst1
            rw [if_neg heq, hst1] at hst2
            have hb : (nth ys k != (k : Int) + 1) = true := by simp [heq]
            have hsi := hr.si
            rw [hyl] at hsi
            have hfnd : Hid (∀ r, Found ys.length (fun i => (k : Int) + 1 == nth ys i) r → r = (j : Int)) := by
              show ∀ r, _
              intro r hr'
              rcases hr' with ⟨_, h2⟩ | ⟨q, hq, rfl, h1, _⟩
              · have := h2 j (by omega); simp [hjv] at this
              · have h3 : nth ys q = (k : Int) + 1 := (eq_of_beq h1).symm
                have := hok.isP.inj hq (by omega) (h3.trans hjv.symm); omega
            have d0 := hr.icell (j := j) (by omega)
            have f0 := hr.free k none
            have f1 := hr.free j none
            have hset := fun m => ((hr.ext (Upd.drewN wr m _)).set k (.int .i64 (nth ys j))).set j (.int .i64 (nth ys k))
            simp only [vals_set] at hset
            have HS := Lib.hid (fun m => (show Row 3 _ b3 c3 (vals (swk ys k j)) from hset m))
            have hU := Lib.hid (fun m => ((Upd.drewN wr m (· = b3)).trans (Upd.setCell _ ⟨b3, k, none⟩ (.int .i64 (nth ys j)))).trans (Upd.setCell _ ⟨b3, j, none⟩ (.int .i64 (nth ys k))))
            have HRA := Lib.hid hra
            have HE := Lib.hid he
            have HS1 := Lib.hid hst1
            have HS2 := Lib.hid hst2
            have hwz := he.size
            have hji : (j : Int) < (xs.length : Int) := by omega
            have hyll := Lib.hid hyl
            have hb3z := hr.lt
            clear hok hst1 hst2 heq hys hr hset hra hjv hpos hyl he
            go_wp2_with fail
            refine (slicesIndex_ok _ ys ((k : Int) + 1) _ hsi (by rw [hyll.out]; omega)).mono ?_
            rintro e w5 ⟨⟨r, rfl, hfr⟩, hq5⟩
            obtain rfl := hfnd.out r hfr
            obtain ⟨m5, rfl⟩ := hq5
            clear hfr
            go_wp2_with fail
            go_region
            have hE6 := Lib.hid ((HE.out.upd1 (hU.out m5) (by omega)).trans (Upd.drew _ _))
            have hR6 := Lib.hid ((HS.out m5).ext (Upd.drew _ _))
            have hA6 := Lib.hid ((HRA.out.upd (hU.out m5) (fun i e => e)).ext (Upd.drew _ _))
            go_wp2_with fail
            have hs6 := hR6.out.si
            rw [swk_len, hyll.out] at hs6
            refine (slicesClone_ok _ (swk ys k j) _ hs6 (by rw [swk_len, hyll.out]; omega)).mono ?_
            rintro e w7 ⟨v7, rfl, ho7, he7⟩
            obtain ⟨p7, c7, hv7⟩ := ho7.shape
            subst hv7
            rw [swk_len, hyll.out] at ho7 ⊢
            have hz7 := he7.size
            simp at hz7
            have HO7 := Lib.hid ho7
            have HA7 := Lib.hid (hA6.out.ext he7)
            have HR7 := Lib.hid (hR6.out.ext he7)
            have HE7 := Lib.hid (hE6.out.trans he7)
            have ho7b : Hid (∀ q, (Value.slice p7 xs.length c7).ownBlock = some q → wr.heap.size ≤ q) := by
              show ∀ q, _
              intro q hq
              have := (HO7.out.own hq).1
              simp at this; exact this
            clear ho7 hs6
            go_wp2_with (at_builtin; refine wpl_appRA rfl _ _ rfl w.heap.size wr.heap.size b c n b3 (slD xs k) p7 _ c7 (swk ys k j) rfl HA7.out hn.out (HO7.out.mono (by simp; omega) (Nat.le_refl _)) (fun q hq => by have := ho7b.out q hq; omega) (by omega) (by omega) rfl (by omega) ?_; intro b8 c8 w8 hr8 hb8 hu8)
            go_roundw
            case rel => exact ⟨k + 1, by omega, by go_num, by rw [HS1.out]; exact HR7.out.upd hu8 (fun e => HA7.out.ne e.symm), ⟨b8, c8, n + 1, rfl, Lib.hid (by rw [HS2.out]; simp [hn.out]), by rw [HS2.out]; exact hr8⟩, HE7.out.upd1 hu8 HA7.out.lo⟩
            case measure => simp [intOf]; omega
        · obtain rfl : k = xs.length := by omega
          go_wp2_with fail
          go_ret
          rw [e0.out]
          exact ⟨_, rfl, hra.rr.oii hn.out, he⟩
set_option maxHeartbeats 2000000 in
theorem spec_SelectionTrail_ok (v : Value) (xs : List Int) (w : World) (h : SI w v xs) (hl : xs.length ≤ 1048576) (_hb : I64s xs) :
    Calls Try.prog 25 #[v] w fun e w' => ∃ v', e = .returned v' ∧ OII w.heap.size w'.heap.size w' v' (selL xs) ∧ Ext w w' := by
  have h00 := h
  obtain ⟨a, cap, rfl, -⟩ := h00.elim
  have hr0 := RR.new w
  have he0 : Ext w (w.alloc (.cells #[] 24)) := Upd.alloc _ _ _
  have h1 := h.ext he0
  cases hp : isP8 xs
  · have hP := Lib.hid hp
    have e0 : Hid (selL xs = []) := by show _ = _; simp [selL, hp]
    clear hp
    go_enter Try.func25, Try.ntmps25
    go_wp2_with (go_at_call 30; refine (spec_IsPerm_qt _ xs _ h1 (by omega)).mono ?_; rintro e w1 ⟨rfl, hq⟩; rw [hP.out])
    go_ret
    rw [e0.out]
    exact ⟨_, rfl, ((hr0.ext hq.ext).mono (by have := hq.ext.size; simp at this ⊢; omega)).oii rfl, he0.trans hq.ext⟩
  · have hP := Lib.hid hp
    have h8 : xs.length ≤ 8 := (isP8_iff.1 hp).1
    have HPP := Lib.hid (isP8_iff.1 hp).2
    have e0 : Hid (selL xs = slD xs xs.length) := by show _ = _; simp [selL, hp]
    clear hp
    go_enter Try.func25, Try.ntmps25
    go_wp2_with fail
    refine (spec_IsPerm_qt _ xs _ h1 (by omega)).mono ?_
    rintro e w1 ⟨rfl, hq⟩
    rw [hP.out]
    have he1 : Ext w w1 := he0.trans hq.ext
    have hr1 := (hr0.ext hq.ext).mono (H' := w1.heap.size) (by have := hq.ext.size; simp at this; omega)
    have hs1 : SI w1 _ xs := h1.ext hq.ext
    have hz1 : w.heap.size < w1.heap.size := by have := hq.ext.size; simp at this; omega
    clear hr0 he0 h1 h hq
    go_wp2_with (first | (at_builtin; refine wpl_appSI rfl _ _ rfl w1.heap.size 0 0 [] xs rfl (Row.new 3 w1 [] (by simp)) rfl _ rfl (hs1.ext (Upd.alloc _ _ _)) (by simp) (by omega) ?_; intro b3 c3 w2 hr2 hb2 hu2; rw [List.nil_append] at hr2; obtain ⟨hb3, ho2, he2⟩ := copied_own3 hr2 hb2 hu2; have hz2 := he2.size; have hb3z := hr2.lt; have hA := (hr1.ext he2).ra hb3; have HS2 := Lib.hid hr2.si; clear hb2 hu2 ho2) | (at_builtin; refine wpl_appSI rfl _ _ rfl w2.heap.size 0 0 [] xs rfl (Row.new 3 w2 [] (by simp)) rfl _ rfl (HS2.out.ext (Upd.alloc _ _ _)) (by simp) (by omega) ?_; intro b4 c4 w4 hr4 hb4 hu4; rw [List.nil_append] at hr4; obtain ⟨hb4', ho4, he4⟩ := copied_own3 hr4 hb4 hu4; have hz4 := he4.size; have hA4 := hA.ext he4; have hR4 := Lib.hid (hr2.ext he4); have hE4 := Lib.hid ((he1.trans he2).trans he4); clear hb4 hu4 hr4 hA hr2 he1 he2 he4) | (at_builtin; refine wpl_appRA rfl _ _ rfl w.heap.size w1.heap.size w.heap.size 0 0 b3 [] (some ⟨b4, 0, none⟩) _ c4 xs rfl hA4 rfl (ho4.mono (by omega) (Nat.le_refl _)) (fun q hq => by have := (ho4.own hq).1; omega) (by omega) (by omega) rfl (by simp) ?_; intro b6 c6 w6 hr6 hb6 hu6))
    have hR6 := hR4.out.upd hu6 (fun e => hA4.ne e.symm)
    have hE6 : Ext w w6 := hE4.out.upd1 hu6 (Nat.le_refl _)
    rw [List.nil_append] at hr6
    have hcl := hR6.le
    simp at hcl
    have hwb3 : w.heap.size ≤ b3 := by omega
    clear hA4 hR4 hE4 hu6 hb6 ho4 hr1 hs1 HS2
    go_loopw [3, 5] (fun o i wr => ∃ k : Nat, k ≤ xs.length ∧ i = .int .i64 k ∧ Row 3 wr b3 c3 (vals (slY xs k)) ∧ (∃ b c n, o = .slice (some ⟨b, 0, none⟩) n c ∧ Hid (n = (slD xs k).length) ∧ RA w.heap.size wr.heap.size wr b c (slD xs k) b3) ∧ Ext w wr) (fun _ i _ => xs.length - (intOf i).toNat)
    case atStart => exact ⟨0, Nat.zero_le _, rfl, hR6, ⟨_, _, _, rfl, Lib.hid rfl, hr6⟩, hE6⟩
    case round =>
      obtain ⟨k, hk, rfl, hr, ⟨b, c, n, rfl, hn, hra⟩, he⟩ := hrel
      clear hR6 hr6 hE6
      by_cases hlt : k < xs.length
      · have hok := slY_ok HPP.out k hk
        have hyl := hok.len
        have hst1 : slY xs (k + 1) = if nth (slY xs k) k = (k : Int) + 1 then slY xs k else swk (slY xs k) k (pos (slY xs k) ((k : Int) + 1)) := rfl
        have hst2 : slD xs (k + 1) = if nth (slY xs k) k = (k : Int) + 1 then slD xs k else slD xs k ++ [slY xs (k + 1)] := rfl
        obtain ⟨ys, hys⟩ : ∃ ys, ys = slY xs k := ⟨_, rfl⟩
        rw [← hys] at hr hok hyl hst1 hst2
        have hck := hr.icell (j := k) (by omega)
        have hdl := slD_len xs k
        have hn9 : n ≤ 9 := by have := hn.out; omega
        have hki : (k : Int) < (xs.length : Int) := by omega
        by_cases heq : nth ys k = (k : Int) + 1
        · rw [if_pos heq] at hst1 hst2
          have HS1 := Lib.hid hst1
          have HS2 := Lib.hid hst2
          have HR := Lib.hid hr
          have hb : (nth ys k == (k : Int) + 1) = true := by simp [heq]
          clear hst1 hst2 heq hok hyl hys hr
          go_wp2_with fail
          go_roundw
          case rel => exact ⟨k + 1, by omega, by go_num, by rw [HS1.out]; exact HR.out, ⟨b, c, n, rfl, Lib.hid (by rw [HS2.out]; exact hn.out), by rw [HS2.out]; exact hra⟩, he⟩
          case measure => simp [intOf]; omega
        · obtain ⟨j, hkj, hj, hjv, hpos⟩ := hok.find hlt heq
          rw [if_neg heq, hpos] at hst1
          rw [if_neg heq, hst1] at hst2
          have hb : (nth ys k == (k : Int) + 1) = false := by simp [heq]
          have HS1 := Lib.hid hst1
          have HS2 := Lib.hid hst2
          have HJV := Lib.hid hjv
          have HOK := Lib.hid hok
          have HYL := Lib.hid hyl
          have hwz := he.size
          have hb3z := hr.lt
          obtain ⟨wp, hwp⟩ : ∃ wp, wp = wr := ⟨_, rfl⟩
          subst hwp
          clear hst1 hst2 heq hpos hys hjv hok hyl
          go_wp2_with fail
          go_loopw [6] (fun i wz => ∃ q : Nat, k < q ∧ q ≤ xs.length ∧ i = .int .i64 q ∧ (∃ zs, Hid (zs = if q ≤ j then ys else swk ys k j) ∧ Row 3 wz b3 c3 (vals zs)) ∧ Upd (· = b3) wp wz) (fun i _ => xs.length - (intOf i).toNat)
          case atStart => exact ⟨k + 1, by omega, by omega, by go_num, ⟨ys, Lib.hid (by rw [if_pos (by omega)]), hr⟩, Upd.refl _ _⟩
          case round =>
            obtain ⟨q, hkq, hqn, rfl, ⟨zs, hzs, hrz⟩, huz⟩ := hrel
            clear hr
            by_cases hql : q < xs.length
            · have hqi : (q : Int) < (xs.length : Int) := by omega
              have hzl : zs.length = xs.length := by
                rw [hzs.out]
                split
                · exact HYL.out
                · rw [swk_len]; exact HYL.out
              have d1 := hrz.icell (j := q) (by omega)
              have d0 := hrz.icell (j := k) (by omega)
              by_cases hqj : q = j
              · have hz : zs = ys := by rw [hzs.out, if_pos (by omega)]
                have hb2 : (nth zs q == (k : Int) + 1) = true := by rw [hz, hqj, HJV.out]; simp
                have f0 := hrz.free k none
                have f1 := hrz.free q none
                have hset := (hrz.set q (.int .i64 (nth zs k))).set k (.int .i64 ((k : Int) + 1))
                have hsw : (zs.set q (nth zs k)).set k ((k : Int) + 1) = swk ys k j := by
                  rw [hz, hqj]; unfold swk; rw [HJV.out, List.set_comm _ _ (by omega)]
                rw [vals_set, vals_set, hsw] at hset
                have hU := (huz.trans (Upd.setCell _ ⟨b3, q, none⟩ (.int .i64 (nth zs k)))).trans (Upd.setCell _ ⟨b3, k, none⟩ (.int .i64 ((k : Int) + 1)))
                have HS := Lib.hid hset
                have HU := Lib.hid hU
                have HQJ := Lib.hid hqj
                clear hset hsw hz hrz huz hU hqj
                go_wp2_with fail
                go_roundw
                case rel => exact ⟨q + 1, by omega, by omega, by go_num, ⟨_, Lib.hid (by rw [if_neg (by have := HQJ.out; omega)]), HS.out⟩, HU.out⟩
                case measure => simp [intOf]; omega
              · have hne : ¬ nth zs q = (k : Int) + 1 := by
                  rw [hzs.out]
                  have hyl := HYL.out
                  by_cases hqj2 : q ≤ j
                  · rw [if_pos hqj2]
                    intro e
                    have := HOK.out.isP.inj (by omega) (by omega) (e.trans HJV.out.symm); omega
                  · rw [if_neg hqj2, swk_nth (by omega), if_neg (by omega), if_neg (by omega)]
                    intro e
                    have := HOK.out.isP.inj (by omega) (by omega) (e.trans HJV.out.symm); omega
                have hb2 : (nth zs q == (k : Int) + 1) = false := by simp [hne]
                have HZ : Hid (zs = if q + 1 ≤ j then ys else swk ys k j) := by
                  show _ = _
                  rw [hzs.out]
                  by_cases hqj2 : q ≤ j
                  · rw [if_pos hqj2, if_pos (by omega)]
                  · rw [if_neg hqj2, if_neg (by omega)]
                clear hne
                go_wp2_with fail
                go_roundw
                case rel => exact ⟨q + 1, by omega, by omega, by go_num, ⟨zs, HZ, hrz⟩, huz⟩
                case measure => simp [intOf]; omega
            · have hz : zs = swk ys k j := by rw [hzs.out, if_neg (by omega)]
              rw [hz] at hrz
              have hqi : ¬ (q : Int) < (xs.length : Int) := by omega
              have hsi := hrz.si
              rw [swk_len, HYL.out] at hsi
              have hE := he.upd1 huz hwb3
              have hA := hra.upd huz (fun i e => e)
              have hzz := huz.size
              have hsl : Hid ((swk ys k j).length = xs.length) := by show _ = _; rw [swk_len, HYL.out]
              have HSI := Lib.hid hsi
              have hAz := Lib.hid (hA.mono hzz)
              have HRZ := Lib.hid hrz
              have HEZ := Lib.hid hE
              clear hz hsi hE hA hrz hra he huz
              go_wp2_with (first | (at_builtin; refine wpl_appSI rfl _ _ rfl wr.heap.size 0 0 [] (swk ys k j) rfl (Row.new 3 wr [] (by simp)) rfl _ rfl (HSI.out.ext (Upd.alloc _ _ _)) (by simp) (by rw [hsl.out]; omega) ?_; intro b4 c4 w4 hr4 hb4 hu4; rw [List.nil_append] at hr4; obtain ⟨hb4', ho4, he4⟩ := copied_own3 hr4 hb4 hu4; have hz4 := he4.size; have hA4 := Lib.hid (hAz.out.ext he4); have HR4 := Lib.hid (HRZ.out.ext he4); have HE4 := Lib.hid (HEZ.out.trans he4); clear hb4 hu4 hr4 he4) | (at_builtin; refine wpl_appRA rfl _ _ rfl w.heap.size wr.heap.size b c n b3 (slD xs k) (some ⟨b4, 0, none⟩) _ c4 (swk ys k j) rfl hA4.out hn.out (ho4.mono (by omega) (Nat.le_refl _)) (fun q hq => by have := (ho4.own hq).1; omega) (by omega) (by omega) rfl (by omega) ?_; intro b8 c8 w8 hr8 hb8 hu8))
              go_roundw
              case rel => exact ⟨k + 1, by omega, by go_num, by rw [HS1.out]; exact HR4.out.upd hu8 (fun e => hA4.out.ne e.symm), ⟨b8, c8, n + 1, rfl, Lib.hid (by rw [HS2.out]; simp [hn.out]), by rw [HS2.out]; exact hr8⟩, HE4.out.upd1 hu8 hA4.out.lo⟩
              case measure => simp [intOf]; omega
      · obtain rfl : k = xs.length := by omega
        go_wp2_with fail
        go_ret
        rw [e0.out]
        exact ⟨_, rfl, hra.rr.oii hn.out, he⟩
end Go.Proofs.Ytoieaphacnaohaa
