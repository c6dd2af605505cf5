/- impl.pattern; the parts of a skew sum, the program's and the reference's. Conditions: permutations of at most 8 numbers. -/
import Derived.Test.YtcifngcmdiokpaaJpa
namespace Go.Proofs.Ytcifngcmdiokpaa
open Go.RowKit

set_option maxHeartbeats 2000000 in
theorem pattern_ok (v : Value) (xs : List Int) (w : World) (h : SI w v xs) (hl : xs.length ≤ 1000) :
    Calls Try.prog 96 #[v] w fun e w' => ∃ b c, e = .returned (.slice (some ⟨b, 0, none⟩) xs.length c) ∧ w.heap.size ≤ b ∧ Row 3 w' b c (vals (patL xs)) ∧ Ext w w' := by
  have h00 := h
  obtain ⟨a, cap, rfl, hri⟩ := h00.elim
  have HRI := Lib.hid hri
  have hr0 : Hid (Row 3 (w.alloc (.cells #[] 3)) w.heap.size 0 (vals ((patL xs).take 0))) := Row.new 3 w [] (by simp)
  have hA : Ext w (w.alloc (.cells #[] 3)) := Upd.alloc _ _ _
  have HE0 := Lib.hid hA
  clear h h00 hri hA
  go_enter Try.func96, Try.ntmps96
  go_wp2_with fail
  go_loopw [3, 12] (fun o i wr => ∃ k : Nat, k ≤ xs.length ∧ i = .int .i64 k ∧ (∃ b c, o = .slice (some ⟨b, 0, none⟩) k c ∧ w.heap.size ≤ b ∧ Hid (Row 3 wr b c (vals ((patL xs).take k)))) ∧ Hid (Ext w wr)) (fun _ i _ => xs.length - (intOf i).toNat)
  case atStart => exact ⟨0, Nat.zero_le _, rfl, ⟨_, 0, rfl, Nat.le_refl _, hr0⟩, HE0⟩
  case round =>
    obtain ⟨k, hk, rfl, ⟨b, c, rfl, hb, hr⟩, he⟩ := hrel
    clear hr0 HE0
    by_cases hlt : k < xs.length
    · obtain ⟨bb, off, rfl, hc⟩ := (HRI.out.ext he.out).get hlt
      have hck := hc k hlt
      obtain ⟨x, hx⟩ : ∃ x, x = nth xs k := ⟨_, rfl⟩
      rw [← hx] at hck
      have HX := Lib.hid hx
      have HC := Lib.hid hc
      clear hx hc
      go_wp2_with fail
      obtain ⟨wp, hwp⟩ : ∃ wp, wp = wr := ⟨_, rfl⟩
      subst hwp
      go_loopw [6, 18] (fun n i wr => ∃ m : Nat, m ≤ xs.length ∧ i = .int .i64 ((m : Nat) : Int) ∧ (∃ q : Nat, n = .int .i64 ((q : Int) + 1) ∧ Hid (q = ltC (xs.take m) x) ∧ q ≤ m) ∧ wr = wp) (fun _ i _ => xs.length - (intOf i).toNat)
      case atStart => exact ⟨0, Nat.zero_le _, rfl, ⟨0, rfl, Lib.hid rfl, Nat.le_refl _⟩, rfl⟩
      case round =>
        obtain ⟨m, hm, rfl, ⟨q, rfl, hq2, hq3⟩, rfl⟩ := hrel
        by_cases hml : m < xs.length
        · have hcm := HC.out m hml
          have hst := ltC_take hml x
          rw [← hq2.out] at hst
          obtain ⟨y, hy⟩ : ∃ y, y = nth xs m := ⟨_, rfl⟩
          rw [← hy] at hcm hst
          have w1 : IntKind.i64.wrap ((q : Int) + 1 + 1) = (q : Int) + 1 + 1 := IntWalk.i64_in _ (by omega)
          clear hy
          by_cases hyx : y < x
          · rw [if_pos hyx] at hst
            have HST := Lib.hid hst
            clear hst
            go_wp2_with fail
            go_roundw
            case rel => exact ⟨m + 1, by omega, by go_num, ⟨q + 1, by rw [Value.int.injEq]; exact ⟨rfl, by push_cast; rfl⟩, Lib.hid HST.out.symm, by omega⟩, trivial⟩
            case measure => simp [intOf]; omega
          · rw [if_neg hyx] at hst
            have HST := Lib.hid hst
            clear hst
            go_wp2_with fail
            go_roundw
            case rel => exact ⟨m + 1, by omega, by go_num, ⟨q, rfl, Lib.hid HST.out.symm, by omega⟩, trivial⟩
            case measure => simp [intOf]; omega
        · obtain rfl : m = xs.length := by omega
          have hfin : Hid ((patL xs).take (k + 1) = (patL xs).take k ++ [(q : Int) + 1]) := by
            show _ = _
            rw [patL_take hlt, hq2.out, ← HX.out, take_all (Nat.le_refl _)]
          have hln : Hid (k = ((patL xs).take k).length) := by show _ = _; rw [List.length_take, patL_len]; omega
          have hlb : Hid (((patL xs).take k).length ≤ 1000000000) := by show _ ≤ _; rw [← hln.out]; omega
          have hwz := he.out.size
          go_wp2_with (at_builtin; go_loud (refine wpl_app1 rfl (.tmp 28) (.tmp 30) rfl b c k ((patL xs).take k) ((q : Int) + 1) rfl hr.out hln.out rfl hlb.out ?_); intro b6 c6 w6 h3 h4 h5)
          rw [← hfin.out] at h3
          have HR6 := Lib.hid h3
          have HE6 := Lib.hid (he.out.upd1 h5 hb)
          have hb6 : w.heap.size ≤ b6 := by rcases h4 with e | e <;> omega
          clear h3 h4 h5
          go_roundw
          case rel => exact ⟨k + 1, by omega, by go_num, ⟨b6, c6, rfl, hb6, HR6⟩, HE6⟩
          case measure => simp [intOf]; omega
    · obtain rfl : k = xs.length := by omega
      rw [take_all (by rw [patL_len]; exact Nat.le_refl _)] at hr
      go_wp2_with fail
      go_ret
      exact ⟨b, c, rfl, hb, hr.out, he.out⟩
def skTo (S : List (List Int)) (i : Nat) : List (List Int) := (S.take i).map cplL ++ S.drop i
theorem skTo_zero (S : List (List Int)) : skTo S 0 = S := by simp [skTo]
theorem skTo_len {S : List (List Int)} {i : Nat} (h : i ≤ S.length) : (skTo S i).length = S.length := by simp [skTo]; omega
theorem skTo_nth {S : List (List Int)} {i : Nat} (h : i < S.length) : nthL (skTo S i) i = nthL S i := by
  unfold skTo
  have hl : ((S.take i).map cplL).length = i := by simp; omega
  simp only [nthL, List.getD_eq_getElem?_getD]
  rw [List.getElem?_append_right (by omega), hl, Nat.sub_self, List.getElem?_drop]; rfl
theorem skTo_set {S : List (List Int)} {i : Nat} (h : i < S.length) : (skTo S i).set i (cplL (nthL S i)) = skTo S (i + 1) := by
  unfold skTo
  have hl : ((S.take i).map cplL).length = i := by simp; omega
  rw [List.set_append_right _ _ (by omega), hl, Nat.sub_self, List.drop_eq_getElem_cons h, List.set_cons_zero, take_nthL h, List.map_append, List.append_assoc]; rfl
theorem skTo_all (S : List (List Int)) : skTo S S.length = S.map cplL := by simp [skTo]
theorem skP_map (p : List Int) : (spP (cplL p) (cplL p).length).map cplL = skP p := by unfold skP; rw [cplL_len]
theorem spP_PL {p : List Int} (h : IsP p) (h8 : p.length ≤ 8) : PL (spP p p.length) := ⟨spP_isP h _, spP_pos _ (Nat.le_refl _), Nat.le_trans (spP_lenS_le p) h8⟩
theorem skP_PL {p : List Int} (h : IsP p) (h8 : p.length ≤ 8) : PL (skP p) := ⟨skP_isP h, skP_pos, Nat.le_trans (skP_lenS_le p) h8⟩
theorem OII.rd {B H : Nat} {w : World} {a : Option Addr} {n c : Nat} {S : List (List Int)} (h : OII B H w (.slice a n c) S) {k : Nat} (hk : k < S.length) : ∃ b, a = some ⟨b, 0, none⟩ ∧ ∃ u, w.cell? ⟨b, k, none⟩ = some u ∧ OI B H w u (nthL S k) := by
  rcases h with ⟨_, rfl⟩ | ⟨b, cap, vs, hv, hB, hH, hr, he, ho⟩
  · simp at hk
  · injection hv with e1 _ _
    exact ⟨b, e1, nthV vs k, hr.cell (nthV_get (by rw [he.len]; exact hk)), he.el k hk⟩
set_option maxHeartbeats 2000000 in
theorem skewParts_ok (v : Value) (p : List Int) (w : World) (h : SI w v p) (hp : IsP p) (h8 : p.length ≤ 8) :
    Calls Try.prog 95 #[v] w fun e w' => ∃ v', e = .returned v' ∧ OII w.heap.size w'.heap.size w' v' (skP p) ∧ Ext w w' := by
  have h00 := h
  obtain ⟨a, cap, rfl, -⟩ := h00.elim
  have HH := Lib.hid h
  have HP := Lib.hid hp
  clear h h00 hp
  go_enter Try.func95, Try.ntmps95
  go_wp2_with fail
  refine (impl_complement_ok _ p _ HH.out h8 (HP.out.small h8)).mono ?_
  rintro e w1 ⟨b1, c1, rfl, hb1, hr1, h1⟩
  have hs1 := hr1.si
  rw [cplL_len] at hs1
  have HS1 := Lib.hid hs1
  have HE1 := Lib.hid h1
  have hz1 := h1.size
  clear hr1 hs1 h1
  go_wp2_with fail
  refine (sumParts_ok _ (cplL p) _ HS1.out HP.out.cpl (by rw [cplL_len]; exact h8)).mono ?_
  rintro e w2 ⟨v2, rfl, ho2, h2⟩
  have HPL := spP_PL HP.out.cpl (by rw [cplL_len]; exact h8)
  have hsk := skP_map p
  obtain ⟨S, hS⟩ : ∃ S, S = spP (cplL p) (cplL p).length := ⟨_, rfl⟩
  rw [← hS] at ho2 HPL hsk
  have HSK := Lib.hid hsk
  have HPL := Lib.hid HPL
  have hS8 := HPL.out.len_le
  have HE2 := Lib.hid (HE1.out.trans h2)
  have hz2 := HE2.out.size
  have HO2 := Lib.hid ho2
  obtain ⟨n, hn⟩ : ∃ n, n = S.length := ⟨_, rfl⟩
  have HN := Lib.hid hn
  rcases ho2 with ⟨rfl, he⟩ | ⟨b, c, vs, rfl, hB, hH, hrow, hel, hout⟩
  · have HNIL := Lib.hid he
    clear h2 hS hsk he hn
    go_wp2_with fail
    go_loopw [11] (fun i wr => i = .int .i64 0 ∧ wr = w2) (fun _ _ => 0)
    case atStart => exact ⟨rfl, rfl⟩
    case round =>
      obtain ⟨rfl, rfl⟩ := hrel
      go_wp2_with fail
      go_ret
      exact ⟨_, rfl, by rw [← HSK.out, HNIL.out]; exact OII.nil _ _ _, HE2.out⟩
  · have HR0 : Hid (RR w.heap.size w2.heap.size w2 b c (skTo S 0)) := by
      show RR _ _ _ _ _ _
      rw [skTo_zero]; exact ⟨vs, hrow, hel.mono (by omega) (Nat.le_refl _), hout, by omega, hH⟩
    rw [← hn]
    have hnb : n ≤ 8 := by omega
    clear h2 hS hsk hrow hel hout hn
    go_wp2_with fail
    go_loopw [11] (fun i wr => ∃ k : Nat, k ≤ n ∧ i = .int .i64 ((k : Nat) : Int) ∧ Hid (RR w.heap.size wr.heap.size wr b c (skTo S k)) ∧ Hid (Ext w wr)) (fun i _ => n - (intOf i).toNat)
    case atStart => exact ⟨0, Nat.zero_le _, rfl, HR0, HE2⟩
    case round =>
      obtain ⟨k, hk, rfl, hR, he⟩ := hrel
      clear HR0
      by_cases hlt : k < n
      · have hkS : k < S.length := by rw [← HN.out]; exact hlt
        have hkI : (k : Int) < (n : Int) := by omega
        obtain ⟨u, hu, hou⟩ := hR.out.get (k := k) (by rw [skTo_len (by omega)]; exact hkS)
        rw [skTo_nth hkS] at hou
        obtain ⟨q1, q2, q3⟩ := HPL.out.one hkS
        have HT := Lib.hid (skTo_set hkS)
        obtain ⟨q, hq⟩ : ∃ q, q = nthL S k := ⟨_, rfl⟩
        rw [← hq] at hou q1 q2 q3 HT
        have HOU := Lib.hid hou.si
        have HQ1 := Lib.hid (q1.small q3)
        have hlb := hR.out.lo
        clear hkS hou hq q1
        go_wp2_with fail
        refine (impl_complement_ok _ q _ HOU.out q3 HQ1.out).mono ?_
        rintro e w5 ⟨b5, c5, rfl, hb5, hr5, h5⟩
        have hz5 := h5.size
        obtain ⟨vs, hrow, hel, hout, hlo, hhi⟩ := hR.out.ext h5
        have hvl : k < vs.length := by rw [hel.len, skTo_len (by have := HN.out; omega), ← HN.out]; exact hlt
        have d0 := hrow.cell (nthV_get hvl)
        have f0 := hrow.free k none
        have ho5 : OI w.heap.size w5.heap.size w5 (.slice (some ⟨b5, 0, none⟩) q.length c5) (cplL q) := OI.row hr5 (by have := he.out.size; omega) (cplL_len q).symm
        have hel2 := hel.put (k := k) (by rw [skTo_len (by have := HN.out; omega), ← HN.out]; exact hlt) ho5 hz5 (fun c hc => by simp [Value.ownBlock] at hc; omega)
        rw [HT.out] at hel2
        have hrow2 := hrow.set k (.slice (some ⟨b5, 0, none⟩) q.length c5)
        have hsc := Upd.setCell w5 ⟨b, k, none⟩ (.slice (some ⟨b5, 0, none⟩) q.length c5)
        have hR6 : RR w.heap.size (w5.setCell ⟨b, k, none⟩ (.slice (some ⟨b5, 0, none⟩) q.length c5)).heap.size (w5.setCell ⟨b, k, none⟩ (.slice (some ⟨b5, 0, none⟩) q.length c5)) b c (skTo S (k + 1)) := by
          have hoff : ∀ i, i < (skTo S (k + 1)).length → (nthV (vs.set k (.slice (some ⟨b5, 0, none⟩) q.length c5)) i).ownBlock ≠ some b := by
            intro i hi
            have hi' : i < vs.length := by have := hel2.len; simp at this; omega
            by_cases e : k = i
            · subst e
              rw [nthV_set_same _ hi']
              intro hc
              have : b5 = b := by simpa [Value.ownBlock] using hc
              omega
            · rw [nthV_set_other _ e]
              exact hout i (by rw [← hel.len]; exact hi')
          refine ⟨_, hrow2, (hel2.upd hsc (fun i c hi hc e => hoff i hi (by rw [hc, e]))).mono (Nat.le_refl _) (by simp), hoff, hlo, by simp; omega⟩
        have HR6 := Lib.hid hR6
        have HE6 := Lib.hid ((he.out.trans h5).upd1 hsc hlo)
        clear hr5 h5 hrow hel hout hhi ho5 hel2 hrow2 hsc hR6
        go_wp2_with fail
        go_roundw
        case rel => exact ⟨k + 1, by omega, by go_num, HR6, HE6⟩
        case measure => simp [intOf]; omega
      · obtain rfl : k = n := by omega
        have HL : Hid (k = (skP p).length) := by show _ = _; rw [← HSK.out, List.length_map]; exact HN.out
        have HR9 : Hid (RR w.heap.size wr.heap.size wr b c (skP p)) := by
          have h := hR.out
          rw [HN.out, skTo_all, HSK.out] at h; exact h
        go_wp2_with fail
        go_ret
        exact ⟨_, rfl, HR9.out.oii HL.out, he.out⟩
set_option maxHeartbeats 2000000 in
theorem SkewParts_ok (v : Value) (p : List Int) (w : World) (h : SI w v p) (hp : IsP p) (h8 : p.length ≤ 8) :
    Calls Try.prog 101 #[v] w fun e w' => ∃ v', e = .returned v' ∧ OII w.heap.size w'.heap.size w' v' (skP p) ∧ Ext w w' := by
  have h00 := h
  obtain ⟨a, cap, rfl, -⟩ := h00.elim
  have HH := Lib.hid h
  have HP := Lib.hid hp
  have HP8 := Lib.hid (hp.p8 h8)
  have hr0 : Hid (RR w.heap.size (w.alloc (.cells #[] 22)).heap.size (w.alloc (.cells #[] 22)) w.heap.size 0 []) := (RR.new w).mono (by simp)
  have hE0 : Hid (Ext w (w.alloc (.cells #[] 22))) := Upd.alloc _ _ _
  clear h h00 hp
  go_enter Try.func101, Try.ntmps101
  go_wp2_with fail
  refine (spec_IsPerm_qt _ p _ (HH.out.ext hE0.out) (by omega)).mono ?_
  rintro e w1 ⟨rfl, q1⟩
  rw [HP8.out]
  have HR1 := Lib.hid ((hr0.out.ext q1.ext).mono q1.ext.size)
  have HE1 := Lib.hid (hE0.out.trans q1.ext)
  clear q1 hr0 hE0
  go_wp2_with fail
  refine (l3Complement_ok _ p _ (HH.out.ext HE1.out) h8 (HP.out.small h8)).mono ?_
  rintro e w2 ⟨b2, c2, rfl, hb2, hr2, h2⟩
  have hs2 := hr2.si
  rw [cplL_len] at hs2
  have HS2 := Lib.hid hs2
  have HR2 := Lib.hid ((HR1.out.ext h2).mono h2.size)
  have HE2 := Lib.hid (HE1.out.trans h2)
  clear hr2 hs2 h2
  go_wp2_with fail
  refine (spec_SumParts_ok _ (cplL p) _ HS2.out (by rw [cplL_len]; omega)).mono ?_
  rintro e w3 ⟨v3, rfl, ho3, h3⟩
  have HPL := spP_PL HP.out.cpl (by rw [cplL_len]; exact h8)
  have hsk := skP_map p
  have hsl : sumL (cplL p) = spP (cplL p) (cplL p).length := by unfold sumL; rw [HP.out.cpl.p8 (by rw [cplL_len]; exact h8)]; rfl
  rw [hsl] at ho3
  obtain ⟨S, hS⟩ : ∃ S, S = spP (cplL p) (cplL p).length := ⟨_, rfl⟩
  rw [← hS] at ho3 HPL hsk
  have HSK := Lib.hid hsk
  have HPL := Lib.hid HPL
  have hS8 := HPL.out.len_le
  have HR3 : Hid (RR w.heap.size w3.heap.size w3 w.heap.size 0 ((S.take 0).map cplL)) := (HR2.out.ext h3).mono h3.size
  have HE3 := Lib.hid (HE2.out.trans h3)
  obtain ⟨a3, c3, hri3⟩ : ∃ a c, v3 = .slice a S.length c := by obtain ⟨a, c, e, _⟩ := ho3.sii; exact ⟨a, c, e⟩
  subst hri3
  obtain ⟨n, hn⟩ : ∃ n, n = S.length := ⟨_, rfl⟩
  have HN := Lib.hid hn
  have HO3 := Lib.hid ho3
  have hb0 : w.heap.size < w2.heap.size := HR2.out.lt
  rw [← hn]
  have hnb : n ≤ 8 := by omega
  clear ho3 h3 hsl hS hsk hn HR2 HE2 HR1 HE1
  go_wp2_with fail
  go_loopw [3, 5] (fun o i wr => ∃ k : Nat, k ≤ n ∧ i = .int .i64 ((k : Nat) : Int) ∧ (∃ b c, o = .slice (some ⟨b, 0, none⟩) k c ∧ Hid (RR w.heap.size wr.heap.size wr b c ((S.take k).map cplL)) ∧ (b < w2.heap.size ∨ w3.heap.size ≤ b)) ∧ Hid (Ext w wr) ∧ Hid (Upd (fun j => j < w2.heap.size) w3 wr)) (fun _ i _ => n - (intOf i).toNat)
  case atStart => exact ⟨0, Nat.zero_le _, rfl, ⟨_, 0, rfl, HR3, .inl hb0⟩, HE3, Upd.refl _ _⟩
  case round =>
    obtain ⟨k, hk, rfl, ⟨b, c, rfl, hR, hbb⟩, he, he3⟩ := hrel
    clear HR3 HE3
    by_cases hlt : k < n
    · have hkS : k < S.length := by rw [← HN.out]; exact hlt
      obtain ⟨b3, rfl, u, hu, hou⟩ := (HO3.out.upd he3.out (fun j h1 h2 h3 => by omega)).rd hkS
      have hsu := hou.si
      clear hou
      obtain ⟨q1, q2, q3⟩ := HPL.out.one hkS
      have HT : Hid ((S.take (k + 1)).map cplL = (S.take k).map cplL ++ [cplL (nthL S k)]) := by show _ = _; rw [take_nthL hkS, List.map_append]; rfl
      have HKL : Hid (k = ((S.take k).map cplL).length) := by show _ = _; rw [List.length_map, List.length_take]; omega
      obtain ⟨q, hq⟩ : ∃ q, q = nthL S k := ⟨_, rfl⟩
      rw [← hq] at hsu q1 q2 q3 HT
      have HSU := Lib.hid hsu
      have HQ1 := Lib.hid (q1.small q3)
      have HKB : Hid (((S.take k).map cplL).length ≤ 1000000000) := by show _ ≤ _; rw [← HKL.out]; omega
      have hkI : (k : Int) < (n : Int) := by omega
      have hwz := he.out.size
      clear hkS hsu hq q1
      go_wp2_with (first
        | (go_at_call 108; refine (l3Complement_ok _ q _ HSU.out q3 HQ1.out).mono ?_; rintro e w5 ⟨b5, c5, rfl, hb5, hr5, h5⟩; have hz5 := h5.size; have HO5 := Lib.hid (OI.row (B := w.heap.size) hr5 (by omega) (cplL_len q).symm); have HR5 := Lib.hid (hR.out.ext h5); have H5 := Lib.hid h5; clear hr5 h5)
        | (at_builtin; go_loud (refine wpl_appRR rfl (.tmp 20) (.tmp 26) rfl w.heap.size wr.heap.size b c k _ _ _ c5 (cplL q) rfl HR5.out HKL.out HO5.out (fun j hj => by simp [Value.ownBlock] at hj; omega) hz5 rfl HKB.out ?_); intro b6 c6 w6 hr6 hb6 hu6; have HR6 := Lib.hid hr6; have HU6 := Lib.hid hu6; clear hr6 hu6))
      have hR7 := HR6.out
      rw [← HT.out] at hR7
      have HR7 := Lib.hid hR7
      have hlo := hR.out.lo
      have HE7 := Lib.hid ((he.out.trans H5.out).upd1 HU6.out hlo)
      have hz3 := he3.out.size
      have HE8 : Hid (Upd (fun j => j < w2.heap.size) w3 w6) := (he3.out.comp H5.out (D' := fun j => j < w2.heap.size) (fun _ _ h => h) (fun _ _ h => h.elim)).comp HU6.out (fun _ _ h => h) (fun i hi e => by rcases hbb with h | h <;> omega)
      have hbb6 : b6 < w2.heap.size ∨ w3.heap.size ≤ b6 := by rcases hb6 with e | e <;> omega
      clear hR7
      go_roundw
      case rel => exact ⟨k + 1, by omega, by go_num, ⟨b6, c6, by go_num, HR7, hbb6⟩, HE7, HE8⟩
      case measure => simp [intOf]; omega
    · obtain rfl : k = n := by omega
      have HL : Hid (k = (skP p).length) := by show _ = _; rw [← HSK.out, List.length_map]; exact HN.out
      have HR9 : Hid (RR w.heap.size wr.heap.size wr b c (skP p)) := by
        have h := hR.out
        rw [HN.out, take_all (Nat.le_refl _), HSK.out] at h; exact h
      go_wp2_with fail
      go_ret
      exact ⟨_, rfl, HR9.out.oii HL.out, he.out⟩
end Go.Proofs.Ytcifngcmdiokpaa
