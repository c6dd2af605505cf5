/- Contracts of IdleGates, the program's and the reference's. Conditions: lengths below a bound. -/
import Derived.Test.YtapcnhbgoolcgaaSbits
namespace Go.Proofs.Ytapcnhbgoolcgaa
open Go.RowKit

def busyB (gs : List (List Int)) (m K i : Nat) : Bool := (List.range K).any fun k => useB gs (bitRow m k) i
def busyL (gs : List (List Int)) (m K : Nat) : List Bool := (List.range gs.length).map (busyB gs m K)
def nowL (gs : List (List Int)) (m K : Nat) (row : List Int) (j : Nat) : List Bool := (List.range gs.length).map fun i => busyB gs m K i || (decide (i < j) && useB gs row i)
theorem busyL_len (gs : List (List Int)) (m K : Nat) : (busyL gs m K).length = gs.length := by simp [busyL]
theorem nowL_len (gs : List (List Int)) (m K : Nat) (row : List Int) (j : Nat) : (nowL gs m K row j).length = gs.length := by simp [nowL]
theorem busyL_zero (gs : List (List Int)) (m : Nat) : busyL gs m 0 = List.replicate gs.length false := by
  refine List.ext_getElem (by simp [busyL]) fun i h1 h2 => ?_
  simp [busyL, busyB]
theorem nowL_zero (gs : List (List Int)) (m K : Nat) (row : List Int) : nowL gs m K row 0 = busyL gs m K := by
  refine List.ext_getElem (by simp [busyL, nowL]) fun i h1 h2 => ?_
  simp [busyL, nowL]
theorem nowL_nth (gs : List (List Int)) (m K : Nat) (row : List Int) (j : Nat) (h : j < gs.length) : nthB (nowL gs m K row j) j = busyB gs m K j := by simp [nthB, nowL, h]
theorem nowL_set (gs : List (List Int)) (m K : Nat) (row : List Int) (j : Nat) : (nowL gs m K row j).set j (busyB gs m K j || useB gs row j) = nowL gs m K row (j + 1) := by
  refine List.ext_getElem (by simp [nowL]) fun i h1 h2 => ?_
  simp only [nowL, List.getElem_set, List.getElem_map, List.getElem_range]
  by_cases e : j = i
  · subst e; simp
  · rw [if_neg e]; congr 2; simp; omega
theorem nowL_keep {gs : List (List Int)} {m K : Nat} {row : List Int} {j : Nat} (h : useB gs row j = false) : nowL gs m K row j = nowL gs m K row (j + 1) := by
  refine List.ext_getElem (by simp [nowL]) fun i h1 h2 => ?_
  simp only [nowL, List.getElem_map, List.getElem_range]
  by_cases e : j = i
  · subst e; simp [h]
  · congr 2; simp; omega
theorem nowL_end (gs : List (List Int)) (m K : Nat) : nowL gs m K (bitRow m K) gs.length = busyL gs m (K + 1) := by
  refine List.ext_getElem (by simp [nowL, busyL]) fun i h1 h2 => ?_
  have hi : i < gs.length := by simpa [nowL] using h1
  simp [nowL, busyL, busyB, List.range_succ, hi]
def idleTo (gs : List (List Int)) (m k : Nat) : List Int := ((List.range k).filter fun i => !busyB gs m (2 ^ m) i).map fun (i : Nat) => (i : Int)
def idleL (n : Int) (gs : List (List Int)) : List Int := bif netB n gs then idleTo gs n.toNat gs.length else []
theorem idleTo_t {gs : List (List Int)} {m k : Nat} (h : busyB gs m (2 ^ m) k = true) : idleTo gs m (k + 1) = idleTo gs m k := by simp [idleTo, List.range_succ, List.filter_append, h]
theorem idleTo_f {gs : List (List Int)} {m k : Nat} (h : busyB gs m (2 ^ m) k = false) : idleTo gs m (k + 1) = idleTo gs m k ++ [(k : Int)] := by simp [idleTo, List.range_succ, List.filter_append, h]
theorem idleTo_len (gs : List (List Int)) (m k : Nat) : (idleTo gs m k).length ≤ k := by
  unfold idleTo; rw [List.length_map]
  have := List.length_filter_le (fun i => !busyB gs m (2 ^ m) i) (List.range k)
  simpa using this
theorem bound_IdleGates (n : Int) (gs : List (List Int)) : (idleL n gs).length ≤ 1048576 := by
  unfold idleL
  cases h : netB n gs
  · simp
  · have := idleTo_len gs n.toNat gs.length
    have h2 := (net_true h).2.2.1
    simp; omega

theorem OII.get {B H : Nat} {w : World} {a : Option Addr} {n c : Nat} {xss : List (List Int)} (h : OII B H w (.slice a n c) xss) {k : Nat} (hk : k < xss.length) :
    ∃ b off, a = some ⟨b, off, none⟩ ∧ B ≤ b ∧ b < H ∧ ∃ u, w.cell? ⟨b, off + k, none⟩ = some u ∧ OI B H w u (nthL xss k) := by
  rcases h with ⟨_, rfl⟩ | ⟨b, cap, vs, h1, h2, h3, h4, h5, _⟩
  · simp at hk
  · injection h1 with e1 e2 e3
    exact ⟨b, 0, e1, h2, h3, nthV vs k, by rw [Nat.zero_add]; exact h4.cell (nthV_get (by rw [h5.len]; exact hk)), h5.el k hk⟩

set_option maxHeartbeats 2000000 in
theorem spec_IdleGates_ok (n : Int) (v : Value) (gs : List (List Int)) (w : World) (hn : I64 n) (h : SII w v gs) (hl : gs.length ≤ 1000000000) :
    Calls Try.prog 26 #[.int .i64 n, v] w fun e w' => ∃ v', e = .returned v' ∧ OI w.heap.size w'.heap.size w' v' (idleL n gs) ∧ Ext w w' := by
  obtain ⟨av, capv, rfl, -⟩ := h.elim
  have he0 : Ext w (w.alloc (.cells #[] 3)) := Upd.alloc _ _ _
  have hr00 := Row.new 3 w [] (by simp)
  have h1 := h.ext he0
  cases hnet : netB n gs
  · have HT := Lib.hid hnet
    have e0 : Hid (idleL n gs = []) := by show _ = _; simp [idleL, hnet]
    clear hnet
    go_enter Try.func26, Try.ntmps26
    go_wp2_with (go_at_call 30; refine (spec_IsNetwork_ok _ _ gs _ hn h1 hl).mono ?_; rintro e w1 ⟨rfl, he1⟩; rw [HT.out])
    go_ret
    rw [e0.out]
    exact ⟨_, rfl, OI.row (hr00.ext he1) (Nat.le_refl _) rfl, he0.trans he1⟩
  · have HT := Lib.hid hnet
    obtain ⟨n1, n2, n3, n4⟩ := net_true hnet
    obtain ⟨m, rfl⟩ : ∃ m : Nat, n = (m : Int) := ⟨n.toNat, by omega⟩
    have e0 : Hid (idleL (m : Int) gs = idleTo gs m gs.length) := by show _ = _; simp [idleL, hnet]
    have N4 := Lib.hid n4
    have hbl := bitsL_len m
    have hp2 : 2 ^ m ≤ 256 := Nat.pow_le_pow_right (n := 2) (by omega) (by omega : m ≤ 8)
    obtain ⟨P, hP⟩ : ∃ P, P = 2 ^ m := ⟨_, rfl⟩
    have HP := Lib.hid hP
    rw [← hP] at hbl hp2
    have hm8 : m ≤ 8 := by omega
    clear n4 hnet hP
    go_enter Try.func26, Try.ntmps26
    go_wp2_with fail
    refine (spec_IsNetwork_ok _ _ gs _ hn h1 hl).mono ?_
    rintro e w1 ⟨rfl, he1⟩
    rw [HT.out]
    go_wp2_with (at_make; refine wpl_make_bool rfl _ _ rfl gs.length _ _ _ _ rfl rfl rfl rfl (by omega) ?_; intro w3 hb0 he3 hs3)
    refine (l26Bits_ok m _ (by omega)).mono ?_
    rintro e w2 ⟨v2, rfl, ho2, he2⟩
    obtain ⟨a2, cap2, hv2, -⟩ := ho2.sii.elim
    subst hv2
    have HO2 := Lib.hid ho2
    rw [hbl]
    have HBL := Lib.hid hbl
    have hr0 := ((hr00.ext he1).ext he3).ext he2
    have he02 := ((he0.trans he1).trans he3).trans he2
    have hU : w.heap.size < w1.heap.size := by have := he1.size; simp at this; omega
    have hU2 : w1.heap.size < w3.heap.size := hs3
    have hU3 : w3.heap.size ≤ w2.heap.size := he2.size
    rw [← busyL_zero gs m] at hb0
    replace hb0 := hb0.ext he2
    obtain ⟨U, hUU⟩ : ∃ U, U = w1.heap.size := ⟨_, rfl⟩
    rw [← hUU] at hb0 hU hU2 ⊢
    clear hbl ho2 hr00 he1 he3 he2 hs3 hUU h1 he0
    go_wp2_with fail
    go_loopw [8] (fun i wr => ∃ k : Nat, k ≤ P ∧ i = .int .i64 k ∧ Row 4 wr U gs.length (bvals (busyL gs m k)) ∧ Upd (fun b => b = U) w2 wr) (fun i _ => P - (intOf i).toNat)
    case atStart => exact ⟨0, Nat.zero_le _, rfl, hb0, Upd.refl _ _⟩
    case round =>
      obtain ⟨k, hk, rfl, hb, hu2⟩ := hrel
      clear hb0
      have heu : Ext w wr := he02.upd1 hu2 (by omega)
      have hzu := hu2.size
      by_cases hlt : k < P
      · obtain ⟨bq, off, rfl, -, -, u, hc, hou⟩ := (HO2.out.upd hu2 (fun b h1 h2 e => by omega)).get (k := k) (by rw [HBL.out]; exact hlt)
        have hbr : nthL (bitsL m) k = bitRow m k := bitsL_nth (by rw [← HP.out]; exact hlt)
        rw [hbr] at hou
        have hlr := bitRow_len m k
        have HLR := Lib.hid hlr
        have hgs := h.ext heu
        have hok : Hid (∀ g ∈ gs, gateB ((bitRow m k).length : Int) g = true) := by show ∀ g ∈ gs, _; rw [hlr]; exact N4.out
        have hus := hou.si
        obtain ⟨au, cu, rfl, -⟩ := hus.elim
        have hll : (bitRow m k).length ≤ 1000 := by omega
        clear hbr hlr hou
        go_wp2_with fail
        refine (l26Run_ok _ _ gs (bitRow m k) _ hgs hus hll (by omega) hok.out).mono ?_
        rintro e w4 ⟨b1, c1, b3, c3, rfl, hb1, hb13, -, hr3, he4⟩
        have hb4 := hb.ext he4
        have hUb3 : U < b3 := by omega
        have hub4 : Upd (fun b => b = U) w2 w4 := hu2.trans (he4.toUpd _)
        clear hb hu2 hgs hus
        go_wp2_with fail
        go_loopw [11] (fun i wz => ∃ j : Nat, j ≤ gs.length ∧ i = .int .i64 j ∧ Row 4 wz U gs.length (bvals (nowL gs m k (bitRow m k) j)) ∧ Upd (fun b => b = U) w4 wz) (fun i _ => gs.length - (intOf i).toNat)
        case atStart => exact ⟨0, Nat.zero_le _, rfl, by rw [nowL_zero]; exact hb4, Upd.refl _ _⟩
        case round =>
          obtain ⟨j, hj, rfl, hbz, huz⟩ := hrel
          clear hb4
          by_cases hjl : j < gs.length
          · have gc := hbz.cell (bvals_get (bs := nowL gs m k (bitRow m k) j) (j := j) (by rw [nowL_len]; exact hjl))
            rw [nowL_nth _ _ _ _ _ hjl] at gc
            have uc := (hr3.upd huz (by omega)).cell (bvals_get (bs := useL gs (bitRow m k) gs.length) (j := j) (by rw [useL_len]; exact hjl))
            rw [useL_nth _ _ _ _ hjl, decide_eq_true hjl, Bool.true_and] at uc
            have gf := hbz.free j none
            have hset := hbz.set j (.bool (busyB gs m k j || useB gs (bitRow m k) j))
            rw [bvals_set, nowL_set] at hset
            have hus := Upd.setCell wr ⟨U, j, none⟩ (.bool (busyB gs m k j || useB gs (bitRow m k) j))
            obtain ⟨ub, hub⟩ : ∃ ub, ub = useB gs (bitRow m k) j := ⟨_, rfl⟩
            obtain ⟨bb, hbb⟩ : ∃ bb, bb = busyB gs m k j := ⟨_, rfl⟩
            rw [← hub] at uc hset hus
            rw [← hbb] at gc hset hus
            clear hub hbb hbz
            cases bb
            · rw [Bool.false_or] at hset hus
              have HS := Lib.hid hset
              have HU := Lib.hid (huz.trans hus)
              clear hset hus huz
              go_wp2_with fail
              go_roundw
              case rel => exact ⟨j + 1, by omega, by go_num, HS.out, HU.out⟩
              case measure => simp [intOf]; omega
            · rw [Bool.true_or] at hset hus
              have HS := Lib.hid hset
              have HU := Lib.hid (huz.trans hus)
              clear hset hus huz
              go_wp2_with fail
              go_roundw
              case rel => exact ⟨j + 1, by omega, by go_num, HS.out, HU.out⟩
              case measure => simp [intOf]; omega
          · obtain rfl : j = gs.length := by omega
            rw [nowL_end] at hbz
            go_wp2_with fail
            go_roundw
            case rel => exact ⟨k + 1, by omega, by go_num, hbz, hub4.trans huz⟩
            case measure => simp [intOf]; omega
      · obtain rfl : k = P := by omega
        have hr := hr0.upd hu2 (by omega)
        go_wp2_with fail
        go_loopw [5, 12] (fun o i wz => ∃ j : Nat, j ≤ gs.length ∧ i = .int .i64 j ∧ (∃ b c n, o = .slice (some ⟨b, 0, none⟩) n c ∧ Hid (n = (idleTo gs m j).length) ∧ w.heap.size ≤ b ∧ b ≠ U ∧ Row 3 wz b c (vals (idleTo gs m j))) ∧ Row 4 wz U gs.length (bvals (busyL gs m k)) ∧ Ext w wz) (fun _ i _ => gs.length - (intOf i).toNat)
        case atStart => exact ⟨0, Nat.zero_le _, rfl, ⟨_, 0, 0, rfl, Lib.hid rfl, Nat.le_refl _, by omega, hr⟩, hb, heu⟩
        case round =>
          obtain ⟨j, hj, rfl, ⟨b5, c5, n5, rfl, hn5, hb5, hb5U, hr5⟩, hbz, hez⟩ := hrel
          clear hr hb hr0
          by_cases hjl : j < gs.length
          · have gc := hbz.cell (bvals_get (bs := busyL gs m k) (j := j) (by rw [busyL_len]; exact hjl))
            have e1 : nthB (busyL gs m k) j = busyB gs m k j := by simp [nthB, busyL, hjl]
            rw [e1] at gc
            have hlen := idleTo_len gs m j
            obtain ⟨bb, hbb⟩ : ∃ bb, bb = busyB gs m k j := ⟨_, rfl⟩
            rw [← hbb] at gc
            rw [HP.out] at hbb
            have HB := Lib.hid hbb
            clear hbb e1
            cases bb
            · have hst := Lib.hid (idleTo_f HB.out.symm)
              go_wp2_with (at_builtin; refine wpl_app1 rfl _ _ rfl b5 c5 n5 (idleTo gs m j) (j : Int) rfl hr5 hn5.out rfl (by omega) ?_; intro b6 c6 w6 h3 h4 h5)
              go_roundw
              case rel => exact ⟨j + 1, by omega, by go_num, ⟨b6, c6, n5 + 1, rfl, Lib.hid (by rw [hst.out]; simp [hn5.out]), by have := hez.size; omega, by have := hbz.lt; omega, by rw [hst.out]; exact h3⟩, hbz.upd h5 (by omega), hez.upd1 h5 hb5⟩
              case measure => simp [intOf]; omega
            · have hst := Lib.hid (idleTo_t HB.out.symm)
              go_wp2_with fail
              go_roundw
              case rel => exact ⟨j + 1, by omega, by go_num, ⟨b5, c5, n5, rfl, Lib.hid (by rw [hst.out]; exact hn5.out), hb5, hb5U, by rw [hst.out]; exact hr5⟩, hbz, hez⟩
              case measure => simp [intOf]; omega
          · obtain rfl : j = gs.length := by omega
            go_wp2_with fail
            go_ret
            rw [e0.out]
            exact ⟨_, rfl, OI.row hr5 hb5 hn5.out, hez⟩
theorem Els.set2 {B H U : Nat} {w w' : World} {vs : List Value} {xss : List (List Int)} {k : Nat} {ys : List Int} (h : Els B H w vs xss) (hk : k < xss.length) (hu : Upd (fun b => (nthV vs k).ownBlock = some b ∨ b = U) w w') (hU : U < B) (hv : OI B H w' (nthV vs k) ys) :
    Els B H w' vs (xss.set k ys) := by
  refine ⟨by simp [h.len], fun i hi => ?_, fun i j c hij hj hi => h.apart i j c hij (by simpa using hj) hi⟩
  have hi' : i < xss.length := by simpa using hi
  by_cases e : k = i
  · subst e; rw [nthL_set_same ys hk]; exact hv
  · rw [nthL_set_other ys e]
    refine (h.el i hi').upd hu (fun b hb h1 _ hc => ?_)
    rcases hc with hc | hc
    · rcases Nat.lt_or_ge k i with h1 | h1
      · exact h.apart k i b h1 hi' hc hb
      · exact h.apart i k b (by omega) hk hb hc
    · omega
def mixL (gs : List (List Int)) (m P k : Nat) : List (List Int) := (List.range P).map fun i => if i < k then runL gs (bitRow m i) else bitRow m i
theorem mixL_len (gs : List (List Int)) (m P k : Nat) : (mixL gs m P k).length = P := by simp [mixL]
theorem mixL_zero (gs : List (List Int)) (m : Nat) : mixL gs m (2 ^ m) 0 = bitsL m := by simp [mixL, bitsL, bitsTo]
theorem mixL_nth (gs : List (List Int)) (m P k : Nat) (h : k < P) : nthL (mixL gs m P k) k = bitRow m k := by simp [nthL, mixL, h]
theorem mixL_set (gs : List (List Int)) (m P k : Nat) : (mixL gs m P k).set k (runL gs (bitRow m k)) = mixL gs m P (k + 1) := by
  refine List.ext_getElem (by simp [mixL]) fun i h1 h2 => ?_
  simp only [mixL, List.getElem_set, List.getElem_map, List.getElem_range]
  by_cases e : k = i
  · subst e; simp
  · rw [if_neg e]
    by_cases e2 : i < k
    · rw [if_pos e2, if_pos (by omega)]
    · rw [if_neg e2, if_neg (by omega)]
set_option maxHeartbeats 2000000 in
theorem impl_IdleGates_ok (n : Int) (v : Value) (gs : List (List Int)) (w : World) (hn : I64 n) (h : SII w v gs) (hl : gs.length ≤ 1000000000) :
    Calls Try.prog 20 #[.int .i64 n, v] w fun e w' => ∃ v', e = .returned v' ∧ OI w.heap.size w'.heap.size w' v' (idleL n gs) ∧ Ext w w' := by
  obtain ⟨av, capv, rfl, hri⟩ := h.elim
  cases hnet : netB n gs
  · have HT := Lib.hid hnet
    have e0 : Hid (idleL n gs = []) := by show _ = _; simp [idleL, hnet]
    clear hnet
    go_enter Try.func20, Try.ntmps20
    go_wp2_with (go_at_call 29; refine (impl_IsNetwork_ok _ _ gs _ hn h hl).mono ?_; rintro e w1 ⟨rfl, he1⟩; rw [HT.out])
    go_ret
    rw [e0.out]
    exact ⟨_, rfl, OI.nil _ _ _, he1⟩
  · have HT := Lib.hid hnet
    obtain ⟨n1, n2, n3, n4⟩ := net_true hnet
    obtain ⟨m, rfl⟩ : ∃ m : Nat, n = (m : Int) := ⟨n.toNat, by omega⟩
    have e0 : Hid (idleL (m : Int) gs = idleTo gs m gs.length) := by show _ = _; simp [idleL, hnet]
    have N4 := Lib.hid n4
    have hbl := bitsL_len m
    have hp2 : 2 ^ m ≤ 256 := Nat.pow_le_pow_right (n := 2) (by omega) (by omega : m ≤ 8)
    have hp0 : 0 < 2 ^ m := Nat.two_pow_pos m
    have hmz := mixL_zero gs m
    obtain ⟨P, hP⟩ : ∃ P, P = 2 ^ m := ⟨_, rfl⟩
    have HP := Lib.hid hP
    rw [← hP] at hbl hp2 hp0 hmz
    have hm8 : m ≤ 8 := by omega
    have hm1 : 1 ≤ m := by omega
    clear n4 hnet hP
    go_enter Try.func20, Try.ntmps20
    go_wp2_with fail
    refine (impl_IsNetwork_ok _ _ gs _ hn h hl).mono ?_
    rintro e w1 ⟨rfl, he1⟩
    rw [HT.out]
    go_wp2_with (at_make; refine wpl_make_bool rfl _ _ rfl gs.length _ _ _ _ rfl rfl rfl rfl (by omega) ?_; intro w3 hb0 he3 hs3)
    refine (bitLists_ok m _ (by omega)).mono ?_
    rintro e w2 ⟨v2, rfl, ho2, he2⟩
    rcases ho2 with ⟨_, hx⟩ | ⟨B2, c2, vs, rfl, hB2, hB2H, hR2, hE2, hS2⟩
    · rw [hx] at hbl; simp at hbl; omega
    rw [hbl] at hS2 ⊢
    rw [← hmz] at hE2
    have he02 := (he1.trans he3).trans he2
    have hU : w.heap.size ≤ w1.heap.size := he1.size
    have hU2 : w1.heap.size < w3.heap.size := hs3
    have hU3 : w3.heap.size ≤ w2.heap.size := he2.size
    rw [← busyL_zero gs m] at hb0
    replace hb0 := hb0.ext he2
    obtain ⟨U, hUU⟩ : ∃ U, U = w1.heap.size := ⟨_, rfl⟩
    rw [← hUU] at hb0 hU hU2 ⊢
    have HS2 := Lib.hid hS2
    clear hbl he1 he3 he2 hs3 hUU hmz hS2
    go_wp2_with fail
    go_loopw [25] (fun i wr => ∃ k : Nat, k ≤ P ∧ i = .int .i64 k ∧ Row 4 wr U gs.length (bvals (busyL gs m k)) ∧ Row 28 wr B2 c2 vs ∧ Els w3.heap.size w2.heap.size wr vs (mixL gs m P k) ∧ Ext w wr) (fun i _ => P - (intOf i).toNat)
    case atStart => exact ⟨0, Nat.zero_le _, rfl, hb0, hR2, hE2, he02⟩
    case round =>
      obtain ⟨k, hk, rfl, hb, hR, hE, he⟩ := hrel
      clear hb0 hR2 hE2 he02
      by_cases hlt : k < P
      · have hmk := mixL_nth gs m P k hlt
        have hkl : k < (mixL gs m P k).length := by rw [mixL_len]; exact hlt
        have hou := hE.el k hkl
        rw [hmk] at hou
        have hvl := hE.len
        rw [mixL_len] at hvl
        have hcell := hR.cell (nthV_get (vs := vs) (k := k) (by omega))
        obtain ⟨u, hu⟩ : ∃ u, u = nthV vs k := ⟨_, rfl⟩
        rw [← hu] at hcell hou
        have hlr := bitRow_len m k
        rcases hou with ⟨_, hx⟩ | ⟨bl, cl, rfl, hbl1, hbl2, hrl⟩
        · rw [hx] at hlr; simp at hlr; omega
        have hblB : bl ≠ B2 := fun e => HS2.out k hlt (by rw [← hu, e]; rfl)
        rw [hlr] at hcell hu
        have HV := Lib.hid hu
        have HVL := Lib.hid hvl
        have hcl := hrl.le
        rw [List.length_map, hlr] at hcl
        clear hmk hvl hu hlr hkl
        obtain ⟨wp, hwp⟩ : ∃ wp, wp = wr := ⟨_, rfl⟩
        subst hwp
        go_wp2_with fail
        go_loopw [31] (fun i wr => ∃ j : Nat, j ≤ gs.length ∧ i = .int .i64 j ∧ Row 3 wr bl cl (vals (runL (gs.take j) (bitRow m k))) ∧ Row 4 wr U gs.length (bvals (nowL gs m k (bitRow m k) j)) ∧ Upd (fun b => b = bl ∨ b = U) wp wr) (fun i _ => gs.length - (intOf i).toNat)
        case atStart => exact ⟨0, Nat.zero_le _, rfl, by simpa [runL] using hrl, by rw [nowL_zero]; exact hb, Upd.refl _ _⟩
        case round =>
          obtain ⟨j, hj, rfl, hr, hbz, huz⟩ := hrel
          clear hrl
          have hez : Ext w wr := he.upd huz (fun i hi => by omega)
          by_cases hjl : j < gs.length
          · obtain ⟨b1, off1, rfl, ug, hc, hug⟩ := hri j hjl
            replace hc := Ext.cell hez hc
            replace hug := hug.ext hez
            obtain ⟨p, q, hp, hq, hgp, hgq, hpq, hqn, hgl⟩ := gate_nat (N4.out _ (nthL_mem hjl))
            obtain ⟨a2, cap2, rfl, hri2⟩ := hug.elim
            obtain ⟨b2, off2, rfl, hcl2⟩ := hri2.get (k := 0) (by omega)
            have c0 : wr.cell? ⟨b2, off2, none⟩ = some (.int .i64 ((p : Int) + 1)) := by rw [← hp]; exact hcl2 0 (by omega)
            have c1 : wr.cell? ⟨b2, off2 + 1, none⟩ = some (.int .i64 ((q : Int) + 1)) := by rw [← hq]; exact hcl2 1 (by omega)
            rw [hgl] at hc
            obtain ⟨ys, hys⟩ : ∃ ys, ys = runL (gs.take j) (bitRow m k) := ⟨_, rfl⟩
            rw [← hys] at hr
            have hyl : ys.length = m := by rw [hys, runL_len, bitRow_len]
            have hst := runL_take hjl (bitRow m k)
            rw [← hys] at hst
            have hub : useB gs (bitRow m k) j = decide (nth ys q < nth ys p) := by unfold useB; rw [← hys, hgp, hgq]
            have d0 := hr.icell (j := p) (by omega)
            have d1 := hr.icell (j := q) (by omega)
            have f0 := hr.free p none
            have f1 := hr.free q none
            have w1 : IntKind.i64.wrap ((p : Int) + 1 - 1) = (p : Int) := by rw [IntWalk.i64_in _ (by omega)]; omega
            have w2 : IntKind.i64.wrap ((q : Int) + 1 - 1) = (q : Int) := by rw [IntWalk.i64_in _ (by omega)]; omega
            have hpl : (p : Int) < (m : Int) := by omega
            have hql : (q : Int) < (m : Int) := by omega
            have hUbl : U < bl := by omega
            have HYL := Lib.hid hyl
            by_cases hgt : nth ys q < nth ys p
            · have hub' : useB gs (bitRow m k) j = true := by rw [hub, decide_eq_true hgt]
              have gf := hbz.free j none
              have gc := hbz.cell (bvals_get (bs := nowL gs m k (bitRow m k) j) (j := j) (by rw [nowL_len]; exact hjl))
              have hset := fun t => (((hr.ext (Upd.drewN wr t _)).upd (Upd.setCell _ ⟨U, j, none⟩ (.bool true)) (by simp; omega)).set p (.int .i64 (nth ys q))).set q (.int .i64 (nth ys p))
              simp only [vals_set, ← gst_swap hgp hgq hgt, ← hst] at hset
              have hsb := fun t => (((hbz.ext (Upd.drewN wr t _)).set j (.bool true)).upd (Upd.setCell _ ⟨bl, p, none⟩ (.int .i64 (nth ys q))) (by simp; omega)).upd (Upd.setCell _ ⟨bl, q, none⟩ (.int .i64 (nth ys p))) (by simp; omega)
              have hns := nowL_set gs m k (bitRow m k) j
              rw [hub', Bool.or_true] at hns
              simp only [bvals_set, hns] at hsb
              have HS := Lib.hid hset
              have HB := Lib.hid hsb
              have HU := Lib.hid (fun t => (((huz.trans ((Upd.drewN wr t _))).trans ((Upd.setCell (wr.drewN t) ⟨U, j, none⟩ (.bool true)).mono (fun i _ e => .inr e))).trans ((Upd.setCell _ ⟨bl, p, none⟩ (.int .i64 (nth ys q))).mono (fun i _ e => .inl e))).trans ((Upd.setCell _ ⟨bl, q, none⟩ (.int .i64 (nth ys p))).mono (fun i _ e => .inl e)))
              clear hr hbz hset hsb hns hys hyl hst hp hq hgp hgq hgl hcl2 hri2 hug hub hub' huz
              go_wp2_with fail
              go_quiet (fail)
              go_wp2_with fail
              go_quiet (fail)
              go_wp2_with fail
              go_region
              go_wp2_with fail
              go_roundw
              case rel => exact ⟨j + 1, by omega, by go_num, (HS.out _).ext (Upd.drew _ _), (HB.out _).ext (Upd.drew _ _), (HU.out _).trans (Upd.drew _ _)⟩
              case measure => simp [intOf]; omega
            · have hub' : useB gs (bitRow m k) j = false := by rw [hub, decide_eq_false hgt]
              rw [nowL_keep hub'] at hbz
              rw [gst_same hgp hgq hgt] at hst
              have HST := Lib.hid hst
              have hrd := Lib.hid (fun t => hr.ext (Upd.drewN wr t _))
              have hbd := Lib.hid (fun t => hbz.ext (Upd.drewN wr t _))
              have hud := Lib.hid (fun t => huz.trans (Upd.drewN wr t _))
              clear hr hbz hys hyl hst hp hq hgp hgq hgl hcl2 hri2 hug hub hub' huz
              go_wp2_with fail
              go_quiet (fail)
              go_wp2_with fail
              go_quiet (fail)
              go_wp2_with fail
              go_roundw
              case rel => exact ⟨j + 1, by omega, by go_num, by rw [HST.out]; exact hrd.out _, hbd.out _, hud.out _⟩
              case measure => simp [intOf]; omega
          · obtain rfl : j = gs.length := by omega
            rw [nowL_end] at hbz
            rw [take_all (Nat.le_refl _)] at hr
            have hlen2 : Hid ((runL gs (bitRow m k)).length = m) := by show _ = _; rw [runL_len, bitRow_len]
            have hR' : Row 28 wr B2 c2 vs := hR.upd huz (by omega)
            have hoi : OI w3.heap.size w2.heap.size wr (nthV vs k) (runL gs (bitRow m k)) := by
              rw [← HV.out]
              exact .inr ⟨bl, cl, by rw [hlen2.out], hbl1, hbl2, hr⟩
            have hE' := hE.set2 (U := U) (by rw [mixL_len]; exact hlt) (by rw [← HV.out]; exact huz.mono (fun i _ e => e.elim (fun e => .inl (by rw [e]; rfl)) .inr)) hU2 hoi
            rw [mixL_set] at hE'
            clear hlen2 hoi
            go_wp2_with fail
            go_roundw
            case rel => exact ⟨k + 1, by omega, by go_num, hbz, hR', hE', hez⟩
            case measure => simp [intOf]; omega
      · obtain rfl : k = P := by omega
        have hr0 := Row.new 3 wr [] (by simp)
        have hbn := hb.ext (show Ext wr (wr.alloc (.cells #[] 3)) from Upd.alloc _ _ _)
        have hUw := hb.lt
        have hzz := he.size
        clear hb
        go_wp2_with fail
        go_loopw [12, 75] (fun o i wz => ∃ j : Nat, j ≤ gs.length ∧ i = .int .i64 j ∧ (∃ b c n, o = .slice (some ⟨b, 0, none⟩) n c ∧ Hid (n = (idleTo gs m j).length) ∧ w.heap.size ≤ b ∧ b ≠ U ∧ Row 3 wz b c (vals (idleTo gs m j))) ∧ Row 4 wz U gs.length (bvals (busyL gs m k)) ∧ Ext w wz) (fun _ i _ => gs.length - (intOf i).toNat)
        case atStart => exact ⟨0, Nat.zero_le _, rfl, ⟨_, 0, 0, rfl, Lib.hid rfl, hzz, by omega, hr0⟩, hbn, he.alloc _⟩
        case round =>
          obtain ⟨j, hj, rfl, ⟨b5, c5, n5, rfl, hn5, hb5, hb5U, hr5⟩, hbz, hez⟩ := hrel
          clear hr0 hbn
          by_cases hjl : j < gs.length
          · have gc := hbz.cell (bvals_get (bs := busyL gs m k) (j := j) (by rw [busyL_len]; exact hjl))
            have e1 : nthB (busyL gs m k) j = busyB gs m k j := by simp [nthB, busyL, hjl]
            rw [e1] at gc
            have hlen := idleTo_len gs m j
            obtain ⟨bb, hbb⟩ : ∃ bb, bb = busyB gs m k j := ⟨_, rfl⟩
            rw [← hbb] at gc
            rw [HP.out] at hbb
            have HB := Lib.hid hbb
            clear hbb e1
            cases bb
            · have hst := Lib.hid (idleTo_f HB.out.symm)
              go_wp2_with (at_builtin; refine wpl_app1 rfl _ _ rfl b5 c5 n5 (idleTo gs m j) (j : Int) rfl hr5 hn5.out rfl (by omega) ?_; intro b6 c6 w6 h3 h4 h5)
              go_roundw
              case rel => exact ⟨j + 1, by omega, by go_num, ⟨b6, c6, n5 + 1, rfl, Lib.hid (by rw [hst.out]; simp [hn5.out]), by have := hez.size; omega, by have := hbz.lt; omega, by rw [hst.out]; exact h3⟩, hbz.upd h5 (by omega), hez.upd1 h5 hb5⟩
              case measure => simp [intOf]; omega
            · have hst := Lib.hid (idleTo_t HB.out.symm)
              go_wp2_with fail
              go_roundw
              case rel => exact ⟨j + 1, by omega, by go_num, ⟨b5, c5, n5, rfl, Lib.hid (by rw [hst.out]; exact hn5.out), hb5, hb5U, by rw [hst.out]; exact hr5⟩, hbz, hez⟩
              case measure => simp [intOf]; omega
          · obtain rfl : j = gs.length := by omega
            go_wp2_with fail
            go_ret
            rw [e0.out]
            exact ⟨_, rfl, OI.row hr5 hb5 hn5.out, hez⟩
end Go.Proofs.Ytapcnhbgoolcgaa
