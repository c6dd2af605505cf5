/- Contracts of SortsBits, the program's and the reference's. Conditions: lengths below a bound. -/
import Derived.Test.YtapcnhbgoolcgaaBits
import Derived.Test.YtapcnhbgoolcgaaThr
namespace Go.Proofs.Ytapcnhbgoolcgaa
open Go.RowKit

def sbB (n : Int) (gs : List (List Int)) : Bool := netB n gs && (bitsL n.toNat).all (fun xs => srtB (runL gs xs))
theorem any_not_all (p : List Int → Bool) (L : List (List Int)) : anyL (fun x => !p x) L = !L.all p := by
  unfold anyL
  induction L with
  | nil => rfl
  | cons g gs ih => simp only [List.any_cons, List.all_cons, Bool.not_and, ih]

set_option maxHeartbeats 1000000 in
theorem l26Sorted_ok (v : Value) (xs : List Int) (w : World) (h : SI w v xs) (hl : xs.length ≤ 1000000000) :
    Calls Try.prog 59 #[v] w fun e w' => e = .returned (.bool (srtB xs)) ∧ Qt w w' := by
  obtain ⟨a, cap, rfl, hri⟩ := h.elim
  clear h
  go_enter Try.func59, Try.ntmps59
  go_wp2_with fail
  go_loopw [3] (fun i wr => ∃ k : Nat, i = .int .i64 ((k : Int) + 1) ∧ k ≤ xs.length ∧ Hid (∀ j : Nat, j < k → j + 1 < xs.length → nth xs j ≤ nth xs (j + 1)) ∧ Qt w wr) (fun i _ => xs.length + 1 - (intOf i).toNat)
  case atStart => exact ⟨0, rfl, Nat.zero_le _, Lib.hid (fun j h1 => by omega), Qt.refl _⟩
  case round =>
    obtain ⟨k, rfl, hk, hs, hq⟩ := hrel
    by_cases hlt : k + 1 < xs.length
    · obtain ⟨b, off, rfl, hc⟩ := (hri.ext hq.ext).get hlt
      have c1 := hc (k + 1) hlt
      have c0 := hc k (by omega)
      clear hc hri
      have w1 : IntKind.i64.wrap ((k : Int) + 1 - 1) = (k : Int) := by rw [IntWalk.i64_in _ (by omega)]; omega
      have w3 : ((k : Int) + 1).toNat = k + 1 := by omega
      have w2 : 0 ≤ (k : Int) + 1 := by omega
      have w4 : (k : Int) < (xs.length : Int) := by omega
      have w5 : (k : Int) + 1 < (xs.length : Int) := by omega
      by_cases hdn : nth xs (k + 1) < nth xs k
      · have hns : Hid (srtB xs = false) := by
          show _ = _; exact srtB_false (fun h => by have := h k hlt; omega)
        go_wp2_with fail
        go_quiet (fail)
        clear w1 w3
        go_wp2_with fail
        go_ret
        exact ⟨by rw [hns.out]; rfl, hq.drewN _⟩
      · have HL := Lib.hid (show nth xs k ≤ nth xs (k + 1) by omega)
        go_wp2_with fail
        go_quiet (fail)
        clear w1 w3
        go_wp2_with fail
        go_roundw
        case rel => exact ⟨k + 1, by go_num, by omega, Lib.hid (fun j h1 h2 => by
            by_cases e : j = k
            · subst e; exact HL.out
            · exact hs.out j (by omega) h2), hq.drewN _⟩
        case measure => simp [intOf]; omega
    · have hyes : Hid (srtB xs = true) := by show _ = _; exact srtB_true (fun i hi => hs.out i (by omega) hi)
      have w5 : ¬ (k : Int) + 1 < (xs.length : Int) := by omega
      go_wp2_with fail
      go_ret
      exact ⟨by rw [hyes.out]; rfl, hq⟩
set_option maxHeartbeats 1000000 in
theorem sortsBits1_ok (u : Value) (xs : List Int) (v : Value) (gs : List (List Int)) (bx : Nat) (w : World) (h : SI w u xs) (hx : w.cell? ⟨bx, 0, none⟩ = some v) (hv : SII w v gs) (hl : xs.length ≤ 1000) (h0 : 1 ≤ xs.length) (hg : gs.length ≤ 1000) (hok : ∀ g ∈ gs, gateB xs.length g = true) :
    Calls Try.prog 50 #[u, .pointer (some ⟨bx, 0, none⟩)] w fun e w' => e = .returned (.bool (!srtB (runL gs xs))) ∧ Ext w w' := by
  have HOK := Lib.hid hok
  have hrl := Lib.hid (runL_len gs xs)
  clear hok
  go_enter Try.func50, Try.ntmps50
  go_wp2_with fail
  refine (through_ok _ _ gs xs _ hv h hl h0 hg HOK.out).mono ?_
  rintro e w1 ⟨v1, rfl, ho, he1⟩
  go_wp2_with fail
  refine (isRising_ok _ (runL gs xs) _ ho.si (by rw [hrl.out]; omega)).mono ?_
  rintro e w2 ⟨rfl, hq⟩
  go_wp2_with fail
  go_ret
  exact ⟨rfl, he1.trans hq.ext⟩

set_option maxHeartbeats 1000000 in
theorem impl_SortsBits_ok (n : Int) (v : Value) (gs : List (List Int)) (w : World) (hn : I64 n) (h : SII w v gs) (hl : gs.length ≤ 1000000000) :
    Calls Try.prog 14 #[.int .i64 n, v] w fun e w' => e = .returned (.bool (sbB n gs)) ∧ Ext w w' := by
  obtain ⟨av, capv, rfl, -⟩ := h.elim
  have he0 : Ext w (w.alloc (.cells #[.slice av gs.length capv] 24)) := Upd.alloc _ _ _
  have h1 := h.ext he0
  cases hnet : netB n gs
  · have HT := Lib.hid hnet
    have e0 : Hid (sbB n gs = false) := by show _ = _; simp [sbB, hnet]
    clear hnet
    go_enter Try.func14, Try.ntmps14
    go_wp2_with (go_at_call 29; refine (impl_IsNetwork_ok _ _ gs _ hn h1 hl).mono ?_; rintro e w1 ⟨rfl, he1⟩; rw [HT.out])
    go_ret
    exact ⟨by rw [e0.out]; rfl, he0.trans he1⟩
  · have HT := Lib.hid hnet
    obtain ⟨n1, n2, n3, n4⟩ := net_true hnet
    obtain ⟨m, rfl⟩ : ∃ m : Nat, n = (m : Int) := ⟨n.toNat, by omega⟩
    have e0 : Hid (sbB (m : Int) gs = (bitsL m).all (fun xs => srtB (runL gs xs))) := by show _ = _; simp [sbB, hnet]
    have hcx : (w.alloc (.cells #[.slice av gs.length capv] 24)).cell? ⟨w.heap.size, 0, none⟩ = some (.slice av gs.length capv) := World.cell?_alloc_at _ _ _ _ rfl
    have hen : Enters 50 := enters_of Try.func50 rfl rfl
    have HEN := Lib.hid hen
    have HCX := Lib.hid hcx
    have N4 := Lib.hid n4
    have hna := Lib.hid (any_not_all (fun xs => srtB (runL gs xs)) (bitsL m))
    have hbl := Lib.hid (bitsL_len m)
    have hp2 : 2 ^ m ≤ 256 := Nat.pow_le_pow_right (n := 2) (by omega) (by omega : m ≤ 8)
    have HP2 := Lib.hid hp2
    clear hen hcx n4 hnet hp2
    go_enter Try.func14, Try.ntmps14
    go_wp2_with fail
    refine (impl_IsNetwork_ok _ _ gs _ hn h1 hl).mono ?_
    rintro e w1 ⟨rfl, he1⟩
    rw [HT.out]
    go_wp2_with fail
    refine (bitLists_ok m _ (by omega)).mono ?_
    rintro e w2 ⟨v2, rfl, ho2, he2⟩
    go_wp2_with fail
    refine (containsFuncL_ok _ (bitsL m) 50 #[.pointer (some ⟨w.heap.size, 0, none⟩)] (fun xs => !srtB (runL gs xs)) _ ho2.sii (by rw [hbl.out]; have := HP2.out; omega) HEN.out (fun i hi u w5 hw hs => ?_)).mono ?_
    · have hbr : nthL (bitsL m) i = bitRow m i := bitsL_nth (by rw [hbl.out] at hi; exact hi)
      rw [hbr] at hs ⊢
      have hlr := bitRow_len m i
      have hE := (he1.trans he2).trans hw
      exact sortsBits1_ok u _ _ gs w.heap.size w5 hs (hE.cell HCX.out) (h1.ext hE) (by omega) (by omega) (by omega) (by rw [hlr]; exact N4.out)
    rintro e w3 ⟨rfl, he3⟩
    rw [hna.out]
    go_wp2_with fail
    go_ret
    exact ⟨by rw [e0.out]; simp, ((he0.trans he1).trans he2).trans he3⟩
set_option maxHeartbeats 1000000 in
theorem spec_SortsBits_ok (n : Int) (v : Value) (gs : List (List Int)) (w : World) (hn : I64 n) (h : SII w v gs) (hl : gs.length ≤ 1000000000) :
    Calls Try.prog 22 #[.int .i64 n, v] w fun e w' => e = .returned (.bool (sbB n gs)) ∧ Ext w w' := by
  obtain ⟨av, capv, rfl, -⟩ := h.elim
  cases hnet : netB n gs
  · have HT := Lib.hid hnet
    have e0 : Hid (sbB n gs = false) := by show _ = _; simp [sbB, hnet]
    clear hnet
    go_enter Try.func22, Try.ntmps22
    go_wp2_with (go_at_call 30; refine (spec_IsNetwork_ok _ _ gs _ hn h hl).mono ?_; rintro e w1 ⟨rfl, he1⟩; rw [HT.out])
    go_ret
    exact ⟨by rw [e0.out]; rfl, he1⟩
  · have HT := Lib.hid hnet
    obtain ⟨n1, n2, n3, n4⟩ := net_true hnet
    obtain ⟨m, rfl⟩ : ∃ m : Nat, n = (m : Int) := ⟨n.toNat, by omega⟩
    have e0 : Hid (sbB (m : Int) gs = (bitsL m).all (fun xs => srtB (runL gs xs))) := by show _ = _; simp [sbB, hnet]
    have N4 := Lib.hid n4
    have hbl := bitsL_len m
    have hp2 : 2 ^ m ≤ 256 := Nat.pow_le_pow_right (n := 2) (by omega) (by omega : m ≤ 8)
    have HBL := Lib.hid hbl
    obtain ⟨P, hP⟩ : ∃ P, P = 2 ^ m := ⟨_, rfl⟩
    have HP := Lib.hid hP
    rw [← hP] at hbl hp2
    clear n4 hnet hP
    go_enter Try.func22, Try.ntmps22
    go_wp2_with fail
    refine (spec_IsNetwork_ok _ _ gs _ hn h hl).mono ?_
    rintro e w1 ⟨rfl, he1⟩
    rw [HT.out]
    go_wp2_with fail
    refine (l26Bits_ok m _ (by omega)).mono ?_
    rintro e w2 ⟨v2, rfl, ho2, he2⟩
    obtain ⟨a2, cap2, rfl, hri⟩ := ho2.sii.elim
    rw [hbl] at hri ⊢
    have he12 := he1.trans he2
    clear hbl ho2
    go_wp2_with fail
    go_loopw [6] (fun i wr => ∃ k : Nat, k ≤ P ∧ i = .int .i64 k ∧ Hid (((bitsL m).take k).all (fun xs => srtB (runL gs xs)) = true) ∧ Ext w2 wr) (fun i _ => P - (intOf i).toNat)
    case atStart => exact ⟨0, Nat.zero_le _, rfl, Lib.hid (by simp), Ext.refl _⟩
    case round =>
      obtain ⟨k, hk, rfl, ha, he⟩ := hrel
      by_cases hlt : k < P
      · obtain ⟨b, off, rfl, u, hc, hu⟩ := hri k hlt
        replace hc := Ext.cell he hc
        replace hu := hu.ext he
        have hbr : nthL (bitsL m) k = bitRow m k := bitsL_nth (by rw [← HP.out]; exact hlt)
        have HBR := Lib.hid hbr
        have hlen : k < (bitsL m).length := by rw [HBL.out, ← HP.out]; exact hlt
        have HTK := Lib.hid (take_nthL hlen)
        rw [hbr] at hu
        have hlr := bitRow_len m k
        have hgs := h.ext (he12.trans he)
        have HLR := Lib.hid hlr
        have hok : Hid (∀ g ∈ gs, gateB ((bitRow m k).length : Int) g = true) := by show ∀ g ∈ gs, _; rw [hlr]; exact N4.out
        have hrl := Lib.hid (runL_len gs (bitRow m k))
        have hll : (bitRow m k).length ≤ 1000 := by omega
        have hmem : Hid (bitRow m k ∈ bitsL m) := by show _ ∈ _; rw [← hbr]; exact nthL_mem hlen
        obtain ⟨au, cu, rfl, -⟩ := hu.elim
        clear hri hbr hlr hlen
        cases hs : srtB (runL gs (bitRow m k))
        · have HS := Lib.hid hs
          have hno : Hid ((bitsL m).all (fun xs => srtB (runL gs xs)) = false) := by
            show _ = _
            rw [Bool.eq_false_iff]; intro hh
            have := List.all_eq_true.1 hh _ hmem.out
            rw [hs] at this; simp at this
          clear hs
          go_wp2_with fail
          refine (l26Run_ok _ _ gs (bitRow m k) _ hgs hu hll (by omega) hok.out).mono ?_
          rintro e w4 ⟨b1, c1, b3, c3, rfl, -, -, hr, -, he4⟩
          have hsi := hr.si
          rw [hrl.out] at hsi
          have HSI := Lib.hid hsi
          clear hr hsi
          go_wp2_with fail
          refine (l26Sorted_ok _ _ _ HSI.out (by rw [hrl.out]; omega)).mono ?_
          rintro e w5 ⟨rfl, hq⟩
          rw [HS.out]
          go_wp2_with fail
          go_ret
          exact ⟨by rw [e0.out, hno.out]; rfl, ((he12.trans he).trans he4).trans hq.ext⟩
        · have HS := Lib.hid hs
          clear hs
          go_wp2_with fail
          refine (l26Run_ok _ _ gs (bitRow m k) _ hgs hu hll (by omega) hok.out).mono ?_
          rintro e w4 ⟨b1, c1, b3, c3, rfl, -, -, hr, -, he4⟩
          have hsi := hr.si
          rw [hrl.out] at hsi
          have HSI := Lib.hid hsi
          clear hr hsi
          go_wp2_with fail
          refine (l26Sorted_ok _ _ _ HSI.out (by rw [hrl.out]; omega)).mono ?_
          rintro e w5 ⟨rfl, hq⟩
          rw [HS.out]
          go_wp2_with fail
          go_roundw
          case rel => exact ⟨k + 1, by omega, by go_num, Lib.hid (by rw [HTK.out, List.all_append, ha.out, HBR.out]; simp [HS.out]), (he.trans he4).trans hq.ext⟩
          case measure => simp [intOf]; omega
      · have hall : Hid ((bitsL m).all (fun xs => srtB (runL gs xs)) = true) := by
          show _ = _; rw [← ha.out, take_all (by rw [HBL.out, ← HP.out]; omega)]
        go_wp2_with fail
        go_ret
        exact ⟨by rw [e0.out, hall.out]; rfl, he12.trans he⟩
end Go.Proofs.Ytapcnhbgoolcgaa
