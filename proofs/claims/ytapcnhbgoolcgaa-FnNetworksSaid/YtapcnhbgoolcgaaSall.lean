/- Contracts of SortsAll, the program's and the reference's. Conditions: lengths below a bound. -/
import Derived.Test.YtapcnhbgoolcgaaSbits
import Derived.Test.YtapcnhbgoolcgaaPerm2
import Derived.Test.YtapcnhbgoolcgaaCnt
namespace Go.Proofs.Ytapcnhbgoolcgaa
open Go.RowKit

def saB (n : Int) (gs : List (List Int)) : Bool := netB n gs && decide (n ≤ 6) && (permsL n.toNat).all (fun xs => srtB (runL gs xs))
theorem all_cnt (p : List Int → Bool) (L : List (List Int)) : L.all p = (((cntP (fun x => !p x) L : Nat) : Int) == 0) := by
  unfold cntP
  rw [Bool.eq_iff_iff]
  simp [List.countP_eq_zero]
set_option maxHeartbeats 1000000 in
theorem sortsAll1_ok (u : Value) (xs : List Int) (v : Value) (gs : List (List Int)) (bx : Nat) (w : World) (h : SI w u xs) (hx : w.cell? ⟨bx, 0, none⟩ = some v) (hv : SII w v gs) (hl : xs.length ≤ 1000) (h0 : 1 ≤ xs.length) (hg : gs.length ≤ 1000) (hok : ∀ g ∈ gs, gateB xs.length g = true) :
    Calls Try.prog 45 #[u, .pointer (some ⟨bx, 0, none⟩)] w fun e w' => e = .returned (.bool (!srtB (runL gs xs))) ∧ Ext w w' := by
  have HOK := Lib.hid hok
  have hrl := Lib.hid (runL_len gs xs)
  clear hok
  go_enter Try.func45, Try.ntmps45
  go_wp2_with fail
  refine (through_ok _ _ gs xs _ hv h hl h0 hg HOK.out).mono ?_
  rintro e w1 ⟨v1, rfl, ho, he1⟩
  go_wp2_with fail
  refine (isRising_ok _ (runL gs xs) _ ho.si (by rw [hrl.out]; omega)).mono ?_
  rintro e w2 ⟨rfl, hq⟩
  go_wp2_with fail
  go_ret
  exact ⟨rfl, he1.trans hq.ext⟩

set_option maxHeartbeats 1000000 in
theorem impl_SortsAll_ok (n : Int) (v : Value) (gs : List (List Int)) (w : World) (hn : I64 n) (h : SII w v gs) (hl : gs.length ≤ 1000000000) :
    Calls Try.prog 13 #[.int .i64 n, v] w fun e w' => e = .returned (.bool (saB n gs)) ∧ Ext w w' := by
  obtain ⟨av, capv, rfl, -⟩ := h.elim
  have he0 : Ext w (w.alloc (.cells #[.slice av gs.length capv] 24)) := Upd.alloc _ _ _
  have h1 := h.ext he0
  cases hnet : netB n gs
  · have HT := Lib.hid hnet
    have e0 : Hid (saB n gs = false) := by show _ = _; simp [saB, hnet]
    clear hnet
    go_enter Try.func13, Try.ntmps13
    go_wp2_with (go_at_call 29; refine (impl_IsNetwork_ok _ _ gs _ hn h1 hl).mono ?_; rintro e w1 ⟨rfl, he1⟩; rw [HT.out])
    go_ret
    exact ⟨by rw [e0.out]; rfl, he0.trans he1⟩
  · have HT := Lib.hid hnet
    obtain ⟨n1, n2, n3, n4⟩ := net_true hnet
    obtain ⟨m, rfl⟩ : ∃ m : Nat, n = (m : Int) := ⟨n.toNat, by omega⟩
    by_cases h6 : (m : Int) ≤ 6
    · have e0 : Hid (saB (m : Int) gs = (((cntP (fun x => !srtB (runL gs x)) (permsL m) : Nat) : Int) == 0)) := by show _ = _; rw [← all_cnt]; simp [saB, hnet]; omega
      have hcx : (w.alloc (.cells #[.slice av gs.length capv] 24)).cell? ⟨w.heap.size, 0, none⟩ = some (.slice av gs.length capv) := World.cell?_alloc_at _ _ _ _ rfl
      have hen : Enters 45 := enters_of Try.func45 rfl rfl
      have HEN := Lib.hid hen
      have HCX := Lib.hid hcx
      have N4 := Lib.hid n4
      clear hen hcx n4 hnet
      go_enter Try.func13, Try.ntmps13
      go_wp2_with fail
      refine (impl_IsNetwork_ok _ _ gs _ hn h1 hl).mono ?_
      rintro e w1 ⟨rfl, he1⟩
      rw [HT.out]
      go_wp2_with fail
      refine (counted_ok m 45 #[.pointer (some ⟨w.heap.size, 0, none⟩)] (fun xs => !srtB (runL gs xs)) _ (by omega) HEN.out (fun p hp u w5 hw hs => ?_)).mono ?_
      · have hlr := perms_each hp
        have hE := he1.trans hw
        exact sortsAll1_ok u _ _ gs w.heap.size w5 hs (hE.cell HCX.out) (h1.ext hE) (by omega) (by omega) (by omega) (by rw [hlr]; exact N4.out)
      rintro e w3 ⟨rfl, he3⟩
      obtain ⟨c, hc⟩ : ∃ c, c = cntP (fun x => !srtB (runL gs x)) (permsL m) := ⟨_, rfl⟩
      rw [← hc] at e0 ⊢
      clear hc
      go_wp2_with fail
      go_ret
      exact ⟨by rw [e0.out]; rfl, (he0.trans he1).trans he3⟩
    · have e0 : Hid (saB (m : Int) gs = false) := by show _ = _; simp [saB, hnet]; omega
      clear hnet n4
      go_enter Try.func13, Try.ntmps13
      go_wp2_with (go_at_call 29; refine (impl_IsNetwork_ok _ _ gs _ hn h1 hl).mono ?_; rintro e w1 ⟨rfl, he1⟩; rw [HT.out])
      go_ret
      exact ⟨by rw [e0.out]; rfl, he0.trans he1⟩
set_option maxHeartbeats 1000000 in
theorem spec_SortsAll_ok (n : Int) (v : Value) (gs : List (List Int)) (w : World) (hn : I64 n) (h : SII w v gs) (hl : gs.length ≤ 1000000000) :
    Calls Try.prog 21 #[.int .i64 n, v] w fun e w' => e = .returned (.bool (saB n gs)) ∧ Ext w w' := by
  obtain ⟨av, capv, rfl, -⟩ := h.elim
  cases hnet : netB n gs
  · have HT := Lib.hid hnet
    have e0 : Hid (saB n gs = false) := by show _ = _; simp [saB, hnet]
    clear hnet
    go_enter Try.func21, Try.ntmps21
    go_wp2_with (go_at_call 30; refine (spec_IsNetwork_ok _ _ gs _ hn h hl).mono ?_; rintro e w1 ⟨rfl, he1⟩; rw [HT.out])
    go_ret
    exact ⟨by rw [e0.out]; rfl, he1⟩
  · have HT := Lib.hid hnet
    obtain ⟨n1, n2, n3, n4⟩ := net_true hnet
    obtain ⟨m, rfl⟩ : ∃ m : Nat, n = (m : Int) := ⟨n.toNat, by omega⟩
    by_cases h6 : ¬ (m : Int) ≤ 6
    · have e0 : Hid (saB (m : Int) gs = false) := by show _ = _; simp [saB, hnet]; omega
      clear hnet n4
      go_enter Try.func21, Try.ntmps21
      go_wp2_with (go_at_call 30; refine (spec_IsNetwork_ok _ _ gs _ hn h hl).mono ?_; rintro e w1 ⟨rfl, he1⟩; rw [HT.out])
      go_ret
      exact ⟨by rw [e0.out]; rfl, he1⟩
    have h6' : (m : Int) ≤ 6 := by omega
    clear h6
    have e0 : Hid (saB (m : Int) gs = (permsL m).all (fun xs => srtB (runL gs xs))) := by show _ = _; simp [saB, hnet]; omega
    have N4 := Lib.hid n4
    obtain ⟨P, hP⟩ : ∃ P, P = (permsL m).length := ⟨_, rfl⟩
    have HP := Lib.hid hP
    have hbl : (permsL m).length = P := hP.symm
    have HBL := Lib.hid hbl
    have hp2 : P ≤ 1000 := by rw [hP]; exact perms_small m (by omega)
    clear n4 hnet hP
    go_enter Try.func21, Try.ntmps21
    go_wp2_with fail
    refine (spec_IsNetwork_ok _ _ gs _ hn h hl).mono ?_
    rintro e w1 ⟨rfl, he1⟩
    rw [HT.out]
    go_wp2_with fail
    refine (permsOf_ok m _ (by omega)).mono ?_
    rintro e w2 ⟨v2, rfl, ho2, he2⟩
    obtain ⟨a2, cap2, rfl, hri⟩ := ho2.sii.elim
    rw [hbl] at hri ⊢
    have he12 := he1.trans he2
    clear hbl ho2
    go_wp2_with fail
    go_loopw [6] (fun i wr => ∃ k : Nat, k ≤ P ∧ i = .int .i64 k ∧ Hid (((permsL m).take k).all (fun xs => srtB (runL gs xs)) = true) ∧ Ext w2 wr) (fun i _ => P - (intOf i).toNat)
    case atStart => exact ⟨0, Nat.zero_le _, rfl, Lib.hid (by simp), Ext.refl _⟩
    case round =>
      obtain ⟨k, hk, rfl, ha, he⟩ := hrel
      by_cases hlt : k < P
      · obtain ⟨b, off, rfl, u, hc, hu⟩ := hri k hlt
        replace hc := Ext.cell he hc
        replace hu := hu.ext he
        have hlen : k < (permsL m).length := by rw [HBL.out]; exact hlt
        have HTK := Lib.hid (take_nthL hlen)
        obtain ⟨pm, hpm⟩ : ∃ pm, pm = nthL (permsL m) k := ⟨_, rfl⟩
        have hbr : nthL (permsL m) k = pm := hpm.symm
        have HBR := Lib.hid hbr
        rw [hbr] at hu
        have hlr : pm.length = m := by rw [hpm]; exact perms_each (nthL_mem hlen)
        have hgs := h.ext (he12.trans he)
        have HLR := Lib.hid hlr
        have hok : Hid (∀ g ∈ gs, gateB (pm.length : Int) g = true) := by show ∀ g ∈ gs, _; rw [hlr]; exact N4.out
        have hrl := Lib.hid (runL_len gs pm)
        have hll : pm.length ≤ 1000 := by omega
        have hmem : Hid (pm ∈ permsL m) := by show _ ∈ _; rw [← hbr]; exact nthL_mem hlen
        obtain ⟨au, cu, rfl, -⟩ := hu.elim
        clear hri hbr hlr hlen hpm
        cases hs : srtB (runL gs pm)
        · have HS := Lib.hid hs
          have hno : Hid ((permsL m).all (fun xs => srtB (runL gs xs)) = false) := by
            show _ = _
            rw [Bool.eq_false_iff]; intro hh
            have := List.all_eq_true.1 hh _ hmem.out
            rw [hs] at this; simp at this
          clear hs
          go_wp2_with fail
          refine (l26Run_ok _ _ gs pm _ hgs hu hll (by omega) hok.out).mono ?_
          rintro e w4 ⟨b1, c1, b3, c3, rfl, -, -, hr, -, he4⟩
          have hsi := hr.si
          rw [hrl.out] at hsi
          have HSI := Lib.hid hsi
          clear hr hsi
          go_wp2_with fail
          refine (l26Sorted_ok _ _ _ HSI.out (by rw [hrl.out]; omega)).mono ?_
          rintro e w5 ⟨rfl, hq⟩
          rw [HS.out]
          go_wp2_with fail
          go_ret
          exact ⟨by rw [e0.out, hno.out]; rfl, ((he12.trans he).trans he4).trans hq.ext⟩
        · have HS := Lib.hid hs
          clear hs
          go_wp2_with fail
          refine (l26Run_ok _ _ gs pm _ hgs hu hll (by omega) hok.out).mono ?_
          rintro e w4 ⟨b1, c1, b3, c3, rfl, -, -, hr, -, he4⟩
          have hsi := hr.si
          rw [hrl.out] at hsi
          have HSI := Lib.hid hsi
          clear hr hsi
          go_wp2_with fail
          refine (l26Sorted_ok _ _ _ HSI.out (by rw [hrl.out]; omega)).mono ?_
          rintro e w5 ⟨rfl, hq⟩
          rw [HS.out]
          go_wp2_with fail
          go_roundw
          case rel => exact ⟨k + 1, by omega, by go_num, Lib.hid (by rw [HTK.out, List.all_append, ha.out, HBR.out]; simp [HS.out]), (he.trans he4).trans hq.ext⟩
          case measure => simp [intOf]; omega
      · have hall : Hid ((permsL m).all (fun xs => srtB (runL gs xs)) = true) := by
          show _ = _; rw [← ha.out, take_all (by rw [HBL.out]; omega)]
        go_wp2_with fail
        go_ret
        exact ⟨by rw [e0.out, hall.out]; rfl, he12.trans he⟩
end Go.Proofs.Ytapcnhbgoolcgaa
