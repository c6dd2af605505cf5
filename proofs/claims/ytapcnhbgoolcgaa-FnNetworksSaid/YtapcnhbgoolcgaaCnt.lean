/- How many permutations of a length have a property: the contract of the program's counter. Conditions: a length of at most 6; the property's own contract. -/
import Derived.Test.YtapcnhbgoolcgaaPerm
namespace Go.Proofs.Ytapcnhbgoolcgaa
open Go.RowKit

def cntP (g : List Int → Bool) (L : List (List Int)) : Nat := L.countP g
theorem cntP_succ {g : List Int → Bool} {L : List (List Int)} {k : Nat} (h : k < L.length) : cntP g (L.take (k + 1)) = cntP g (L.take k) + if g (nthL L k) then 1 else 0 := by
  unfold cntP; rw [take_nthL h, List.countP_append]; simp [List.countP_cons]
theorem cntP_le (g : List Int → Bool) (L : List (List Int)) (k : Nat) : cntP g (L.take k) ≤ k := by
  unfold cntP; have := List.countP_le_length (p := g) (l := L.take k); simp at this; omega
set_option maxHeartbeats 1000000 in
theorem counted_ok (n : Nat) (k : Nat) (cp : Array Value) (g : List Int → Bool) (w : World) (hn : n ≤ 6) (hen : Enters k)
    (hf : ∀ p ∈ permsL n, ∀ u w1, Ext w w1 → SI w1 u p → Calls Try.prog k (#[u] ++ cp) w1 fun e w2 => e = .returned (.bool (g p)) ∧ Ext w1 w2) :
    Calls Try.prog 44 #[.int .i64 n, .func (.func k) #[] cp] w fun e w' => e = .returned (.int .i64 (cntP g (permsL n) : Nat)) ∧ Ext w w' := by
  have HF := Lib.hid hf
  have hps := perms_small n hn
  unfold Enters at hen
  clear hf
  go_enter Try.func44, Try.ntmps44
  go_wp2_with fail
  refine (perms_ok n _ hn).mono ?_
  rintro e w2 ⟨v2, rfl, ho2, he2⟩
  obtain ⟨a2, cap2, rfl, hri⟩ := ho2.sii.elim
  obtain ⟨P, hP⟩ : ∃ P, P = (permsL n).length := ⟨_, rfl⟩
  rw [← hP] at hri hps ⊢
  have HP := Lib.hid hP
  clear ho2 hP
  go_wp2_with fail
  go_loopw [5, 11] (fun c i wr => ∃ j : Nat, j ≤ P ∧ i = .int .i64 j ∧ (∃ m : Nat, c = .int .i64 m ∧ Hid (m = cntP g ((permsL n).take j)) ∧ m ≤ j) ∧ Ext w2 wr) (fun _ i _ => P - (intOf i).toNat)
  case atStart => exact ⟨0, Nat.zero_le _, rfl, ⟨0, rfl, Lib.hid rfl, Nat.le_refl _⟩, Ext.refl _⟩
  case round =>
    obtain ⟨j, hj, rfl, ⟨m, rfl, hm, hmj⟩, he⟩ := hrel
    by_cases hlt : j < P
    · obtain ⟨b, off, rfl, u, hc, hu⟩ := hri j hlt
      replace hc := Ext.cell he hc
      replace hu := hu.ext he
      have hlt' : j < (permsL n).length := by rw [← HP.out]; exact hlt
      have hst := cntP_succ (g := g) hlt'
      have hcall := HF.out _ (nthL_mem hlt') u _ (he2.trans he) hu
      have HC := Lib.hid hcall
      clear hri hlt' hcall
      cases hg : g (nthL (permsL n) j)
      · have HG := Lib.hid hg
        rw [hg] at hst
        have HST := Lib.hid hst
        clear hg hst
        go_wp2_with fail
        refine HC.out.mono ?_
        rintro e w4 ⟨rfl, he4⟩
        rw [HG.out]
        go_wp2_with fail
        go_roundw
        case rel => exact ⟨j + 1, by omega, by go_num, ⟨m, rfl, Lib.hid (by rw [HST.out, hm.out]; simp), by omega⟩, he.trans he4⟩
        case measure => simp [intOf]; omega
      · have HG := Lib.hid hg
        rw [hg] at hst
        have HST := Lib.hid hst
        clear hg hst
        go_wp2_with fail
        refine HC.out.mono ?_
        rintro e w4 ⟨rfl, he4⟩
        rw [HG.out]
        go_wp2_with fail
        go_roundw
        case rel => exact ⟨j + 1, by omega, by go_num, ⟨m + 1, by go_num, Lib.hid (by rw [HST.out, hm.out]; simp), by omega⟩, he.trans he4⟩
        case measure => simp [intOf]; omega
    · have hfin : Hid (cntP g (permsL n) = m) := by show _ = _; rw [hm.out, take_all (by rw [← HP.out]; omega)]
      go_wp2_with fail
      go_ret
      exact ⟨by rw [hfin.out]; rfl, he2.trans he⟩
end Go.Proofs.Ytapcnhbgoolcgaa
