/- Contracts of what FnExchanges asks for besides: patterns in a permutation, cycles, the draw of a nearly sorted one. Conditions: small lengths. -/
import Derived.Test.YtoieaphacnaohaaBubP
import Derived.Test.YtoieaphacnaohaaCycP
import Derived.Test.YtoieaphacnaohaaGreat
import Derived.Test.YtoieaphacnaohaaBase2
import Derived.Deep.LoopGhost
namespace Go.Proofs.Ytoieaphacnaohaa
open Go.RowKit

def cntB (p q : List Int) : Nat := cntF p q q.length []
theorem occ_cnt (p q : List Int) : occB p q = decide (0 < cntB p q) := by
  unfold occB cntB; exact haB_cnt p q q.length [] (by simp [fromN])
set_option maxHeartbeats 1000000 in
theorem OccurrencesOf_ok (p q : List Int) (v v2 : Value) (w : World) (hp : isP8 p = true) (hq : isP8 q = true) (hq5 : q.length ≤ 5) (h : SI w v p) (h2 : SI w v2 q) :
    Calls Try.prog 77 #[v, v2] w fun e w' => ∃ b c, e = .returned (.slice (some ⟨b, 0, none⟩) (cntB p q) c) ∧ Ext w w' := by
  obtain ⟨a, cap, rfl, -⟩ := h.elim
  obtain ⟨a2, cap2, rfl, -⟩ := h2.elim
  have hp8 : p.length ≤ 8 := (isP8_iff.1 hp).1
  have hle := Nat.le_trans (cntF_le p q q.length []) (pow_small hp8 hq5)
  have HP := Lib.hid hp
  have HQ := Lib.hid hq
  have HLE := Lib.hid hle
  clear hp hq hle
  go_enter Try.func77, Try.ntmps77
  go_wp2_with fail
  refine (spec_IsPerm_qt _ p _ h (by omega)).mono ?_
  rintro e w1 ⟨rfl, hq1⟩
  rw [HP.out]
  go_wp2_with fail
  refine (spec_IsPerm_qt _ q _ (h2.ext hq1.ext) (by omega)).mono ?_
  rintro e w2 ⟨rfl, hq2⟩
  rw [HQ.out]
  have hE2 : Ext w w2 := (show Ext w w1 from hq1.ext).trans hq2.ext
  replace h := h.ext hE2
  replace h2 := h2.ext hE2
  have hr1 := Row.new 3 w2 [] (by simp)
  have hr2 := Row.new 24 (w2.alloc (.cells #[] 3)) [] (by simp)
  have he1 : Ext w2 (w2.alloc (.cells #[] 3)) := Upd.alloc _ _ _
  have he2 : Ext (w2.alloc (.cells #[] 3)) ((w2.alloc (.cells #[] 3)).alloc (.cells #[] 24)) := Upd.alloc _ _ _
  have he := he1.trans he2
  have hs3 := (hr1.ext he2).si (xs := [])
  have hsz : (w2.alloc (.cells #[] 3)).heap.size = w2.heap.size + 1 := by simp
  rw [hsz] at hr2
  have hcall := l7Find_ok p q hp8 (by omega) q.length _ _ (.slice (some ⟨w2.heap.size, 0, none⟩) 0 0) [] (w2.heap.size + 1) 0 0 [] _ (h.ext he) (h2.ext he) hs3 (Off.far h (by omega)) (Off.far h2 (by omega)) (.inl rfl) (by simp) (by simp) hr2 rfl (by have := HLE.out; omega)
  have hcn : Hid (cntF p q q.length [] = cntB p q) := rfl
  rw [hcn.out] at hcall
  have HC := Lib.hid hcall
  have HE := Lib.hid he
  have hsz2 := hE2.size
  clear hcall he he1 he2 hs3 hr1 hr2
  go_wp2_with fail
  refine HC.out.mono ?_
  rintro e w7 ⟨b7, c7, m7, vs7, rfl, hm7, -, -, hu7, -⟩
  have hE7 : Ext w2 w7 := HE.out.upd1 hu7 (by omega)
  obtain rfl : m7 = cntB p q := by omega
  clear hm7
  go_wp2_with fail
  go_ret
  exact ⟨_, _, rfl, hE2.trans hE7⟩
set_option maxHeartbeats 1000000 in
theorem CountPattern_ok (p q : List Int) (v v2 : Value) (w : World) (hp : isP8 p = true) (hq : isP8 q = true) (hq5 : q.length ≤ 5) (h : SI w v p) (h2 : SI w v2 q) :
    Calls Try.prog 64 #[v, v2] w fun e w' => e = .returned (.int .i64 (cntB p q)) ∧ Ext w w' := by
  obtain ⟨a, cap, rfl, -⟩ := h.elim
  obtain ⟨a2, cap2, rfl, -⟩ := h2.elim
  have hp8 : p.length ≤ 8 := (isP8_iff.1 hp).1
  have hle := Nat.le_trans (cntF_le p q q.length []) (pow_small hp8 hq5)
  have hcn : cntF p q q.length [] = cntB p q := rfl
  rw [hcn] at hle
  have HC := Lib.hid (fun w (h : SI w (.slice a p.length cap) p) (h2 : SI w (.slice a2 q.length cap2) q) => OccurrencesOf_ok p q _ _ w hp hq hq5 h h2)
  have HP := Lib.hid hp
  have HQ := Lib.hid hq
  clear hp hq hcn
  go_enter Try.func64, Try.ntmps64
  go_wp2_with fail
  refine (spec_IsPerm_qt _ p _ h (by omega)).mono ?_
  rintro e w1 ⟨rfl, hq1⟩
  rw [HP.out]
  go_wp2_with fail
  refine (spec_IsPerm_qt _ q _ (h2.ext hq1.ext) (by omega)).mono ?_
  rintro e w2 ⟨rfl, hq2⟩
  rw [HQ.out]
  have hE2 : Ext w w2 := (show Ext w w1 from hq1.ext).trans hq2.ext
  go_wp2_with fail
  refine (HC.out _ (h.ext hE2) (h2.ext hE2)).mono ?_
  rintro e w3 ⟨b, c, rfl, he3⟩
  go_wp2_with fail
  go_ret
  exact ⟨rfl, hE2.trans he3⟩
set_option maxHeartbeats 1000000 in
theorem HasPattern_ok (p q : List Int) (v v2 : Value) (w : World) (hp : isP8 p = true) (hq : isP8 q = true) (hq5 : q.length ≤ 5) (h : SI w v p) (h2 : SI w v2 q) :
    Calls Try.prog 33 #[v, v2] w fun e w' => e = .returned (.bool (occB p q)) ∧ Ext w w' := by
  obtain ⟨a, cap, rfl, -⟩ := h.elim
  obtain ⟨a2, cap2, rfl, -⟩ := h2.elim
  have hp8 : p.length ≤ 8 := (isP8_iff.1 hp).1
  have HC := Lib.hid (CountPattern_ok p q _ _ w hp hq hq5 h h2)
  obtain ⟨n, hn⟩ : ∃ n, n = cntB p q := ⟨_, rfl⟩
  have hr := occ_cnt p q
  rw [← hn] at hr HC
  have HR := Lib.hid hr
  clear hp hq hr hn h h2
  go_enter Try.func33, Try.ntmps33
  go_wp2_with fail
  refine HC.out.mono ?_
  rintro e w1 ⟨rfl, he1⟩
  go_wp2_with fail
  go_ret
  exact ⟨by rw [HR.out]; simp; omega, he1⟩
end Go.Proofs.Ytoieaphacnaohaa
