/- The walk of the law FnExactReducedWords: out of the contracts of the program's ReducedWords and of the reference's, the law returns true and leaves what was there. Conditions: none. -/
import Derived.Test.YtmnbdphfoonleaaHarnL
import Derived.Test.YtmnbdphfoonleaaRwz
namespace Go.Proofs.Ytmnbdphfoonleaa
open Go.RowKit

set_option maxHeartbeats 4000000 in
theorem law_ReducedWords_ok (v0 : Value) (x0 : List Int) (w : World) (s0 : SI w v0 x0) (b0 : I64s x0) :
    Calls Try.prog 7 #[v0] w fun e w' => e = .returned (.bool true) ∧ Ext w w' := by
  have E : Ext w w := Ext.refl w
  have t0 := s0
  obtain ⟨a0, c0, rfl, _⟩ := t0.elim
  by_cases g0 : 1048576 < x0.length
  · go_enter Try.func7, Try.ntmps7
    go_wp2_with fail
    go_ret
    exact ⟨rfl, E⟩
  go_enter Try.func7, Try.ntmps7
  go_wp2_with fail
  refine (toIntS_ok _ x0 _ (s0.ext E) (by omega)).mono ?_
  rintro e w1 ⟨b_cs0, c_cs0, rfl, hb_cs0, hr_cs0, hw1⟩
  replace E := E.trans hw1
  have cs0 : OI w.heap.size w1.heap.size w1 _ x0 := OI.row hr_cs0 hb_cs0 rfl
  clear hr_cs0 hb_cs0
  have zw1 := hw1.size
  go_wp2_with fail
  refine (spec_ReducedWords_ok _ x0 _ cs0.si (by omega) b0).mono ?_
  rintro e w2 ⟨v_ow, rfl, ow, hw2⟩
  replace cs0 := cs0.ext hw2
  replace E := E.trans hw2
  have zw2 := hw2.size
  clear cs0
  go_wp2_with fail
  refine (toIntS_ok _ x0 _ (s0.ext E) (by omega)).mono ?_
  rintro e w3 ⟨b_cx0, c_cx0, rfl, hb_cx0, hr_cx0, hw3⟩
  replace ow := ow.ext hw3
  replace E := E.trans hw3
  have cx0 : OI w2.heap.size w3.heap.size w3 _ x0 := OI.row hr_cx0 hb_cx0 rfl
  clear hr_cx0 hb_cx0
  have zw3 := hw3.size
  go_wp2_with fail
  refine (impl_ReducedWords_ok _ x0 _ cx0.si (by omega) b0).mono ?_
  rintro e w4 ⟨v_og, rfl, og, hw4⟩
  replace ow := ow.ext hw4
  replace cx0 := cx0.ext hw4
  replace E := E.trans hw4
  have zw4 := hw4.size
  have lb := bound_ReducedWords x0 (by omega)
  go_wp2_with fail
  refine (eqIntSS_same _ _ (rdL x0) _ og.sii ow.sii lb.1 lb.2.1).mono ?_
  rintro e w5 ⟨rfl, hw5⟩
  replace hw5 : Ext w4 w5 := hw5.ext
  replace ow := ow.ext hw5
  replace cx0 := cx0.ext hw5
  replace og := og.ext hw5
  replace E := E.trans hw5
  go_wp2_with fail
  refine (toIntS_ok _ x0 _ (s0.ext E) (by omega)).mono ?_
  rintro e w6 ⟨b_cy0, c_cy0, rfl, hb_cy0, hr_cy0, hw6⟩
  replace ow := ow.ext hw6
  replace cx0 := cx0.ext hw6
  replace og := og.ext hw6
  replace E := E.trans hw6
  have cy0 : OI w5.heap.size w6.heap.size w6 _ x0 := OI.row hr_cy0 hb_cy0 rfl
  clear hr_cy0 hb_cy0
  have zw6 := hw6.size
  go_wp2_with fail
  refine (eqIntS_same _ _ x0 _ cx0.si cy0.si (by omega)).mono ?_
  rintro e w7 ⟨rfl, hw7⟩
  replace hw7 : Ext w6 w7 := hw7.ext
  replace ow := ow.ext hw7
  replace cx0 := cx0.ext hw7
  replace og := og.ext hw7
  replace cy0 := cy0.ext hw7
  replace E := E.trans hw7
  clear cy0
  go_wp2_with fail
  refine (markIntS_ok _ _ _ (x0) _ _ cx0 (by omega) (by omega) (by omega)).mono ?_
  rintro e w8 ⟨rfl, cx0_, hw8⟩
  replace hw8 := hw8.own (fun b hb => cx0.own hb)
  replace ow := ow.upd hw8 (fun b  h3 h4 h5 => by omega)
  replace og := og.upd hw8 (fun b  h3 h4 h5 => by omega)
  replace cx0 := cx0_
  replace E := E.upd hw8 (fun b h5 => by have := E.size; omega)
  clear cx0
  go_wp2_with fail
  refine (eqIntSS_same _ _ (rdL x0) _ og.sii ow.sii lb.1 lb.2.1).mono ?_
  rintro e w9 ⟨rfl, hw9⟩
  replace hw9 : Ext w8 w9 := hw9.ext
  replace ow := ow.ext hw9
  replace og := og.ext hw9
  replace E := E.trans hw9
  go_wp2_with fail
  refine (markIntSS_ok _ _ _ (rdL x0) _ _ og lb.1 lb.2.1 lb.2.2 (by omega) (by omega)).mono ?_
  rintro e w10 ⟨rfl, og_, hw10⟩
  replace ow := ow.upd hw10 (fun b  h3 h4 h5 => by omega)
  replace og := og_
  replace E := E.upd hw10 (fun b h5 => by have := E.size; omega)
  have ne2 : (((1 : Int) + (sumLen (rdL x0) : Int)) != (1 + (sumLen (rdL x0) : Int))) = false := by simp
  go_wp2_with fail
  refine (heldIntSS_ok _ (rdL x0) _ _ og.sii lb.1 lb.2.1 lb.2.2 (by omega) (by omega)).mono ?_
  rintro e w11 ⟨rfl, hw11⟩
  replace hw11 : Ext w10 w11 := hw11.ext
  replace ow := ow.ext hw11
  replace og := og.ext hw11
  replace E := E.trans hw11
  go_wp2_with fail
  refine (toIntS_ok _ x0 _ (s0.ext E) (by omega)).mono ?_
  rintro e w12 ⟨b_cz0, c_cz0, rfl, hb_cz0, hr_cz0, hw12⟩
  replace ow := ow.ext hw12
  replace og := og.ext hw12
  replace E := E.trans hw12
  have cz0 : OI w11.heap.size w12.heap.size w12 _ x0 := OI.row hr_cz0 hb_cz0 rfl
  clear hr_cz0 hb_cz0
  have zw12 := hw12.size
  go_wp2_with fail
  refine (impl_ReducedWords_ok _ x0 _ cz0.si (by omega) b0).mono ?_
  rintro e w13 ⟨v_oh, rfl, oh, hw13⟩
  replace ow := ow.ext hw13
  replace og := og.ext hw13
  replace cz0 := cz0.ext hw13
  replace E := E.trans hw13
  have zw13 := hw13.size
  clear cz0
  go_wp2_with fail
  refine (eqIntSS_same _ _ (rdL x0) _ oh.sii ow.sii lb.1 lb.2.1).mono ?_
  rintro e w14 ⟨rfl, hw14⟩
  replace hw14 : Ext w13 w14 := hw14.ext
  replace ow := ow.ext hw14
  replace og := og.ext hw14
  replace oh := oh.ext hw14
  replace E := E.trans hw14
  go_wp2_with fail
  refine (heldIntSS_ok _ (rdL x0) _ _ og.sii lb.1 lb.2.1 lb.2.2 (by omega) (by omega)).mono ?_
  rintro e w15 ⟨rfl, hw15⟩
  replace hw15 : Ext w14 w15 := hw15.ext
  replace ow := ow.ext hw15
  replace og := og.ext hw15
  replace oh := oh.ext hw15
  replace E := E.trans hw15
  go_wp2_with fail
  go_ret
  exact ⟨rfl, E⟩
end Go.Proofs.Ytmnbdphfoonleaa
