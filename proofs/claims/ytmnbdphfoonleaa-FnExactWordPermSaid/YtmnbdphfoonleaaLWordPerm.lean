/- The walk of the law FnExactWordPerm: out of the contracts of the program's WordPerm and of the reference's, the law returns true and leaves what was there. Conditions: none. -/
import Derived.Test.YtmnbdphfoonleaaHarnL
import Derived.Test.YtmnbdphfoonleaaWord
namespace Go.Proofs.Ytmnbdphfoonleaa
open Go.RowKit

set_option maxHeartbeats 4000000 in
theorem law_WordPerm_ok (x0 : Int) (v1 : Value) (x1 : List Int) (w : World) (b0 : I64 x0) (s1 : SI w v1 x1) (b1 : I64s x1) :
    Calls Try.prog 5 #[.int .i64 x0, v1] w fun e w' => e = .returned (.bool true) ∧ Ext w w' := by
  have E : Ext w w := Ext.refl w
  have t1 := s1
  obtain ⟨a1, c1, rfl, _⟩ := t1.elim
  by_cases g1 : 1048576 < x1.length
  · go_enter Try.func5, Try.ntmps5
    go_wp2_with fail
    go_ret
    exact ⟨rfl, E⟩
  go_enter Try.func5, Try.ntmps5
  go_wp2_with fail
  refine (toIntS_ok _ x1 _ (s1.ext E) (by omega)).mono ?_
  rintro e w1 ⟨b_cs1, c_cs1, rfl, hb_cs1, hr_cs1, hw1⟩
  replace E := E.trans hw1
  have cs1 : OI w.heap.size w1.heap.size w1 _ x1 := OI.row hr_cs1 hb_cs1 rfl
  clear hr_cs1 hb_cs1
  have zw1 := hw1.size
  go_wp2_with fail
  refine (spec_WordPerm_ok x0 _ x1 _ b0 cs1.si (by omega) b1).mono ?_
  rintro e w2 ⟨v_ow, rfl, ow, hw2⟩
  replace cs1 := cs1.ext hw2
  replace E := E.trans hw2
  have zw2 := hw2.size
  clear cs1
  go_wp2_with fail
  refine (toIntS_ok _ x1 _ (s1.ext E) (by omega)).mono ?_
  rintro e w3 ⟨b_cx1, c_cx1, rfl, hb_cx1, hr_cx1, hw3⟩
  replace ow := ow.ext hw3
  replace E := E.trans hw3
  have cx1 : OI w2.heap.size w3.heap.size w3 _ x1 := OI.row hr_cx1 hb_cx1 rfl
  clear hr_cx1 hb_cx1
  have zw3 := hw3.size
  go_wp2_with fail
  refine (impl_WordPerm_ok x0 _ x1 _ b0 cx1.si (by omega) b1).mono ?_
  rintro e w4 ⟨v_og, rfl, og, hw4⟩
  replace ow := ow.ext hw4
  replace cx1 := cx1.ext hw4
  replace E := E.trans hw4
  have zw4 := hw4.size
  have ne1 : (wokB x0 x1 != wokB x0 x1) = false := by simp
  have lb := bound_WordPerm x0 x1 (by omega)
  go_wp2_with fail
  refine (eqIntS_same _ _ (wpL x0 x1) _ og.si ow.si (by omega)).mono ?_
  rintro e w5 ⟨rfl, hw5⟩
  replace hw5 : Ext w4 w5 := hw5.ext
  replace ow := ow.ext hw5
  replace cx1 := cx1.ext hw5
  replace og := og.ext hw5
  replace E := E.trans hw5
  go_wp2_with fail
  refine (toIntS_ok _ x1 _ (s1.ext E) (by omega)).mono ?_
  rintro e w6 ⟨b_cy1, c_cy1, rfl, hb_cy1, hr_cy1, hw6⟩
  replace ow := ow.ext hw6
  replace cx1 := cx1.ext hw6
  replace og := og.ext hw6
  replace E := E.trans hw6
  have cy1 : OI w5.heap.size w6.heap.size w6 _ x1 := OI.row hr_cy1 hb_cy1 rfl
  clear hr_cy1 hb_cy1
  have zw6 := hw6.size
  go_wp2_with fail
  refine (eqIntS_same _ _ x1 _ cx1.si cy1.si (by omega)).mono ?_
  rintro e w7 ⟨rfl, hw7⟩
  replace hw7 : Ext w6 w7 := hw7.ext
  replace ow := ow.ext hw7
  replace cx1 := cx1.ext hw7
  replace og := og.ext hw7
  replace cy1 := cy1.ext hw7
  replace E := E.trans hw7
  clear cy1
  go_wp2_with fail
  refine (markIntS_ok _ _ _ (x1) _ _ cx1 (by omega) (by omega) (by omega)).mono ?_
  rintro e w8 ⟨rfl, cx1_, hw8⟩
  replace hw8 := hw8.own (fun b hb => cx1.own hb)
  replace ow := ow.upd hw8 (fun b _ h3 h4 h5 => by omega)
  replace og := og.upd hw8 (fun b _ h3 h4 h5 => by omega)
  replace cx1 := cx1_
  replace E := E.upd hw8 (fun b h5 => by have := E.size; omega)
  clear cx1
  go_wp2_with fail
  refine (eqIntS_same _ _ (wpL x0 x1) _ og.si ow.si (by omega)).mono ?_
  rintro e w9 ⟨rfl, hw9⟩
  replace hw9 : Ext w8 w9 := hw9.ext
  replace ow := ow.ext hw9
  replace og := og.ext hw9
  replace E := E.trans hw9
  go_wp2_with fail
  refine (markIntS_ok _ _ _ (wpL x0 x1) _ _ og (by omega) (by omega) (by omega)).mono ?_
  rintro e w10 ⟨rfl, og_, hw10⟩
  replace hw10 := hw10.own (fun b hb => og.own hb)
  replace ow := ow.upd hw10 (fun b _ h3 h4 h5 => by omega)
  replace og := og_
  replace E := E.upd hw10 (fun b h5 => by have := E.size; omega)
  have ne2 : (((1 : Int) + ((wpL x0 x1).length : Int)) != (1 + ((wpL x0 x1).length : Int))) = false := by simp
  go_wp2_with fail
  refine (heldIntS_ok _ (wpL x0 x1).length _ _ og.si (by omega) (by omega) (by omega)).mono ?_
  rintro e w11 ⟨rfl, hw11⟩
  replace hw11 : Ext w10 w11 := hw11.ext
  replace ow := ow.ext hw11
  replace og := og.ext hw11
  replace E := E.trans hw11
  go_wp2_with fail
  refine (toIntS_ok _ x1 _ (s1.ext E) (by omega)).mono ?_
  rintro e w12 ⟨b_cz1, c_cz1, rfl, hb_cz1, hr_cz1, hw12⟩
  replace ow := ow.ext hw12
  replace og := og.ext hw12
  replace E := E.trans hw12
  have cz1 : OI w11.heap.size w12.heap.size w12 _ x1 := OI.row hr_cz1 hb_cz1 rfl
  clear hr_cz1 hb_cz1
  have zw12 := hw12.size
  go_wp2_with fail
  refine (impl_WordPerm_ok x0 _ x1 _ b0 cz1.si (by omega) b1).mono ?_
  rintro e w13 ⟨v_oh, rfl, oh, hw13⟩
  replace ow := ow.ext hw13
  replace og := og.ext hw13
  replace cz1 := cz1.ext hw13
  replace E := E.trans hw13
  have zw13 := hw13.size
  clear cz1
  go_wp2_with fail
  refine (eqIntS_same _ _ (wpL x0 x1) _ oh.si ow.si (by omega)).mono ?_
  rintro e w14 ⟨rfl, hw14⟩
  replace hw14 : Ext w13 w14 := hw14.ext
  replace ow := ow.ext hw14
  replace og := og.ext hw14
  replace oh := oh.ext hw14
  replace E := E.trans hw14
  go_wp2_with fail
  refine (heldIntS_ok _ (wpL x0 x1).length _ _ og.si (by omega) (by omega) (by omega)).mono ?_
  rintro e w15 ⟨rfl, hw15⟩
  replace hw15 : Ext w14 w15 := hw15.ext
  replace ow := ow.ext hw15
  replace og := og.ext hw15
  replace oh := oh.ext hw15
  replace E := E.trans hw15
  go_wp2_with fail
  go_ret
  exact ⟨rfl, E⟩
end Go.Proofs.Ytmnbdphfoonleaa
