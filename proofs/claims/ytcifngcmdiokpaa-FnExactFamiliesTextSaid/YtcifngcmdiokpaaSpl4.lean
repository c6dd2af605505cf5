/- l6Sum: the split at a sum, the reference's. Conditions: permutations, none empty. -/
import Derived.Test.YtcifngcmdiokpaaGx
namespace Go.Proofs.Ytcifngcmdiokpaa
open Go.RowKit

set_option maxHeartbeats 4000000 in
theorem l6Sum_ok (sk : Bool) (p : List Int) (B H b n c : Nat) (S : List (List Int)) (w : World) (hO : OII B H w (.slice (some ⟨b, 0, none⟩) n c) S) (hL : PL S) (hn : n = S.length) (h1 : 1 < n)
    (hR : splitR p = if sk = true then [2, 1] else [1, 2]) (hQ : splitQ p = [nthL S 0, joinAll sk (S.drop 1)]) :
    Calls Try.prog 100 #[.slice (some ⟨b, 0, none⟩) n c, .bool sk] w (SpPost p w) := by
  obtain ⟨_, e0, u, hcu, hou⟩ := hO.rd (k := 0) (by omega)
  obtain rfl : b = _ := by simpa using e0
  obtain ⟨g, k, rfl, hBg, hHg, hrg⟩ := hou.full (hL.pos _ (nthL_mem (by omega)))
  have hcap : n ≤ c ∧ c ≤ maxLen := by obtain ⟨_, _, e, q1, q2, _⟩ := hO.sii; injection e with _ e2 e3; rw [e2, e3]; exact ⟨q1, q2⟩
  have hnr := (hO.nr hL.pos).drop 1
  have hS8 := hL.len_le
  obtain ⟨T, hT⟩ : ∃ T, T = S.drop 1 := ⟨_, rfl⟩
  have hTl : n - 1 = T.length := by rw [hT, List.length_drop, hn]
  have hTP := hL.drop 1
  rw [← hT] at hnr hTP hQ
  obtain ⟨F, hF⟩ : ∃ F, F = nthL S 0 := ⟨_, rfl⟩
  have hF8 := (hL.one (k := 0) (by omega)).2.2
  rw [← hF] at hrg hQ hcu hF8
  have HQ := Lib.hid hQ
  have HR := Lib.hid hR
  have HRG := Lib.hid hrg
  obtain ⟨br, hbr⟩ : ∃ br, br = w.heap.size := ⟨_, rfl⟩
  have hR0 : Row 65 (w.alloc (.cells #[.slice none 0 0, .slice none 0 0] 65)) w.heap.size 2 [.slice none 0 0, .slice none 0 0] := Row.new 65 w [.slice none 0 0, .slice none 0 0] (by simp [maxLen])
  have hE0 : Ext w (w.alloc (.cells #[.slice none 0 0, .slice none 0 0] 65)) := Upd.alloc _ _ _
  rw [← hbr] at hR0
  have hz0 : (w.alloc (.cells #[.slice none 0 0, .slice none 0 0] 65)).heap.size = w.heap.size + 1 := by simp
  obtain ⟨w1, hw1⟩ : ∃ w1, w1 = w.alloc (.cells #[.slice none 0 0, .slice none 0 0] 65) := ⟨_, rfl⟩
  have HBR := Lib.hid hbr
  have i1 : (1 : Int) ≤ (n : Int) := by omega
  have i2 : (n : Int) ≤ (c : Int) := by omega
  have i3 : (1 : Int) ≤ (c : Int) := by omega
  have i4 : ¬ c = 1 := by omega
  have i5 : 1 ≤ n := by omega
  have i6 : 0 < n := by omega
  have i7 : n ≤ c := by omega
  have i8 : 1 ≤ c := by omega
  have HJ := Lib.hid (specJoin_ok sk b 1 (n - 1) (c - 1) T (w.alloc (.cells #[.slice none 0 0, .slice none 0 0] 65)) (hnr.ext hE0) hTl hTP)
  rw [← hw1] at HJ
  clear hO hou hrg hnr hT hTl hTP hF hcap hQ hR e0 hn hL
  go_enter Try.func100, Try.ntmps100
  go_wp2_with fail
  rw [← hw1] at hR0 hE0 hz0 ⊢
  rw [← hbr]
  have HR0 := Lib.hid hR0
  have HE0 := Lib.hid hE0
  clear hw1 hR0 hE0 hbr
  refine HJ.out.mono ?_
  rintro e w2 ⟨b7, c7, rfl, hb7, hr7, he7⟩
  have hz2 := he7.size
  have hcu2 := he7.cell (HE0.out.cell hcu)
  have HRG2 := Lib.hid ((HRG.out.ext HE0.out).ext he7)
  have HR2 := Lib.hid (HR0.out.ext he7)
  have HE2 := Lib.hid (HE0.out.trans he7)
  have HR7 := Lib.hid hr7
  have HF1 : Hid (F.length ≤ 1000000000) := by show _ ≤ _; omega
  obtain ⟨J, hJ⟩ : ∃ J, J = joinAll sk T := ⟨_, rfl⟩
  rw [← hJ] at HR7 HQ ⊢
  have hbrb7 : br < b7 := by have := HBR.out; omega
  have hbr2 : br < w2.heap.size := HR2.out.lt
  clear he7 hr7 hJ
  cases sk
  · have X1 : Ext w2 (w2.alloc (.cells #[.int .i64 1, .int .i64 2] 3)) := Upd.alloc _ _ _
    have X2 : Ext w2 ((w2.alloc (.cells #[.int .i64 1, .int .i64 2] 3)).alloc (.cells #[] 3)) := X1.alloc _
    have HX1 : Hid (Row 3 ((w2.alloc (.cells #[.int .i64 1, .int .i64 2] 3)).alloc (.cells #[] 3)) w2.heap.size 2 (vals [1, 2])) := (Row.new 3 w2 (vals [1, 2]) (by simp [vals, maxLen])).ext (Upd.alloc _ _ _)
    have HNEW : Hid (Row 3 ((w2.alloc (.cells #[.int .i64 1, .int .i64 2] 3)).alloc (.cells #[] 3)) (w2.heap.size + 1) 0 (vals [])) := by
      have h := Row.new 3 (w2.alloc (.cells #[.int .i64 1, .int .i64 2] 3)) [] (by simp)
      rw [show (w2.alloc (.cells #[.int .i64 1, .int .i64 2] 3)).heap.size = w2.heap.size + 1 by simp] at h
      exact h
    have hcu3 := X2.cell hcu2
    have HX2 := Lib.hid X2
    have hzx : ((w2.alloc (.cells #[.int .i64 1, .int .i64 2] 3)).alloc (.cells #[] 3)).heap.size = w2.heap.size + 2 := by simp
    clear X1 X2
    go_wp2_with (at_builtin; go_loud (refine wpl_appSrc rfl (.tmp 19) (.tmp 22) rfl (w2.heap.size + 1) 0 0 [] F rfl HNEW.out rfl ⟨g, 0, none⟩ _ k rfl rfl (HRG2.out.ext HX2.out).ri (by simp) HF1.out ?_); intro b8 c8 w8 hr8 hb8 hu8; have hR8 := (HR2.out.ext HX2.out).upd hu8 (fun e => by omega); have d0 := hR8.cell (j := 0) rfl; have d1 := hR8.cell (j := 1) rfl; have f0 := hR8.free 0 none; have f1 := hR8.free 1 none; have q1 := fun (o : Obj) => Ext.cell (show Ext w8 (w8.alloc o) from (Ext.refl _).alloc _) d0; have q2 := fun (o : Obj) => Ext.cell (show Ext w8 (w8.alloc o) from (Ext.refl _).alloc _) d1; have q3 := fun (o : Obj) => (hR8.ext (show Ext w8 (w8.alloc o) from (Ext.refl _).alloc _)).free 0 none; have q4 := fun (o : Obj) => (hR8.ext (show Ext w8 (w8.alloc o) from (Ext.refl _).alloc _)).free 1 none; have HR8 := Lib.hid hR8; have H8 := Lib.hid hr8; have HU8 := Lib.hid hu8; clear hR8 hr8 hu8)
    have hz8 := HU8.out.size
    have hE8 : Ext w w8 := (HE2.out.trans HX2.out).upd1 HU8.out (by have := HBR.out; omega)
    (try simp only [Exit.inBlock, Exit.then])
    refine bodyPost_ret (ret_infl rfl _ _ br rfl _ _ (((HR8.out.ext ((Ext.refl w8).alloc _)).set 0 _).set 1 _)) rfl ?_
    have hrow8 : Row 3 w8 b8 c8 (vals F) := H8.out
    have hx8 := (HX1.out.upd HU8.out (fun e => by omega)).ext (Upd.alloc w8 (.cells #[.slice (some ⟨b8, 0, none⟩) F.length c8, .slice (some ⟨b7, 0, none⟩) J.length c7] 22) _)
    have hb7x := ((HR7.out.ext HX2.out).upd HU8.out (fun e => by have := HR7.out.lt; omega)).ext (Upd.alloc w8 (.cells #[.slice (some ⟨b8, 0, none⟩) F.length c8, .slice (some ⟨b7, 0, none⟩) J.length c7] 22) _)
    exact SpPost.two HBR.out (hE8.alloc _) w2.heap.size w8.heap.size b8 c8 b7 c7 [1, 2] F J hx8 (by omega) HR.out rfl (Row.new 22 w8 _ (by simp [maxLen])) (by omega) (hrow8.ext (Upd.alloc _ _ _)) (by rcases hb8 with e | e <;> omega) hb7x hbrb7 HQ.out hd_any
  · have X1 : Ext w2 (((w2.alloc (.cells #[.int .i64 1, .int .i64 2] 3)).alloc (.cells #[.int .i64 2, .int .i64 1] 3))) := (show Ext w2 (w2.alloc (.cells #[.int .i64 1, .int .i64 2] 3)) from Upd.alloc _ _ _).alloc _
    have X2 : Ext w2 ((((w2.alloc (.cells #[.int .i64 1, .int .i64 2] 3)).alloc (.cells #[.int .i64 2, .int .i64 1] 3))).alloc (.cells #[] 3)) := X1.alloc _
    have e1 : (w2.alloc (.cells #[.int .i64 1, .int .i64 2] 3)).heap.size = w2.heap.size + 1 := by simp
    have HX1 : Hid (Row 3 ((((w2.alloc (.cells #[.int .i64 1, .int .i64 2] 3)).alloc (.cells #[.int .i64 2, .int .i64 1] 3))).alloc (.cells #[] 3)) (w2.heap.size + 1) 2 (vals [2, 1])) := by
      have h := (Row.new 3 (w2.alloc (.cells #[.int .i64 1, .int .i64 2] 3)) (vals [2, 1]) (by simp [vals, maxLen])).ext (Upd.alloc _ (.cells #[] 3) _)
      rw [e1] at h; exact h
    have HNEW : Hid (Row 3 ((((w2.alloc (.cells #[.int .i64 1, .int .i64 2] 3)).alloc (.cells #[.int .i64 2, .int .i64 1] 3))).alloc (.cells #[] 3)) (w2.heap.size + 2) 0 (vals [])) := by
      have h := Row.new 3 ((w2.alloc (.cells #[.int .i64 1, .int .i64 2] 3)).alloc (.cells #[.int .i64 2, .int .i64 1] 3)) [] (by simp)
      rw [show ((w2.alloc (.cells #[.int .i64 1, .int .i64 2] 3)).alloc (.cells #[.int .i64 2, .int .i64 1] 3)).heap.size = w2.heap.size + 2 by simp] at h
      exact h
    have hcu3 := X2.cell hcu2
    have HX2 := Lib.hid X2
    have hzx : ((((w2.alloc (.cells #[.int .i64 1, .int .i64 2] 3)).alloc (.cells #[.int .i64 2, .int .i64 1] 3))).alloc (.cells #[] 3)).heap.size = w2.heap.size + 3 := by simp
    clear X1 X2 e1
    go_wp2_with (at_builtin; go_loud (refine wpl_appSrc rfl (.tmp 19) (.tmp 22) rfl (w2.heap.size + 2) 0 0 [] F rfl HNEW.out rfl ⟨g, 0, none⟩ _ k rfl rfl (HRG2.out.ext HX2.out).ri (by simp) HF1.out ?_); intro b8 c8 w8 hr8 hb8 hu8; have hR8 := (HR2.out.ext HX2.out).upd hu8 (fun e => by omega); have d0 := hR8.cell (j := 0) rfl; have d1 := hR8.cell (j := 1) rfl; have f0 := hR8.free 0 none; have f1 := hR8.free 1 none; have q1 := fun (o : Obj) => Ext.cell (show Ext w8 (w8.alloc o) from (Ext.refl _).alloc _) d0; have q2 := fun (o : Obj) => Ext.cell (show Ext w8 (w8.alloc o) from (Ext.refl _).alloc _) d1; have q3 := fun (o : Obj) => (hR8.ext (show Ext w8 (w8.alloc o) from (Ext.refl _).alloc _)).free 0 none; have q4 := fun (o : Obj) => (hR8.ext (show Ext w8 (w8.alloc o) from (Ext.refl _).alloc _)).free 1 none; have HR8 := Lib.hid hR8; have H8 := Lib.hid hr8; have HU8 := Lib.hid hu8; clear hR8 hr8 hu8)
    have hz8 := HU8.out.size
    have hE8 : Ext w w8 := (HE2.out.trans HX2.out).upd1 HU8.out (by have := HBR.out; omega)
    (try simp only [Exit.inBlock, Exit.then])
    refine bodyPost_ret (ret_infl rfl _ _ br rfl _ _ (((HR8.out.ext ((Ext.refl w8).alloc _)).set 0 _).set 1 _)) rfl ?_
    have hrow8 : Row 3 w8 b8 c8 (vals F) := H8.out
    have hx8 := (HX1.out.upd HU8.out (fun e => by omega)).ext (Upd.alloc w8 (.cells #[.slice (some ⟨b8, 0, none⟩) F.length c8, .slice (some ⟨b7, 0, none⟩) J.length c7] 22) _)
    have hb7x := ((HR7.out.ext HX2.out).upd HU8.out (fun e => by have := HR7.out.lt; omega)).ext (Upd.alloc w8 (.cells #[.slice (some ⟨b8, 0, none⟩) F.length c8, .slice (some ⟨b7, 0, none⟩) J.length c7] 22) _)
    exact SpPost.two HBR.out (hE8.alloc _) (w2.heap.size + 1) w8.heap.size b8 c8 b7 c7 [2, 1] F J hx8 (by omega) HR.out rfl (Row.new 22 w8 _ (by simp [maxLen])) (by omega) (hrow8.ext (Upd.alloc _ _ _)) (by rcases hb8 with e | e <;> omega) hb7x hbrb7 HQ.out hd_any
end Go.Proofs.Ytcifngcmdiokpaa
