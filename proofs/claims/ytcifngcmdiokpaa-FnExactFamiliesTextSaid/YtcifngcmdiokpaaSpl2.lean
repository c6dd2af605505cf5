/- split at a skew sum, the program's. Conditions: a permutation of 2 to 8 numbers. -/
import Derived.Test.YtcifngcmdiokpaaSpl1
namespace Go.Proofs.Ytcifngcmdiokpaa
open Go.RowKit

set_option maxHeartbeats 4000000 in
theorem split_skew (v : Value) (p : List Int) (w : World) (h : SI w v p) (hp : IsP p) (h8 : p.length ≤ 8) (h2 : 2 ≤ p.length) (hs0 : ¬ 1 < (spP p p.length).length) (hs : 1 < (skP p).length) :
    Calls Try.prog 82 #[v] w (SpPost p w) := by
  have h00 := h
  obtain ⟨a, cap, rfl, -⟩ := h00.elim
  have HH := Lib.hid h
  have HP := Lib.hid hp
  have hne : ((p.length : Int) == 1) = false := by rw [beq_eq_false_iff_ne]; omega
  clear h h00 hp
  go_enter Try.func82, Try.ntmps82
  obtain ⟨br, hbr⟩ : ∃ br, br = w.heap.size := ⟨_, rfl⟩
  have hR0 : Row 65 (w.alloc (.cells #[.slice none 0 0, .slice none 0 0] 65)) w.heap.size 2 [.slice none 0 0, .slice none 0 0] := Row.new 65 w [.slice none 0 0, .slice none 0 0] (by simp [maxLen])
  have hE0 : Ext w (w.alloc (.cells #[.slice none 0 0, .slice none 0 0] 65)) := Upd.alloc _ _ _
  rw [← hbr] at hR0
  have hz0 : (w.alloc (.cells #[.slice none 0 0, .slice none 0 0] 65)).heap.size = w.heap.size + 1 := by simp
  obtain ⟨w1, hw1⟩ : ∃ w1, w1 = w.alloc (.cells #[.slice none 0 0, .slice none 0 0] 65) := ⟨_, rfl⟩
  have HBR := Lib.hid hbr
  go_wp2_with fail
  rw [← hw1] at hR0 hE0 hz0 ⊢
  rw [← hbr]
  have HR0 := Lib.hid hR0
  have HE0 := Lib.hid hE0
  clear hw1 hR0 hE0 hbr
  refine (sumParts_ok _ p _ (HH.out.ext HE0.out) HP.out h8).mono ?_
  rintro e wz ⟨vz, rfl, hoz, hez⟩
  obtain ⟨az, cz, hvz⟩ : ∃ a c, vz = .slice a (spP p p.length).length c := by obtain ⟨a, c, e, _⟩ := hoz.sii; exact ⟨a, c, e⟩
  obtain ⟨lz, hlz⟩ : ∃ l, l = (spP p p.length).length := ⟨_, rfl⟩
  have HS0 : Hid (decide (1 < (spP p p.length).length) = false) := decide_eq_false hs0
  rw [← hlz] at hvz hs0
  subst hvz
  have hlzI : ¬ (1 : Int) < (lz : Int) := by omega
  have hz1 : w.heap.size + 1 ≤ wz.heap.size := by have := hez.size; omega
  replace HR0 := Lib.hid (HR0.out.ext hez)
  replace HE0 := Lib.hid (HE0.out.trans hez)
  clear hoz hez hlz hs0 hz0
  obtain ⟨w1, hw1⟩ : ∃ w1, w1 = wz := ⟨_, rfl⟩
  subst hw1
  go_wp2_with fail
  refine (skewParts_ok _ p _ (HH.out.ext HE0.out) HP.out h8).mono ?_
  rintro e w2 ⟨v2, rfl, ho2, h2e⟩
  have HPL := Lib.hid (skP_PL HP.out h8)
  obtain ⟨S, hS⟩ : ∃ S, S = skP p := ⟨_, rfl⟩
  rw [← hS] at ho2 hs HPL
  have HSR : Hid (splitR p = [2, 1]) := by show _ = _; unfold splitR; rw [HS0.out, ← hS, decide_eq_true hs]; rfl
  have HSQ : Hid (splitQ p = [nthL S 0, joinAll true (S.drop 1)]) := by show _ = _; unfold splitQ; rw [HS0.out, ← hS, decide_eq_true hs]; rfl
  obtain ⟨a2, c2, hv2⟩ : ∃ a c, v2 = .slice a S.length c := by obtain ⟨a, c, e, _⟩ := ho2.sii; exact ⟨a, c, e⟩
  subst hv2
  obtain ⟨b, hb, u, hcu, hou⟩ := ho2.rd (k := 0) (by omega)
  subst hb
  obtain ⟨g, k, hu, hBg, hHg, hrg⟩ := hou.full (HPL.out.pos _ (nthL_mem (by omega)))
  subst hu
  have hz2 := h2e.size
  have hcap : S.length ≤ c2 ∧ c2 ≤ maxLen := by obtain ⟨_, _, e, q1, q2, _⟩ := ho2.sii; injection e with _ _ e3; rw [e3]; exact ⟨q1, q2⟩
  have hnr := (ho2.nr HPL.out.pos).drop 1
  have hS8 := HPL.out.len_le
  obtain ⟨l0, hl0⟩ : ∃ l, l = (nthL S 0).length := ⟨_, rfl⟩
  rw [← hl0] at hcu
  have HL0 := Lib.hid hl0
  obtain ⟨n, hn⟩ : ∃ n, n = S.length := ⟨_, rfl⟩
  rw [← hn] at hs hcap hS8 ⊢
  obtain ⟨T, hT⟩ : ∃ T, T = S.drop 1 := ⟨_, rfl⟩
  have hTl : n - 1 = T.length := by rw [hT, List.length_drop, hn]
  have hTP := HPL.out.drop 1
  rw [← hT] at hnr hTP HSQ
  obtain ⟨F, hF⟩ : ∃ F, F = nthL S 0 := ⟨_, rfl⟩
  rw [← hF] at hrg HSQ
  have HJ := Lib.hid (fun W (hW : Ext w2 W) => joinParts_ok true b 1 (n - 1) (c2 - 1) T W (hnr.ext hW) hTl hTP)
  have HRG := Lib.hid hrg
  have HLF : Hid (l0 = F.length) := by show _ = _; rw [hF]; exact hl0
  have hz20 : br + 1 ≤ w2.heap.size := by have := HBR.out; omega
  have hgbr : br < g := by have := HBR.out; omega
  have hR2 := HR0.out.ext h2e
  have d0 := hR2.cell (j := 0) rfl
  have d1 := hR2.cell (j := 1) rfl
  have f0 := hR2.free 0 none
  have f1 := hR2.free 1 none
  have HR2 := Lib.hid hR2
  have HE2 := Lib.hid (HE0.out.trans h2e)
  have i1 : (1 : Int) < (n : Int) := by omega
  have i2 : (0 : Int) < (n : Int) := by omega
  have i3 : (1 : Int) ≤ (n : Int) := by omega
  have i4 : (n : Int) ≤ (c2 : Int) := by omega
  have i5 : (1 : Int) ≤ (c2 : Int) := by omega
  have i6 : ¬ c2 = 1 := by omega
  have i7 : 1 ≤ n := by omega
  have i8 : 0 < n := by omega
  have i9 : n ≤ c2 := by omega
  have i10 : 1 ≤ c2 := by omega
  have hbb : b < w2.heap.size := World.block_lt_of_cell? _ _ hcu
  have hbrl : br < w2.heap.size := HR2.out.lt
  have X1 : Ext w2 (w2.alloc (.cells #[.int .i64 2, .int .i64 1] 3)) := Upd.alloc _ _ _
  have hcu1 := X1.cell hcu
  have d01 := X1.cell d0
  have d11 := X1.cell d1
  have HX1 := Lib.hid X1
  clear ho2 h2e hS hou hrg hnr hR2 hl0 hn X1 hcap hT hTl hTP hF HL0
  go_wp2_with fail
  go_region_law (first
    | (go_simp; go_at_call 94; refine (HJ.out _ (by first | exact (Ext.refl _).drew | exact ((Ext.refl _).drew).alloc _ | exact ((Ext.refl _).alloc _).drew)).mono ?_; rintro e w7 ⟨b7, c7, rfl, hb7, hr7, he7⟩; have hE7 : Hid (Ext w2 w7) := (by first | exact (Ext.refl _).drew.trans he7 | exact (((Ext.refl _).drew).alloc _).trans he7 | exact (((Ext.refl _).alloc _).drew).trans he7); have hcu7 := hE7.out.cell hcu; have d07 := hE7.out.cell d0; have d17 := hE7.out.cell d1; have hR7 := HR2.out.ext hE7.out; have f07 := hR7.free 0 none; have f17 := hR7.free 1 none; have q1 := fun (o : Obj) => Ext.cell (show Ext w7 (w7.alloc o) from (Ext.refl _).alloc _) d07; have q2 := fun (o : Obj) => Ext.cell (show Ext w7 (w7.alloc o) from (Ext.refl _).alloc _) d17; have q3 := fun (o : Obj) => (hR7.ext (show Ext w7 (w7.alloc o) from (Ext.refl _).alloc _)).free 0 none; have q4 := fun (o : Obj) => (hR7.ext (show Ext w7 (w7.alloc o) from (Ext.refl _).alloc _)).free 1 none; have q5 := fun (o o' : Obj) => Ext.cell (show Ext w7 ((w7.alloc o).alloc o') from ((Ext.refl _).alloc _).alloc _) d07; have q6 := fun (o o' : Obj) => Ext.cell (show Ext w7 ((w7.alloc o).alloc o') from ((Ext.refl _).alloc _).alloc _) d17; have q7 := fun (o o' : Obj) => (hR7.ext (show Ext w7 ((w7.alloc o).alloc o') from ((Ext.refl _).alloc _).alloc _)).free 0 none; have q8 := fun (o o' : Obj) => (hR7.ext (show Ext w7 ((w7.alloc o).alloc o') from ((Ext.refl _).alloc _).alloc _)).free 1 none; have HR7 := Lib.hid hr7; have HB7 := Lib.hid hb7; (try have HX7 : Hid (Row 3 w7 w2.heap.size 2 (vals [2, 1])) := (by first | exact (Row.new 3 w2.drew (vals [2, 1]) (by simp [vals, maxLen])).ext he7 | exact ((Row.new 3 w2 (vals [2, 1]) (by simp [vals, maxLen])).ext (Upd.drew _ _)).ext he7)); have hcu7x := Ext.cell (show Ext w7 (w7.alloc (.cells #[.int .i64 2, .int .i64 1] 3)) from (Ext.refl _).alloc _) hcu7))
  all_goals
    have hz7 := hE7.out.size
    have hb7g : br < b7 := by have := HB7.out; have : w2.heap.size ≤ b7 := (by first | exact this | exact Nat.le_trans (by simp) this); omega
    have hb7l := HR7.out.lt
    obtain ⟨lj, hlj⟩ : ∃ lj, lj = (joinAll true T).length := ⟨_, rfl⟩
    have HLJ := Lib.hid hlj
    rw [← hlj]
    clear hlj
    go_wp2_with fail
    (try simp only [Exit.inBlock, Exit.then])
    refine bodyPost_ret (ret_infl rfl _ _ br rfl _ _ (((HR2.out.ext (by first | exact hE7.out.alloc _ | exact (hE7.out.alloc _).alloc _)).set 0 _).set 1 _)) rfl ?_
    first
      | exact SpPost.two HBR.out ((HE2.out.trans hE7.out).alloc _) w2.heap.size w7.heap.size g k b7 c7 [2, 1] F (joinAll true T) (HX7.out.ext (Upd.alloc _ _ _)) (by omega) HSR.out rfl (by rw [← HLF.out, ← HLJ.out]; exact Row.new 22 w7 _ (by simp [maxLen])) (by omega) ((HRG.out.ext hE7.out).ext (Upd.alloc _ _ _)) hgbr (HR7.out.ext (Upd.alloc _ _ _)) hb7g HSQ.out hd_any
      | exact SpPost.two HBR.out (((HE2.out.trans hE7.out).alloc _).alloc _) w7.heap.size (w7.heap.size + 1) g k b7 c7 [2, 1] F (joinAll true T) ((Row.new 3 w7 (vals [2, 1]) (by simp [vals, maxLen])).ext (Upd.alloc _ _ _)) (by omega) HSR.out rfl (by rw [← HLF.out, ← HLJ.out]; have h := Row.new 22 (w7.alloc (.cells #[.int .i64 2, .int .i64 1] 3)) [.slice (some ⟨g, 0, none⟩) l0 k, .slice (some ⟨b7, 0, none⟩) lj c7] (by simp [maxLen]); rw [show (w7.alloc (.cells #[.int .i64 2, .int .i64 1] 3)).heap.size = w7.heap.size + 1 by simp] at h; exact h) (by omega) ((HRG.out.ext hE7.out).ext ((Ext.refl _).alloc _ |>.alloc _)) hgbr (HR7.out.ext ((Ext.refl _).alloc _ |>.alloc _)) hb7g HSQ.out hd_any
      | exact SpPost.two HBR.out (((HE2.out.trans hE7.out).alloc _).alloc _) (w7.heap.size + 1) w7.heap.size g k b7 c7 [2, 1] F (joinAll true T) (by have h := Row.new 3 (w7.alloc (.cells #[.slice (some ⟨g, 0, none⟩) l0 k, .slice (some ⟨b7, 0, none⟩) lj c7] 22)) (vals [2, 1]) (by simp [vals, maxLen]); rw [show (w7.alloc (.cells #[.slice (some ⟨g, 0, none⟩) l0 k, .slice (some ⟨b7, 0, none⟩) lj c7] 22)).heap.size = w7.heap.size + 1 by simp] at h; exact h) (by omega) HSR.out rfl (by rw [← HLF.out, ← HLJ.out]; exact (Row.new 22 w7 _ (by simp [maxLen])).ext (Upd.alloc _ _ _)) (by omega) ((HRG.out.ext hE7.out).ext ((Ext.refl _).alloc _ |>.alloc _)) hgbr (HR7.out.ext ((Ext.refl _).alloc _ |>.alloc _)) hb7g HSQ.out hd_any
end Go.Proofs.Ytcifngcmdiokpaa
