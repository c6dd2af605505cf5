/- split: the root and the parts of a permutation, the program's. Conditions: a permutation of 2 to 8 numbers. -/
import Derived.Test.YtcifngcmdiokpaaGid
import Derived.Deep.RegionLaw
import Derived.Deep.Cut
import Derived.Deep.CutRange
import Derived.Deep.CutBlock
namespace Go.Proofs.Ytcifngcmdiokpaa
open Go.RowKit

def SpPost (p : List Int) (w : World) (e : Ending) (w' : World) : Prop := ∃ rv pv, e = .returned (.agg #[rv, pv]) ∧ OI w.heap.size w'.heap.size w' rv (splitR p) ∧ GI w.heap.size w' pv (splitQ p) ∧ Ext w w'
theorem OI.full {B H : Nat} {w : World} {u : Value} {ys : List Int} (h : OI B H w u ys) (hl : 0 < ys.length) : ∃ b c, u = .slice (some ⟨b, 0, none⟩) ys.length c ∧ B ≤ b ∧ b < H ∧ Row 3 w b c (vals ys) := by
  rcases h with ⟨rfl, rfl⟩ | h
  · simp at hl
  · exact h
theorem OII.nr {B H : Nat} {w : World} {b n c : Nat} {S : List (List Int)} (h : OII B H w (.slice (some ⟨b, 0, none⟩) n c) S) (hp : ∀ l ∈ S, 0 < l.length) : NR w b 0 S := fun i hi => by
  obtain ⟨b', e, u, hc, ho⟩ := h.rd hi
  obtain rfl : b = b' := by simpa using e
  obtain ⟨g, k, rfl, _, _, _⟩ := ho.full (hp _ (nthL_mem hi))
  exact ⟨⟨g, 0, none⟩, k, by rw [Nat.zero_add]; exact hc, ho.si⟩
theorem NR.drop {w : World} {b : Nat} {S : List (List Int)} (h : NR w b 0 S) (k : Nat) : NR w b k (S.drop k) := fun i hi => by
  rw [List.length_drop] at hi
  obtain ⟨ad, c, h1, h2⟩ := h (k + i) (by omega)
  rw [Nat.zero_add] at h1
  rw [nthL_drop]
  exact ⟨ad, c, h1, h2⟩
theorem ret_infl {fn : Func} {q : Tmp} (h : fn.results = #[.cell q 65]) (tmps : Array Value) (w : World) (b : Nat) (hp : tmps.getD q undef = .pointer (some ⟨b, 0, none⟩)) (rv pv : Value) (hr : Row 65 w b 2 [rv, pv]) :
    (results fn tmps).run Try.prog w = .ok (.agg #[rv, pv]) w := by
  obtain ⟨cur, hg, hs, ht⟩ := hr.cur
  have hc : cur = #[rv, pv] := by
    apply Array.ext'
    have : cur.toList.take [rv, pv].length = cur.toList := List.take_of_length_le (by simp [hs])
    rw [← this, ht]
  subst hc
  exact Go.results_cell_row h tmps w b 65 #[rv, pv] (0, 0) _ hp hg Try.underlying65 rfl (by kernel_rfl)
theorem SpPost.two {p : List Int} {w Wp : World} {br : Nat} (hbr : br = w.heap.size) (hE : Ext w Wp) (rb pb g k b7 c7 : Nat) (R F J : List Int) (hrb : Row 3 Wp rb 2 (vals R)) (hrbl : br < rb) (hR : splitR p = R) (hRl : R.length = 2)
    (hpb : Row 22 Wp pb 2 [.slice (some ⟨g, 0, none⟩) F.length k, .slice (some ⟨b7, 0, none⟩) J.length c7]) (hpbl : br < pb) (hg : Row 3 Wp g k (vals F)) (hgl : br < g) (hb7 : Row 3 Wp b7 c7 (vals J)) (hb7l : br < b7) (hQ : splitQ p = [F, J])
    (hd : ∀ x xs ys z zs, Row 22 Wp x xs ys → Row 3 Wp z zs (vals F) ∨ Row 3 Wp z zs (vals J) → z ≠ x) :
    SpPost p w (.returned (.agg #[.slice (some ⟨rb, 0, none⟩) 2 2, .slice (some ⟨pb, 0, none⟩) 2 2])) ((Wp.setCell ⟨br, 0, none⟩ (.slice (some ⟨rb, 0, none⟩) 2 2)).setCell ⟨br, 1, none⟩ (.slice (some ⟨pb, 0, none⟩) 2 2)) := by
  have s1 := Upd.setCell Wp ⟨br, 0, none⟩ (.slice (some ⟨rb, 0, none⟩) 2 2)
  have s2 := Upd.setCell (Wp.setCell ⟨br, 0, none⟩ (.slice (some ⟨rb, 0, none⟩) 2 2)) ⟨br, 1, none⟩ (.slice (some ⟨pb, 0, none⟩) 2 2)
  have s12 : Upd (· = br) Wp ((Wp.setCell ⟨br, 0, none⟩ (.slice (some ⟨rb, 0, none⟩) 2 2)).setCell ⟨br, 1, none⟩ (.slice (some ⟨pb, 0, none⟩) 2 2)) := s1.trans s2
  have hz := s12.size
  have hrl := (hrb.upd s12 (fun e => by omega)).lt
  refine ⟨_, _, rfl, ?_, ?_, hE.upd1 s12 (by omega)⟩
  · rw [hR]; exact OI.row (hrb.upd s12 (fun e => by omega)) (by omega) hRl.symm
  · rw [hQ]
    have hg' := hg.upd s12 (fun e => by omega)
    have hb7' := hb7.upd s12 (fun e => by omega)
    have hpb' := hpb.upd s12 (fun e => by omega)
    refine GR.gi (xss := [F, J]) ⟨_, hpb', rfl, by omega, fun i hi => ?_⟩ rfl
    have hi2 : i = 0 ∨ i = 1 := by simp at hi; omega
    rcases hi2 with rfl | rfl
    · refine ⟨OI.row hg' (by omega) rfl, fun e => ?_⟩
      have e2 : g = pb := by simpa [nthV, Value.ownBlock] using e
      exact hd _ _ _ _ _ hpb (.inl hg) e2
    · refine ⟨OI.row hb7' (by omega) rfl, fun e => ?_⟩
      have e2 : b7 = pb := by simpa [nthV, Value.ownBlock] using e
      exact hd _ _ _ _ _ hpb (.inr hb7) e2
theorem Row.apart2 {e e' : TypeId} {w : World} {b c b' c' : Nat} {xs ys : List Value} (h : Row e w b c xs) (k : Row e' w b' c' ys) (hne : e ≠ e') : b ≠ b' := by
  rintro rfl
  obtain ⟨cur, h1, _⟩ := h.cur
  obtain ⟨cur', h2, _⟩ := k.cur
  rw [h1] at h2
  injection h2 with h2
  injection h2 with _ h2
  exact hne h2
theorem hd_any {Wp : World} {F J : List Int} : ∀ x xs ys z zs, Row 22 Wp x xs ys → Row 3 Wp z zs (vals F) ∨ Row 3 Wp z zs (vals J) → z ≠ x := fun x xs ys z zs h1 h2 => by
  rcases h2 with h2 | h2
  · exact h2.apart2 h1 (by decide)
  · exact h2.apart2 h1 (by decide)
set_option maxHeartbeats 4000000 in
theorem split_sum (v : Value) (p : List Int) (w : World) (h : SI w v p) (hp : IsP p) (h8 : p.length ≤ 8) (h2 : 2 ≤ p.length) (hs : 1 < (spP p p.length).length) :
    Calls Try.prog 82 #[v] w (SpPost p w) := by
  have h00 := h
  obtain ⟨a, cap, rfl, -⟩ := h00.elim
  have HH := Lib.hid h
  have HP := Lib.hid hp
  have hne : ((p.length : Int) == 1) = false := by rw [beq_eq_false_iff_ne]; omega
  clear h h00 hp
  go_enter Try.func82, Try.ntmps82
  obtain ⟨br, hbr⟩ : ∃ br, br = w.heap.size := ⟨_, rfl⟩
  have hR0 : Row 65 (w.alloc (.cells #[.slice none 0 0, .slice none 0 0] 65)) w.heap.size 2 [.slice none 0 0, .slice none 0 0] := Row.new 65 w [.slice none 0 0, .slice none 0 0] (by simp [maxLen])
  have hE0 : Ext w (w.alloc (.cells #[.slice none 0 0, .slice none 0 0] 65)) := Upd.alloc _ _ _
  rw [← hbr] at hR0
  have hz0 : (w.alloc (.cells #[.slice none 0 0, .slice none 0 0] 65)).heap.size = w.heap.size + 1 := by simp
  obtain ⟨w1, hw1⟩ : ∃ w1, w1 = w.alloc (.cells #[.slice none 0 0, .slice none 0 0] 65) := ⟨_, rfl⟩
  have HBR := Lib.hid hbr
  go_wp2_with fail
  rw [← hw1] at hR0 hE0 hz0 ⊢
  rw [← hbr]
  have HR0 := Lib.hid hR0
  have HE0 := Lib.hid hE0
  clear hw1 hR0 hE0 hbr
  refine (sumParts_ok _ p _ (HH.out.ext HE0.out) HP.out h8).mono ?_
  rintro e w2 ⟨v2, rfl, ho2, h2e⟩
  have HPL := Lib.hid (spP_PL HP.out h8)
  obtain ⟨S, hS⟩ : ∃ S, S = spP p p.length := ⟨_, rfl⟩
  rw [← hS] at ho2 hs HPL
  have HSR : Hid (splitR p = [1, 2]) := by show _ = _; unfold splitR; rw [← hS, decide_eq_true hs]; rfl
  have HSQ : Hid (splitQ p = [nthL S 0, joinAll false (S.drop 1)]) := by show _ = _; unfold splitQ; rw [← hS, decide_eq_true hs]; rfl
  obtain ⟨a2, c2, hv2⟩ : ∃ a c, v2 = .slice a S.length c := by obtain ⟨a, c, e, _⟩ := ho2.sii; exact ⟨a, c, e⟩
  subst hv2
  obtain ⟨b, hb, u, hcu, hou⟩ := ho2.rd (k := 0) (by omega)
  subst hb
  obtain ⟨g, k, hu, hBg, hHg, hrg⟩ := hou.full (HPL.out.pos _ (nthL_mem (by omega)))
  subst hu
  have hz2 := h2e.size
  have hcap : S.length ≤ c2 ∧ c2 ≤ maxLen := by obtain ⟨_, _, e, q1, q2, _⟩ := ho2.sii; injection e with _ _ e3; rw [e3]; exact ⟨q1, q2⟩
  have hnr := (ho2.nr HPL.out.pos).drop 1
  have hS8 := HPL.out.len_le
  obtain ⟨l0, hl0⟩ : ∃ l, l = (nthL S 0).length := ⟨_, rfl⟩
  rw [← hl0] at hcu
  have HL0 := Lib.hid hl0
  obtain ⟨n, hn⟩ : ∃ n, n = S.length := ⟨_, rfl⟩
  rw [← hn] at hs hcap hS8 ⊢
  obtain ⟨T, hT⟩ : ∃ T, T = S.drop 1 := ⟨_, rfl⟩
  have hTl : n - 1 = T.length := by rw [hT, List.length_drop, hn]
  have hTP := HPL.out.drop 1
  rw [← hT] at hnr hTP HSQ
  obtain ⟨F, hF⟩ : ∃ F, F = nthL S 0 := ⟨_, rfl⟩
  rw [← hF] at hrg HSQ
  have HJ := Lib.hid (fun W (hW : Ext w2 W) => joinParts_ok false b 1 (n - 1) (c2 - 1) T W (hnr.ext hW) hTl hTP)
  have HRG := Lib.hid hrg
  have HLF : Hid (l0 = F.length) := by show _ = _; rw [hF]; exact hl0
  have hz20 : br + 1 ≤ w2.heap.size := by have := HBR.out; omega
  have hgbr : br < g := by have := HBR.out; omega
  have hR2 := HR0.out.ext h2e
  have d0 := hR2.cell (j := 0) rfl
  have d1 := hR2.cell (j := 1) rfl
  have f0 := hR2.free 0 none
  have f1 := hR2.free 1 none
  have HR2 := Lib.hid hR2
  have HE2 := Lib.hid (HE0.out.trans h2e)
  have i1 : (1 : Int) < (n : Int) := by omega
  have i2 : (0 : Int) < (n : Int) := by omega
  have i3 : (1 : Int) ≤ (n : Int) := by omega
  have i4 : (n : Int) ≤ (c2 : Int) := by omega
  have i5 : (1 : Int) ≤ (c2 : Int) := by omega
  have i6 : ¬ c2 = 1 := by omega
  have i7 : 1 ≤ n := by omega
  have i8 : 0 < n := by omega
  have i9 : n ≤ c2 := by omega
  have i10 : 1 ≤ c2 := by omega
  have hbb : b < w2.heap.size := World.block_lt_of_cell? _ _ hcu
  have hbrl : br < w2.heap.size := HR2.out.lt
  have X1 : Ext w2 (w2.alloc (.cells #[.int .i64 1, .int .i64 2] 3)) := Upd.alloc _ _ _
  have hcu1 := X1.cell hcu
  have d01 := X1.cell d0
  have d11 := X1.cell d1
  have HX1 := Lib.hid X1
  clear ho2 h2e hS hou hrg hnr hR2 hl0 hn X1 hcap hT hTl hTP hF HL0
  go_wp2_with fail
  go_region_law (first
    | (go_simp; go_at_call 94; refine (HJ.out _ (by first | exact (Ext.refl _).drew | exact ((Ext.refl _).drew).alloc _ | exact ((Ext.refl _).alloc _).drew)).mono ?_; rintro e w7 ⟨b7, c7, rfl, hb7, hr7, he7⟩; have hE7 : Hid (Ext w2 w7) := (by first | exact (Ext.refl _).drew.trans he7 | exact (((Ext.refl _).drew).alloc _).trans he7 | exact (((Ext.refl _).alloc _).drew).trans he7); have hcu7 := hE7.out.cell hcu; have d07 := hE7.out.cell d0; have d17 := hE7.out.cell d1; have hR7 := HR2.out.ext hE7.out; have f07 := hR7.free 0 none; have f17 := hR7.free 1 none; have q1 := fun (o : Obj) => Ext.cell (show Ext w7 (w7.alloc o) from (Ext.refl _).alloc _) d07; have q2 := fun (o : Obj) => Ext.cell (show Ext w7 (w7.alloc o) from (Ext.refl _).alloc _) d17; have q3 := fun (o : Obj) => (hR7.ext (show Ext w7 (w7.alloc o) from (Ext.refl _).alloc _)).free 0 none; have q4 := fun (o : Obj) => (hR7.ext (show Ext w7 (w7.alloc o) from (Ext.refl _).alloc _)).free 1 none; have q5 := fun (o o' : Obj) => Ext.cell (show Ext w7 ((w7.alloc o).alloc o') from ((Ext.refl _).alloc _).alloc _) d07; have q6 := fun (o o' : Obj) => Ext.cell (show Ext w7 ((w7.alloc o).alloc o') from ((Ext.refl _).alloc _).alloc _) d17; have q7 := fun (o o' : Obj) => (hR7.ext (show Ext w7 ((w7.alloc o).alloc o') from ((Ext.refl _).alloc _).alloc _)).free 0 none; have q8 := fun (o o' : Obj) => (hR7.ext (show Ext w7 ((w7.alloc o).alloc o') from ((Ext.refl _).alloc _).alloc _)).free 1 none; have HR7 := Lib.hid hr7; have HB7 := Lib.hid hb7; (try have HX7 : Hid (Row 3 w7 w2.heap.size 2 (vals [1, 2])) := (by first | exact (Row.new 3 w2.drew (vals [1, 2]) (by simp [vals, maxLen])).ext he7 | exact ((Row.new 3 w2 (vals [1, 2]) (by simp [vals, maxLen])).ext (Upd.drew _ _)).ext he7)); have hcu7x := Ext.cell (show Ext w7 (w7.alloc (.cells #[.int .i64 1, .int .i64 2] 3)) from (Ext.refl _).alloc _) hcu7))
  all_goals
    have hz7 := hE7.out.size
    have hb7g : br < b7 := by have := HB7.out; have : w2.heap.size ≤ b7 := (by first | exact this | exact Nat.le_trans (by simp) this); omega
    have hb7l := HR7.out.lt
    obtain ⟨lj, hlj⟩ : ∃ lj, lj = (joinAll false T).length := ⟨_, rfl⟩
    have HLJ := Lib.hid hlj
    rw [← hlj]
    clear hlj
    go_wp2_with fail
    (try simp only [Exit.inBlock, Exit.then])
    refine bodyPost_ret (ret_infl rfl _ _ br rfl _ _ (((HR2.out.ext (by first | exact hE7.out.alloc _ | exact (hE7.out.alloc _).alloc _)).set 0 _).set 1 _)) rfl ?_
    first
      | exact SpPost.two HBR.out ((HE2.out.trans hE7.out).alloc _) w2.heap.size w7.heap.size g k b7 c7 [1, 2] F (joinAll false T) (HX7.out.ext (Upd.alloc _ _ _)) (by omega) HSR.out rfl (by rw [← HLF.out, ← HLJ.out]; exact Row.new 22 w7 _ (by simp [maxLen])) (by omega) ((HRG.out.ext hE7.out).ext (Upd.alloc _ _ _)) hgbr (HR7.out.ext (Upd.alloc _ _ _)) hb7g HSQ.out hd_any
      | exact SpPost.two HBR.out (((HE2.out.trans hE7.out).alloc _).alloc _) w7.heap.size (w7.heap.size + 1) g k b7 c7 [1, 2] F (joinAll false T) ((Row.new 3 w7 (vals [1, 2]) (by simp [vals, maxLen])).ext (Upd.alloc _ _ _)) (by omega) HSR.out rfl (by rw [← HLF.out, ← HLJ.out]; have h := Row.new 22 (w7.alloc (.cells #[.int .i64 1, .int .i64 2] 3)) [.slice (some ⟨g, 0, none⟩) l0 k, .slice (some ⟨b7, 0, none⟩) lj c7] (by simp [maxLen]); rw [show (w7.alloc (.cells #[.int .i64 1, .int .i64 2] 3)).heap.size = w7.heap.size + 1 by simp] at h; exact h) (by omega) ((HRG.out.ext hE7.out).ext ((Ext.refl _).alloc _ |>.alloc _)) hgbr (HR7.out.ext ((Ext.refl _).alloc _ |>.alloc _)) hb7g HSQ.out hd_any
      | exact SpPost.two HBR.out (((HE2.out.trans hE7.out).alloc _).alloc _) (w7.heap.size + 1) w7.heap.size g k b7 c7 [1, 2] F (joinAll false T) (by have h := Row.new 3 (w7.alloc (.cells #[.slice (some ⟨g, 0, none⟩) l0 k, .slice (some ⟨b7, 0, none⟩) lj c7] 22)) (vals [1, 2]) (by simp [vals, maxLen]); rw [show (w7.alloc (.cells #[.slice (some ⟨g, 0, none⟩) l0 k, .slice (some ⟨b7, 0, none⟩) lj c7] 22)).heap.size = w7.heap.size + 1 by simp] at h; exact h) (by omega) HSR.out rfl (by rw [← HLF.out, ← HLJ.out]; exact (Row.new 22 w7 _ (by simp [maxLen])).ext (Upd.alloc _ _ _)) (by omega) ((HRG.out.ext hE7.out).ext ((Ext.refl _).alloc _ |>.alloc _)) hgbr (HR7.out.ext ((Ext.refl _).alloc _ |>.alloc _)) hb7g HSQ.out hd_any
end Go.Proofs.Ytcifngcmdiokpaa
