/- l6Split at a sum and at a skew sum, the reference's. Conditions: a permutation of 2 to 8 numbers. -/
import Derived.Test.YtcifngcmdiokpaaSpl4
namespace Go.Proofs.Ytcifngcmdiokpaa
open Go.RowKit

theorem SpPost.stored {p : List Int} {w w2 w3 : World} {br : Nat} {rv pv : Value} (hbr : br = w.heap.size) (hE : Ext w w2) (hbr2 : br < w2.heap.size) (ho : OI w2.heap.size w3.heap.size w3 rv (splitR p)) (hg : GI w2.heap.size w3 pv (splitQ p)) (he : Ext w2 w3) :
    SpPost p w (.returned (.agg #[rv, pv])) ((w3.setCell ⟨br, 0, none⟩ rv).setCell ⟨br, 1, none⟩ pv) := by
  have t1 := Upd.setCell w3 ⟨br, 0, none⟩ rv
  have t2 := Upd.setCell (w3.setCell ⟨br, 0, none⟩ rv) ⟨br, 1, none⟩ pv
  have T : Upd (· = br) w3 ((w3.setCell ⟨br, 0, none⟩ rv).setCell ⟨br, 1, none⟩ pv) := t1.trans t2
  have hz := hE.size
  refine ⟨rv, pv, rfl, ?_, ?_, (hE.trans he).upd1 T (by omega)⟩
  · exact (ho.upd T (fun b _ hb _ e => by omega)).mono hz T.size
  · exact (hg.upd T (fun k hk e => by omega)).mono hz
theorem OII.first {B H : Nat} {w : World} {v : Value} {S : List (List Int)} (h : OII B H w v S) (h1 : 0 < S.length) : ∃ b c, v = .slice (some ⟨b, 0, none⟩) S.length c := by
  rcases h with ⟨_, rfl⟩ | ⟨b, cap, vs, rfl, _⟩
  · simp at h1
  · exact ⟨b, cap, rfl⟩
theorem GI.shape {B : Nat} {w : World} {v : Value} {xss : List (List Int)} (h : GI B w v xss) : ∃ a c, v = .slice a xss.length c := by
  obtain ⟨a, c, e, _⟩ := h.sii; exact ⟨a, c, e⟩
set_option maxHeartbeats 4000000 in
theorem l6Split_sum (v : Value) (p : List Int) (w : World) (h : SI w v p) (hp : IsP p) (h8 : p.length ≤ 8) (h2 : 2 ≤ p.length) (hs : 1 < (spP p p.length).length) :
    Calls Try.prog 90 #[v] w (SpPost p w) := by
  have h00 := h
  obtain ⟨a, cap, rfl, -⟩ := h00.elim
  have HH := Lib.hid h
  have HP := Lib.hid hp
  have hsl : sumL p = spP p p.length := by unfold sumL; rw [hp.p8 h8]; rfl
  have HSL := Lib.hid hsl
  have hne : ((p.length : Int) == 1) = false := by rw [beq_eq_false_iff_ne]; omega
  clear h h00 hp hsl
  go_enter Try.func90, Try.ntmps90
  obtain ⟨br, hbr⟩ : ∃ br, br = w.heap.size := ⟨_, rfl⟩
  have hR0 : Row 65 (w.alloc (.cells #[.slice none 0 0, .slice none 0 0] 65)) w.heap.size 2 [.slice none 0 0, .slice none 0 0] := Row.new 65 w [.slice none 0 0, .slice none 0 0] (by simp [maxLen])
  have hE0 : Ext w (w.alloc (.cells #[.slice none 0 0, .slice none 0 0] 65)) := Upd.alloc _ _ _
  rw [← hbr] at hR0
  obtain ⟨w1, hw1⟩ : ∃ w1, w1 = w.alloc (.cells #[.slice none 0 0, .slice none 0 0] 65) := ⟨_, rfl⟩
  have HBR := Lib.hid hbr
  go_wp2_with fail
  rw [← hw1] at hR0 hE0 ⊢
  rw [← hbr]
  have HR0 := Lib.hid hR0
  have HE0 := Lib.hid hE0
  clear hw1 hR0 hE0 hbr
  refine (spec_SumParts_ok _ p _ (HH.out.ext HE0.out) (by omega)).mono ?_
  rintro e w2 ⟨v2, rfl, ho2, h2e⟩
  rw [HSL.out] at ho2
  have HPL := Lib.hid (spP_PL HP.out h8)
  obtain ⟨S, hS⟩ : ∃ S, S = spP p p.length := ⟨_, rfl⟩
  rw [← hS] at ho2 hs HPL
  have HSR : Hid (splitR p = if false = true then [2, 1] else [1, 2]) := by show _ = _; unfold splitR; rw [← hS, decide_eq_true hs]; rfl
  have HSQ : Hid (splitQ p = [nthL S 0, joinAll false (S.drop 1)]) := by show _ = _; unfold splitQ; rw [← hS, decide_eq_true hs]; rfl
  obtain ⟨b, c2, hv2⟩ := ho2.first (by omega)
  subst hv2
  obtain ⟨n, hn⟩ : ∃ n, n = S.length := ⟨_, rfl⟩
  have HN := Lib.hid hn
  rw [← hn] at hs ho2 ⊢
  have HO := Lib.hid ho2
  have HR2 := Lib.hid (HR0.out.ext h2e)
  have HE2 := Lib.hid (HE0.out.trans h2e)
  have hbr2 := HR2.out.lt
  have hsI : (1 : Int) < (n : Int) := by omega
  clear ho2 h2e hS hn HR0 HE0
  go_wp2_with fail
  refine (l6Sum_ok false p _ _ b n c2 S _ HO.out HPL.out HN.out hs HSR.out HSQ.out).mono ?_
  rintro e w3 ⟨rv, pv, rfl, ho3, hg3, h3⟩
  obtain ⟨ap, cp, hrv⟩ := ho3.shape
  obtain ⟨aq, cq, hpv⟩ := hg3.shape
  obtain ⟨lp, hlp⟩ : ∃ l, l = (splitR p).length := ⟨_, rfl⟩
  obtain ⟨lq, hlq⟩ : ∃ l, l = (splitQ p).length := ⟨_, rfl⟩
  rw [← hlp] at hrv
  rw [← hlq] at hpv
  subst hrv hpv
  have hR3 := HR2.out.ext h3
  have d0 := hR3.cell (j := 0) rfl
  have d1 := hR3.cell (j := 1) rfl
  have f0 := hR3.free 0 none
  have f1 := hR3.free 1 none
  have HR3 := Lib.hid hR3
  have HO3 := Lib.hid ho3
  have HG3 := Lib.hid hg3
  have H3 := Lib.hid h3
  clear hR3 ho3 hg3 h3 hlp hlq
  go_wp2_with fail
  (try simp only [Exit.inBlock, Exit.then])
  refine bodyPost_ret (ret_infl rfl _ _ br rfl _ _ ((HR3.out.set 0 _).set 1 _)) rfl ?_
  exact SpPost.stored HBR.out HE2.out hbr2 HO3.out HG3.out H3.out
set_option maxHeartbeats 4000000 in
theorem l6Split_skew (v : Value) (p : List Int) (w : World) (h : SI w v p) (hp : IsP p) (h8 : p.length ≤ 8) (h2 : 2 ≤ p.length) (hs0 : ¬ 1 < (spP p p.length).length) (hs : 1 < (skP p).length) :
    Calls Try.prog 90 #[v] w (SpPost p w) := by
  have h00 := h
  obtain ⟨a, cap, rfl, -⟩ := h00.elim
  have HH := Lib.hid h
  have HP := Lib.hid hp
  have hsl : sumL p = spP p p.length := by unfold sumL; rw [hp.p8 h8]; rfl
  have HSL := Lib.hid hsl
  have hne : ((p.length : Int) == 1) = false := by rw [beq_eq_false_iff_ne]; omega
  clear h h00 hp hsl
  go_enter Try.func90, Try.ntmps90
  obtain ⟨br, hbr⟩ : ∃ br, br = w.heap.size := ⟨_, rfl⟩
  have hR0 : Row 65 (w.alloc (.cells #[.slice none 0 0, .slice none 0 0] 65)) w.heap.size 2 [.slice none 0 0, .slice none 0 0] := Row.new 65 w [.slice none 0 0, .slice none 0 0] (by simp [maxLen])
  have hE0 : Ext w (w.alloc (.cells #[.slice none 0 0, .slice none 0 0] 65)) := Upd.alloc _ _ _
  rw [← hbr] at hR0
  obtain ⟨w1, hw1⟩ : ∃ w1, w1 = w.alloc (.cells #[.slice none 0 0, .slice none 0 0] 65) := ⟨_, rfl⟩
  have HBR := Lib.hid hbr
  go_wp2_with fail
  rw [← hw1] at hR0 hE0 ⊢
  rw [← hbr]
  have HR0 := Lib.hid hR0
  have HE0 := Lib.hid hE0
  clear hw1 hR0 hE0 hbr
  refine (spec_SumParts_ok _ p _ (HH.out.ext HE0.out) (by omega)).mono ?_
  rintro e wz ⟨vz, rfl, hoz, hez⟩
  rw [HSL.out] at hoz
  obtain ⟨az, cz, hvz⟩ : ∃ a c, vz = .slice a (spP p p.length).length c := by obtain ⟨a, c, e, _⟩ := hoz.sii; exact ⟨a, c, e⟩
  obtain ⟨lz, hlz⟩ : ∃ l, l = (spP p p.length).length := ⟨_, rfl⟩
  have HS0 : Hid (decide (1 < (spP p p.length).length) = false) := decide_eq_false hs0
  rw [← hlz] at hvz hs0
  subst hvz
  have hlzI : ¬ (1 : Int) < (lz : Int) := by omega
  replace HR0 := Lib.hid (HR0.out.ext hez)
  replace HE0 := Lib.hid (HE0.out.trans hez)
  clear hoz hez hlz hs0
  obtain ⟨w1, hw1⟩ : ∃ w1, w1 = wz := ⟨_, rfl⟩
  subst hw1
  go_wp2_with fail
  refine (SkewParts_ok _ p _ (HH.out.ext HE0.out) HP.out h8).mono ?_
  rintro e w2 ⟨v2, rfl, ho2, h2e⟩
  have HPL := Lib.hid (skP_PL HP.out h8)
  obtain ⟨S, hS⟩ : ∃ S, S = skP p := ⟨_, rfl⟩
  rw [← hS] at ho2 hs HPL
  have HSR : Hid (splitR p = if true = true then [2, 1] else [1, 2]) := by show _ = _; unfold splitR; rw [HS0.out, ← hS, decide_eq_true hs]; rfl
  have HSQ : Hid (splitQ p = [nthL S 0, joinAll true (S.drop 1)]) := by show _ = _; unfold splitQ; rw [HS0.out, ← hS, decide_eq_true hs]; rfl
  obtain ⟨b, c2, hv2⟩ := ho2.first (by omega)
  subst hv2
  obtain ⟨n, hn⟩ : ∃ n, n = S.length := ⟨_, rfl⟩
  have HN := Lib.hid hn
  rw [← hn] at hs ho2 ⊢
  have HO := Lib.hid ho2
  have HR2 := Lib.hid (HR0.out.ext h2e)
  have HE2 := Lib.hid (HE0.out.trans h2e)
  have hbr2 := HR2.out.lt
  have hsI : (1 : Int) < (n : Int) := by omega
  clear ho2 h2e hS hn HR0 HE0
  go_wp2_with fail
  refine (l6Sum_ok true p _ _ b n c2 S _ HO.out HPL.out HN.out hs HSR.out HSQ.out).mono ?_
  rintro e w3 ⟨rv, pv, rfl, ho3, hg3, h3⟩
  obtain ⟨ap, cp, hrv⟩ := ho3.shape
  obtain ⟨aq, cq, hpv⟩ := hg3.shape
  obtain ⟨lp, hlp⟩ : ∃ l, l = (splitR p).length := ⟨_, rfl⟩
  obtain ⟨lq, hlq⟩ : ∃ l, l = (splitQ p).length := ⟨_, rfl⟩
  rw [← hlp] at hrv
  rw [← hlq] at hpv
  subst hrv hpv
  have hR3 := HR2.out.ext h3
  have d0 := hR3.cell (j := 0) rfl
  have d1 := hR3.cell (j := 1) rfl
  have f0 := hR3.free 0 none
  have f1 := hR3.free 1 none
  have HR3 := Lib.hid hR3
  have HO3 := Lib.hid ho3
  have HG3 := Lib.hid hg3
  have H3 := Lib.hid h3
  clear hR3 ho3 hg3 h3 hlp hlq
  go_wp2_with fail
  (try simp only [Exit.inBlock, Exit.then])
  refine bodyPost_ret (ret_infl rfl _ _ br rfl _ _ ((HR3.out.set 0 _).set 1 _)) rfl ?_
  exact SpPost.stored HBR.out HE2.out hbr2 HO3.out HG3.out H3.out
end Go.Proofs.Ytcifngcmdiokpaa
