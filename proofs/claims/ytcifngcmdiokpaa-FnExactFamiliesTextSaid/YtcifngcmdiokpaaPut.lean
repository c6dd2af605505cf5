/- A row put into a list in order: the contract of the reference's l3Put. Conditions: lengths below a bound. -/
import Derived.Test.YtcifngcmdiokpaaBef
import Derived.Test.YtcifngcmdiokpaaRow3
import Derived.Deep.RegionLaw
namespace Go.Proofs.Ytcifngcmdiokpaa
open Go.RowKit

def idxI (t n : Nat) : List Nat := List.range t ++ (n :: (List.range (n - t)).map (t + ·))
theorem idxI_map {α : Type} (l : List α) (a d : α) {t : Nat} (h : t ≤ l.length) : (idxI t l.length).map (fun i => (l ++ [a]).getD i d) = l.take t ++ a :: l.drop t := by
  unfold idxI
  rw [List.map_append, List.map_cons, List.map_map]
  have e1 : (List.range t).map (fun i => (l ++ [a]).getD i d) = l.take t := by
    apply List.ext_getElem
    · simp; omega
    · intro i h1 h2
      simp at h1 h2
      simp [List.getElem?_append, show i < l.length by omega]
  have e2 : (l ++ [a]).getD l.length d = a := by simp
  have e3 : (List.range (l.length - t)).map ((fun i => (l ++ [a]).getD i d) ∘ (t + ·)) = l.drop t := by
    apply List.ext_getElem
    · simp
    · intro i h1 h2
      simp at h1 h2
      simp [List.getElem?_append, show t + i < l.length by omega]
  rw [e1, e2, e3]
theorem idxI_nodup {t n : Nat} (h : t ≤ n) : (idxI t n).Nodup := by
  unfold idxI
  rw [List.nodup_append, List.nodup_cons]
  refine ⟨List.nodup_range, ⟨?_, ?_⟩, ?_⟩
  · simp; omega
  · rw [List.Nodup, List.pairwise_map]
    exact List.Pairwise.imp (fun h => by omega) List.nodup_range
  · intro x hx y hy
    simp at hx
    rcases List.mem_cons.1 hy with e | e
    · omega
    · simp at e; omega
theorem idxI_lt {t n : Nat} (h : t ≤ n) : ∀ i ∈ idxI t n, i < n + 1 := by
  intro i hi
  unfold idxI at hi
  simp at hi
  omega
theorem Els.insert {B H H' : Nat} {w : World} {vs : List Value} {L : List (List Int)} {v : Value} {p : List Int} (h : Els B H w vs L) (hv : OI B H' w v p) (hH : H ≤ H') (hn : ∀ c, v.ownBlock = some c → H ≤ c) {t : Nat} (ht : t ≤ L.length) :
    Els B H' w (vs.take t ++ v :: vs.drop t) (L.take t ++ p :: L.drop t) := by
  have h1 := (h.push hv hH hn).byN (idxI t L.length) (idxI_nodup ht) (fun i hi => by have := idxI_lt ht i hi; simpa using this)
  have e1 : (idxI t L.length).map (nthV (vs ++ [v])) = vs.take t ++ v :: vs.drop t := by rw [← h.len]; exact idxI_map vs v undef (by rw [h.len]; exact ht)
  have e2 : (idxI t L.length).map (nthL (L ++ [p])) = L.take t ++ p :: L.drop t := idxI_map L p [] ht
  rwa [e1, e2] at h1
theorem nthV_mem {vs : List Value} {k : Nat} (h : k < vs.length) : nthV vs k ∈ vs := by
  have : nthV vs k = vs[k] := by simp [nthV, h]
  rw [this]; exact List.getElem_mem h
theorem mem_nthV {vs : List Value} {u : Value} (h : u ∈ vs) : ∃ k, k < vs.length ∧ nthV vs k = u := by
  obtain ⟨k, hk, e⟩ := List.getElem_of_mem h
  exact ⟨k, hk, by simp [nthV, hk, e]⟩
theorem OI.cell1 {B H : Nat} {w : World} {v : Value} {xs : List Int} (h : OI B H w v xs) : v.oneCell' = true := by
  rcases h with ⟨h1, _⟩ | ⟨b, cap, h1, _⟩ <;> rw [h1] <;> rfl
theorem atL_t {L : List (List Int)} {p : List Int} {k : Nat} (h : befB p (nthL L k) = true) : atL L p (k + 1) = atL L p k := by rw [atL]; rw [h]; rfl
theorem atL_f {L : List (List Int)} {p : List Int} {k : Nat} (h : befB p (nthL L k) = false) : atL L p (k + 1) = k + 1 := by rw [atL]; rw [h]; rfl
theorem hitB_t {L : List (List Int)} {p : List Int} {k : Nat} (h : k + 1 = putAt L p) (h2 : nthL L k = p) : putL L p = L := by
  unfold putL hitB; rw [← h, Nat.add_sub_cancel, decide_eq_true ⟨by omega, h2⟩]; rfl
theorem hitB_f {L : List (List Int)} {p : List Int} {k : Nat} (h : k = putAt L p) (h2 : ¬ (0 < k ∧ nthL L (k - 1) = p)) : putL L p = L.take k ++ p :: L.drop k := by
  unfold putL hitB; rw [← h, decide_eq_false h2]; rfl
/-- append, onto a row of slices that the call owns, of what lies in memory: one step of a region that draws its order. -/
theorem step_appV {w : World} {ops : Array Oper} {o : Oper} {a : Act} {K : Act → World → Prop} {Q : Exit → Act → World → Prop} {E : Prop} (hgd : o.guard = none) (s x : Operand)
    (ho : o.op = .call { callee := .builtin .append, args := #[s, x], argTypes := #[35, 35] })
    (b cap n : Nat) (xs us : List Value) (hs : a.eval s = .slice (some ⟨b, 0, none⟩) n cap) (hr : Row 22 w b cap xs) (hn : n = xs.length)
    (ad : Addr) (m c : Nat) (hx : a.eval x = .slice (some ad) m c) (hm : us.length = m) (hnews : ∀ j u, us[j]? = some u → w.cell? (ad.add j) = some u) (h1 : ∀ u ∈ us, u.oneCell' = true) (hb : xs.length ≤ 1000000000) (hb2 : us.length ≤ 1000000000)
    (h : ∀ b' cap' w', Row 22 w' b' cap' (xs ++ us) → (b' = b ∨ w.heap.size ≤ b') → Upd (· = b) w w' → K (a.put o.dst (.slice (some ⟨b', 0, none⟩) (n + m) cap')) w') :
    if Region.wanted o (yielded ops a.tmps) = true then Oper.wp Try.prog o a w K Q else E := by
  have hw : Region.wanted o (yielded ops a.tmps) = true := by simp [Region.wanted, hgd]
  rw [if_pos hw]
  obtain ⟨i, hi, hz, hs1, hby⟩ := info_ints
  subst hn
  obtain ⟨b', cap', w', hrun, h2, h3, h4⟩ := run_append_row (P := Try.prog) w 35 o.type 22 i (.slice none 0 0) Try.underlying35 hi hz hs1 rfl b cap xs hr ad m c us hm hnews h1
    (by rw [hby]; omega) (by unfold maxLen; omega)
  unfold Oper.wp execOp
  simp only [ho, resolve, invoke, builtin, Sem.run_bind, Sem.run_pure, Result.andThen_ok, List.map_toArray, List.map_cons, List.map_nil, hs, hx, hrun]
  exact h b' cap' w' h2 h3 h4
/-- the same, not in a region that draws. -/
theorem wpl_appV {w : World} {ops : Array Oper} {rest : List Oper} {o : Oper} {a : Act} {Q : Exit → Act → World → Prop} (hgd : o.guard = none) (s x : Operand)
    (ho : o.op = .call { callee := .builtin .append, args := #[s, x], argTypes := #[35, 35] })
    (b cap n : Nat) (xs us : List Value) (hs : a.eval s = .slice (some ⟨b, 0, none⟩) n cap) (hr : Row 22 w b cap xs) (hn : n = xs.length)
    (ad : Addr) (m c : Nat) (hx : a.eval x = .slice (some ad) m c) (hm : us.length = m) (hnews : ∀ j u, us[j]? = some u → w.cell? (ad.add j) = some u) (h1 : ∀ u ∈ us, u.oneCell' = true) (hb : xs.length ≤ 1000000000) (hb2 : us.length ≤ 1000000000)
    (h : ∀ b' cap' w', Row 22 w' b' cap' (xs ++ us) → (b' = b ∨ w.heap.size ≤ b') → Upd (· = b) w w' → wpList Try.prog ops Q rest (a.put o.dst (.slice (some ⟨b', 0, none⟩) (n + m) cap')) w') :
    wpList Try.prog ops Q (o :: rest) a w := by
  obtain ⟨i, hi, hz, hs1, hby⟩ := info_ints
  subst hn
  exact wpl_app hgd s x 35 ho 22 i (.slice none 0 0) Try.underlying35 hi hz hs1 rfl b cap xs.length xs hs hr rfl ad m c us hx hm hnews h1 (by rw [hby]; omega) (by unfold maxLen; omega) h
def PutPost (B b : Nat) (L : List (List Int)) (p : List Int) (w : World) (e : Ending) (w' : World) : Prop :=
  ∃ b' c', e = .returned (.slice (some ⟨b', 0, none⟩) (putL L p).length c') ∧ RR B w'.heap.size w' b' c' (putL L p) ∧ (b' = b ∨ w.heap.size ≤ b') ∧ Upd (· = b) w w'
theorem one_news (w : World) (v : Value) : ∀ (j : Nat) (u : Value), [v][j]? = some u → (w.alloc (.cells #[v] 22)).cell? (Addr.add ⟨w.heap.size, 0, none⟩ j) = some u := by
  intro j u hj
  cases j with
  | zero => simp at hj; subst hj; exact World.cell?_alloc_at _ _ _ _ rfl
  | succ j => simp at hj
set_option maxHeartbeats 8000000 in
set_option maxRecDepth 30000 in
theorem l3Put_ok (B H b cap : Nat) (L : List (List Int)) (ad : Addr) (c : Nat) (p : List Int) (w : World) (hr : RR B H w b cap L) (hBb : B ≤ b) (hH : H ≤ w.heap.size) (hp : SI w (.slice (some ad) p.length c) p) (hl : L.length ≤ 1000000) (hpl : p.length ≤ 1000000) (hs : small L) :
    Calls Try.prog 91 #[.slice (some ⟨b, 0, none⟩) L.length cap, .slice (some ad) p.length c] w (PutPost B b L p w) := by
  have hRR := Lib.hid hr
  have HS := Lib.hid hs
  have hbl := hr.lt
  clear hr hs
  go_enter Try.func91, Try.ntmps91
  go_wp2_with fail
  go_loopw [5] (fun i wr => ∃ k : Nat, k ≤ L.length ∧ i = .int .i64 k ∧ Hid (atL L p k = putAt L p) ∧ Qt w wr) (fun i _ => (intOf i).toNat)
  case atStart => exact ⟨L.length, Nat.le_refl _, rfl, Lib.hid rfl, Qt.refl _⟩
  case round =>
    obtain ⟨k, hk, rfl, hat, hq⟩ := hrel
    have hRR' := Lib.hid (hRR.out.ext hq.ext)
    have hp' := Lib.hid (hp.ext hq.ext)
    cases k with
    | zero =>
      have HPL : Hid (putL L p = L.take 0 ++ p :: L.drop 0) := hitB_f (k := 0) hat.out (by omega)
      obtain ⟨w2, hw2⟩ : ∃ w2, w2 = wr := ⟨_, rfl⟩
      subst hw2
      have hRR2 := hRR'
      have hp2 := hp'
      clear hat
      obtain ⟨vs, h1, h2, h3, h4, h5⟩ := hRR2.out
      have hvl := h2.len
      have H2 := Lib.hid h2
      have H3 := Lib.hid h3
      have hcp := h1.le
      have hsz := hq.ext.size
      have HR0 := Lib.hid (Row.new 22 w2 [] (by simp))
      have HNW : Hid (∀ j u, (vs.drop 0)[j]? = some u → (w2.alloc (.cells #[] 22)).cell? (Addr.add ⟨b, 0, none⟩ j) = some u) := fun j u hj => by
        refine Ext.cell (Upd.alloc _ _ _) ?_
        rw [Addr.add_lit]
        first | (simp at hj; done) | (have := h1.cell (j := 0 + j) (v := u) (by rw [List.getElem?_drop] at hj; exact hj); simpa using this)
      have HML : Hid ((vs.drop 0).length = L.length) := by show _ = _; simp <;> omega
      have HO0 : ∀ u ∈ vs, u.oneCell' = true := fun u hu => by
        obtain ⟨k, hk, e⟩ := mem_nthV hu
        rw [← e]; exact (h2.el k (by omega)).cell1
      have HO1 : Hid (∀ u ∈ vs.drop 0, u.oneCell' = true) := fun u hu => by first | exact HO0 u (List.mem_of_mem_drop hu) | exact absurd hu (by simp)
      clear HO0
      have HU9 : Hid ((vs.drop 0).length ≤ 1000000000) := by show _ ≤ _; rw [HML.out]; omega
      have HSH := Lib.hid (h1.shrink (0))
      have HTL : Hid ((vs.take (0)).length = 0) := by show _ = _; rw [List.length_take]; omega
      have HVD : Hid (vs.drop 0 = vs.drop (0)) := by
        show _ = _
        first | rfl | (symm; apply List.drop_eq_nil_of_le; omega)
      have hb2 : b < w2.heap.size := h1.lt
      clear h1 h2 h3
      go_wp2_with (at_builtin; go_loud (refine wpl_appV rfl _ _ rfl w2.heap.size 0 0 [] (vs.drop 0) rfl HR0.out rfl ⟨b, 0, none⟩ (L.length) _ rfl HML.out HNW.out HO1.out (by simp) HU9.out ?_); intro br cr w6 hr6 hb6 hu6)
      have hz6 := hu6.size
      simp at hz6
      have hbr : w2.heap.size ≤ br := by rcases hb6 with e | e <;> (try simp at e) <;> omega
      have hE6 : Hid (Ext w2 w6) := ((Ext.refl w2).alloc _).upd1 hu6 (Nat.le_refl _)
      have hbb6 : br ≠ b := by omega
      have HR6 := Lib.hid hr6
      have HP6 := Lib.hid ((hp2.out).ext hE6.out)
      have HSH6 := Lib.hid (HSH.out.ext hE6.out)
      have HRI0 := Lib.hid (Row.new 3 w6 [] (by simp))
      have HRIP : Hid (RI w6 (some ad) p) := by
        obtain ⟨a', c', e, _, _, _, h6⟩ := HP6.out
        injection e with e1 _ _
        rw [e1]; exact h6
      have hbr6 := hr6.lt
      clear hr6 hu6 hb6 HR0 HSH
      have i1 : (0 : Int) ≤ ((cap : Nat) : Int) := by omega
      have i2 : (0 : Int) ≤ (0 : Int) := by omega
      have i3 : ((0 : Int)).toNat = 0 := by omega
      go_region_law (first
        | (refine step_appSrc (by rfl) (.tmp 42) (.tmp 43) (by rfl) w6.heap.size 0 0 [] p (by rfl) (HRI0.out.ext (Upd.drew _ _)) (by rfl) ad _ _ (by rfl) (by rfl) ((HRIP.out.ext (Upd.alloc _ _ _)).ext (Upd.drew _ _)) (by simp) (by omega) ?_; intro b7 c7 w7 hr7 hb7 hu7; have hz7 := hu7.size; have hE7 : Hid (Ext w6 w7) := (((Ext.refl w6).alloc _).drew).upd1 hu7 (Nat.le_refl _); have hb7' : w6.heap.size ≤ b7 := (by rcases hb7 with e | e <;> (try simp at e) <;> omega); have hl7 := hr7.lt; have HR7 := Lib.hid (HR6.out.ext hE7.out); have HS7 := Lib.hid (HSH6.out.ext hE7.out))
        | (go_loud (refine step_appV (by rfl) (.tmp 41) (.tmp 45) (by rfl) b (cap) _ (vs.take (0)) [.slice (some ⟨b7, 0, none⟩) p.length c7] (by rfl) (HS7.out.ext (Upd.alloc _ _ _)) HTL.out.symm ⟨w7.heap.size, 0, none⟩ 1 1 (by rfl) (by rfl) (one_news _ _) (by simp [Value.oneCell']) (by rw [HTL.out]; omega) (by simp) ?_); intro b8 c8 w8 hr8 hb8 hu8; have hz8 := hu8.size; have hU8 : Hid (Upd (· = b) w7 w8) := (Upd.alloc w7 _ _).trans hu8)
        | (go_loud (refine step_appV (by rfl) (.tmp 46) (.tmp 47) (by rfl) b8 c8 _ _ ([] ++ vs.drop 0) (by rfl) hr8 (by rw [List.length_append, HTL.out]; rfl) ⟨br, 0, none⟩ _ cr (by rfl) (by rw [List.nil_append]; exact HML.out) (fun j u hj => by rw [Addr.add_lit, Nat.zero_add]; exact hU8.out.cell (HR7.out.cell hj) hbb6) (fun u hu => HO1.out u (by rw [List.nil_append] at hu; exact hu)) (by rw [List.length_append, HTL.out]; simp <;> omega) (by rw [List.nil_append]; exact HU9.out) ?_); intro b9 c9 w9 hr9 hb9 hu9))
      all_goals
        have HPL9 := HPL.out
        have hz9 := hu9.size
        have hE7' : Ext w2 w7 := hE6.out.trans hE7.out
        have hu79 : Upd (fun k => k = b ∨ w7.heap.size ≤ k) w7 w9 := (hU8.out.mono (fun i _ h => .inl h)).comp hu9 (fun _ _ h => h) (fun i hi e => by rcases hb8 with h | h <;> (try simp at h) <;> omega)
        have hu29 : Upd (· = b) w2 w9 := hE7'.comp hu79 (fun _ _ h => by cases h) (fun i hi e => by have := hE7'.size; rcases e with e | e <;> omega)
        have hr7' := hr7.upd hu79 (fun e => by omega)
        have hv9 : OI B w9.heap.size w9 (.slice (some ⟨b7, 0, none⟩) p.length c7) p := OI.row (by simpa using hr7') (by omega) (by simp)
        have hb89 : (b8 = b ∨ w7.heap.size ≤ b8) := by rcases hb8 with h | h <;> (try simp at h) <;> omega
        have hb99 : (b9 = b ∨ w7.heap.size ≤ b9) := by have := hU8.out.size; rcases hb9 with h | h <;> rcases hb89 with h2 | h2 <;> omega
        have hr9l := hr9.lt
        have hsz' := hu29.size
        have els := H2.out.upd hu29 (fun i c hi hc e => H3.out i hi (by rw [hc, e]))
        have els2 := els.insert hv9 (by omega) (fun c hc => by simp [Value.ownBlock] at hc; omega) (t := 0) (by omega)
        have eqr : vs.take (0) ++ [.slice (some ⟨b7, 0, none⟩) p.length c7] ++ ([] ++ vs.drop 0) = vs.take (0) ++ .slice (some ⟨b7, 0, none⟩) p.length c7 :: vs.drop (0) := by first | (rw [HVD.out]; simp; done) | (simp; done) | (simp; omega)
        rw [eqr] at hr9
        have hne : ∀ i, i < (L.take (0) ++ p :: L.drop (0)).length → (nthV (vs.take (0) ++ .slice (some ⟨b7, 0, none⟩) p.length c7 :: vs.drop (0)) i).ownBlock ≠ some b9 := by
          intro i hi hc
          have hmem := nthV_mem (vs := vs.take (0) ++ .slice (some ⟨b7, 0, none⟩) p.length c7 :: vs.drop (0)) (k := i) (by rw [els2.len]; exact hi)
          have key : ∀ u, u ∈ vs → u.ownBlock ≠ some b9 := by
            intro u hu hc
            obtain ⟨k, hk, e⟩ := mem_nthV hu
            rw [← e] at hc
            have h8 := (H2.out.el k (by omega)).own hc
            have hne := H3.out k (by omega)
            rcases hb99 with e9 | e9
            · rw [e9] at hc; exact hne hc
            · have := hE7'.size; omega
          rcases List.mem_append.1 hmem with h | h
          · exact key _ (List.mem_of_mem_take h) hc
          · rcases List.mem_cons.1 h with h | h
            · rw [h] at hc; simp [Value.ownBlock] at hc; omega
            · exact key _ (List.mem_of_mem_drop h) hc
        have hRR9 : RR B w9.heap.size w9 b9 c9 (putL L p) := by
          rw [HPL9]; exact ⟨_, hr9, els2, hne, by have := H2.out.len; rcases hb99 with e | e <;> omega, hr9l⟩
        have hlen : (putL L p).length = 0 + 1 + (L.length) := by rw [HPL9]; simp [hvl.symm]; omega
        have HRR9 := Lib.hid hRR9
        have HLEN := Lib.hid hlen
        have HU := Lib.hid ((Ext.toUpd hq.ext (· = b)).trans hu29)
        clear hRR9 hlen hne eqr els els2 hr9 hu79 hu29 HPL9
        go_wp2_with fail
        go_ret
        exact ⟨b9, c9, by rw [HLEN.out]; rfl, HRR9.out, by rcases hb99 with e | e <;> omega, HU.out⟩
    | succ k =>
      obtain ⟨u, hu, hou⟩ := hRR'.out.get (k := k) (by omega)
      have hsm := HS.out.nth (k := k) (by omega)
      obtain ⟨pu, cu, rfl⟩ := hou.shape
      have HOU := Lib.hid hou
      clear hou
      cases hbf : befB p (nthL L k)
      · have HB := Lib.hid hbf
        have HA := Lib.hid ((atL_f hbf).symm.trans hat.out)
        clear hbf
        go_upto_region 4 with (go_at_call 87; refine (l2BeforeB_ok _ _ p (nthL L k) _ hp'.out HOU.out.si (by omega)).mono ?_; rintro e w1 ⟨rfl, q1⟩; rw [HB.out])
        have hu1 := q1.ext.cell hu id
        by_cases hsame : nthL L k = p
        · have HPL := Lib.hid (hitB_t HA.out hsame)
          have HSM := Lib.hid hsame
          clear hsame
          go_wp2_with (go_at_call 26; refine (l2Same_ok _ _ (nthL L k) p _ (HOU.out.si.ext q1.ext) (hp'.out.ext q1.ext) (by omega)).mono ?_; rintro e w2 ⟨rfl, q2⟩; rw [decide_eq_true HSM.out])
          go_ret
          exact ⟨b, cap, by rw [HPL.out]; rfl, by rw [HPL.out]; exact ((hRR'.out.ext q1.ext).ext q2.ext).mono (by have := ((hq.trans q1).trans q2).ext.size; omega), .inl rfl, Ext.toUpd ((hq.trans q1).trans q2).ext _⟩
        · have HPL : Hid (putL L p = L.take (k + 1) ++ p :: L.drop (k + 1)) := hitB_f (k := k + 1) HA.out (fun e => hsame (by simpa using e.2))
          have HNS := Lib.hid hsame
          clear hsame
          go_upto_region 6 with (go_at_call 26; refine (l2Same_ok _ _ (nthL L k) p _ (HOU.out.si.ext q1.ext) (hp'.out.ext q1.ext) (by omega)).mono ?_; rintro e w2 ⟨rfl, q2⟩; rw [decide_eq_false HNS.out])
          have hRR2 := Lib.hid ((hRR'.out.ext q1.ext).ext q2.ext)
          have hp2 := Lib.hid ((hp'.out.ext q1.ext).ext q2.ext)
          have hq2 := (hq.trans q1).trans q2
          have ik : (k : Int) + 1 ≤ (L.length : Int) := by omega
          clear hat HA hu hu1 HOU hRR' hp' HNS HB
          have hlc : (L.length : Int) ≤ (cap : Int) := by obtain ⟨vs, h1, h2, _⟩ := hRR2.out; have := h1.le; rw [h2.len] at this; omega
          by_cases hck : cap = k + 1
          · obtain rfl : cap = k + 1 := hck
            obtain ⟨vs, h1, h2, h3, h4, h5⟩ := hRR2.out
            have hvl := h2.len
            have H2 := Lib.hid h2
            have H3 := Lib.hid h3
            have hcp := h1.le
            have hsz := hq2.ext.size
            have HR0 := Lib.hid (Row.new 22 w2 [] (by simp))
            have HNW : Hid (∀ j u, (([] : List Value))[j]? = some u → (w2.alloc (.cells #[] 22)).cell? (Addr.add ⟨b, 0, none⟩ j) = some u) := fun j u hj => by
              refine Ext.cell (Upd.alloc _ _ _) ?_
              rw [Addr.add_lit]
              first | (simp at hj; done) | (have := h1.cell (j := k + 1 + j) (v := u) (by rw [List.getElem?_drop] at hj; exact hj); simpa using this)
            have HML : Hid ((([] : List Value)).length = L.length - (k + 1)) := by show _ = _; simp <;> omega
            have HO0 : ∀ u ∈ vs, u.oneCell' = true := fun u hu => by
              obtain ⟨k, hk, e⟩ := mem_nthV hu
              rw [← e]; exact (h2.el k (by omega)).cell1
            have HO1 : Hid (∀ u ∈ ([] : List Value), u.oneCell' = true) := fun u hu => by first | exact HO0 u (List.mem_of_mem_drop hu) | exact absurd hu (by simp)
            clear HO0
            have HU9 : Hid ((([] : List Value)).length ≤ 1000000000) := by show _ ≤ _; rw [HML.out]; omega
            have HSH := Lib.hid (h1.shrink (k + 1))
            have HTL : Hid ((vs.take (k + 1)).length = k + 1) := by show _ = _; rw [List.length_take]; omega
            have HVD : Hid (([] : List Value) = vs.drop (k + 1)) := by
              show _ = _
              first | rfl | (symm; apply List.drop_eq_nil_of_le; omega)
            have hb2 : b < w2.heap.size := h1.lt
            clear h1 h2 h3
            go_wp2_with (at_builtin; go_loud (refine wpl_appV rfl _ _ rfl w2.heap.size 0 0 [] (([] : List Value)) rfl HR0.out rfl ⟨b, 0, none⟩ (L.length - (k + 1)) _ rfl HML.out HNW.out HO1.out (by simp) HU9.out ?_); intro br cr w6 hr6 hb6 hu6)
            have hz6 := hu6.size
            simp at hz6
            have hbr : w2.heap.size ≤ br := by rcases hb6 with e | e <;> (try simp at e) <;> omega
            have hE6 : Hid (Ext w2 w6) := ((Ext.refl w2).alloc _).upd1 hu6 (Nat.le_refl _)
            have hbb6 : br ≠ b := by omega
            have HR6 := Lib.hid hr6
            have HP6 := Lib.hid ((hp2.out).ext hE6.out)
            have HSH6 := Lib.hid (HSH.out.ext hE6.out)
            have HRI0 := Lib.hid (Row.new 3 w6 [] (by simp))
            have HRIP : Hid (RI w6 (some ad) p) := by
              obtain ⟨a', c', e, _, _, _, h6⟩ := HP6.out
              injection e with e1 _ _
              rw [e1]; exact h6
            have hbr6 := hr6.lt
            clear hr6 hu6 hb6 HR0 HSH
            have i1 : (k + 1 : Int) ≤ ((k + 1 : Nat) : Int) := by omega
            have i2 : (0 : Int) ≤ (k + 1 : Int) := by omega
            have i3 : ((k + 1 : Int)).toNat = k + 1 := by omega
            go_region_law (first
              | (refine step_appSrc (by rfl) (.tmp 42) (.tmp 43) (by rfl) w6.heap.size 0 0 [] p (by rfl) (HRI0.out.ext (Upd.drew _ _)) (by rfl) ad _ _ (by rfl) (by rfl) ((HRIP.out.ext (Upd.alloc _ _ _)).ext (Upd.drew _ _)) (by simp) (by omega) ?_; intro b7 c7 w7 hr7 hb7 hu7; have hz7 := hu7.size; have hE7 : Hid (Ext w6 w7) := (((Ext.refl w6).alloc _).drew).upd1 hu7 (Nat.le_refl _); have hb7' : w6.heap.size ≤ b7 := (by rcases hb7 with e | e <;> (try simp at e) <;> omega); have hl7 := hr7.lt; have HR7 := Lib.hid (HR6.out.ext hE7.out); have HS7 := Lib.hid (HSH6.out.ext hE7.out))
              | (go_loud (refine step_appV (by rfl) (.tmp 41) (.tmp 45) (by rfl) b (k + 1) _ (vs.take (k + 1)) [.slice (some ⟨b7, 0, none⟩) p.length c7] (by rfl) (HS7.out.ext (Upd.alloc _ _ _)) HTL.out.symm ⟨w7.heap.size, 0, none⟩ 1 1 (by rfl) (by rfl) (one_news _ _) (by simp [Value.oneCell']) (by rw [HTL.out]; omega) (by simp) ?_); intro b8 c8 w8 hr8 hb8 hu8; have hz8 := hu8.size; have hU8 : Hid (Upd (· = b) w7 w8) := (Upd.alloc w7 _ _).trans hu8)
              | (go_loud (refine step_appV (by rfl) (.tmp 46) (.tmp 47) (by rfl) b8 c8 _ _ ([] ++ ([] : List Value)) (by rfl) hr8 (by rw [List.length_append, HTL.out]; rfl) ⟨br, 0, none⟩ _ cr (by rfl) (by rw [List.nil_append]; exact HML.out) (fun j u hj => by rw [Addr.add_lit, Nat.zero_add]; exact hU8.out.cell (HR7.out.cell hj) hbb6) (fun u hu => HO1.out u (by rw [List.nil_append] at hu; exact hu)) (by rw [List.length_append, HTL.out]; simp <;> omega) (by rw [List.nil_append]; exact HU9.out) ?_); intro b9 c9 w9 hr9 hb9 hu9))
            all_goals
              have HPL9 := HPL.out
              have hz9 := hu9.size
              have hE7' : Ext w2 w7 := hE6.out.trans hE7.out
              have hu79 : Upd (fun k => k = b ∨ w7.heap.size ≤ k) w7 w9 := (hU8.out.mono (fun i _ h => .inl h)).comp hu9 (fun _ _ h => h) (fun i hi e => by rcases hb8 with h | h <;> (try simp at h) <;> omega)
              have hu29 : Upd (· = b) w2 w9 := hE7'.comp hu79 (fun _ _ h => by cases h) (fun i hi e => by have := hE7'.size; rcases e with e | e <;> omega)
              have hr7' := hr7.upd hu79 (fun e => by omega)
              have hv9 : OI B w9.heap.size w9 (.slice (some ⟨b7, 0, none⟩) p.length c7) p := OI.row (by simpa using hr7') (by omega) (by simp)
              have hb89 : (b8 = b ∨ w7.heap.size ≤ b8) := by rcases hb8 with h | h <;> (try simp at h) <;> omega
              have hb99 : (b9 = b ∨ w7.heap.size ≤ b9) := by have := hU8.out.size; rcases hb9 with h | h <;> rcases hb89 with h2 | h2 <;> omega
              have hr9l := hr9.lt
              have hsz' := hu29.size
              have els := H2.out.upd hu29 (fun i c hi hc e => H3.out i hi (by rw [hc, e]))
              have els2 := els.insert hv9 (by omega) (fun c hc => by simp [Value.ownBlock] at hc; omega) (t := k + 1) (by omega)
              have eqr : vs.take (k + 1) ++ [.slice (some ⟨b7, 0, none⟩) p.length c7] ++ ([] ++ ([] : List Value)) = vs.take (k + 1) ++ .slice (some ⟨b7, 0, none⟩) p.length c7 :: vs.drop (k + 1) := by first | (rw [HVD.out]; simp; done) | (simp; done) | (simp; omega)
              rw [eqr] at hr9
              have hne : ∀ i, i < (L.take (k + 1) ++ p :: L.drop (k + 1)).length → (nthV (vs.take (k + 1) ++ .slice (some ⟨b7, 0, none⟩) p.length c7 :: vs.drop (k + 1)) i).ownBlock ≠ some b9 := by
                intro i hi hc
                have hmem := nthV_mem (vs := vs.take (k + 1) ++ .slice (some ⟨b7, 0, none⟩) p.length c7 :: vs.drop (k + 1)) (k := i) (by rw [els2.len]; exact hi)
                have key : ∀ u, u ∈ vs → u.ownBlock ≠ some b9 := by
                  intro u hu hc
                  obtain ⟨k, hk, e⟩ := mem_nthV hu
                  rw [← e] at hc
                  have h8 := (H2.out.el k (by omega)).own hc
                  have hne := H3.out k (by omega)
                  rcases hb99 with e9 | e9
                  · rw [e9] at hc; exact hne hc
                  · have := hE7'.size; omega
                rcases List.mem_append.1 hmem with h | h
                · exact key _ (List.mem_of_mem_take h) hc
                · rcases List.mem_cons.1 h with h | h
                  · rw [h] at hc; simp [Value.ownBlock] at hc; omega
                  · exact key _ (List.mem_of_mem_drop h) hc
              have hRR9 : RR B w9.heap.size w9 b9 c9 (putL L p) := by
                rw [HPL9]; exact ⟨_, hr9, els2, hne, by have := H2.out.len; rcases hb99 with e | e <;> omega, hr9l⟩
              have hlen : (putL L p).length = k + 1 + 1 + (L.length - (k + 1)) := by rw [HPL9]; simp [hvl.symm]; omega
              have HRR9 := Lib.hid hRR9
              have HLEN := Lib.hid hlen
              have HU := Lib.hid ((Ext.toUpd hq2.ext (· = b)).trans hu29)
              clear hRR9 hlen hne eqr els els2 hr9 hu79 hu29 HPL9
              go_wp2_with fail
              go_ret
              exact ⟨b9, c9, by rw [HLEN.out]; rfl, HRR9.out, by rcases hb99 with e | e <;> omega, HU.out⟩
          ·
            obtain ⟨vs, h1, h2, h3, h4, h5⟩ := hRR2.out
            have hvl := h2.len
            have H2 := Lib.hid h2
            have H3 := Lib.hid h3
            have hcp := h1.le
            have hsz := hq2.ext.size
            have HR0 := Lib.hid (Row.new 22 w2 [] (by simp))
            have HNW : Hid (∀ j u, (vs.drop (k + 1))[j]? = some u → (w2.alloc (.cells #[] 22)).cell? (Addr.add ⟨b, k + 1, none⟩ j) = some u) := fun j u hj => by
              refine Ext.cell (Upd.alloc _ _ _) ?_
              rw [Addr.add_lit]
              first | (simp at hj; done) | (have := h1.cell (j := k + 1 + j) (v := u) (by rw [List.getElem?_drop] at hj; exact hj); simpa using this)
            have HML : Hid ((vs.drop (k + 1)).length = L.length - (k + 1)) := by show _ = _; simp <;> omega
            have HO0 : ∀ u ∈ vs, u.oneCell' = true := fun u hu => by
              obtain ⟨k, hk, e⟩ := mem_nthV hu
              rw [← e]; exact (h2.el k (by omega)).cell1
            have HO1 : Hid (∀ u ∈ vs.drop (k + 1), u.oneCell' = true) := fun u hu => by first | exact HO0 u (List.mem_of_mem_drop hu) | exact absurd hu (by simp)
            clear HO0
            have HU9 : Hid ((vs.drop (k + 1)).length ≤ 1000000000) := by show _ ≤ _; rw [HML.out]; omega
            have HSH := Lib.hid (h1.shrink (k + 1))
            have HTL : Hid ((vs.take (k + 1)).length = k + 1) := by show _ = _; rw [List.length_take]; omega
            have HVD : Hid (vs.drop (k + 1) = vs.drop (k + 1)) := by
              show _ = _
              first | rfl | (symm; apply List.drop_eq_nil_of_le; omega)
            have hb2 : b < w2.heap.size := h1.lt
            clear h1 h2 h3
            go_wp2_with (at_builtin; go_loud (refine wpl_appV rfl _ _ rfl w2.heap.size 0 0 [] (vs.drop (k + 1)) rfl HR0.out rfl ⟨b, k + 1, none⟩ (L.length - (k + 1)) _ rfl HML.out HNW.out HO1.out (by simp) HU9.out ?_); intro br cr w6 hr6 hb6 hu6)
            have hz6 := hu6.size
            simp at hz6
            have hbr : w2.heap.size ≤ br := by rcases hb6 with e | e <;> (try simp at e) <;> omega
            have hE6 : Hid (Ext w2 w6) := ((Ext.refl w2).alloc _).upd1 hu6 (Nat.le_refl _)
            have hbb6 : br ≠ b := by omega
            have HR6 := Lib.hid hr6
            have HP6 := Lib.hid ((hp2.out).ext hE6.out)
            have HSH6 := Lib.hid (HSH.out.ext hE6.out)
            have HRI0 := Lib.hid (Row.new 3 w6 [] (by simp))
            have HRIP : Hid (RI w6 (some ad) p) := by
              obtain ⟨a', c', e, _, _, _, h6⟩ := HP6.out
              injection e with e1 _ _
              rw [e1]; exact h6
            have hbr6 := hr6.lt
            clear hr6 hu6 hb6 HR0 HSH
            have i1 : (k + 1 : Int) ≤ ((cap : Nat) : Int) := by omega
            have i2 : (0 : Int) ≤ (k + 1 : Int) := by omega
            have i3 : ((k + 1 : Int)).toNat = k + 1 := by omega
            go_region_law (first
              | (refine step_appSrc (by rfl) (.tmp 42) (.tmp 43) (by rfl) w6.heap.size 0 0 [] p (by rfl) (HRI0.out.ext (Upd.drew _ _)) (by rfl) ad _ _ (by rfl) (by rfl) ((HRIP.out.ext (Upd.alloc _ _ _)).ext (Upd.drew _ _)) (by simp) (by omega) ?_; intro b7 c7 w7 hr7 hb7 hu7; have hz7 := hu7.size; have hE7 : Hid (Ext w6 w7) := (((Ext.refl w6).alloc _).drew).upd1 hu7 (Nat.le_refl _); have hb7' : w6.heap.size ≤ b7 := (by rcases hb7 with e | e <;> (try simp at e) <;> omega); have hl7 := hr7.lt; have HR7 := Lib.hid (HR6.out.ext hE7.out); have HS7 := Lib.hid (HSH6.out.ext hE7.out))
              | (go_loud (refine step_appV (by rfl) (.tmp 41) (.tmp 45) (by rfl) b (cap) _ (vs.take (k + 1)) [.slice (some ⟨b7, 0, none⟩) p.length c7] (by rfl) (HS7.out.ext (Upd.alloc _ _ _)) HTL.out.symm ⟨w7.heap.size, 0, none⟩ 1 1 (by rfl) (by rfl) (one_news _ _) (by simp [Value.oneCell']) (by rw [HTL.out]; omega) (by simp) ?_); intro b8 c8 w8 hr8 hb8 hu8; have hz8 := hu8.size; have hU8 : Hid (Upd (· = b) w7 w8) := (Upd.alloc w7 _ _).trans hu8)
              | (go_loud (refine step_appV (by rfl) (.tmp 46) (.tmp 47) (by rfl) b8 c8 _ _ ([] ++ vs.drop (k + 1)) (by rfl) hr8 (by rw [List.length_append, HTL.out]; rfl) ⟨br, 0, none⟩ _ cr (by rfl) (by rw [List.nil_append]; exact HML.out) (fun j u hj => by rw [Addr.add_lit, Nat.zero_add]; exact hU8.out.cell (HR7.out.cell hj) hbb6) (fun u hu => HO1.out u (by rw [List.nil_append] at hu; exact hu)) (by rw [List.length_append, HTL.out]; simp <;> omega) (by rw [List.nil_append]; exact HU9.out) ?_); intro b9 c9 w9 hr9 hb9 hu9))
            all_goals
              have HPL9 := HPL.out
              have hz9 := hu9.size
              have hE7' : Ext w2 w7 := hE6.out.trans hE7.out
              have hu79 : Upd (fun k => k = b ∨ w7.heap.size ≤ k) w7 w9 := (hU8.out.mono (fun i _ h => .inl h)).comp hu9 (fun _ _ h => h) (fun i hi e => by rcases hb8 with h | h <;> (try simp at h) <;> omega)
              have hu29 : Upd (· = b) w2 w9 := hE7'.comp hu79 (fun _ _ h => by cases h) (fun i hi e => by have := hE7'.size; rcases e with e | e <;> omega)
              have hr7' := hr7.upd hu79 (fun e => by omega)
              have hv9 : OI B w9.heap.size w9 (.slice (some ⟨b7, 0, none⟩) p.length c7) p := OI.row (by simpa using hr7') (by omega) (by simp)
              have hb89 : (b8 = b ∨ w7.heap.size ≤ b8) := by rcases hb8 with h | h <;> (try simp at h) <;> omega
              have hb99 : (b9 = b ∨ w7.heap.size ≤ b9) := by have := hU8.out.size; rcases hb9 with h | h <;> rcases hb89 with h2 | h2 <;> omega
              have hr9l := hr9.lt
              have hsz' := hu29.size
              have els := H2.out.upd hu29 (fun i c hi hc e => H3.out i hi (by rw [hc, e]))
              have els2 := els.insert hv9 (by omega) (fun c hc => by simp [Value.ownBlock] at hc; omega) (t := k + 1) (by omega)
              have eqr : vs.take (k + 1) ++ [.slice (some ⟨b7, 0, none⟩) p.length c7] ++ ([] ++ vs.drop (k + 1)) = vs.take (k + 1) ++ .slice (some ⟨b7, 0, none⟩) p.length c7 :: vs.drop (k + 1) := by first | (rw [HVD.out]; simp; done) | (simp; done) | (simp; omega)
              rw [eqr] at hr9
              have hne : ∀ i, i < (L.take (k + 1) ++ p :: L.drop (k + 1)).length → (nthV (vs.take (k + 1) ++ .slice (some ⟨b7, 0, none⟩) p.length c7 :: vs.drop (k + 1)) i).ownBlock ≠ some b9 := by
                intro i hi hc
                have hmem := nthV_mem (vs := vs.take (k + 1) ++ .slice (some ⟨b7, 0, none⟩) p.length c7 :: vs.drop (k + 1)) (k := i) (by rw [els2.len]; exact hi)
                have key : ∀ u, u ∈ vs → u.ownBlock ≠ some b9 := by
                  intro u hu hc
                  obtain ⟨k, hk, e⟩ := mem_nthV hu
                  rw [← e] at hc
                  have h8 := (H2.out.el k (by omega)).own hc
                  have hne := H3.out k (by omega)
                  rcases hb99 with e9 | e9
                  · rw [e9] at hc; exact hne hc
                  · have := hE7'.size; omega
                rcases List.mem_append.1 hmem with h | h
                · exact key _ (List.mem_of_mem_take h) hc
                · rcases List.mem_cons.1 h with h | h
                  · rw [h] at hc; simp [Value.ownBlock] at hc; omega
                  · exact key _ (List.mem_of_mem_drop h) hc
              have hRR9 : RR B w9.heap.size w9 b9 c9 (putL L p) := by
                rw [HPL9]; exact ⟨_, hr9, els2, hne, by have := H2.out.len; rcases hb99 with e | e <;> omega, hr9l⟩
              have hlen : (putL L p).length = k + 1 + 1 + (L.length - (k + 1)) := by rw [HPL9]; simp [hvl.symm]; omega
              have HRR9 := Lib.hid hRR9
              have HLEN := Lib.hid hlen
              have HU := Lib.hid ((Ext.toUpd hq2.ext (· = b)).trans hu29)
              clear hRR9 hlen hne eqr els els2 hr9 hu79 hu29 HPL9
              go_wp2_with fail
              go_ret
              exact ⟨b9, c9, by rw [HLEN.out]; rfl, HRR9.out, by rcases hb99 with e | e <;> omega, HU.out⟩
      · have HB := Lib.hid hbf
        have HA := Lib.hid (atL_t hbf)
        clear hbf
        go_wp2_with (go_at_call 87; refine (l2BeforeB_ok _ _ p (nthL L k) _ hp'.out HOU.out.si (by omega)).mono ?_; rintro e w1 ⟨rfl, q1⟩; rw [HB.out])
        go_roundw
        case rel => exact ⟨k, by omega, by go_num, Lib.hid (HA.out.symm.trans hat.out), hq.trans q1⟩
        case measure => simp [intOf]; try omega
end Go.Proofs.Ytcifngcmdiokpaa
