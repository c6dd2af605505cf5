/- The permutation of a word: contracts of WordPerm and IsReduced, the program's and the reference's. Conditions: lengths below a bound. -/
import Derived.Test.YtmnbdphfoonleaaInv
import Derived.Test.YtmnbdphfoonleaaFunc
import Derived.Test.YtmnbdphfoonleaaBd
namespace Go.Proofs.Ytmnbdphfoonleaa
open Go.RowKit

def wsw (ys : List Int) (i : Nat) : List Int := (ys.set (i - 1) (nth ys i)).set i (nth ys (i - 1))
def wStep (ys : List Int) (v : Int) : List Int := wsw ys v.toNat
def wRun (n : Nat) (word : List Int) : List Int := word.foldl wStep (idL n)
def wokB (n : Int) (word : List Int) : Bool := decide (1 ≤ n ∧ n ≤ 8 ∧ word.length ≤ 40) && word.all (fun i => decide (1 ≤ i ∧ i < n))
def wpL (n : Int) (word : List Int) : List Int := bif wokB n word then wRun n.toNat word else []
def irB (n : Int) (word : List Int) : Bool := wokB n word && decide (inv (wRun n.toNat word) = word.length)
theorem wsw_len (ys : List Int) (i : Nat) : (wsw ys i).length = ys.length := by simp [wsw]
theorem foldl_wlen (word : List Int) : ∀ ys : List Int, (word.foldl wStep ys).length = ys.length := by
  induction word with
  | nil => intro ys; rfl
  | cons v word ih => intro ys; rw [List.foldl_cons, ih]; exact wsw_len _ _
theorem wRun_len (n : Nat) (word : List Int) : (wRun n word).length = n := by unfold wRun; rw [foldl_wlen, idL_len]
theorem wRun_take {word : List Int} {k : Nat} (h : k < word.length) (n : Nat) : wRun n (word.take (k + 1)) = wStep (wRun n (word.take k)) (nth word k) := by rw [take_nth h]; simp [wRun, List.foldl_append]
theorem wok_true {n : Int} {word : List Int} (h : wokB n word = true) : 1 ≤ n ∧ n ≤ 8 ∧ word.length ≤ 40 ∧ ∀ i ∈ word, 1 ≤ i ∧ i < n := by
  simp only [wokB, Bool.and_eq_true, decide_eq_true_eq, List.all_eq_true] at h
  exact ⟨h.1.1, h.1.2.1, h.1.2.2, h.2⟩
theorem bound_WordPerm (n : Int) (word : List Int) (_h : word.length ≤ 1048576) : (wpL n word).length ≤ 1048576 := by
  unfold wpL
  cases h : wokB n word
  · simp
  · have := wok_true h; simp [wRun_len]; omega
theorem isP_of_perm {xs ys : List Int} (h : xs.Perm ys) (hp : IsP xs) : IsP ys :=
  ⟨fun x hx => by rw [← h.length_eq]; exact hp.1 x (h.mem_iff.2 hx), h.nodup_iff.1 hp.2⟩
theorem wsw_eq (ys : List Int) (i : Nat) (h1 : 1 ≤ i) : wsw ys i = (ys.set (i - 1) (nth ys ((i - 1) + 1))).set ((i - 1) + 1) (nth ys (i - 1)) := by
  unfold wsw; rw [Nat.sub_add_cancel h1]
theorem wsw_perm (ys : List Int) (i : Nat) (h1 : 1 ≤ i) (h : i < ys.length) : (wsw ys i).Perm ys := by
  rw [wsw_eq ys i h1, swap_set ys (i - 1) (by omega)]
  conv => rhs; rw [swap_split ys (i - 1) (by omega)]
  exact List.Perm.append_left _ (List.Perm.swap ..)
theorem wRun_isP {n : Nat} (word : List Int) (hw : ∀ i ∈ word, 1 ≤ i ∧ i < (n : Int)) : ∀ ys : List Int, ys.length = n → IsP ys → IsP (word.foldl wStep ys) := by
  induction word with
  | nil => intro ys _ h; exact h
  | cons v word ih =>
    intro ys hl hp
    have hv := hw v (List.mem_cons_self ..)
    exact ih (fun i hi => hw i (List.mem_cons_of_mem _ hi)) (wStep ys v) ((wsw_len _ _).trans hl) (isP_of_perm (wsw_perm ys v.toNat (by omega) (by omega)).symm hp)
theorem wRun_perm {n : Nat} {word : List Int} (hw : ∀ i ∈ word, 1 ≤ i ∧ i < (n : Int)) : IsP (wRun n word) := wRun_isP word hw (idL n) (idL_len n) (idL_isP n)

set_option maxHeartbeats 1000000 in
theorem wordPerm_ok (n : Nat) (v : Value) (word : List Int) (w : World) (hn : n ≤ 8) (h : SI w v word) (hl : word.length ≤ 1000) (hok : ∀ i ∈ word, 1 ≤ i ∧ i < (n : Int)) :
    Calls Try.prog 68 #[.int .i64 n, v] w fun e w' => ∃ b c, e = .returned (.slice (some ⟨b, 0, none⟩) n c) ∧ w.heap.size ≤ b ∧ Row 3 w' b c (vals (wRun n word)) ∧ Ext w w' := by
  obtain ⟨a, cap, rfl, hri⟩ := h.elim
  have HOK := Lib.hid hok
  clear hok h
  go_enter Try.func68, Try.ntmps68
  go_wp2_with fail
  refine (identity_ok n _ (by omega)).mono ?_
  rintro e w1 ⟨b, c, rfl, hb, hr0, he1⟩
  have hcl := hr0.le
  simp [idL_len] at hcl
  go_wp2_with fail
  go_loopw [12] (fun i wr => ∃ k : Nat, k ≤ word.length ∧ i = .int .i64 k ∧ Row 3 wr b c (vals (wRun n (word.take k))) ∧ Ext w wr) (fun i _ => word.length - (intOf i).toNat)
  case atStart => exact ⟨0, by omega, rfl, by simpa [wRun] using hr0, he1⟩
  case round =>
    obtain ⟨k, hk, rfl, hr, he⟩ := hrel
    clear hr0
    by_cases hlt : k < word.length
    · obtain ⟨b1, off1, rfl, hc⟩ := (hri.ext he).get hlt
      have hck := hc k hlt
      have hv := HOK.out _ (nth_mem hlt)
      obtain ⟨p, hp⟩ : ∃ p : Nat, nth word k = (p : Int) + 1 := ⟨(nth word k - 1).toNat, by omega⟩
      rw [hp] at hck hv
      obtain ⟨ys, hys⟩ : ∃ ys, ys = wRun n (word.take k) := ⟨_, rfl⟩
      have hst := wRun_take hlt n
      have hyl : ys.length = n := by rw [hys, wRun_len]
      have hsw : wStep ys (nth word k) = (ys.set p (nth ys (p + 1))).set (p + 1) (nth ys p) := by
        rw [hp]; unfold wStep wsw; rw [show ((p : Int) + 1).toNat = p + 1 by omega]; rfl
      rw [← hys] at hr hst
      rw [hsw] at hst
      have d0 := hr.icell (j := p) (by omega)
      have d1 := hr.icell (j := p + 1) (by omega)
      have f0 := hr.free p none
      have f1 := hr.free (p + 1) none
      have w1 : IntKind.i64.wrap ((p : Int) + 1 - 1) = (p : Int) := by rw [IntWalk.i64_in _ (by omega)]; omega
      have w2 : 0 ≤ (p : Int) + 1 := by omega
      have w3 : ((p : Int) + 1).toNat = p + 1 := by omega
      have w4 : (p : Int) + 1 < (n : Int) := by omega
      have w5 : (p : Int) < (n : Int) := by omega
      have w6 : (p : Int) + 1 - 1 = (p : Int) := by omega
      have hset := fun m => ((hr.ext (Upd.drewN wr m _)).set p (.int .i64 (nth ys (p + 1)))).set (p + 1) (.int .i64 (nth ys p))
      simp only [vals_set, ← hst] at hset
      have HS := Lib.hid hset
      have HU := Lib.hid (fun m => ((he.drewN m).setCell (p := ⟨b, p, none⟩) hb (.int .i64 (nth ys (p + 1)))).setCell (p := ⟨b, p + 1, none⟩) hb (.int .i64 (nth ys p)))
      clear hr hset hys hst hyl hsw hp hc hri
      go_wp2_with fail
      go_region
      clear w1 w3 w6
      go_wp2_with fail
      go_roundw
      case rel => exact ⟨k + 1, by omega, by go_num, (HS.out 0).ext (Upd.drew _ _), (HU.out 0).trans (Upd.drew _ _)⟩
      case measure => simp [intOf]; omega
    · obtain rfl : k = word.length := by omega
      rw [take_all (Nat.le_refl _)] at hr
      go_wp2_with fail
      go_ret
      exact ⟨_, _, rfl, hb, hr, he⟩
set_option maxHeartbeats 1000000 in
theorem l27Run_ok (n : Nat) (v : Value) (word : List Int) (w : World) (hn : n ≤ 8) (h : SI w v word) (hl : word.length ≤ 1000) (hok : ∀ i ∈ word, 1 ≤ i ∧ i < (n : Int)) :
    Calls Try.prog 70 #[.int .i64 n, v] w fun e w' => ∃ b c, e = .returned (.slice (some ⟨b, 0, none⟩) n c) ∧ w.heap.size ≤ b ∧ Row 3 w' b c (vals (wRun n word)) ∧ Ext w w' := by
  obtain ⟨a, cap, rfl, hri⟩ := h.elim
  have HOK := Lib.hid hok
  clear hok h
  go_enter Try.func70, Try.ntmps70
  go_wp2_with fail
  refine (identityPerm_ok n _ hn).mono ?_
  rintro e w1 ⟨b, c, rfl, hb, hr0, he1⟩
  have hcl := hr0.le
  simp [idL_len] at hcl
  go_wp2_with fail
  go_loopw [6] (fun i wr => ∃ k : Nat, k ≤ word.length ∧ i = .int .i64 k ∧ Row 3 wr b c (vals (wRun n (word.take k))) ∧ Ext w wr) (fun i _ => word.length - (intOf i).toNat)
  case atStart => exact ⟨0, by omega, rfl, by simpa [wRun] using hr0, he1⟩
  case round =>
    obtain ⟨k, hk, rfl, hr, he⟩ := hrel
    clear hr0
    by_cases hlt : k < word.length
    · obtain ⟨b1, off1, rfl, hc0⟩ := hri.get hlt
      have hbB : b1 < b := by have := World.block_lt_of_cell? _ _ (hc0 k hlt); simp at this; omega
      have hck := he.cell (hc0 k hlt)
      have hv := HOK.out _ (nth_mem hlt)
      obtain ⟨p, hp⟩ : ∃ p : Nat, nth word k = (p : Int) + 1 := ⟨(nth word k - 1).toNat, by omega⟩
      rw [hp] at hck hv
      obtain ⟨ys, hys⟩ : ∃ ys, ys = wRun n (word.take k) := ⟨_, rfl⟩
      have hst := wRun_take hlt n
      have hyl : ys.length = n := by rw [hys, wRun_len]
      have hsw : wStep ys (nth word k) = (ys.set p (nth ys (p + 1))).set (p + 1) (nth ys p) := by
        rw [hp]; unfold wStep wsw; rw [show ((p : Int) + 1).toNat = p + 1 by omega]; rfl
      rw [← hys] at hr hst
      rw [hsw] at hst
      have d0 := hr.icell (j := p) (by omega)
      have d1 := hr.icell (j := p + 1) (by omega)
      have f0 := hr.free p none
      have f1 := hr.free (p + 1) none
      have w1 : IntKind.i64.wrap ((p : Int) + 1 - 1) = (p : Int) := by rw [IntWalk.i64_in _ (by omega)]; omega
      have w2 : 0 ≤ (p : Int) + 1 := by omega
      have w3 : ((p : Int) + 1).toNat = p + 1 := by omega
      have w4 : (p : Int) + 1 < (n : Int) := by omega
      have w5 : (p : Int) < (n : Int) := by omega
      have w6 : (p : Int) + 1 - 1 = (p : Int) := by omega
      have hset := fun m => ((hr.ext (Upd.drewN wr m _)).set p (.int .i64 (nth ys (p + 1)))).set (p + 1) (.int .i64 (nth ys p))
      simp only [vals_set, ← hst] at hset
      have HS := Lib.hid hset
      have HU := Lib.hid (fun m => ((he.drewN m).setCell (p := ⟨b, p, none⟩) hb (.int .i64 (nth ys (p + 1)))).setCell (p := ⟨b, p + 1, none⟩) hb (.int .i64 (nth ys p)))
      clear hr hset hys hst hyl hsw hp hc0 hri
      go_wp2_with fail
      go_region
      go_wp2_with fail
      go_roundw
      case rel => exact ⟨k + 1, by omega, by go_num, (HS.out 0).ext (Upd.drew _ _), (HU.out 0).trans (Upd.drew _ _)⟩
      case measure => simp [intOf]; omega
    · obtain rfl : k = word.length := by omega
      rw [take_all (Nat.le_refl _)] at hr
      go_wp2_with fail
      go_ret
      exact ⟨_, _, rfl, hb, hr, he⟩
def wbad (n i : Int) : Bool := decide (i < 1 ∨ n ≤ i)
theorem wbad_any (n : Int) (word : List Int) : anyI (wbad n) word = !word.all (fun i => decide (1 ≤ i ∧ i < n)) := by
  unfold anyI
  induction word with
  | nil => rfl
  | cons x xs ih =>
    simp only [List.any_cons, List.all_cons, Bool.not_and, ih]
    congr 1
    simp only [wbad]
    by_cases h : 1 ≤ x ∧ x < n
    · rw [decide_eq_true h, decide_eq_false (by omega)]; rfl
    · rw [decide_eq_false h, decide_eq_true (by omega)]; rfl
set_option maxHeartbeats 400000 in
theorem wbad_ok (n x : Int) (bx : Nat) (w : World) (hx : w.cell? ⟨bx, 0, none⟩ = some (.int .i64 n)) : Calls Try.prog 67 #[.int .i64 x, .pointer (some ⟨bx, 0, none⟩)] w fun e w' => e = .returned (.bool (wbad n x)) ∧ Ext w w' := by
  by_cases h1 : x < 1
  · have e0 : wbad n x = true := by simp [wbad]; omega
    rw [e0]
    clear e0
    go_enter Try.func67, Try.ntmps67
    go_wp2
    go_ret
    exact ⟨rfl, Ext.refl _⟩
  · by_cases h2 : n ≤ x
    · have e0 : wbad n x = true := by simp [wbad]; omega
      rw [e0]
      clear e0
      go_enter Try.func67, Try.ntmps67
      go_wp2
      go_ret
      exact ⟨rfl, Ext.refl _⟩
    · have e0 : wbad n x = false := by simp [wbad]; omega
      rw [e0]
      clear e0
      go_enter Try.func67, Try.ntmps67
      go_wp2
      go_ret
      exact ⟨rfl, Ext.refl _⟩
set_option maxHeartbeats 1000000 in
theorem impl_WordPerm_ok (n : Int) (v : Value) (word : List Int) (w : World) (_hn : I64 n) (h : SI w v word) (hl : word.length ≤ 1048576) (_hb : I64s word) :
    Calls Try.prog 19 #[.int .i64 n, v] w fun e w' => ∃ v', e = .returned (.tuple #[v', .bool (wokB n word)]) ∧ OI w.heap.size w'.heap.size w' v' (wpL n word) ∧ Ext w w' := by
  obtain ⟨av, capv, rfl, -⟩ := h.elim
  have he0 : Ext w (w.alloc (.cells #[.int .i64 n] 3)) := Upd.alloc _ _ _
  have hcx0 : (w.alloc (.cells #[.int .i64 n] 3)).cell? ⟨w.heap.size, 0, none⟩ = some (.int .i64 n) := World.cell?_alloc_at _ _ _ _ rfl
  have h1 := h.ext he0
  by_cases hout : ¬ (1 ≤ n ∧ n ≤ 8 ∧ word.length ≤ 40)
  · have e0 : Hid (wokB n word = false) := by show _ = _; unfold wokB; rw [decide_eq_false hout]; rfl
    have e1 : Hid (wpL n word = []) := by show _ = _; simp [wpL, e0.out]
    have hc : n < 1 ∨ (¬ n < 1 ∧ 8 < n) ∨ (¬ n < 1 ∧ ¬ 8 < n ∧ 40 < word.length) := by omega
    clear hout
    rcases hc with hc | ⟨hc, hd⟩ | ⟨hc, hd, hf⟩
    all_goals
      go_enter Try.func19, Try.ntmps19
      go_wp2_with fail
      go_ret2
      rw [e0.out, e1.out]
      exact ⟨_, rfl, OI.nil _ _ _, he0⟩
  have hin : 1 ≤ n ∧ n ≤ 8 ∧ word.length ≤ 40 := by omega
  clear hout
  obtain ⟨m, rfl⟩ : ∃ m : Nat, n = (m : Int) := ⟨n.toNat, by omega⟩
  have hen : Enters 67 := enters_of Try.func67 rfl rfl
  have HEN := Lib.hid hen
  have hd := Lib.hid (decide_eq_true hin)
  obtain ⟨i1, i2, i3⟩ := hin
  clear hen
  cases hok : word.all (fun i => decide (1 ≤ i ∧ i < (m : Int)))
  · have HA : Hid (anyI (wbad m) word = true) := by show _ = _; rw [wbad_any, hok]; rfl
    have e0 : Hid (wokB (m : Int) word = false) := by show _ = _; unfold wokB; rw [hok, Bool.and_false]
    have e1 : Hid (wpL (m : Int) word = []) := by show _ = _; simp [wpL, e0.out]
    clear hok
    go_enter Try.func19, Try.ntmps19
    go_wp2_with (go_at_call 66; refine (containsFuncI_ok _ word 67 #[.pointer (some ⟨w.heap.size, 0, none⟩)] (wbad m) _ h1 (by omega) HEN.out (fun i hi w1 hw => wbad_ok _ _ _ w1 (hw.cell hcx0))).mono ?_; rintro e w3 ⟨rfl, he3⟩; rw [HA.out])
    go_ret2
    rw [e0.out, e1.out]
    exact ⟨_, rfl, OI.nil _ _ _, he0.trans he3⟩
  · have HA : Hid (anyI (wbad m) word = false) := by show _ = _; rw [wbad_any, hok]; rfl
    have e0 : Hid (wokB (m : Int) word = true) := by show _ = _; unfold wokB; rw [hok, hd.out]; rfl
    have e1 : Hid (wpL (m : Int) word = wRun m word) := by show _ = _; simp [wpL, e0.out]
    have HOK := Lib.hid (wok_true e0.out).2.2.2
    have hwl := Lib.hid (wRun_len m word)
    clear hok
    go_enter Try.func19, Try.ntmps19
    go_wp2_with (first | (go_at_call 66; refine (containsFuncI_ok _ word 67 #[.pointer (some ⟨w.heap.size, 0, none⟩)] (wbad m) _ h1 (by omega) HEN.out (fun i hi w1 hw => wbad_ok _ _ _ w1 (hw.cell hcx0))).mono ?_; rintro e w3 ⟨rfl, he3⟩; rw [HA.out]; have hcx3 := he3.cell hcx0) | (go_at_call 68; refine (wordPerm_ok m _ word _ (by omega) (h1.ext he3) (by omega) HOK.out).mono ?_; rintro e w4 ⟨b4, c4, rfl, hb4, hr4, he4⟩))
    go_ret2
    rw [e0.out, e1.out]
    exact ⟨_, rfl, OI.row hr4 (by have := (he0.trans he3).size; omega) hwl.out.symm, (he0.trans he3).trans he4⟩
set_option maxHeartbeats 1000000 in
theorem spec_WordPerm_ok (n : Int) (v : Value) (word : List Int) (w : World) (_hn : I64 n) (h : SI w v word) (hl : word.length ≤ 1048576) (_hb : I64s word) :
    Calls Try.prog 20 #[.int .i64 n, v] w fun e w' => ∃ v', e = .returned (.tuple #[v', .bool (wokB n word)]) ∧ OI w.heap.size w'.heap.size w' v' (wpL n word) ∧ Ext w w' := by
  obtain ⟨av, capv, rfl, hri⟩ := h.elim
  by_cases hin : 1 ≤ n ∧ n ≤ 8
  · have HI := Lib.hid (inB_true hin)
    obtain ⟨i1, i2⟩ := hin
    by_cases h40 : 40 < word.length
    · have e0 : Hid (wokB n word = false) := by show _ = _; unfold wokB; rw [decide_eq_false (by omega)]; rfl
      have e1 : Hid (wpL n word = []) := by show _ = _; simp [wpL, e0.out]
      go_enter Try.func20, Try.ntmps20
      go_wp2_with (go_at_call 69; refine (l1In_ok _ _ _ _).mono ?_; rintro e w1 ⟨rfl, hq⟩; rw [HI.out])
      go_ret2
      rw [e0.out, e1.out]
      exact ⟨_, rfl, OI.row (Row.new 3 w1 [] (by simp)) hq.ext.size rfl, (show Ext w w1 from hq.ext).alloc _⟩
    · obtain ⟨m, rfl⟩ : ∃ m : Nat, n = (m : Int) := ⟨n.toNat, by omega⟩
      have hwk : Hid (wokB (m : Int) word = word.all (fun i => decide (1 ≤ i ∧ i < (m : Int)))) := by show _ = _; unfold wokB; rw [decide_eq_true (by omega)]; rfl
      have hwl := Lib.hid (wRun_len m word)
      go_enter Try.func20, Try.ntmps20
      go_wp2_with (go_at_call 69; refine (l1In_ok _ _ _ _).mono ?_; rintro e w1 ⟨rfl, hq1⟩; rw [HI.out])
      go_loopw [6] (fun i wr => ∃ k : Nat, k ≤ word.length ∧ i = .int .i64 k ∧ Hid ((word.take k).all (fun i => decide (1 ≤ i ∧ i < (m : Int))) = true) ∧ Qt w wr) (fun i _ => word.length - (intOf i).toNat)
      case atStart => exact ⟨0, by omega, rfl, Lib.hid (by simp), hq1⟩
      case round =>
        obtain ⟨k, hk, rfl, ha, hq⟩ := hrel
        clear hq1
        by_cases hlt : k < word.length
        · obtain ⟨b1, off1, rfl, hc0⟩ := hri.get hlt
          have hck := (show Ext w wr from hq.ext).cell (hc0 k hlt)
          have hmem := nth_mem hlt
          have htk := take_nth hlt
          obtain ⟨x, hx⟩ : ∃ x, x = nth word k := ⟨_, rfl⟩
          rw [← hx] at hck hmem htk
          have HM := Lib.hid hmem
          have HTK := Lib.hid htk
          clear hc0 hx hmem htk
          by_cases hxb : 1 ≤ x ∧ x ≤ (m : Int) - 1
          · have HX := Lib.hid (inB_true hxb)
            clear hri
            go_wp2_with (go_at_call 69; refine (l1In_ok _ _ _ _).mono ?_; rintro e w3 ⟨rfl, hq3⟩; rw [HX.out])
            go_roundw
            case rel => exact ⟨k + 1, by omega, by go_num, Lib.hid (by rw [HTK.out, List.all_append, ha.out]; simp; omega), hq.trans hq3⟩
            case measure => simp [intOf]; omega
          · have HX := Lib.hid (inB_false hxb)
            have hall : Hid (word.all (fun i => decide (1 ≤ i ∧ i < (m : Int))) = false) := by
              show _ = _
              rw [Bool.eq_false_iff]; intro hh
              have := List.all_eq_true.1 hh _ HM.out
              simp at this; omega
            have e0 : Hid (wokB (m : Int) word = false) := by show _ = _; rw [hwk.out, hall.out]
            have e1 : Hid (wpL (m : Int) word = []) := by show _ = _; simp [wpL, e0.out]
            clear hri hxb
            go_wp2_with (go_at_call 69; refine (l1In_ok _ _ _ _).mono ?_; rintro e w3 ⟨rfl, hq3⟩; rw [HX.out])
            go_ret2
            rw [e0.out, e1.out]
            exact ⟨_, rfl, OI.row (Row.new 3 w3 [] (by simp)) (hq.trans hq3).ext.size rfl, (show Ext w w3 from (hq.trans hq3).ext).alloc _⟩
        · have hall : Hid (word.all (fun i => decide (1 ≤ i ∧ i < (m : Int))) = true) := by show _ = _; rw [← ha.out, take_all (by omega)]
          have e0 : Hid (wokB (m : Int) word = true) := by show _ = _; rw [hwk.out, hall.out]
          have e1 : Hid (wpL (m : Int) word = wRun m word) := by show _ = _; simp [wpL, e0.out]
          have HOK := Lib.hid (wok_true e0.out).2.2.2
          have hsi := h.ext hq.ext
          go_wp2_with (go_at_call 70; refine (l27Run_ok m _ word _ (by omega) hsi (by omega) HOK.out).mono ?_; rintro e w4 ⟨b4, c4, rfl, hb4, hr4, he4⟩)
          go_ret2
          rw [e0.out, e1.out]
          exact ⟨_, rfl, OI.row hr4 (by have := hq.ext.size; omega) hwl.out.symm, (show Ext w wr from hq.ext).trans he4⟩
  · have HI := Lib.hid (inB_false hin)
    have e0 : Hid (wokB n word = false) := by show _ = _; unfold wokB; rw [decide_eq_false (by omega)]; rfl
    have e1 : Hid (wpL n word = []) := by show _ = _; simp [wpL, e0.out]
    clear hin
    go_enter Try.func20, Try.ntmps20
    go_wp2_with (go_at_call 69; refine (l1In_ok _ _ _ _).mono ?_; rintro e w1 ⟨rfl, hq⟩; rw [HI.out])
    go_ret2
    rw [e0.out, e1.out]
    exact ⟨_, rfl, OI.row (Row.new 3 w1 [] (by simp)) hq.ext.size rfl, (show Ext w w1 from hq.ext).alloc _⟩
end Go.Proofs.Ytmnbdphfoonleaa
