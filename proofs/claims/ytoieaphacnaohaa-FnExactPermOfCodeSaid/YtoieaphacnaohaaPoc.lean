/- Contracts of PermOfCode, the program's and the reference's. Conditions: a length below a bound. -/
import Derived.Test.YtoieaphacnaohaaFunc
import Derived.Deep.RegionLaw
import Derived.Deep.RegionHeld3
namespace Go.Proofs.Ytoieaphacnaohaa
open Go.RowKit

def stepP (st : List Int × List Int) (c : Int) : List Int × List Int := (st.1.eraseIdx c.toNat, st.2 ++ [nth st.1 c.toNat])
def pocS (xs : List Int) (k : Nat) : List Int × List Int := (xs.take k).foldl stepP (idL xs.length, [])
theorem pocS_succ (xs : List Int) (k : Nat) (h : k < xs.length) : pocS xs (k + 1) = stepP (pocS xs k) (nth xs k) := by simp [pocS, take_nth h]
def okTo (xs : List Int) (k : Nat) : Prop := ∀ i, i < k → 0 ≤ nth xs i ∧ nth xs i ≤ (xs.length : Int) - 1 - i
theorem okTo_succ {xs : List Int} {k : Nat} (h : okTo xs k) (hk : 0 ≤ nth xs k ∧ nth xs k ≤ (xs.length : Int) - 1 - k) : okTo xs (k + 1) := fun i hi => by
  rcases Nat.lt_or_ge i k with h1 | h1
  · exact h i h1
  · obtain rfl : i = k := by omega
    exact hk
theorem pocS_len {xs : List Int} {k : Nat} (h : okTo xs k) (hk : k ≤ xs.length) : (pocS xs k).1.length = xs.length - k ∧ (pocS xs k).2.length = k := by
  induction k with
  | zero => simp [pocS, idL_len]
  | succ k ih =>
    obtain ⟨h1, h2⟩ := ih (fun i hi => h i (by omega)) (by omega)
    rw [pocS_succ xs k (by omega)]
    have := h k (by omega)
    simp only [stepP, List.length_append, List.length_singleton, h2, and_true]
    rw [List.length_eraseIdx, if_pos (by omega)]; omega
def okCode (xs : List Int) : Bool := decide (xs.length ≤ 8) && (List.range xs.length).all fun (i : Nat) => decide (0 ≤ nth xs i ∧ nth xs i ≤ (xs.length : Int) - 1 - (i : Int))
theorem okCode_true {xs : List Int} (h : xs.length ≤ 8) (h2 : okTo xs xs.length) : okCode xs = true := by
  simp only [okCode, Bool.and_eq_true, decide_eq_true_eq, List.all_eq_true, List.mem_range]
  exact ⟨h, fun i hi => h2 i hi⟩
theorem okCode_false {xs : List Int} {k : Nat} (hk : k < xs.length) (h : ¬ (0 ≤ nth xs k ∧ nth xs k ≤ (xs.length : Int) - 1 - k)) : okCode xs = false := by
  cases hh : okCode xs with
  | false => rfl
  | true =>
    simp only [okCode, Bool.and_eq_true, decide_eq_true_eq, List.all_eq_true, List.mem_range] at hh
    exact absurd (hh.2 k hk) h
theorem okCode_long {xs : List Int} (h : ¬ xs.length ≤ 8) : okCode xs = false := by simp [okCode]; omega
def pocL (xs : List Int) : List Int := bif okCode xs then (pocS xs xs.length).2 else []

theorem RI.take {w : World} {a : Option Addr} {xs : List Int} (h : RI w a xs) (k : Nat) : RI w a (xs.take k) := by
  rcases h with rfl | ⟨b, off, rfl, hc⟩
  · exact .inl (by simp)
  · refine .inr ⟨b, off, rfl, fun i hi => ?_⟩
    simp only [List.length_take] at hi
    rw [hc i (by omega)]
    simp [nth, show i < k by omega]
theorem RI.drop {w : World} {b off : Nat} {xs : List Int} (h : RI w (some ⟨b, off, none⟩) xs) (k : Nat) : RI w (some ⟨b, off + k, none⟩) (xs.drop k) := by
  rcases h with rfl | ⟨b', off', e, hc⟩
  · exact .inl (by simp)
  · simp only [Option.some.injEq, Addr.mk.injEq, and_true] at e
    obtain ⟨rfl, rfl⟩ := e
    refine .inr ⟨b, off + k, rfl, fun i hi => ?_⟩
    simp only [List.length_drop] at hi
    rw [Nat.add_assoc, hc (k + i) (by omega)]
    simp [nth]
theorem RI.drop0 {w : World} {b : Nat} {xs : List Int} (h : RI w (some ⟨b, 0, none⟩) xs) (k : Nat) : RI w (some ⟨b, k, none⟩) (xs.drop k) := by
  have := h.drop k; rwa [Nat.zero_add] at this
set_option maxHeartbeats 1000000 in
theorem spec_PermOfCode_ok (v : Value) (xs : List Int) (w : World) (h : SI w v xs) (hl : xs.length ≤ 1048576) (_hb : I64s xs) :
    Calls Try.prog 44 #[v] w fun e w' => ∃ v', e = .returned (.tuple #[v', .bool (okCode xs)]) ∧ OI w.heap.size w'.heap.size w' v' (pocL xs) ∧ Ext w w' := by
  obtain ⟨a, cap, rfl, hri⟩ := h.elim
  clear h
  by_cases h8 : xs.length ≤ 8
  · go_enter Try.func44, Try.ntmps44
    go_wp2_with fail
    refine (identityPerm_ok xs.length _ h8).mono ?_
    rintro e w1 ⟨b0, c0, rfl, hb0, hr0, he0⟩
    have hr1 := Row.new 3 w1 [] (by simp)
    have hz := he0.size
    have hlt0 := hr0.lt
    go_wp2_with fail
    go_loopw [4, 5, 6] (fun l o i wr => ∃ k : Nat, k ≤ xs.length ∧ i = .int .i64 k ∧ okTo xs k ∧ (∃ b cap, l = .slice (some ⟨b, 0, none⟩) (xs.length - k) cap ∧ w.heap.size ≤ b ∧ Row 3 wr b cap (vals (pocS xs k).1) ∧ ∃ b' cap', o = .slice (some ⟨b', 0, none⟩) k cap' ∧ w.heap.size ≤ b' ∧ Row 3 wr b' cap' (vals (pocS xs k).2) ∧ b ≠ b') ∧ Ext w wr) (fun _ _ i _ => xs.length - (intOf i).toNat)
    case atStart => exact ⟨0, by omega, rfl, fun i hi => by omega, ⟨b0, c0, by simp, hb0, hr0.ext (Upd.alloc _ _ _), w1.heap.size, 0, rfl, hz, by simpa [pocS] using hr1, by omega⟩, he0.alloc _⟩
    case round =>
      obtain ⟨k, hk, rfl, hok, ⟨b, c, rfl, hb, hr, b', c', rfl, hb', hr', hbb⟩, he⟩ := hrel
      clear hr0 hr1
      have HO := Lib.hid hok
      obtain ⟨hl1, hl2⟩ := pocS_len hok hk
      have HL1 := Lib.hid hl1
      have HL2 := Lib.hid hl2
      clear hok
      by_cases hlt : k < xs.length
      · obtain ⟨b1, off, rfl, hcw⟩ := hri.get hlt
        have hck := he.cell (hcw k hlt)
        have HB1 : ¬ (b1 = b') := by have := World.block_lt_of_cell? _ _ (hcw k hlt); simp at this; omega
        clear hcw
        clear hri hl2
        by_cases hin : 0 ≤ nth xs k ∧ nth xs k ≤ (xs.length : Int) - 1 - k
        · obtain ⟨j, hj⟩ : ∃ j : Nat, nth xs k = (j : Int) := ⟨(nth xs k).toNat, by omega⟩
          have HJ := Lib.hid hj
          have HI := Lib.hid hin
          rw [hj] at hck hin
          clear hj
          have hjn : j < xs.length - k := by omega
          have hcl := hr.icell (j := j) (by rw [HL1.out]; exact hjn)
          have hin' := inB_true (x := (j : Int)) (lo := 0) (hi := ((xs.length - k : Nat) : Int) - 1) (by omega)
          go_wp2_with (first | (go_at_call 62; refine (l1In_ok _ _ _ _).mono ?_; rintro e w2 ⟨rfl, hq1⟩; rw [hin']; replace hck := Ext.cell hq1.ext hck; replace hcl := Ext.cell hq1.ext hcl) | (at_builtin; refine wpl_app1 (w := w2) rfl _ _ rfl b' c' k (pocS xs k).2 (nth (pocS xs k).1 j) rfl (hr'.ext hq1.ext) HL2.out.symm rfl (by rw [HL2.out]; omega) ?_; intro b2 c2 w3 h1 h2 h3))
          have hb1 := World.block_lt_of_cell? _ _ hck
          have hrL := (hr.ext hq1.ext).upd h3 hbb
          have hck3 : w3.cell? ⟨b1, off + k, none⟩ = some (.int .i64 (j : Int)) := h3.cell hck HB1
          have hb3 : b1 < w3.heap.size := by have := h3.size; simp at hb1; omega
          have hb4 : b < w3.heap.size := hrL.lt
          have HL := Lib.hid hrL
          clear hck
          have hjc : (j : Int) ≤ (c : Int) := by have := hr.le; simp [hl1] at this; omega
          have j0 : (0 : Int) ≤ (j : Int) := by omega
          have j1 : IntKind.i64.wrap ((j : Int) + 1) = (j : Int) + 1 := IntWalk.i64_in _ (by omega)
          have j2 : (0 : Int) ≤ (j : Int) + 1 := by omega
          have j3 : ((j : Int) + 1).toNat = j + 1 := by omega
          have j4 : (j : Int) + 1 ≤ ((xs.length - k : Nat) : Int) := by omega
          have hcpos : 0 < c := by have := hr.le; simp [hl1] at this; omega
          have HR0 := Lib.hid (Row.new 3 w3 [] (by simp))
          have hL := hl1
          have HT : Hid (j = ((pocS xs k).1.take j).length) := by show j = _; simp; omega
          have HT2 : Hid (((pocS xs k).1.take j).length ≤ 1000000000) := by show _ ≤ _; simp; omega
          have HT3 : Hid (0 + j = ([] ++ (pocS xs k).1.take j).length) := by show _ = _; simp; omega
          have HT4 : Hid (xs.length - k - (j + 1) = ((pocS xs k).1.drop (j + 1)).length) := by show _ = _; simp; omega
          have HT5 : Hid (([] ++ (pocS xs k).1.take j).length ≤ 1000000000) := by show _ ≤ _; simp; omega
          have HT6 : Hid (((pocS xs k).1.drop (j + 1)).length ≤ 1000000000) := by show _ ≤ _; simp; omega
          have HE : Hid ((pocS xs (k + 1)).1 = [] ++ (pocS xs k).1.take j ++ (pocS xs k).1.drop (j + 1)) := by show _ = _; rw [pocS_succ xs k hlt, HJ.out]; simp [stepP, List.eraseIdx_eq_take_drop_succ]
          have HE2 : Hid ((pocS xs (k + 1)).2 = (pocS xs k).2 ++ [nth (pocS xs k).1 j]) := by show _ = _; rw [pocS_succ xs k hlt, HJ.out]; simp [stepP]
          clear hL hl1
          by_cases hcap : c = j + 1
          · have hnil : (pocS xs k).1.drop (j + 1) = [] := by have := hr.le; simp at this; apply List.drop_eq_nil_of_le; omega
            have HN := Lib.hid hnil
            subst hcap
            have j5 : (j : Int) ≤ (j : Int) + 1 := by omega
            have j6 : ¬ (j + 1 = 0) := by omega
            have j7 : ¬ ((j : Int) + 1 = 0) := by omega
            clear hnil
            go_region_held3 (fun w' => w'.cell? ⟨b1, off + k, none⟩ = some (.int .i64 (j : Int)))
              (first | go_keep | (exact hu6.cell (by assumption) (by rcases hs5 with e | e <;> simp at e ⊢ <;> omega)) | (exact hu5.cell (by assumption) (by simp; omega)))
              ((first
                | (refine step_appSrc (by rfl) (.tmp 41) (.tmp 47) (by rfl) w3.heap.size 0 0 [] ((pocS xs k).1.take j) (by rfl) (HR0.out.ext (Upd.drew _ _)) (by rfl) ⟨b, 0, none⟩ j _ (by rfl) HT.out (((HL.out.ri.ext (Upd.alloc _ _ _)).ext (Upd.drew _ _)).take j) (by simp) HT2.out ?_; intro b5 c5 w5 hr5 hs5 hu5)
                | (refine step_appSrc (by rfl) (.tmp 48) (.tmp 55) (by rfl) b5 c5 _ _ ((pocS xs k).1.drop (j + 1)) (by rfl) hr5 HT3.out ⟨b, 0, none⟩ _ _ (by rfl) HT4.out (.inl HN.out) HT5.out HT6.out ?_; intro b6 c6 w6 hr6 hs6 hu6)))
            have hz2 := (he.trans hq1.ext).size
            have hb5 : w3.heap.size ≤ b5 := by
              rcases hs5 with e | e
              · omega
              · simp at e; omega
            have hz5 := hu5.size
            simp at hz5
            have hb6 : w3.heap.size ≤ b6 := by rcases hs6 with e | e <;> omega
            have ho6 := (((h1.ext (Upd.alloc w3 (.cells #[] 3) _)).ext (Upd.drew _ _)).upd hu5 (by have := h1.lt; omega)).upd hu6 (by have := h1.lt; omega)
            have he6 : Ext w w6 := (((((he.trans hq1.ext).upd1 h3 hb').alloc (.cells #[] 3)).drew).upd1 hu5 (by omega)).upd1 hu6 (by omega)
            rw [← HE.out] at hr6
            rw [← HE2.out] at ho6
            have hb2 := h1.lt
            clear hck3 hcl
            go_wp2
            go_roundw
            case rel => exact ⟨k + 1, by omega, by go_num, okTo_succ HO.out HI.out, ⟨b6, c6, by rw [Value.slice.injEq]; exact ⟨rfl, by omega, rfl⟩, by omega, hr6, b2, c2, rfl, by rcases h2 with e | e <;> omega, ho6, by omega⟩, he6⟩
            case measure => simp [intOf]; omega
          · have j6 : ¬ (c = 0) := by omega
            have HNB : Hid (∀ (b' off : Nat) (s : Option Nat), (some ⟨b, j + 1, none⟩ : Option Addr) = some ⟨b', off, s⟩ → ¬ (b' = w3.heap.size)) := fun b' off s e => by simp at e; omega
            go_region_held3 (fun w' => w'.cell? ⟨b1, off + k, none⟩ = some (.int .i64 (j : Int)))
              (first | go_keep | (exact hu6.cell (by assumption) (by rcases hs5 with e | e <;> simp at e ⊢ <;> omega)) | (exact hu5.cell (by assumption) (by simp; omega)))
              ((first
                | (refine step_appSrc (by rfl) (.tmp 41) (.tmp 47) (by rfl) w3.heap.size 0 0 [] ((pocS xs k).1.take j) (by rfl) (HR0.out.ext (Upd.drew _ _)) (by rfl) ⟨b, 0, none⟩ j _ (by rfl) HT.out (((HL.out.ri.ext (Upd.alloc _ _ _)).ext (Upd.drew _ _)).take j) (by simp) HT2.out ?_; intro b5 c5 w5 hr5 hs5 hu5)
                | (refine step_appSrc (by rfl) (.tmp 48) (.tmp 55) (by rfl) b5 c5 _ _ ((pocS xs k).1.drop (j + 1)) (by rfl) hr5 HT3.out ⟨b, j + 1, none⟩ _ _ (by rfl) HT4.out ((((HL.out.ri.ext (Upd.alloc _ _ _)).ext (Upd.drew _ _)).drop0 (j + 1)).upd hu5 HNB.out) HT5.out HT6.out ?_; intro b6 c6 w6 hr6 hs6 hu6)))
            have hz2 := (he.trans hq1.ext).size
            have hb5 : w3.heap.size ≤ b5 := by
              rcases hs5 with e | e
              · omega
              · simp at e; omega
            have hz5 := hu5.size
            simp at hz5
            have hb6 : w3.heap.size ≤ b6 := by rcases hs6 with e | e <;> omega
            have ho6 := (((h1.ext (Upd.alloc w3 (.cells #[] 3) _)).ext (Upd.drew _ _)).upd hu5 (by have := h1.lt; omega)).upd hu6 (by have := h1.lt; omega)
            have he6 : Ext w w6 := (((((he.trans hq1.ext).upd1 h3 hb').alloc (.cells #[] 3)).drew).upd1 hu5 (by omega)).upd1 hu6 (by omega)
            rw [← HE.out] at hr6
            rw [← HE2.out] at ho6
            have hb2 := h1.lt
            clear hck3 hcl
            go_wp2
            go_roundw
            case rel => exact ⟨k + 1, by omega, by go_num, okTo_succ HO.out HI.out, ⟨b6, c6, by rw [Value.slice.injEq]; exact ⟨rfl, by omega, rfl⟩, by omega, hr6, b2, c2, rfl, by rcases h2 with e | e <;> omega, ho6, by omega⟩, he6⟩
            case measure => simp [intOf]; omega
        · have hno := Lib.hid (okCode_false hlt hin)
          have hin' : inB (nth xs k) 0 (((xs.length - k : Nat) : Int) - 1) = false := inB_false (by omega)
          have hnl : pocL xs = [] := by simp [pocL, hno.out]
          have HNL := Lib.hid hnl
          clear hnl hin hl1
          go_wp2_with (go_at_call 62; refine (l1In_ok _ _ _ _).mono ?_; rintro e w2 ⟨rfl, hq1⟩; rw [hin'])
          go_ret2
          have hr3 := Row.new 3 w2 [] (by simp)
          rw [HNL.out, hno.out]
          exact ⟨_, rfl, OI.row hr3 (by have := (he.trans hq1.ext).size; omega) rfl, (he.trans hq1.ext).alloc _⟩
      · obtain rfl : k = xs.length := by omega
        have hyes := okCode_true h8 HO.out
        have hnl : pocL xs = (pocS xs xs.length).2 := by simp [pocL, hyes]
        have HNL := Lib.hid hnl
        have HY := Lib.hid hyes
        clear hnl hyes hl1
        go_wp2
        go_ret2
        rw [HNL.out, HY.out]
        exact ⟨_, rfl, OI.row hr' hb' hl2.symm, he⟩
  · have hno := okCode_long h8
    have hnl : pocL xs = [] := by simp [pocL, hno]
    rw [hnl, hno]
    have hr0 := Row.new 3 w [] (by simp)
    clear hnl hno
    go_enter Try.func44, Try.ntmps44
    go_wp2
    go_ret2
    exact ⟨_, rfl, OI.row hr0 (Nat.le_refl _) rfl, (Ext.refl w).alloc _⟩

/-- append within the capacity, the new cells lying in the very row behind: as one step of a region that draws its order. -/
theorem step_appRoom {w : World} {ops : Array Oper} {o : Oper} {a : Act} {K : Act → World → Prop} {Q : Exit → Act → World → Prop} {E : Prop} (hgd : o.guard = none) (s x : Operand)
    (ho : o.op = .call { callee := .builtin .append, args := #[s, x], argTypes := #[24, 24] })
    (b cap n : Nat) (xs ys : List Int) (hs : a.eval s = .slice (some ⟨b, 0, none⟩) n cap) (hr : Row 3 w b cap (vals xs)) (hn : n = xs.length)
    (ad : Addr) (m c : Nat) (hx : a.eval x = .slice (some ad) m c) (hm : m = ys.length) (hy : RI w (some ad) ys) (hroom : xs.length + ys.length ≤ cap)
    (h : ∀ w', Row 3 w' b cap (vals (xs ++ ys)) → Upd (· = b) w w' → K (a.put o.dst (.slice (some ⟨b, 0, none⟩) (n + m) cap)) w') :
    if Region.wanted o (yielded ops a.tmps) = true then Oper.wp Try.prog o a w K Q else E := by
  have hw : Region.wanted o (yielded ops a.tmps) = true := by simp [Region.wanted, hgd]
  rw [if_pos hw]
  obtain ⟨i, hi, hz, hs1, hby⟩ := info_int
  subst hn
  have hnews : ∀ j u, (vals ys)[j]? = some u → w.cell? (ad.add j) = some u := by
    intro j u hj
    rcases hy with rfl | ⟨b1, off, e, hc⟩
    · simp at hj
    · simp only [Option.some.injEq] at e
      subst e
      have hl : j < ys.length := by
        rcases Nat.lt_or_ge j ys.length with h1 | h1
        · exact h1
        · simp [vals, h1] at hj
      rw [vals_get hl] at hj
      rw [Addr.add_lit, hc j hl]; exact hj
  obtain ⟨cur, hg, hcs, htake⟩ := hr.cur
  have hle := hr.le
  have hrun := run_append_room (P := Try.prog) w 24 o.type 3 i Try.underlying24 hi b xs.length cap cur hg ad m c (vals ys) (by simp [hm, hs1]) hnews (vals_one ys) (by omega) (by rw [hs1]; simp; omega)
  unfold Oper.wp execOp
  simp only [ho, resolve, invoke, builtin, Sem.run_bind, Sem.run_pure, Result.andThen_ok, List.map_toArray, List.map_cons, List.map_nil, hs, hx, hrun]
  refine h _ ⟨by simp; omega, hr.mx, ⟨_, setRow_heap w b cur _ _ _ hg, ?_, ?_⟩⟩ ⟨rfl, rfl, rfl, by simp, fun k _ hk => setRow_other w b k _ hk⟩
  · simp only [hs1, List.size_toArray, List.length_append, List.length_take, List.length_drop, Array.length_toList, List.length_map]
    omega
  · rw [hs1, Nat.mul_one]
    simp only [List.length_map] at htake
    have e1 : cur.toList.take xs.length = vals xs := by simpa [vals] using htake
    rw [e1]
    simp only [vals, List.map_append, List.length_append, List.length_map, List.append_assoc]
    rw [← List.append_assoc]
    rw [List.take_left' (by simp)]

theorem Row.setBeyond {w : World} {e : TypeId} {b cap : Nat} {xs : List Value} (h : Row e w b cap xs) {j : Nat} (hj : xs.length ≤ j) (v : Value) : Row e (w.setCell ⟨b, j, none⟩ v) b cap xs := by
  have := h.set j v
  rwa [List.set_eq_of_length_le hj] at this
theorem Row.setCells' {e : TypeId} {b cap : Nat} {xs : List Value} : ∀ (vs : List Value) (o : Nat) (w : World), Row e w b cap xs → xs.length ≤ o → Row e (w.setCells b o vs) b cap xs
  | [], _, _, h, _ => h
  | v :: vs, o, w, h, ho => Row.setCells' vs (o + 1) (w.setCell ⟨b, o, none⟩ v) (h.setBeyond ho v) (by omega)
theorem Upd.setCells {b : Nat} : ∀ (vs : List Value) (o : Nat) (w : World), Upd (· = b) w (w.setCells b o vs)
  | [], _, _ => Upd.refl _ _
  | v :: vs, o, w => (Upd.setCell w ⟨b, o, none⟩ v).trans (Upd.setCells vs (o + 1) (w.setCell ⟨b, o, none⟩ v))
/-- 'clear(s)', s the spare of a row of ints. -/
theorem wpl_clear {w : World} {ops : Array Oper} {rest : List Oper} {o : Oper} {a : Act} {Q : Exit → Act → World → Prop} (hgd : o.guard = none) (s : Operand)
    (ho : o.op = .call { callee := .builtin .clear, args := #[s], argTypes := #[24] })
    (b off n c cap : Nat) (xs : List Int) (hs : a.eval s = .slice (some ⟨b, off, none⟩) n c) (hr : Row 3 w b cap (vals xs)) (hoff : xs.length ≤ off) (hn : 0 < n) (hcap : off + n ≤ cap)
    (h : ∀ w', Row 3 w' b cap (vals xs) → Upd (· = b) w w' → wpList Try.prog ops Q rest (a.put o.dst (.tuple #[])) w') :
    wpList Try.prog ops Q (o :: rest) a w := by
  have hz : ∀ w, (zeroValue 3).run Try.prog w = .ok (.int .i64 0) w := fun w => by kernel_rfl
  have hrun := Lib.run_clear_slice (P := Try.prog) w 24 3 o.type (.int .i64 0) Try.underlying24 hz rfl rfl b off n c hn (fun j hj => by obtain ⟨v, hv⟩ := hr.spare (j := off + j) (by omega); rw [hv]; rfl) (fun j hj => hr.free _ _)
  refine wpList_plain hgd fun K hK => ?_
  unfold Oper.wp execOp
  simp only [ho, resolve, invoke, builtin, Sem.run_bind, Sem.run_pure, Result.andThen_ok, List.map_toArray, List.map_cons, List.map_nil, hs, hrun]
  exact hK _ _ (h _ (Row.setCells' _ _ _ hr (by simpa using hoff)) (Upd.setCells _ _ _))

set_option maxHeartbeats 2000000 in
theorem slicesDelete_n (b cap n i : Nat) (xs : List Int) (w : World) (h : Row 3 w b cap (vals xs)) (hn : Hid (xs.length = n)) (hi : i < n) (hl : n ≤ 1000000) :
    Calls Try.prog 79 #[.slice (some ⟨b, 0, none⟩) n cap, .int .i64 (i : Int), .int .i64 ((i : Int) + 1)] w fun e w' => e = .returned (.slice (some ⟨b, 0, none⟩) (n - 1) cap) ∧ Row 3 w' b cap (vals (xs.eraseIdx i)) ∧ Upd (· = b) w w' := by
  have hcl : n ≤ cap := by have h1 := h.le; have h2 := hn.out; rw [List.length_map] at h1; omega
  have hmx := h.mx
  unfold maxLen at hmx
  have i0 : (0 : Int) ≤ (i : Int) := by omega
  have i1 : (0 : Int) ≤ (i : Int) + 1 := by omega
  have i2 : ((i : Int) + 1).toNat = i + 1 := by omega
  have hb : ((i : Int) == (i : Int) + 1) = false := by simp; omega
  have HT : Hid (Row 3 w b cap (vals (xs.take i))) := by have := h.shrink i; show Row _ _ _ _ _; simpa [vals] using this
  have HL1 : Hid (i = (xs.take i).length) := by show i = _; have := hn.out; simp; omega
  have HL2 : Hid (n - (i + 1) = (xs.drop (i + 1)).length) := by show _ = _; have := hn.out; simp; omega
  have HL3 : Hid ((xs.take i).length + (xs.drop (i + 1)).length ≤ cap) := by show _ ≤ _; have := hn.out; simp; omega
  have HE : Hid (xs.eraseIdx i = xs.take i ++ xs.drop (i + 1)) := List.eraseIdx_eq_take_drop_succ ..
  have HLN := hn
  have HN := Lib.hid h
  clear h
  by_cases hcap : cap = i + 1
  · have HNIL : Hid (xs.drop (i + 1) = []) := List.drop_eq_nil_of_le (by have := hn.out; omega)
    subst hcap
    obtain rfl : n = i + 1 := by omega
    clear hcl hi
    have j5 : (i : Int) ≤ (i : Int) + 1 := by omega
    have j6 : ¬ (i + 1 = 0) := by omega
    go_enter Try.func79, Try.ntmps79
    go_wp2
    go_region_law (fail)
    go_wp2_with (refine wpl_clear rfl _ rfl b _ _ _ _ (xs.take i) rfl (HT.out.ext (Upd.drew _ _)) ?_ ?_ ?_ ?_; rotate_left 3; intro w6 hr6 hu6)
    · go_ret
      refine ⟨rfl, ?_, (Upd.drew _ _).trans hu6⟩
      rw [HE.out, HNIL.out, List.append_nil]; exact hr6
    all_goals ((try simp only [List.length_take]); omega)
  · have j6 : ¬ (cap = 0) := by omega
    have i3 : (i : Int) + 1 ≤ (n : Int) := by omega
    have i4 : (n : Int) ≤ (cap : Int) := by omega
    have i5 : (i : Int) ≤ (cap : Int) := by omega
    have i6 : (i : Int) ≤ (i : Int) + 1 := by omega
    go_enter Try.func79, Try.ntmps79
    go_wp2
    go_region_law (refine step_appRoom (by rfl) (.tmp 22) (.tmp 25) (by rfl) b _ i (xs.take i) (xs.drop (i + 1)) (by rfl) (HT.out.ext (Upd.drew _ _)) HL1.out ⟨b, i + 1, none⟩ _ _ (by rfl) HL2.out ((HN.out.ri.ext (Upd.drew _ _)).drop0 (i + 1)) HL3.out ?_; intro w5 hr5 hu5)
    go_wp2_with (refine wpl_clear rfl _ rfl b _ _ _ _ (xs.take i ++ xs.drop (i + 1)) rfl hr5 ?_ ?_ ?_ ?_; rotate_left 3; intro w6 hr6 hu6)
    · go_ret
      have hlen : i + (n - (i + 1)) = n - 1 := by omega
      refine ⟨?_, by rw [HE.out]; exact hr6, ((Upd.drew _ _).trans hu5).trans hu6⟩
      show Ending.returned (.slice (some ⟨b, 0, none⟩) (i + (n - (i + 1))) cap) = _
      rw [hlen]
    all_goals (have := HLN.out; (try simp only [List.length_append, List.length_take, List.length_drop]); omega)
theorem slicesDelete_ok (b cap n i : Nat) (xs : List Int) (w : World) (h : Row 3 w b cap (vals xs)) (hn : xs.length = n) (hi : i < n) (hl : n ≤ 1000000) :
    Calls Try.prog 79 #[.slice (some ⟨b, 0, none⟩) n cap, .int .i64 (i : Int), .int .i64 ((i : Int) + 1)] w fun e w' => e = .returned (.slice (some ⟨b, 0, none⟩) (n - 1) cap) ∧ Row 3 w' b cap (vals (xs.eraseIdx i)) ∧ Upd (· = b) w w' :=
  slicesDelete_n b cap n i xs w h hn hi hl
set_option maxHeartbeats 1000000 in
theorem impl_permOfCode_ok (v : Value) (xs : List Int) (w : World) (h : SI w v xs) (hl : xs.length ≤ 1000) (hok : okTo xs xs.length) :
    Calls Try.prog 67 #[v] w fun e w' => ∃ v', e = .returned v' ∧ OI w.heap.size w'.heap.size w' v' (pocS xs xs.length).2 ∧ Ext w w' := by
  obtain ⟨a, cap, rfl, hri⟩ := h.elim
  clear h
  have HOK := Lib.hid hok
  clear hok
  go_enter Try.func67, Try.ntmps67
  go_wp2_with fail
  refine (identity_ok xs.length _ hl).mono ?_
  rintro e w1 ⟨b0, c0, rfl, hb0, hr0, he0⟩
  have hr1 := Row.new 3 w1 [] (by simp)
  have hz := he0.size
  have hlt0 := hr0.lt
  go_wp2_with fail
  go_loopw [3, 4, 13] (fun l o i wr => ∃ k : Nat, k ≤ xs.length ∧ i = .int .i64 k ∧ (∃ b cap, l = .slice (some ⟨b, 0, none⟩) (xs.length - k) cap ∧ w.heap.size ≤ b ∧ Row 3 wr b cap (vals (pocS xs k).1) ∧ ∃ b' cap', o = .slice (some ⟨b', 0, none⟩) k cap' ∧ w.heap.size ≤ b' ∧ Row 3 wr b' cap' (vals (pocS xs k).2) ∧ b < b') ∧ Ext w wr) (fun _ _ i _ => xs.length - (intOf i).toNat)
  case atStart => exact ⟨0, by omega, rfl, ⟨b0, c0, by simp, hb0, hr0.ext (Upd.alloc _ _ _), w1.heap.size, 0, rfl, hz, by simpa [pocS] using hr1, by omega⟩, he0.alloc _⟩
  case round =>
    obtain ⟨k, hk, rfl, ⟨b, c, rfl, hb, hr, b', c', rfl, hb', hr', hbb⟩, he⟩ := hrel
    clear hr0 hr1
    obtain ⟨hl1, hl2⟩ := pocS_len (fun i hi => HOK.out i (by omega)) hk
    have HL1 := Lib.hid hl1
    have HL2 := Lib.hid hl2
    clear hl1 hl2
    by_cases hlt : k < xs.length
    · obtain ⟨b1, off, rfl, hc⟩ := (hri.ext he).get hlt
      have hck := hc k hlt
      clear hc hri
      have hin := HOK.out k hlt
      obtain ⟨j, hj⟩ : ∃ j : Nat, nth xs k = (j : Int) := ⟨(nth xs k).toNat, by omega⟩
      have HJ := Lib.hid hj
      rw [hj] at hck hin
      have hjn : j < xs.length - k := by omega
      have hcl := hr.icell (j := j) (by rw [HL1.out]; exact hjn)
      have HE : Hid ((pocS xs (k + 1)).1 = (pocS xs k).1.eraseIdx j) := by show _ = _; rw [pocS_succ xs k hlt, hj]; simp [stepP]
      have HE2 : Hid ((pocS xs (k + 1)).2 = (pocS xs k).2 ++ [nth (pocS xs k).1 j]) := by show _ = _; rw [pocS_succ xs k hlt, hj]; simp [stepP]
      clear hj
      go_wp2_with (first | (at_builtin; refine wpl_app1 rfl _ _ rfl b' c' k (pocS xs k).2 (nth (pocS xs k).1 j) rfl hr' HL2.out.symm rfl (by rw [HL2.out]; omega) ?_; intro b2 c2 w3 h1 h2 h3) | (go_at_call 79; refine (slicesDelete_ok b c _ j _ _ (hr.upd h3 (by omega)) HL1.out hjn (by omega)).mono ?_; rintro e w4 ⟨rfl, hr4, hu4⟩))
      rw [← HE.out] at hr4
      rw [← HE2.out] at h1
      have hz3 := he.size
      go_roundw
      case rel => exact ⟨k + 1, by omega, by go_num, ⟨b, c, by rw [Value.slice.injEq]; exact ⟨rfl, by omega, rfl⟩, hb, hr4, b2, c2, rfl, by omega, h1.upd hu4 (by have := hr.lt; omega), by have := hr.lt; omega⟩, (he.upd1 h3 hb').upd1 hu4 hb⟩
      case measure => simp [intOf]; omega
    · obtain rfl : k = xs.length := by omega
      go_wp2
      go_ret
      exact ⟨_, rfl, OI.row hr' hb' HL2.out.symm, he⟩
set_option maxHeartbeats 1000000 in
theorem impl_PermOfCode_ok (v : Value) (xs : List Int) (w : World) (h : SI w v xs) (hl : xs.length ≤ 1048576) (_hb : I64s xs) :
    Calls Try.prog 45 #[v] w fun e w' => ∃ v', e = .returned (.tuple #[v', .bool (okCode xs)]) ∧ OI w.heap.size w'.heap.size w' v' (pocL xs) ∧ Ext w w' := by
  have h0 := h
  obtain ⟨a, cap, rfl, hri⟩ := h0.elim
  by_cases h8 : xs.length ≤ 8
  · go_enter Try.func45, Try.ntmps45
    go_wp2_with fail
    go_loopw [4, 5, 11] (fun _ _ i wr => ∃ k : Nat, k ≤ xs.length ∧ i = .int .i64 k ∧ okTo xs k ∧ Qt w wr) (fun _ _ i _ => xs.length - (intOf i).toNat)
    case atStart => exact ⟨0, by omega, rfl, fun i hi => by omega, Qt.refl _⟩
    case round =>
      obtain ⟨k, hk, rfl, hok, hq⟩ := hrel
      have HO := Lib.hid hok
      clear hok
      by_cases hlt : k < xs.length
      · obtain ⟨b1, off, rfl, hc⟩ := (hri.ext hq.ext).get hlt
        have hck := hc k hlt
        clear hc hri
        by_cases hneg : nth xs k < 0
        · have hno := Lib.hid (okCode_false hlt (by omega))
          have hnl : Hid (pocL xs = []) := by show _ = _; simp [pocL, hno.out]
          go_wp2
          go_ret2
          rw [hnl.out, hno.out]
          exact ⟨_, rfl, OI.nil _ _ _, hq.ext⟩
        · by_cases hbig : (xs.length : Int) - 1 - k < nth xs k
          · have hno := Lib.hid (okCode_false hlt (by omega))
            have hnl : Hid (pocL xs = []) := by show _ = _; simp [pocL, hno.out]
            go_wp2
            go_ret2
            rw [hnl.out, hno.out]
            exact ⟨_, rfl, OI.nil _ _ _, hq.ext⟩
          · have HO2 := Lib.hid (okTo_succ HO.out ⟨by omega, by omega⟩)
            go_wp2
            go_roundw
            case rel => exact ⟨k + 1, by omega, by go_num, HO2.out, hq⟩
            case measure => simp [intOf]; omega
      · obtain rfl : k = xs.length := by omega
        have hyes := Lib.hid (okCode_true h8 HO.out)
        have hnl : Hid (pocL xs = (pocS xs xs.length).2) := by show _ = _; simp [pocL, hyes.out]
        go_wp2_with (go_at_call 67; refine (impl_permOfCode_ok _ xs _ (h.ext hq.ext) (by omega) HO.out).mono ?_; rintro e w2 ⟨v2, rfl, ho, he2⟩)
        go_ret2
        rw [hnl.out, hyes.out]
        exact ⟨_, rfl, ho.mono hq.ext.size (Nat.le_refl _), hq.ext.trans he2⟩
  · have hno := Lib.hid (okCode_long h8)
    have hnl : Hid (pocL xs = []) := by show _ = _; simp [pocL, hno.out]
    rw [hnl.out, hno.out]
    go_enter Try.func45, Try.ntmps45
    go_wp2
    go_ret2
    exact ⟨_, rfl, OI.nil _ _ _, Ext.refl _⟩
theorem bound_PermOfCode (xs : List Int) (_h : xs.length ≤ 1048576) : (pocL xs).length ≤ 1048576 := by
  unfold pocL
  cases h : okCode xs
  · simp
  · have h1 : okTo xs xs.length ∧ xs.length ≤ 8 := by
      simp only [okCode, Bool.and_eq_true, decide_eq_true_eq, List.all_eq_true, List.mem_range] at h
      exact ⟨fun i hi => h.2 i hi, h.1⟩
    have := (pocS_len h1.1 (Nat.le_refl _)).2
    simp [this]; omega
end Go.Proofs.Ytoieaphacnaohaa
