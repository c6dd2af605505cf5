/- Contracts of SortingMoves, the program's and the reference's. Conditions: lengths below a bound. -/
import Derived.Test.YtplcnehiaokdjaaMov
namespace Go.Proofs.Ytplcnehiaokdjaa
open Go.RowKit

def popF : Nat → List Int → ByteArray → Int → List Int × ByteArray × Int
  | 0, S, T, nx => (S, T, nx)
  | f + 1, S, T, nx => if nth S (S.length - 1) = nx then popF f (S.take (S.length - 1)) (T ++ bO) (nx + 1) else (S, T, nx)
def smF : List Int → List Int → ByteArray → Int → ByteArray × Bool
  | [], S, T, _ => if S.length = 0 then (T, true) else (⟨#[]⟩, false)
  | v :: r, S, T, nx => smF r (popF (S.length + 1) (S ++ [v]) (T ++ bI) nx).1 (popF (S.length + 1) (S ++ [v]) (T ++ bI) nx).2.1 (popF (S.length + 1) (S ++ [v]) (T ++ bI) nx).2.2
/-- what comes of it, the stack being emptied as far as it goes first. -/
def smG (r S : List Int) (T : ByteArray) (nx : Int) : ByteArray × Bool := smF r (popF S.length S T nx).1 (popF S.length S T nx).2.1 (popF S.length S T nx).2.2
theorem smF_cons (v : Int) (r S : List Int) (T : ByteArray) (nx : Int) : smF (v :: r) S T nx = smG r (S ++ [v]) (T ++ bI) nx := by
  unfold smG; simp [smF]
theorem smG_yes {r S : List Int} {T : ByteArray} {nx : Int} {q : Nat} (hl : S.length = q + 1) (h : nth S q = nx) : smG r S T nx = smG r (S.take q) (T ++ bO) (nx + 1) := by
  have h1 : popF S.length S T nx = popF (S.take q).length (S.take q) (T ++ bO) (nx + 1) := by
    rw [hl]
    have h2 : (S.take q).length = q := by simp; omega
    simp only [popF, hl, Nat.add_sub_cancel, h, if_true, h2]
  unfold smG; rw [h1]
theorem smG_no {r S : List Int} {T : ByteArray} {nx : Int} {q : Nat} (hl : S.length = q + 1) (h : ¬ nth S q = nx) : smG r S T nx = smF r S T nx := by
  have h1 : popF S.length S T nx = (S, T, nx) := by rw [hl]; simp [popF, hl, h]
  unfold smG; rw [h1]
theorem smG_nil {r S : List Int} {T : ByteArray} {nx : Int} (hl : S.length = 0) : smG r S T nx = smF r S T nx := by
  have h1 : popF S.length S T nx = (S, T, nx) := by rw [hl]; rfl
  unfold smG; rw [h1]
def smR (xs : List Int) : ByteArray × Bool := bif isP8 xs then smF xs [] ⟨#[]⟩ 1 else (⟨#[]⟩, false)

set_option maxHeartbeats 2000000 in
theorem impl_SortingMoves_ok (v : Value) (xs : List Int) (w : World) (h : SI w v xs) (hl : xs.length ≤ 1048576) (_hb : I64s xs) :
    Calls Try.prog 36 #[v] w fun e w' => e = .returned (.tuple #[.string (smR xs).1, .bool (smR xs).2]) ∧ Ext w w' := by
  obtain ⟨a, cap, rfl, hri⟩ := h.elim
  cases hp : isP8 xs
  · have hP := Lib.hid hp
    have e0 : Hid (smR xs = (⟨#[]⟩, false)) := by show _ = _; simp [smR, hp]
    clear hp
    go_enter Try.func36, Try.ntmps36
    go_wp2_with (go_at_call 39; refine (impl_IsPerm_ok _ xs _ h).mono ?_; rintro e w1 ⟨rfl, he⟩; rw [hP.out])
    go_ret2
    rw [e0.out]
    exact ⟨rfl, he⟩
  · have hP := Lib.hid hp
    have h8 : xs.length ≤ 8 := (isP8_iff.1 hp).1
    have e0 : Hid (smR xs = smF xs [] ⟨#[]⟩ 1) := by show _ = _; simp [smR, hp]
    clear hp
    go_enter Try.func36, Try.ntmps36
    go_wp2_with (go_at_call 39; refine (impl_IsPerm_ok _ xs _ h).mono ?_; rintro e w1 ⟨rfl, he1⟩; rw [hP.out])
    have hr0 := Row.new 3 w1 [] (by simp)
    have hz1 := he1.size
    go_loopw [4, 5, 6, 15] (fun s o n i wr => ∃ k : Nat, ∃ S : List Int, ∃ T : ByteArray, ∃ nx : Int, k ≤ xs.length ∧ i = .int .i64 k ∧ s = .string T ∧ n = .int .i64 nx ∧ 1 ≤ nx ∧ nx ≤ 9 ∧ Hid (smF (xs.drop k) S T nx = smF xs [] ⟨#[]⟩ 1) ∧ Hid ((S.length : Int) + nx = (k : Int) + 1) ∧ T.size ≤ 8 + k ∧ Hid ((T.size : Int) = nx - 1 + k) ∧ (∃ b c m, o = .slice (some ⟨b, 0, none⟩) m c ∧ Hid (m = S.length) ∧ w.heap.size ≤ b ∧ Row 3 wr b c (vals S)) ∧ Ext w wr) (fun _ _ _ i _ => xs.length - (intOf i).toNat)
    case atStart => exact ⟨0, [], ⟨#[]⟩, 1, Nat.zero_le _, rfl, rfl, rfl, by omega, by omega, Lib.hid rfl, Lib.hid rfl, by simp [ByteArray.size], Lib.hid rfl, ⟨_, 0, 0, rfl, Lib.hid rfl, hz1, hr0⟩, he1.alloc _⟩
    case round =>
      obtain ⟨k, S, T, nx, hk, rfl, rfl, rfl, hn0, hn8, hR, hS, hT, hTs, ⟨b, c, m, rfl, hm, hbb, hr⟩, he⟩ := hrel
      clear hr0 he1
      by_cases hlt : k < xs.length
      · obtain ⟨b1, off1, rfl, hc0⟩ := (hri.ext he).get hlt
        have hck := hc0 k hlt
        have hdr := drop_nth hlt
        obtain ⟨x, hx⟩ : ∃ x, x = nth xs k := ⟨_, rfl⟩
        rw [← hx] at hck hdr
        have hcons := Lib.hid (smF_cons x (xs.drop (k + 1)) S T nx)
        have HDR := Lib.hid hdr
        have hts1 := Lib.hid (bI_size T)
        have hsl : S.length ≤ 8 := by have := hS.out; omega
        clear hc0 hx hdr
        go_wp2_with (at_builtin; refine wpl_app1 rfl _ _ rfl b c m S x rfl hr hm.out rfl (by omega) ?_; intro b6 c6 w6 h3 h4 h5)
        have he6 := he.upd1 h5 hbb
        have hz6 := he.size
        go_loopw [4, 5, 6] (fun s o n wr => ∃ S : List Int, ∃ T : ByteArray, ∃ nx : Int, s = .string T ∧ n = .int .i64 nx ∧ 1 ≤ nx ∧ nx ≤ 9 ∧ Hid (smG (xs.drop (k + 1)) S T nx = smF xs [] ⟨#[]⟩ 1) ∧ Hid ((S.length : Int) + nx = (k : Int) + 2) ∧ T.size ≤ 9 + k ∧ Hid ((T.size : Int) = nx + k) ∧ (∃ b c m, o = .slice (some ⟨b, 0, none⟩) m c ∧ Hid (m = S.length) ∧ m ≤ 9 ∧ w.heap.size ≤ b ∧ Row 3 wr b c (vals S)) ∧ Ext w wr) (fun _ _ n _ => 20 - (intOf n).toNat)
        case atStart => exact ⟨S ++ [x], T ++ bI, nx, rfl, rfl, hn0, hn8, Lib.hid (by rw [← hcons.out, ← HDR.out]; exact hR.out), Lib.hid (by have := hS.out; simp; omega), by have := hTs.out; have := hts1.out; omega, Lib.hid (by have := hTs.out; have := hts1.out; omega), ⟨b6, c6, m + 1, rfl, Lib.hid (by simp [hm.out]), by have := hm.out; omega, by omega, h3⟩, he6⟩
        case round =>
          clear hr he
          obtain ⟨S, T, nx, rfl, rfl, hn0, hn8, hR, hS, hT, hTs, ⟨b, c, m, rfl, hm, hm9, hbb, hr⟩, he⟩ := hrel
          clear h3 he6
          by_cases hm0 : m = 0
          · subst hm0
            have hno := Lib.hid (smG_nil (r := xs.drop (k + 1)) (S := S) (T := T) (nx := nx) hm.out.symm)
            go_wp2_with fail
            go_roundw
            case rel => exact ⟨k + 1, S, T, nx, by omega, by go_num, rfl, rfl, hn0, hn8, Lib.hid (by rw [← hno.out]; exact hR.out), Lib.hid (by have := hS.out; omega), by omega, Lib.hid (by have := hTs.out; omega), ⟨b, c, 0, rfl, hm, hbb, hr⟩, he⟩
            case measure => simp [intOf]; omega
          · obtain ⟨q, hq⟩ : ∃ q, m = q + 1 := ⟨m - 1, by omega⟩
            have hSq : S.length = q + 1 := by have := hm.out; omega
            have hcell := hr.icell (j := q) (by omega)
            have hle := hr.le
            rw [List.length_map, hSq] at hle
            have hts1 := Lib.hid (bO_size T)
            have hmx := hr.mx
            unfold maxLen at hmx
            have HSQ := Lib.hid hSq
            have hsh : Row 3 wr b c (vals (S.take q)) := by have := hr.shrink q; rw [← List.map_take] at this; exact this
            have HSH := Lib.hid hsh
            have HRR := Lib.hid hr
            have hnb : nx + q ≤ 8 := by have := hS.out; omega
            subst hq
            clear hSq hr hsh hm0
            by_cases hb : nth S q = nx
            · have hb2 : (nth S q == nx) = true := by simp [hb]
              have hyes := Lib.hid (smG_yes (r := xs.drop (k + 1)) (T := T) HSQ.out hb)
              clear hb
              go_wp2_with fail
              go_roundw
              case rel => exact ⟨S.take q, T ++ bO, nx + 1, rfl, rfl, by omega, by omega, Lib.hid (by rw [← hyes.out]; exact hR.out), Lib.hid (by have := hS.out; have := HSQ.out; simp; omega), by have := hTs.out; have := hts1.out; omega, Lib.hid (by have := hTs.out; have := hts1.out; omega), ⟨b, c, q, rfl, Lib.hid (by have := HSQ.out; simp; omega), by omega, hbb, HSH.out⟩, he⟩
              case measure => simp [intOf]; omega
            · have hb2 : (nth S q == nx) = false := by simp [hb]
              have hno := Lib.hid (smG_no (r := xs.drop (k + 1)) (T := T) HSQ.out hb)
              clear hb
              go_wp2_with fail
              go_roundw
              case rel => exact ⟨k + 1, S, T, nx, by omega, by go_num, rfl, rfl, hn0, hn8, Lib.hid (by rw [← hno.out]; exact hR.out), Lib.hid (by have := hS.out; omega), by omega, Lib.hid (by have := hTs.out; omega), ⟨b, c, q + 1, rfl, hm, hbb, HRR.out⟩, he⟩
              case measure => simp [intOf]; omega
      · have hfin : Hid (smF xs [] ⟨#[]⟩ 1 = if S.length = 0 then (T, true) else (⟨#[]⟩, false)) := by
          show _ = _
          rw [← hR.out, List.drop_eq_nil_of_le (by omega)]; rfl
        by_cases hm0 : m = 0
        · have hf2 : Hid (smF xs [] ⟨#[]⟩ 1 = (T, true)) := by show _ = _; rw [hfin.out, if_pos (by have := hm.out; omega)]
          subst hm0
          go_wp2_with fail
          go_ret2
          rw [e0.out, hf2.out]
          exact ⟨rfl, he⟩
        · have hf2 : Hid (smF xs [] ⟨#[]⟩ 1 = (⟨#[]⟩, false)) := by show _ = _; rw [hfin.out, if_neg (by have := hm.out; omega)]
          have hmp : 0 < m := by omega
          clear hm0
          go_wp2_with fail
          go_ret2
          rw [e0.out, hf2.out]
          exact ⟨rfl, he⟩
set_option maxHeartbeats 2000000 in
theorem spec_SortingMoves_ok (v : Value) (xs : List Int) (w : World) (h : SI w v xs) (hl : xs.length ≤ 1048576) (_hb : I64s xs) :
    Calls Try.prog 35 #[v] w fun e w' => e = .returned (.tuple #[.string (smR xs).1, .bool (smR xs).2]) ∧ Ext w w' := by
  obtain ⟨a, cap, rfl, hri⟩ := h.elim
  cases hp : isP8 xs
  · have hP := Lib.hid hp
    have e0 : Hid (smR xs = (⟨#[]⟩, false)) := by show _ = _; simp [smR, hp]
    clear hp
    go_enter Try.func35, Try.ntmps35
    go_wp2_with (go_at_call 26; refine (spec_IsPerm_qt _ xs _ h (by omega)).mono ?_; rintro e w1 ⟨rfl, hq⟩; rw [hP.out]; have he : Ext w w1 := hq.ext)
    go_ret2
    rw [e0.out]
    exact ⟨rfl, he⟩
  · have hP := Lib.hid hp
    have h8 : xs.length ≤ 8 := (isP8_iff.1 hp).1
    have e0 : Hid (smR xs = smF xs [] ⟨#[]⟩ 1) := by show _ = _; simp [smR, hp]
    clear hp
    go_enter Try.func35, Try.ntmps35
    go_wp2_with (go_at_call 26; refine (spec_IsPerm_qt _ xs _ h (by omega)).mono ?_; rintro e w1 ⟨rfl, hq⟩; rw [hP.out]; have he1 : Ext w w1 := hq.ext)
    have hr0 := Row.new 3 w1 [] (by simp)
    have hz1 := he1.size
    go_loopw [4, 5, 6, 7] (fun s o n i wr => ∃ k : Nat, ∃ S : List Int, ∃ T : ByteArray, ∃ nx : Int, k ≤ xs.length ∧ i = .int .i64 k ∧ s = .string T ∧ n = .int .i64 nx ∧ 1 ≤ nx ∧ nx ≤ 9 ∧ Hid (smF (xs.drop k) S T nx = smF xs [] ⟨#[]⟩ 1) ∧ Hid ((S.length : Int) + nx = (k : Int) + 1) ∧ T.size ≤ 8 + k ∧ Hid ((T.size : Int) = nx - 1 + k) ∧ (∃ b c m, o = .slice (some ⟨b, 0, none⟩) m c ∧ Hid (m = S.length) ∧ w.heap.size ≤ b ∧ Row 3 wr b c (vals S)) ∧ Ext w wr) (fun _ _ _ i _ => xs.length - (intOf i).toNat)
    case atStart => exact ⟨0, [], ⟨#[]⟩, 1, Nat.zero_le _, rfl, rfl, rfl, by omega, by omega, Lib.hid rfl, Lib.hid rfl, by simp [ByteArray.size], Lib.hid rfl, ⟨_, 0, 0, rfl, Lib.hid rfl, hz1, hr0⟩, he1.alloc _⟩
    case round =>
      obtain ⟨k, S, T, nx, hk, rfl, rfl, rfl, hn0, hn8, hR, hS, hT, hTs, ⟨b, c, m, rfl, hm, hbb, hr⟩, he⟩ := hrel
      clear hr0 he1
      by_cases hlt : k < xs.length
      · obtain ⟨b1, off1, rfl, hc0⟩ := (hri.ext he).get hlt
        have hck := hc0 k hlt
        have hdr := drop_nth hlt
        obtain ⟨x, hx⟩ : ∃ x, x = nth xs k := ⟨_, rfl⟩
        rw [← hx] at hck hdr
        have hcons := Lib.hid (smF_cons x (xs.drop (k + 1)) S T nx)
        have HDR := Lib.hid hdr
        have hts1 := Lib.hid (bI_size T)
        have hsl : S.length ≤ 8 := by have := hS.out; omega
        clear hc0 hx hdr
        go_wp2_with (at_builtin; refine wpl_app1 rfl _ _ rfl b c m S x rfl hr hm.out rfl (by omega) ?_; intro b6 c6 w6 h3 h4 h5)
        have he6 := he.upd1 h5 hbb
        have hz6 := he.size
        go_loopw [4, 5, 6] (fun s o n wr => ∃ S : List Int, ∃ T : ByteArray, ∃ nx : Int, s = .string T ∧ n = .int .i64 nx ∧ 1 ≤ nx ∧ nx ≤ 9 ∧ Hid (smG (xs.drop (k + 1)) S T nx = smF xs [] ⟨#[]⟩ 1) ∧ Hid ((S.length : Int) + nx = (k : Int) + 2) ∧ T.size ≤ 9 + k ∧ Hid ((T.size : Int) = nx + k) ∧ (∃ b c m, o = .slice (some ⟨b, 0, none⟩) m c ∧ Hid (m = S.length) ∧ m ≤ 9 ∧ w.heap.size ≤ b ∧ Row 3 wr b c (vals S)) ∧ Ext w wr) (fun _ _ n _ => 20 - (intOf n).toNat)
        case atStart => exact ⟨S ++ [x], T ++ bI, nx, rfl, rfl, hn0, hn8, Lib.hid (by rw [← hcons.out, ← HDR.out]; exact hR.out), Lib.hid (by have := hS.out; simp; omega), by have := hTs.out; have := hts1.out; omega, Lib.hid (by have := hTs.out; have := hts1.out; omega), ⟨b6, c6, m + 1, rfl, Lib.hid (by simp [hm.out]), by have := hm.out; omega, by omega, h3⟩, he6⟩
        case round =>
          clear hr he
          obtain ⟨S, T, nx, rfl, rfl, hn0, hn8, hR, hS, hT, hTs, ⟨b, c, m, rfl, hm, hm9, hbb, hr⟩, he⟩ := hrel
          clear h3 he6
          by_cases hm0 : m = 0
          · subst hm0
            have hno := Lib.hid (smG_nil (r := xs.drop (k + 1)) (S := S) (T := T) (nx := nx) hm.out.symm)
            go_wp2_with fail
            go_roundw
            case rel => exact ⟨k + 1, S, T, nx, by omega, by go_num, rfl, rfl, hn0, hn8, Lib.hid (by rw [← hno.out]; exact hR.out), Lib.hid (by have := hS.out; omega), by omega, Lib.hid (by have := hTs.out; omega), ⟨b, c, 0, rfl, hm, hbb, hr⟩, he⟩
            case measure => simp [intOf]; omega
          · obtain ⟨q, hq⟩ : ∃ q, m = q + 1 := ⟨m - 1, by omega⟩
            have hSq : S.length = q + 1 := by have := hm.out; omega
            have hcell := hr.icell (j := q) (by omega)
            have hle := hr.le
            rw [List.length_map, hSq] at hle
            have hts1 := Lib.hid (bO_size T)
            have hmx := hr.mx
            unfold maxLen at hmx
            have HSQ := Lib.hid hSq
            have hsh : Row 3 wr b c (vals (S.take q)) := by have := hr.shrink q; rw [← List.map_take] at this; exact this
            have HSH := Lib.hid hsh
            have HRR := Lib.hid hr
            have hnb : nx + q ≤ 8 := by have := hS.out; omega
            subst hq
            clear hSq hr hsh hm0
            by_cases hb : nth S q = nx
            · have hb2 : (nth S q == nx) = true := by simp [hb]
              have hyes := Lib.hid (smG_yes (r := xs.drop (k + 1)) (T := T) HSQ.out hb)
              clear hb
              go_wp2_with fail
              go_roundw
              case rel => exact ⟨S.take q, T ++ bO, nx + 1, rfl, rfl, by omega, by omega, Lib.hid (by rw [← hyes.out]; exact hR.out), Lib.hid (by have := hS.out; have := HSQ.out; simp; omega), by have := hTs.out; have := hts1.out; omega, Lib.hid (by have := hTs.out; have := hts1.out; omega), ⟨b, c, q, rfl, Lib.hid (by have := HSQ.out; simp; omega), by omega, hbb, HSH.out⟩, he⟩
              case measure => simp [intOf]; omega
            · have hb2 : (nth S q == nx) = false := by simp [hb]
              have hno := Lib.hid (smG_no (r := xs.drop (k + 1)) (T := T) HSQ.out hb)
              clear hb
              go_wp2_with fail
              go_roundw
              case rel => exact ⟨k + 1, S, T, nx, by omega, by go_num, rfl, rfl, hn0, hn8, Lib.hid (by rw [← hno.out]; exact hR.out), Lib.hid (by have := hS.out; omega), by omega, Lib.hid (by have := hTs.out; omega), ⟨b, c, q + 1, rfl, hm, hbb, HRR.out⟩, he⟩
              case measure => simp [intOf]; omega
      · have hfin : Hid (smF xs [] ⟨#[]⟩ 1 = if S.length = 0 then (T, true) else (⟨#[]⟩, false)) := by
          show _ = _
          rw [← hR.out, List.drop_eq_nil_of_le (by omega)]; rfl
        by_cases hm0 : m = 0
        · have hf2 : Hid (smF xs [] ⟨#[]⟩ 1 = (T, true)) := by show _ = _; rw [hfin.out, if_pos (by have := hm.out; omega)]
          subst hm0
          go_wp2_with fail
          go_ret2
          rw [e0.out, hf2.out]
          exact ⟨rfl, he⟩
        · have hf2 : Hid (smF xs [] ⟨#[]⟩ 1 = (⟨#[]⟩, false)) := by show _ = _; rw [hfin.out, if_neg (by have := hm.out; omega)]
          have hmp : 0 < m := by omega
          clear hm0
          go_wp2_with fail
          go_ret2
          rw [e0.out, hf2.out]
          exact ⟨rfl, he⟩
end Go.Proofs.Ytplcnehiaokdjaa
