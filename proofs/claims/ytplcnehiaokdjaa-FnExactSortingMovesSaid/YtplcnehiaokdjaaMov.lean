/- Contracts of MovesFor, the program's and the reference's. Conditions: lengths below a bound. -/
import Derived.Test.YtplcnehiaokdjaaRow3
import Derived.Test.YtplcnehiaokdjaaBase2
namespace Go.Proofs.Ytplcnehiaokdjaa
open Go.RowKit

/-- distinct numbers from 1 to m are at most m. -/
theorem nodup_len : ∀ (m : Nat) (xs : List Int), xs.Nodup → (∀ x ∈ xs, 1 ≤ x ∧ x ≤ m) → xs.length ≤ m := by
  intro m
  induction m with
  | zero =>
    intro xs _ h
    cases xs with
    | nil => simp
    | cons x xs => have := h x (List.mem_cons_self ..); omega
  | succ m ih =>
    intro xs hn h
    have h1 := ih (xs.erase ((m : Int) + 1)) (hn.erase _) (fun x hx => by
      rw [hn.mem_erase_iff] at hx
      have := h x hx.2; omega)
    have h2 : xs.length ≤ (xs.erase ((m : Int) + 1)).length + 1 := by
      rw [List.length_erase]; split <;> omega
    omega

def bI : ByteArray := ⟨#[73]⟩
def bO : ByteArray := ⟨#[79]⟩
def pushT : Nat → ByteArray → ByteArray
  | 0, T => T
  | n + 1, T => pushT n (T ++ bI)
def seg (a v : Int) : List Int := (List.range (v + 1 - a).toNat).map fun (i : Nat) => a + (i : Int)
def mvF : List Int → List Int → ByteArray → Int → ByteArray × Bool
  | [], _, T, _ => (T, true)
  | v :: r, S, T, nx => if nth (S ++ seg nx v) ((S ++ seg nx v).length - 1) = v then mvF r ((S ++ seg nx v).take ((S ++ seg nx v).length - 1)) (pushT (v + 1 - nx).toNat T ++ bO) (max nx (v + 1)) else (⟨#[]⟩, false)
theorem seg_cons {a v : Int} (h : a ≤ v) : seg a v = a :: seg (a + 1) v := by
  unfold seg
  rw [show (v + 1 - a).toNat = (v + 1 - (a + 1)).toNat + 1 by omega, List.range_succ_eq_map]
  simp only [List.map_cons, List.map_map]
  congr 1
  · simp
  · apply List.map_congr_left
    intro i _
    simp; omega
theorem seg_nil {a v : Int} (h : v < a) : seg a v = [] := by unfold seg; rw [show (v + 1 - a).toNat = 0 by omega]; rfl
theorem mvF_push {v nx : Int} (h : nx ≤ v) (r S : List Int) (T : ByteArray) : mvF (v :: r) S T nx = mvF (v :: r) (S ++ [nx]) (T ++ bI) (nx + 1) := by
  have h1 : S ++ seg nx v = (S ++ [nx]) ++ seg (nx + 1) v := by rw [seg_cons h]; simp
  simp only [mvF]
  rw [← h1, show (v + 1 - nx).toNat = (v + 1 - (nx + 1)).toNat + 1 by omega, show max (nx + 1) (v + 1) = max nx (v + 1) by omega]
  rfl
theorem mvF_top {v nx : Int} (h : v < nx) (r S : List Int) (T : ByteArray) : mvF (v :: r) S T nx = if nth S (S.length - 1) = v then mvF r (S.take (S.length - 1)) (T ++ bO) nx else (⟨#[]⟩, false) := by
  simp only [mvF]
  rw [seg_nil h, List.append_nil, show (v + 1 - nx).toNat = 0 by omega, show max nx (v + 1) = nx by omega]
  rfl
def mvR (xs : List Int) : ByteArray × Bool := bif isP8 xs then mvF xs [] ⟨#[]⟩ 1 else (⟨#[]⟩, false)
theorem bI_size (T : ByteArray) : (T ++ bI).size = T.size + 1 := by rw [ByteArray.size_append]; rfl
theorem bO_size (T : ByteArray) : (T ++ bO).size = T.size + 1 := by rw [ByteArray.size_append]; rfl
/-- what has been met is below the next number: the stack is not empty. -/
theorem stack_pos {xs : List Int} (hp : IsP xs) {k n : Nat} {nx : Int} (hk : k < xs.length) (hlt : ∀ x ∈ xs.take (k + 1), x < nx) (hn : (n : Int) + k = nx - 1) : 1 ≤ n := by
  have h1 := nodup_len (nx - 1).toNat (xs.take (k + 1)) (hp.2.sublist (List.take_sublist _ _)) (fun x hx => by
    have h2 := hlt x hx
    have h3 := hp.1 x (List.mem_of_mem_take hx)
    omega)
  simp at h1
  omega

set_option maxHeartbeats 2000000 in
theorem impl_MovesFor_ok (v : Value) (xs : List Int) (w : World) (h : SI w v xs) (hl : xs.length ≤ 1048576) (_hb : I64s xs) :
    Calls Try.prog 34 #[v] w fun e w' => e = .returned (.tuple #[.string (mvR xs).1, .bool (mvR xs).2]) ∧ Ext w w' := by
  obtain ⟨a, cap, rfl, hri⟩ := h.elim
  cases hp : isP8 xs
  · have hP := Lib.hid hp
    have e0 : Hid (mvR xs = (⟨#[]⟩, false)) := by show _ = _; simp [mvR, hp]
    clear hp
    go_enter Try.func34, Try.ntmps34
    go_wp2_with (go_at_call 39; refine (impl_IsPerm_ok _ xs _ h).mono ?_; rintro e w1 ⟨rfl, he⟩; rw [hP.out])
    go_ret2
    rw [e0.out]
    exact ⟨rfl, he⟩
  · have hP := Lib.hid hp
    have h8 : xs.length ≤ 8 := (isP8_iff.1 hp).1
    have HPP := Lib.hid (isP8_iff.1 hp).2
    have e0 : Hid (mvR xs = mvF xs [] ⟨#[]⟩ 1) := by show _ = _; simp [mvR, hp]
    clear hp
    go_enter Try.func34, Try.ntmps34
    go_wp2_with (go_at_call 39; refine (impl_IsPerm_ok _ xs _ h).mono ?_; rintro e w1 ⟨rfl, he1⟩; rw [hP.out])
    have hr0 := Row.new 3 w1 [] (by simp)
    have hz1 := he1.size
    go_loopw [4, 5, 6, 15] (fun s o n i wr => ∃ k : Nat, ∃ S : List Int, ∃ T : ByteArray, ∃ nx : Int, k ≤ xs.length ∧ i = .int .i64 k ∧ s = .string T ∧ n = .int .i64 nx ∧ 0 ≤ nx ∧ nx ≤ 8 ∧ Hid (mvF (xs.drop k) S T (nx + 1) = mvF xs [] ⟨#[]⟩ 1) ∧ Hid ((S.length : Int) + k = nx) ∧ Hid (∀ x ∈ xs.take k, x < nx + 1) ∧ T.size ≤ 8 + k ∧ Hid ((T.size : Int) = nx + k) ∧ (∃ b c m, o = .slice (some ⟨b, 0, none⟩) m c ∧ Hid (m = S.length) ∧ w.heap.size ≤ b ∧ Row 3 wr b c (vals S)) ∧ Ext w wr) (fun _ _ _ i _ => xs.length - (intOf i).toNat)
    case atStart => exact ⟨0, [], ⟨#[]⟩, 0, Nat.zero_le _, rfl, rfl, rfl, by omega, by omega, Lib.hid rfl, Lib.hid rfl, Lib.hid (by simp), by simp [ByteArray.size], Lib.hid rfl, ⟨_, 0, 0, rfl, Lib.hid rfl, hz1, hr0⟩, he1.alloc _⟩
    case round =>
      obtain ⟨k, S, T, nx, hk, rfl, rfl, rfl, hn0, hn8, hR, hS, hA, hT, hTs, ⟨b, c, m, rfl, hm, hbb, hr⟩, he⟩ := hrel
      clear hr0 he1
      by_cases hlt : k < xs.length
      · obtain ⟨b1, off1, rfl, hc0⟩ := (hri.ext he).get hlt
        have hck := hc0 k hlt
        have hxb := HPP.out.1 _ (nth_mem hlt)
        have hdr := drop_nth hlt
        have htk := take_nth hlt
        obtain ⟨x, hx⟩ : ∃ x, x = nth xs k := ⟨_, rfl⟩
        rw [← hx] at hck hxb hdr htk
        have HDR := Lib.hid hdr
        have HTK := Lib.hid htk
        have hpos : Hid (∀ (n : Nat) (y : Int), (∀ z ∈ xs.take (k + 1), z < y) → (n : Int) + k = y - 1 → 1 ≤ n) := by
          show ∀ n y, _
          intro n y h1 h2; exact stack_pos HPP.out hlt h1 h2
        clear hc0 hx hdr htk
        go_wp2_with fail
        go_loopw [4, 5, 6] (fun s o n wr => ∃ S : List Int, ∃ T : ByteArray, ∃ nx : Int, s = .string T ∧ n = .int .i64 nx ∧ 0 ≤ nx ∧ nx ≤ 8 ∧ Hid (mvF (x :: xs.drop (k + 1)) S T (nx + 1) = mvF xs [] ⟨#[]⟩ 1) ∧ Hid ((S.length : Int) + k = nx) ∧ Hid (∀ x ∈ xs.take k, x < nx + 1) ∧ T.size ≤ 8 + k ∧ Hid ((T.size : Int) = nx + k) ∧ (∃ b c m, o = .slice (some ⟨b, 0, none⟩) m c ∧ Hid (m = S.length) ∧ w.heap.size ≤ b ∧ Row 3 wr b c (vals S)) ∧ Ext w wr) (fun _ _ n _ => 10 - (intOf n).toNat)
        case atStart => exact ⟨S, T, nx, rfl, rfl, hn0, hn8, Lib.hid (by rw [← HDR.out]; exact hR.out), hS, hA, hT, hTs, ⟨b, c, m, rfl, hm, hbb, hr⟩, he⟩
        case round =>
          obtain ⟨S, T, nx, rfl, rfl, hn0, hn8, hR, hS, hA, hT, hTs, ⟨b, c, m, rfl, hm, hbb, hr⟩, he⟩ := hrel
          by_cases hnx : nx < x
          · have hpush := Lib.hid (mvF_push (show nx + 1 ≤ x by omega) (xs.drop (k + 1)) S T)
            have hts1 := Lib.hid (bI_size T)
            have hsl : S.length ≤ 8 := by have := hS.out; omega
            go_wp2_with (at_builtin; refine wpl_app1 rfl _ _ rfl b c m S (nx + 1) rfl hr hm.out rfl (by omega) ?_; intro b6 c6 w6 h3 h4 h5)
            go_roundw
            case rel => exact ⟨S ++ [nx + 1], T ++ bI, nx + 1, rfl, rfl, by omega, by omega, Lib.hid (by rw [← hpush.out]; exact hR.out), Lib.hid (by have := hS.out; simp; omega), Lib.hid (fun x hx => by have := hA.out x hx; omega), by have := hTs.out; have := hts1.out; omega, Lib.hid (by have := hTs.out; have := hts1.out; omega), ⟨b6, c6, m + 1, rfl, Lib.hid (by simp [hm.out]), by have := he.size; omega, h3⟩, he.upd1 h5 hbb⟩
            case measure => simp [intOf]; omega
          · have htop := Lib.hid (mvF_top (show x < nx + 1 by omega) (xs.drop (k + 1)) S T)
            have hA2 : Hid (∀ z ∈ xs.take (k + 1), z < nx + 1) := by
              show ∀ z ∈ _, _
              intro z hz
              rw [HTK.out] at hz
              rcases List.mem_append.1 hz with hz | hz
              · exact hA.out z hz
              · simp at hz; omega
            have hp1 := hpos.out S.length (nx + 1) hA2.out (by have := hS.out; omega)
            obtain ⟨q, hq⟩ : ∃ q, m = q + 1 := ⟨m - 1, by have := hm.out; omega⟩
            have hSq : S.length = q + 1 := by have := hm.out; omega
            have hcell := hr.icell (j := q) (by omega)
            have hle := hr.le
            rw [List.length_map, hSq] at hle
            have hts1 := Lib.hid (bO_size T)
            have hq8 : q ≤ 8 := by have := hS.out; omega
            have w1 : IntKind.i64.wrap ((q : Int) + 1 - 1) = (q : Int) := by rw [IntWalk.i64_in _ (by omega)]; omega
            have hmx := hr.mx
            unfold maxLen at hmx
            have HSQ := Lib.hid hSq
            have hsh : Row 3 wr b c (vals (S.take q)) := by have := hr.shrink q; rw [← List.map_take] at this; exact this
            have HSH := Lib.hid hsh
            subst hq
            clear hSq hr hsh hp1
            by_cases hb : nth S q = x
            · have hb2 : (nth S q != x) = false := by simp [hb]
              have HR2 : Hid (mvF (xs.drop (k + 1)) (S.take q) (T ++ bO) (nx + 1) = mvF xs [] ⟨#[]⟩ 1) := by
                show _ = _
                rw [← hR.out, htop.out, show S.length - 1 = q by have := HSQ.out; omega, if_pos hb]
              clear hb
              go_wp2_with fail
              go_roundw
              case rel => exact ⟨k + 1, S.take q, T ++ bO, nx, by omega, by go_num, rfl, rfl, hn0, hn8, HR2, Lib.hid (by have := hS.out; have := HSQ.out; simp; omega), hA2, by have := hTs.out; have := hts1.out; omega, Lib.hid (by have := hTs.out; have := hts1.out; omega), ⟨b, c, q, rfl, Lib.hid (by have := HSQ.out; simp; omega), hbb, HSH.out⟩, he⟩
              case measure => simp [intOf]; omega
            · have hb2 : (nth S q != x) = true := by simp [hb]
              have HR2 : Hid (mvF xs [] ⟨#[]⟩ 1 = (⟨#[]⟩, false)) := by
                show _ = _
                rw [← hR.out, htop.out, show S.length - 1 = q by have := HSQ.out; omega, if_neg hb]
              clear hb
              go_wp2_with fail
              go_ret2
              rw [e0.out, HR2.out]
              exact ⟨rfl, he⟩
      · have hfin : Hid (mvF xs [] ⟨#[]⟩ 1 = (T, true)) := by
          show _ = _
          rw [← hR.out, List.drop_eq_nil_of_le (by omega)]; rfl
        go_wp2_with fail
        go_ret2
        rw [e0.out, hfin.out]
        exact ⟨rfl, he⟩
set_option maxHeartbeats 2000000 in
theorem spec_MovesFor_ok (v : Value) (xs : List Int) (w : World) (h : SI w v xs) (hl : xs.length ≤ 1048576) (_hb : I64s xs) :
    Calls Try.prog 33 #[v] w fun e w' => e = .returned (.tuple #[.string (mvR xs).1, .bool (mvR xs).2]) ∧ Ext w w' := by
  obtain ⟨a, cap, rfl, hri⟩ := h.elim
  cases hp : isP8 xs
  · have hP := Lib.hid hp
    have e0 : Hid (mvR xs = (⟨#[]⟩, false)) := by show _ = _; simp [mvR, hp]
    clear hp
    go_enter Try.func33, Try.ntmps33
    go_wp2_with (go_at_call 26; refine (spec_IsPerm_qt _ xs _ h (by omega)).mono ?_; rintro e w1 ⟨rfl, hq⟩; rw [hP.out]; have he : Ext w w1 := hq.ext)
    go_ret2
    rw [e0.out]
    exact ⟨rfl, he⟩
  · have hP := Lib.hid hp
    have h8 : xs.length ≤ 8 := (isP8_iff.1 hp).1
    have HPP := Lib.hid (isP8_iff.1 hp).2
    have e0 : Hid (mvR xs = mvF xs [] ⟨#[]⟩ 1) := by show _ = _; simp [mvR, hp]
    clear hp
    go_enter Try.func33, Try.ntmps33
    go_wp2_with (go_at_call 26; refine (spec_IsPerm_qt _ xs _ h (by omega)).mono ?_; rintro e w1 ⟨rfl, hq⟩; rw [hP.out]; have he1 : Ext w w1 := hq.ext)
    have hr0 := Row.new 3 w1 [] (by simp)
    have hz1 := he1.size
    go_loopw [4, 5, 6, 7] (fun s o n i wr => ∃ k : Nat, ∃ S : List Int, ∃ T : ByteArray, ∃ nx : Int, k ≤ xs.length ∧ i = .int .i64 k ∧ s = .string T ∧ n = .int .i64 (nx + 1) ∧ 0 ≤ nx ∧ nx ≤ 8 ∧ Hid (mvF (xs.drop k) S T (nx + 1) = mvF xs [] ⟨#[]⟩ 1) ∧ Hid ((S.length : Int) + k = nx) ∧ Hid (∀ x ∈ xs.take k, x < nx + 1) ∧ T.size ≤ 8 + k ∧ Hid ((T.size : Int) = nx + k) ∧ (∃ b c m, o = .slice (some ⟨b, 0, none⟩) m c ∧ Hid (m = S.length) ∧ w.heap.size ≤ b ∧ Row 3 wr b c (vals S)) ∧ Ext w wr) (fun _ _ _ i _ => xs.length - (intOf i).toNat)
    case atStart => exact ⟨0, [], ⟨#[]⟩, 0, Nat.zero_le _, rfl, rfl, rfl, by omega, by omega, Lib.hid rfl, Lib.hid rfl, Lib.hid (by simp), by simp [ByteArray.size], Lib.hid rfl, ⟨_, 0, 0, rfl, Lib.hid rfl, hz1, hr0⟩, he1.alloc _⟩
    case round =>
      obtain ⟨k, S, T, nx, hk, rfl, rfl, rfl, hn0, hn8, hR, hS, hA, hT, hTs, ⟨b, c, m, rfl, hm, hbb, hr⟩, he⟩ := hrel
      clear hr0 he1
      by_cases hlt : k < xs.length
      · have hxc : Hid (∃ b1 off1, a = some ⟨b1, off1, none⟩ ∧ w.cell? ⟨b1, off1 + k, none⟩ = some (.int .i64 (nth xs k))) := by
          obtain ⟨b1, off1, e1, hc0⟩ := hri.get hlt
          exact ⟨b1, off1, e1, hc0 k hlt⟩
        have hxb := HPP.out.1 _ (nth_mem hlt)
        have hdr := drop_nth hlt
        have htk := take_nth hlt
        obtain ⟨x, hx⟩ : ∃ x, x = nth xs k := ⟨_, rfl⟩
        rw [← hx] at hxb hdr htk
        obtain ⟨b1, off1, rfl, hck0⟩ := hxc.out
        rw [← hx] at hck0
        have HCK := Lib.hid hck0
        have HDR := Lib.hid hdr
        have HTK := Lib.hid htk
        have hpos : Hid (∀ (n : Nat) (y : Int), (∀ z ∈ xs.take (k + 1), z < y) → (n : Int) + k = y - 1 → 1 ≤ n) := by
          show ∀ n y, _
          intro n y h1 h2; exact stack_pos HPP.out hlt h1 h2
        clear hck0 hxc hx hdr htk
        go_wp2_with fail
        go_loopw [4, 5, 6] (fun s o n wr => ∃ S : List Int, ∃ T : ByteArray, ∃ nx : Int, s = .string T ∧ n = .int .i64 (nx + 1) ∧ 0 ≤ nx ∧ nx ≤ 8 ∧ Hid (mvF (x :: xs.drop (k + 1)) S T (nx + 1) = mvF xs [] ⟨#[]⟩ 1) ∧ Hid ((S.length : Int) + k = nx) ∧ Hid (∀ x ∈ xs.take k, x < nx + 1) ∧ T.size ≤ 8 + k ∧ Hid ((T.size : Int) = nx + k) ∧ (∃ b c m, o = .slice (some ⟨b, 0, none⟩) m c ∧ Hid (m = S.length) ∧ w.heap.size ≤ b ∧ Row 3 wr b c (vals S)) ∧ Ext w wr) (fun _ _ n _ => 11 - (intOf n).toNat)
        case atStart => exact ⟨S, T, nx, rfl, rfl, hn0, hn8, Lib.hid (by rw [← HDR.out]; exact hR.out), hS, hA, hT, hTs, ⟨b, c, m, rfl, hm, hbb, hr⟩, he⟩
        case round =>
          obtain ⟨S, T, nx, rfl, rfl, hn0, hn8, hR, hS, hA, hT, hTs, ⟨b, c, m, rfl, hm, hbb, hr⟩, he⟩ := hrel
          have hck := he.cell HCK.out
          by_cases hnx : nx + 1 ≤ x
          · have hpush := Lib.hid (mvF_push (show nx + 1 ≤ x by omega) (xs.drop (k + 1)) S T)
            have hts1 := Lib.hid (bI_size T)
            have hsl : S.length ≤ 8 := by have := hS.out; omega
            go_wp2_with (at_builtin; refine wpl_app1 rfl _ _ rfl b c m S (nx + 1) rfl hr hm.out rfl (by omega) ?_; intro b6 c6 w6 h3 h4 h5)
            go_roundw
            case rel => exact ⟨S ++ [nx + 1], T ++ bI, nx + 1, rfl, rfl, by omega, by omega, Lib.hid (by rw [← hpush.out]; exact hR.out), Lib.hid (by have := hS.out; simp; omega), Lib.hid (fun x hx => by have := hA.out x hx; omega), by have := hTs.out; have := hts1.out; omega, Lib.hid (by have := hTs.out; have := hts1.out; omega), ⟨b6, c6, m + 1, rfl, Lib.hid (by simp [hm.out]), by have := he.size; omega, h3⟩, he.upd1 h5 hbb⟩
            case measure => simp [intOf]; omega
          · have htop := Lib.hid (mvF_top (show x < nx + 1 by omega) (xs.drop (k + 1)) S T)
            have hA2 : Hid (∀ z ∈ xs.take (k + 1), z < nx + 1) := by
              show ∀ z ∈ _, _
              intro z hz
              rw [HTK.out] at hz
              rcases List.mem_append.1 hz with hz | hz
              · exact hA.out z hz
              · simp at hz; omega
            have hp1 := hpos.out S.length (nx + 1) hA2.out (by have := hS.out; omega)
            obtain ⟨q, hq⟩ : ∃ q, m = q + 1 := ⟨m - 1, by have := hm.out; omega⟩
            have hSq : S.length = q + 1 := by have := hm.out; omega
            have hcell := hr.icell (j := q) (by omega)
            have hle := hr.le
            rw [List.length_map, hSq] at hle
            have hts1 := Lib.hid (bO_size T)
            have hq8 : q ≤ 8 := by have := hS.out; omega
            have w1 : IntKind.i64.wrap ((q : Int) + 1 - 1) = (q : Int) := by rw [IntWalk.i64_in _ (by omega)]; omega
            have hmx := hr.mx
            unfold maxLen at hmx
            have HSQ := Lib.hid hSq
            have hsh : Row 3 wr b c (vals (S.take q)) := by have := hr.shrink q; rw [← List.map_take] at this; exact this
            have HSH := Lib.hid hsh
            subst hq
            clear hSq hr hsh hp1
            by_cases hb : nth S q = x
            · have hb2 : (nth S q != x) = false := by simp [hb]
              have HR2 : Hid (mvF (xs.drop (k + 1)) (S.take q) (T ++ bO) (nx + 1) = mvF xs [] ⟨#[]⟩ 1) := by
                show _ = _
                rw [← hR.out, htop.out, show S.length - 1 = q by have := HSQ.out; omega, if_pos hb]
              clear hb
              go_wp2_with fail
              go_quiet (fail)
              clear w1
              go_wp2_with fail
              go_roundw
              case rel => exact ⟨k + 1, S.take q, T ++ bO, nx, by omega, by go_num, rfl, rfl, hn0, hn8, HR2, Lib.hid (by have := hS.out; have := HSQ.out; simp; omega), hA2, by have := hTs.out; have := hts1.out; omega, Lib.hid (by have := hTs.out; have := hts1.out; omega), ⟨b, c, q, rfl, Lib.hid (by have := HSQ.out; simp; omega), hbb, HSH.out.ext (Upd.drewN _ _ _)⟩, he.drewN _⟩
              case measure => simp [intOf]; omega
            · have hb2 : (nth S q != x) = true := by simp [hb]
              have HR2 : Hid (mvF xs [] ⟨#[]⟩ 1 = (⟨#[]⟩, false)) := by
                show _ = _
                rw [← hR.out, htop.out, show S.length - 1 = q by have := HSQ.out; omega, if_neg hb]
              clear hb
              go_wp2_with fail
              go_quiet (fail)
              clear w1
              go_wp2_with fail
              go_ret2
              rw [e0.out, HR2.out]
              exact ⟨rfl, he.drewN _⟩
      · have hfin : Hid (mvF xs [] ⟨#[]⟩ 1 = (T, true)) := by
          show _ = _
          rw [← hR.out, List.drop_eq_nil_of_le (by omega)]; rfl
        go_wp2_with fail
        go_ret2
        rw [e0.out, hfin.out]
        exact ⟨rfl, he⟩
end Go.Proofs.Ytplcnehiaokdjaa
