/- Contracts of what FnQueues asks for besides: the longest descent, Catalan's numbers, the draws. Conditions: small lengths. -/
import Derived.Test.YtplcnehiaokdjaaQueP
import Derived.Test.YtplcnehiaokdjaaFew
import Derived.Test.YtplcnehiaokdjaaGreat
import Derived.Test.YtplcnehiaokdjaaRev
namespace Go.Proofs.Ytplcnehiaokdjaa
open Go.RowKit

theorem upAt_bd (r E : List Int) (x : Int) (m : Int) (hE : ∀ y ∈ E, 0 ≤ y ∧ y ≤ m) (n : Nat) (hn : n ≤ E.length) (hm : 0 ≤ m) : 1 ≤ upAt r E x n ∧ upAt r E x n ≤ m + 1 := by
  induction n with
  | zero => unfold upAt; omega
  | succ n ih =>
    have ih := ih (by omega)
    have := hE _ (nth_mem (show n < E.length by omega))
    unfold upAt
    split <;> omega
theorem upE_bd (r : List Int) (k : Nat) : ∀ y ∈ upE r k, 0 ≤ y ∧ y ≤ k := by
  induction k with
  | zero => intro y h; simp [upE] at h
  | succ k ih =>
    intro y h
    have h' : y ∈ upE r k ++ [upAt r (upE r k) (nth r k) k] := h
    rcases List.mem_append.1 h' with e | e
    · have := ih y e; push_cast; omega
    · simp at e; subst e
      have := upAt_bd r (upE r k) (nth r k) k ih k (by rw [upE_len]; exact Nat.le_refl _) (by omega)
      push_cast; omega
theorem upTo_bd (r : List Int) (k : Nat) : 0 ≤ upTo r k ∧ upTo r k ≤ k := by
  induction k with
  | zero => simp [upTo]
  | succ k ih =>
    have := upAt_bd r (upE r k) (nth r k) k (upE_bd r k) k (by rw [upE_len]; exact Nat.le_refl _) (by omega)
    unfold upTo; push_cast; omega
theorem upAt_t {r E : List Int} {x : Int} {n : Nat} (h : nth r n < x) : upAt r E x (n + 1) = max (upAt r E x n) (nth E n + 1) := if_pos h
theorem upAt_f {r E : List Int} {x : Int} {n : Nat} (h : ¬ nth r n < x) : upAt r E x (n + 1) = upAt r E x n := if_neg h
theorem l1Max_zz (x y z : Int) (hz : Hid (z = max x y)) (w : World) : Calls Try.prog 53 #[.int .i64 x, .int .i64 y] w fun e w' => e = .returned (.int .i64 z) ∧ Qt w w' := by
  rw [hz.out]; exact l1Max_ok x y w
set_option maxHeartbeats 4000000 in
theorem l20Up_ok (v : Value) (r : List Int) (w : World) (h : SI w v r) (hl : r.length ≤ 1000) :
    Calls Try.prog 55 #[v] w fun e w' => e = .returned (.int .i64 (upTo r r.length)) ∧ Ext w w' := by
  obtain ⟨a, cap, rfl, hri⟩ := h.elim
  have hr0 := Row.new 3 w [] (by simp)
  have he0 : Ext w (w.alloc (.cells #[] 3)) := Upd.alloc _ _ _
  clear h
  go_enter Try.func55, Try.ntmps55
  go_wp2_with fail
  go_loopw [3, 4, 5] (fun bst o i wr => ∃ k : Nat, k ≤ r.length ∧ i = .int .i64 k ∧ (∃ z : Int, bst = .int .i64 z ∧ Hid (z = upTo r k)) ∧ (∃ b c, o = .slice (some ⟨b, 0, none⟩) k c ∧ w.heap.size ≤ b ∧ Row 3 wr b c (vals (upE r k))) ∧ Ext w wr) (fun _ _ i _ => r.length - (intOf i).toNat)
  case atStart => exact ⟨0, Nat.zero_le _, rfl, ⟨0, rfl, Lib.hid rfl⟩, ⟨_, 0, rfl, Nat.le_refl _, hr0⟩, he0⟩
  case round =>
    obtain ⟨k, hk, rfl, ⟨z, rfl, hz⟩, ⟨b, c, rfl, hb, hr⟩, he⟩ := hrel
    clear hr0 he0
    by_cases hlt : k < r.length
    · obtain ⟨bb, off, rfl, hc⟩ := (hri.ext he).get hlt
      have hck := hc k hlt
      have hzb := upTo_bd r k
      rw [← hz.out] at hzb
      have heb := Lib.hid (upE_bd r k)
      have hel := Lib.hid (upE_len r k)
      obtain ⟨x, hx⟩ : ∃ x, x = nth r k := ⟨_, rfl⟩
      obtain ⟨D, hD⟩ : ∃ D, D = upE r k := ⟨_, rfl⟩
      rw [← hx] at hck
      rw [← hD] at hr heb hel
      have HX := Lib.hid hx
      have HD := Lib.hid hD
      have HC := Lib.hid hc
      have HR := Lib.hid hr
      clear hx hD hc hr
      go_wp2_with fail
      obtain ⟨wp, hwp⟩ : ∃ wp, wp = wr := ⟨_, rfl⟩
      subst hwp
      go_loopw [6, 7] (fun n i wr => ∃ m : Nat, m ≤ k ∧ i = .int .i64 m ∧ (∃ q : Int, n = .int .i64 q ∧ Hid (q = upAt r D x m) ∧ 1 ≤ q ∧ q ≤ 1001) ∧ Qt wp wr) (fun _ i _ => k - (intOf i).toNat)
      case atStart => exact ⟨0, Nat.zero_le _, rfl, ⟨1, rfl, Lib.hid rfl, by omega, by omega⟩, Qt.refl _⟩
      case round =>
        obtain ⟨m, hm, rfl, ⟨q, rfl, hq2, hq3, hq4⟩, hq⟩ := hrel
        by_cases hmk : m < k
        · have hcm := hq.ext.cell (HC.out m (by omega)) id
          have hck2 := hq.ext.cell hck id
          have hdc := hq.ext.cell (HR.out.icell (j := m) (by rw [hel.out]; exact hmk)) id
          have hdb := heb.out _ (nth_mem (show m < D.length by rw [hel.out]; exact hmk))
          obtain ⟨y, hy⟩ : ∃ y, y = nth r m := ⟨_, rfl⟩
          obtain ⟨d, hd⟩ : ∃ d, d = nth D m := ⟨_, rfl⟩
          rw [← hy] at hcm
          rw [← hd] at hdc hdb
          have hmI : (m : Int) < (r.length : Int) := by omega
          have hkI : (k : Int) < (r.length : Int) := by omega
          have hmk2 : (m : Int) < (k : Int) := by omega
          by_cases hyx : y < x
          · obtain ⟨q2, hq2'⟩ : ∃ q2, q2 = max q (d + 1) := ⟨_, rfl⟩
            have hst : Hid (q2 = upAt r D x (m + 1)) := by show _ = _; rw [upAt_t (by rw [← hy]; exact hyx), ← hq2.out, ← hd]; exact hq2'
            have hb2 : 1 ≤ q2 ∧ q2 ≤ 1001 := by omega
            have HQ2 := Lib.hid hq2'
            clear hy hd hq2' hck
            have HDC := Lib.hid (fun nq => hdc |> (show Ext wr (wr.drewN nq) from Upd.drewN wr nq _).cell)
            go_wp2_with fail
            go_quiet (fail)
            have hdc2 := HDC.out nq
            go_wp2_with (go_at_call 53; refine (l1Max_zz _ _ q2 HQ2 _).mono ?_; rintro e w3 ⟨rfl, hq5⟩)
            go_roundw
            case rel => exact ⟨m + 1, by omega, by go_num, ⟨q2, rfl, hst, hb2.1, hb2.2⟩, (hq.drewN _).trans hq5⟩
            case measure => simp [intOf]; omega
          · have hst : Hid (q = upAt r D x (m + 1)) := by show _ = _; rw [upAt_f (by rw [← hy]; exact hyx)]; exact hq2.out
            clear hy hd hck hdc
            go_wp2_with fail
            go_quiet (fail)
            go_wp2_with fail
            go_roundw
            case rel => exact ⟨m + 1, by omega, by go_num, ⟨q, rfl, hst, hq3, hq4⟩, hq.drewN _⟩
            case measure => simp [intOf]; omega
        · obtain rfl : m = k := by omega
          have hE : Hid (upE r (m + 1) = D ++ [q]) := by show _ = _; rw [hq2.out, HD.out, HX.out]; rfl
          obtain ⟨z2, hz2⟩ : ∃ z2, z2 = max z q := ⟨_, rfl⟩
          have hT : Hid (z2 = upTo r (m + 1)) := by show _ = _; rw [hz2, hz.out, hq2.out, HD.out, HX.out]; rfl
          have HZ2 := Lib.hid hz2
          have HR2 := Lib.hid (HR.out.ext hq.ext)
          have he2 : Ext w wr := he.trans hq.ext
          have hes := he2.size
          clear hz2 hck
          go_wp2_with (first | (at_builtin; refine wpl_app1 rfl _ _ rfl b c m D q rfl HR2.out hel.out.symm rfl (by rw [hel.out]; omega) ?_; intro b6 c6 w6 h3 h4 h5) | (go_at_call 53; refine (l1Max_zz _ _ z2 HZ2 _).mono ?_; rintro e w7 ⟨rfl, hq7⟩))
          go_roundw
          case rel => exact ⟨m + 1, by omega, by go_num, ⟨z2, rfl, hT⟩, ⟨b6, c6, rfl, by omega, by rw [hE.out]; exact h3.ext hq7.ext⟩, (he2.upd1 h5 hb).trans hq7.ext⟩
          case measure => simp [intOf]; omega
    · obtain rfl : k = r.length := by omega
      go_wp2_with fail
      go_ret
      exact ⟨by rw [hz.out]; rfl, he⟩
set_option maxHeartbeats 1000000 in
theorem LongestDown_ok (v : Value) (p : List Int) (w : World) (h : SI w v p) (hl : p.length ≤ 1048576) :
    Calls Try.prog 27 #[v] w fun e w' => e = .returned (.int .i64 (ldI p)) ∧ Ext w w' := by
  obtain ⟨a, cap, rfl, -⟩ := h.elim
  cases hp : isP8 p
  · have hP := Lib.hid hp
    have e0 : Hid (ldI p = -1) := by show _ = _; simp [ldI, hp]
    clear hp
    go_enter Try.func27, Try.ntmps27
    go_wp2_with (go_at_call 26; refine (spec_IsPerm_qt _ p _ h (by omega)).mono ?_; rintro e w1 ⟨rfl, hq⟩; rw [hP.out])
    go_ret
    exact ⟨by rw [e0.out]; rfl, hq.ext⟩
  · have hP := Lib.hid hp
    have h8 : p.length ≤ 8 := (isP8_iff.1 hp).1
    have e0 : Hid (ldI p = upTo p.reverse p.reverse.length) := by show _ = _; rw [List.length_reverse]; simp [ldI, hp]
    clear hp
    go_enter Try.func27, Try.ntmps27
    go_wp2_with fail
    refine (spec_IsPerm_qt _ p _ h (by omega)).mono ?_
    rintro e w1 ⟨rfl, hq⟩
    rw [hP.out]
    go_wp2_with fail
    refine (l3Reverse_ok _ p _ (h.ext hq.ext) (by omega)).mono ?_
    rintro e w2 ⟨v2, rfl, ho2, he2⟩
    obtain ⟨R, hR⟩ : ∃ R, R = p.reverse := ⟨_, rfl⟩
    rw [← hR] at ho2 e0
    have hRl : R.length ≤ 1000 := by rw [hR, List.length_reverse]; omega
    clear hR
    go_wp2_with fail
    refine (l20Up_ok _ R _ ho2.si hRl).mono ?_
    rintro e w3 ⟨rfl, he3⟩
    go_wp2_with fail
    go_ret
    exact ⟨by rw [e0.out]; rfl, (show Ext w w1 from hq.ext).trans (he2.trans he3)⟩
end Go.Proofs.Ytplcnehiaokdjaa
