/- Complement, sum and joins of permutations, the program's. Conditions: small numbers, short lists. -/
import Derived.Test.YtcifngcmdiokpaaSepP
import Derived.Test.YtcifngcmdiokpaaCcat
import Derived.Test.YtcifngcmdiokpaaFma
namespace Go.Proofs.Ytcifngcmdiokpaa
open Go.RowKit

def cplTo (p : List Int) (k : Nat) : List Int := (p.take k).map fun v => (p.length : Int) + 1 - v
theorem cplTo_all (p : List Int) : cplTo p p.length = cplL p := by unfold cplTo cplL; rw [List.take_length]
theorem cplTo_succ {p : List Int} {k : Nat} (h : k < p.length) : cplTo p (k + 1) = cplTo p k ++ [(p.length : Int) + 1 - nth p k] := by
  unfold cplTo; rw [take_nth h, List.map_append]; rfl
theorem cplTo_len {p : List Int} {k : Nat} (h : k ≤ p.length) : (cplTo p k).length = k := by simp [cplTo]; omega
set_option maxHeartbeats 2000000 in
theorem impl_complement_ok (v : Value) (p : List Int) (w : World) (h : SI w v p) (h8 : p.length ≤ 8) (hp : ∀ x ∈ p, 1 ≤ x ∧ x ≤ 8) :
    Calls Try.prog 105 #[v] w fun e w' => ∃ b c, e = .returned (.slice (some ⟨b, 0, none⟩) p.length c) ∧ w.heap.size ≤ b ∧ Row 3 w' b c (vals (cplL p)) ∧ Ext w w' := by
  have h00 := h
  obtain ⟨a, cap, rfl, hri⟩ := h00.elim
  have HRI := Lib.hid hri
  have HB := Lib.hid hp
  have hr0 : Hid (Row 3 (w.alloc (.cells #[] 3)) w.heap.size 0 (vals (cplTo p 0))) := Row.new 3 w [] (by simp)
  have hA : Ext w (w.alloc (.cells #[] 3)) := Upd.alloc _ _ _
  have HE0 := Lib.hid hA
  clear h h00 hri hp hA
  go_enter Try.func105, Try.ntmps105
  go_wp2_with fail
  go_loopw [3, 9] (fun o i wr => ∃ k : Nat, k ≤ p.length ∧ i = .int .i64 k ∧ (∃ b c, o = .slice (some ⟨b, 0, none⟩) k c ∧ Hid (Row 3 wr b c (vals (cplTo p k))) ∧ w.heap.size ≤ b) ∧ Hid (Ext w wr)) (fun _ i _ => p.length - (intOf i).toNat)
  case atStart => exact ⟨0, Nat.zero_le _, rfl, ⟨_, 0, rfl, hr0, Nat.le_refl _⟩, HE0⟩
  case round =>
    obtain ⟨k, hk, rfl, ⟨b, c, rfl, hr, hb⟩, he⟩ := hrel
    clear HE0 hr0
    by_cases hlt : k < p.length
    · obtain ⟨b1, off1, rfl, hc⟩ := (HRI.out.ext he.out).get hlt
      have hcell := hc k hlt
      have hv := HB.out _ (nth_mem hlt)
      have HT := Lib.hid (cplTo_succ hlt)
      obtain ⟨x, hx⟩ : ∃ x, x = nth p k := ⟨_, rfl⟩
      have HX := Lib.hid hx
      rw [← hx] at hcell hv
      have w1x : IntKind.i64.wrap ((p.length : Int) + 1) = (p.length : Int) + 1 := IntWalk.i64_in _ (by omega)
      have w2x : IntKind.i64.wrap ((p.length : Int) + 1 - x) = (p.length : Int) + 1 - x := IntWalk.i64_in _ (by omega)
      have hl : Hid (k = (cplTo p k).length) := (cplTo_len (by omega)).symm
      have hlb : Hid ((cplTo p k).length ≤ 1000000000) := by show _ ≤ _; rw [← hl.out]; omega
      clear hx hc hv
      go_wp2_with (at_builtin; go_loud (refine wpl_app1 rfl (.tmp 13) (.tmp 19) rfl b c k _ ((p.length : Int) + 1 - x) rfl hr.out hl.out rfl hlb.out ?_); intro b8 c8 w8 hr8 hb8 hu8)
      rw [HX.out, ← HT.out] at hr8
      have HR8 := Lib.hid hr8
      have HE8 := Lib.hid (he.out.upd1 hu8 hb)
      have hb9 : w.heap.size ≤ b8 := by have := he.out.size; rcases hb8 with e | e <;> omega
      clear hr8 hu8 hb8
      go_roundw
      case rel => exact ⟨k + 1, by omega, by go_num, ⟨b8, c8, rfl, HR8, hb9⟩, HE8⟩
      case measure => simp [intOf]; omega
    · obtain rfl : k = p.length := by omega
      rw [cplTo_all] at hr
      go_wp2_with fail
      go_ret
      exact ⟨b, c, rfl, hb, hr.out, he.out⟩
set_option maxHeartbeats 2000000 in
theorem l3Complement_ok (v : Value) (p : List Int) (w : World) (h : SI w v p) (h8 : p.length ≤ 8) (hp : ∀ x ∈ p, 1 ≤ x ∧ x ≤ 8) :
    Calls Try.prog 108 #[v] w fun e w' => ∃ b c, e = .returned (.slice (some ⟨b, 0, none⟩) p.length c) ∧ w.heap.size ≤ b ∧ Row 3 w' b c (vals (cplL p)) ∧ Ext w w' := by
  have h00 := h
  obtain ⟨a, cap, rfl, hri⟩ := h00.elim
  have HRI := Lib.hid hri
  have HB := Lib.hid hp
  have hr0 : Hid (Row 3 (w.alloc (.cells #[] 3)) w.heap.size 0 (vals (cplTo p 0))) := Row.new 3 w [] (by simp)
  have hA : Ext w (w.alloc (.cells #[] 3)) := Upd.alloc _ _ _
  have HE0 := Lib.hid hA
  clear h h00 hri hp hA
  go_enter Try.func108, Try.ntmps108
  go_wp2_with fail
  go_loopw [3, 4] (fun o i wr => ∃ k : Nat, k ≤ p.length ∧ i = .int .i64 k ∧ (∃ b c, o = .slice (some ⟨b, 0, none⟩) k c ∧ Hid (Row 3 wr b c (vals (cplTo p k))) ∧ w.heap.size ≤ b) ∧ Hid (Ext w wr)) (fun _ i _ => p.length - (intOf i).toNat)
  case atStart => exact ⟨0, Nat.zero_le _, rfl, ⟨_, 0, rfl, hr0, Nat.le_refl _⟩, HE0⟩
  case round =>
    obtain ⟨k, hk, rfl, ⟨b, c, rfl, hr, hb⟩, he⟩ := hrel
    clear HE0 hr0
    by_cases hlt : k < p.length
    · obtain ⟨b1, off1, rfl, hc⟩ := (HRI.out.ext he.out).get hlt
      have hcell := hc k hlt
      have hv := HB.out _ (nth_mem hlt)
      have HT := Lib.hid (cplTo_succ hlt)
      obtain ⟨x, hx⟩ : ∃ x, x = nth p k := ⟨_, rfl⟩
      have HX := Lib.hid hx
      rw [← hx] at hcell hv
      have w1x : IntKind.i64.wrap ((p.length : Int) + 1) = (p.length : Int) + 1 := IntWalk.i64_in _ (by omega)
      have w2x : IntKind.i64.wrap ((p.length : Int) + 1 - x) = (p.length : Int) + 1 - x := IntWalk.i64_in _ (by omega)
      have hl : Hid (k = (cplTo p k).length) := (cplTo_len (by omega)).symm
      have hlb : Hid ((cplTo p k).length ≤ 1000000000) := by show _ ≤ _; rw [← hl.out]; omega
      clear hx hc hv
      go_wp2_with (at_builtin; go_loud (refine wpl_app1 rfl (.tmp 12) (.tmp 21) rfl b c k _ ((p.length : Int) + 1 - x) rfl hr.out hl.out rfl hlb.out ?_); intro b8 c8 w8 hr8 hb8 hu8)
      rw [HX.out, ← HT.out] at hr8
      have HR8 := Lib.hid hr8
      have HE8 := Lib.hid (he.out.upd1 hu8 hb)
      have hb9 : w.heap.size ≤ b8 := by have := he.out.size; rcases hb8 with e | e <;> omega
      clear hr8 hu8 hb8
      go_roundw
      case rel => exact ⟨k + 1, by omega, by go_num, ⟨b8, c8, rfl, HR8, hb9⟩, HE8⟩
      case measure => simp [intOf]; omega
    · obtain rfl : k = p.length := by omega
      rw [cplTo_all] at hr
      go_wp2_with fail
      go_ret
      exact ⟨b, c, rfl, hb, hr.out, he.out⟩
theorem small_up {p : List Int} {d : Int} (hp : ∀ x ∈ p, 1 ≤ x ∧ x ≤ 8) (hd : 0 ≤ d ∧ d ≤ 8) : ∀ x ∈ p, I64 (x + d) := fun x hx => by have := hp x hx; unfold I64; omega
set_option maxHeartbeats 2000000 in
theorem sum_ok (sk : Bool) (ad1 ad2 : Addr) (c1 c2 : Nat) (p q : List Int) (w : World) (h1 : SI w (.slice (some ad1) p.length c1) p) (h2 : SI w (.slice (some ad2) q.length c2) q) (hl1 : p.length ≤ 8) (hl2 : q.length ≤ 8)
    (hp : ∀ x ∈ p, 1 ≤ x ∧ x ≤ 8) (hq : ∀ x ∈ q, 1 ≤ x ∧ x ≤ 8) (h0 : 0 < q.length) :
    Calls Try.prog 104 #[.slice (some ad1) p.length c1, .slice (some ad2) q.length c2, .bool sk] w fun e w' => ∃ b c, e = .returned (.slice (some ⟨b, 0, none⟩) (joinG sk p q).length c) ∧ w.heap.size ≤ b ∧ Row 3 w' b c (vals (joinG sk p q)) ∧ Ext w w' := by
  have H1 := Lib.hid h1
  have H2 := Lib.hid h2
  have HP := Lib.hid (small_up (d := (q.length : Int)) hp (by omega))
  have HQ := Lib.hid (small_up (d := (p.length : Int)) hq (by omega))
  clear h1 h2 hp hq
  cases sk
  · go_enter Try.func104, Try.ntmps104
    go_wp2_with fail
    refine (raised_ok _ q (p.length : Int) _ H2.out (by omega) HQ.out).mono ?_
    rintro e w1 ⟨b1, k1, rfl, hb1, hr1, he1⟩
    have hz1 := he1.size
    have hs1 := hr1.si
    rw [upL_len] at hs1
    obtain ⟨us, hus⟩ : ∃ us, us = upL q (p.length : Int) := ⟨_, rfl⟩
    rw [← hus] at hs1
    have hul : us.length = q.length := by rw [hus, upL_len]
    have HUS := Lib.hid hus
    have HUL := Lib.hid hul
    have HS1 := Lib.hid hs1
    have HE1 := Lib.hid he1
    clear hr1 he1 hs1 hus hul
    go_wp2_with fail
    obtain ⟨w2, hw2⟩ : ∃ w2, w2 = w1.alloc (.cells #[.slice (some ad1) p.length c1, .slice (some ⟨b1, 0, none⟩) q.length k1] 22) := ⟨_, rfl⟩
    have e12 : Ext w1 w2 := by rw [hw2]; exact Upd.alloc _ _ _
    have hrow : Row 22 w2 w1.heap.size 2 [.slice (some ad1) p.length c1, .slice (some ⟨b1, 0, none⟩) q.length k1] := by rw [hw2]; exact Row.new 22 w1 _ (by simp [maxLen])
    rw [← hw2]
    have c0 := hrow.cell (j := 0) rfl
    have c1' := hrow.cell (j := 1) rfl
    rw [← HUL.out] at c1'
    have hcc := concat2_ok w1.heap.size 2 ad1 ⟨b1, 0, none⟩ c1 k1 p us w2 c0 c1' (H1.out.ext (HE1.out.trans e12)) (by have := HS1.out.ext e12; rw [← HUL.out] at this; exact this) (by omega) (by rw [HUL.out]; omega) (by rw [HUL.out]; omega)
    have HCC := Lib.hid hcc
    have HE2 := Lib.hid (HE1.out.trans e12)
    have hz2 := e12.size
    clear hw2 e12 hrow c0 c1' hcc
    refine HCC.out.mono ?_
    rintro e w3 ⟨b3, k3, rfl, hb3, hr3, he3⟩
    rw [HUS.out] at hr3 ⊢
    have HR3 := Lib.hid hr3
    have HE3 := Lib.hid (HE2.out.trans he3)
    clear hr3 he3
    go_wp2_with fail
    go_ret
    exact ⟨b3, k3, by rw [show (joinG false p q).length = p.length + (upL q (p.length : Int)).length from by simp [joinG]]; rfl, by omega, HR3.out, HE3.out⟩
  · go_enter Try.func104, Try.ntmps104
    go_wp2_with fail
    refine (raised_ok _ p (q.length : Int) _ H1.out (by omega) HP.out).mono ?_
    rintro e w1 ⟨b1, k1, rfl, hb1, hr1, he1⟩
    have hz1 := he1.size
    have hs1 := hr1.si
    rw [upL_len] at hs1
    obtain ⟨us, hus⟩ : ∃ us, us = upL p (q.length : Int) := ⟨_, rfl⟩
    rw [← hus] at hs1
    have hul : us.length = p.length := by rw [hus, upL_len]
    have HUS := Lib.hid hus
    have HUL := Lib.hid hul
    have HS1 := Lib.hid hs1
    have HE1 := Lib.hid he1
    clear hr1 he1 hs1 hus hul
    go_wp2_with fail
    obtain ⟨w2, hw2⟩ : ∃ w2, w2 = w1.alloc (.cells #[.slice (some ⟨b1, 0, none⟩) p.length k1, .slice (some ad2) q.length c2] 22) := ⟨_, rfl⟩
    have e12 : Ext w1 w2 := by rw [hw2]; exact Upd.alloc _ _ _
    have hrow : Row 22 w2 w1.heap.size 2 [.slice (some ⟨b1, 0, none⟩) p.length k1, .slice (some ad2) q.length c2] := by rw [hw2]; exact Row.new 22 w1 _ (by simp [maxLen])
    rw [← hw2]
    have c0 := hrow.cell (j := 0) rfl
    have c1' := hrow.cell (j := 1) rfl
    rw [← HUL.out] at c0
    have hcc := concat2_ok w1.heap.size 2 ⟨b1, 0, none⟩ ad2 k1 c2 us q w2 c0 c1' (by have := HS1.out.ext e12; rw [← HUL.out] at this; exact this) (H2.out.ext (HE1.out.trans e12)) (by rw [HUL.out]; omega) (by omega) (by omega)
    have HCC := Lib.hid hcc
    have HE2 := Lib.hid (HE1.out.trans e12)
    have hz2 := e12.size
    clear hw2 e12 hrow c0 c1' hcc
    refine HCC.out.mono ?_
    rintro e w3 ⟨b3, k3, rfl, hb3, hr3, he3⟩
    rw [HUS.out] at hr3 ⊢
    have HR3 := Lib.hid hr3
    have HE3 := Lib.hid (HE2.out.trans he3)
    clear hr3 he3
    go_wp2_with fail
    go_ret
    exact ⟨b3, k3, by rw [show (joinG true p q).length = (upL p (q.length : Int)).length + q.length from by simp [joinG]]; rfl, by omega, HR3.out, HE3.out⟩
end Go.Proofs.Ytcifngcmdiokpaa
