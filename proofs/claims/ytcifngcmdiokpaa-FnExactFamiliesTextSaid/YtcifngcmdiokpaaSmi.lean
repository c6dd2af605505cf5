/- The parts of a sum: the program's SumParts. Conditions: a slice that can be read. -/
import Derived.Test.YtcifngcmdiokpaaSumP
import Derived.Test.YtcifngcmdiokpaaSmw
namespace Go.Proofs.Ytcifngcmdiokpaa
open Go.RowKit

def upL (xs : List Int) (d : Int) : List Int := xs.map fun x => x + d
theorem upL_len (xs : List Int) (d : Int) : (upL xs d).length = xs.length := by simp [upL]
theorem upL_take {xs : List Int} {d : Int} {k : Nat} (h : k < xs.length) : upL (xs.take (k + 1)) d = upL (xs.take k) d ++ [nth xs k + d] := by
  rw [List.take_succ_eq_append_getElem h]
  have : xs[k] = nth xs k := by simp [nth, List.getD, h]
  simp [upL, this]
theorem seg_up {p : List Int} (hp : IsP p) {k : Nat} (hk : k < p.length) (hc : cloB p k = true) : upL (seg p (spF p k) (k + 1)) (-(spF p k : Int)) = patL (seg p (spF p k) (k + 1)) := by
  rw [seg_pat hp hk hc]
  exact List.map_congr_left fun x _ => by omega
set_option maxHeartbeats 2000000 in
theorem raised_ok (v : Value) (xs : List Int) (d : Int) (w : World) (h : SI w v xs) (hl : xs.length ≤ 1000000) (hb : ∀ x ∈ xs, I64 (x + d)) :
    Calls Try.prog 83 #[v, .int .i64 d] w fun e w' => ∃ b c, e = .returned (.slice (some ⟨b, 0, none⟩) xs.length c) ∧ w.heap.size ≤ b ∧ Row 3 w' b c (vals (upL xs d)) ∧ Ext w w' := by
  have h00 := h
  obtain ⟨a, cap, rfl, hri⟩ := h00.elim
  have HRI := Lib.hid hri
  have HB := Lib.hid hb
  have hr0 := Lib.hid (Row.new 3 w [] (by simp))
  have hA : Ext w (w.alloc (.cells #[] 3)) := Upd.alloc _ _ _
  have HE0 := Lib.hid hA
  clear h h00 hri hb hA
  go_enter Try.func83, Try.ntmps83
  go_wp2_with fail
  go_loopw [5, 11] (fun o i wr => ∃ k : Nat, k ≤ xs.length ∧ i = .int .i64 k ∧ (∃ b c, o = .slice (some ⟨b, 0, none⟩) k c ∧ Hid (Row 3 wr b c (vals (upL (xs.take k) d))) ∧ w.heap.size ≤ b) ∧ Hid (Ext w wr)) (fun _ i _ => xs.length - (intOf i).toNat)
  case atStart => exact ⟨0, Nat.zero_le _, rfl, ⟨_, 0, rfl, hr0, Nat.le_refl _⟩, HE0⟩
  case round =>
    obtain ⟨k, hk, rfl, ⟨b, c, rfl, hr, hb⟩, he⟩ := hrel
    clear HE0 hr0
    by_cases hlt : k < xs.length
    · obtain ⟨b1, off1, rfl, hc⟩ := (HRI.out.ext he.out).get hlt
      have hcell := hc k hlt
      have hv := HB.out _ (nth_mem hlt)
      have HT := Lib.hid (upL_take (d := d) hlt)
      obtain ⟨x, hx⟩ : ∃ x, x = nth xs k := ⟨_, rfl⟩
      have HX := Lib.hid hx
      rw [← hx] at hcell hv
      have w1x : IntKind.i64.wrap (x + d) = x + d := IntWalk.i64_in _ hv
      have hl : Hid (k = (upL (xs.take k) d).length) := by show _ = _; rw [upL_len, List.length_take]; omega
      have hlb : Hid ((upL (xs.take k) d).length ≤ 1000000000) := by show _ ≤ _; rw [← hl.out]; omega
      clear hx hc hv
      go_wp2_with (at_builtin; go_loud (refine wpl_app1 rfl (.tmp 15) (.tmp 19) rfl b c k _ (x + d) rfl hr.out hl.out rfl hlb.out ?_); intro b8 c8 w8 hr8 hb8 hu8)
      rw [HX.out, ← HT.out] at hr8
      have HR8 := Lib.hid hr8
      have HE8 := Lib.hid (he.out.upd1 hu8 hb)
      have hb9 : w.heap.size ≤ b8 := by have := he.out.size; rcases hb8 with e | e <;> omega
      clear hr8 hu8 hb8
      go_roundw
      case rel => exact ⟨k + 1, by omega, by go_num, ⟨b8, c8, rfl, HR8, hb9⟩, HE8⟩
      case measure => simp [intOf]; omega
    · obtain rfl : k = xs.length := by omega
      rw [List.take_length] at hr
      go_wp2_with fail
      go_ret
      exact ⟨b, c, rfl, hb, hr.out, he.out⟩
set_option maxHeartbeats 4000000 in
theorem sumParts_ok (v : Value) (xs : List Int) (w : World) (h : SI w v xs) (hp : IsP xs) (h8 : xs.length ≤ 8) :
    Calls Try.prog 65 #[v] w fun e w' => ∃ v', e = .returned v' ∧ OII w.heap.size w'.heap.size w' v' (spP xs xs.length) ∧ Ext w w' := by
  have h0 := h
  obtain ⟨a, cap, rfl, hc1, hc2, -, hri⟩ := h0
  have hr0 := (RR.new w).mono (show w.heap.size + 1 ≤ (w.alloc (.cells #[] 22)).heap.size by simp)
  have he0 : Ext w (w.alloc (.cells #[] 22)) := Upd.alloc _ _ _
  have HPP := Lib.hid hp
  have hmx := hc2
  unfold maxLen at hmx
  clear hp
  go_enter Try.func65, Try.ntmps65
  go_wp2_with fail
  go_loopw [3, 4, 5, 11] (fun o f m i wr => ∃ k : Nat, k ≤ xs.length ∧ i = .int .i64 k ∧ f = .int .i64 (spF xs k) ∧ (∃ z : Int, m = .int .i64 z ∧ Hid (z = spM xs k) ∧ 0 ≤ z ∧ z ≤ 8) ∧ (∃ b c n, o = .slice (some ⟨b, 0, none⟩) n c ∧ Hid (n = (spP xs k).length) ∧ RR w.heap.size wr.heap.size wr b c (spP xs k)) ∧ Ext w wr) (fun _ _ _ i _ => xs.length - (intOf i).toNat)
  case atStart => exact ⟨0, Nat.zero_le _, rfl, rfl, ⟨0, rfl, Lib.hid rfl, by omega, by omega⟩, ⟨_, 0, 0, rfl, Lib.hid rfl, hr0⟩, he0⟩
  case round =>
    obtain ⟨k, hk, rfl, rfl, ⟨z, rfl, hz, hz1, hz2⟩, ⟨b, c, n, rfl, hn, hr⟩, he⟩ := hrel
    clear hr0 he0
    by_cases hlt : k < xs.length
    · obtain ⟨bb, off, rfl, hc⟩ := (hri.ext he).get hlt
      have hck := hc k hlt
      have hxb := HPP.out.bd hlt
      have hfl := spF_le xs k
      have hpl := spP_len xs k
      obtain ⟨x, hx⟩ : ∃ x, x = nth xs k := ⟨_, rfl⟩
      obtain ⟨z2, hz2'⟩ : ∃ z2, z2 = max z x := ⟨_, rfl⟩
      have hsm : Hid (z2 = spM xs (k + 1)) := by show _ = _; rw [hz2', hz.out, hx]; rfl
      rw [← hx] at hck hxb
      have hz3 : 0 ≤ z2 ∧ z2 ≤ 8 := by omega
      have HZ2 := Lib.hid hz2'
      obtain ⟨f, hf⟩ : ∃ f, f = spF xs k := ⟨_, rfl⟩
      have HCLO : Hid (cloB xs k = true → upL (seg xs f (k + 1)) (-(f : Int)) = patL (seg xs f (k + 1))) := fun hcb => by rw [hf]; exact seg_up HPP.out hlt hcb
      rw [← hf] at hfl ⊢
      have HF := Lib.hid hf
      have HR := Lib.hid hr
      have HC := Lib.hid hc
      have hzx : (if z < x then x else z) = z2 := by rw [hz2']; split <;> omega
      clear hx hz2' hf hr hc
      cases hcb : cloB xs k
      · have hne : ¬ z2 = (k : Int) + 1 := fun e => by
          unfold cloB at hcb; rw [← hsm.out] at hcb; exact of_decide_eq_false hcb e
        have hnb : (z2 == (k : Int) + 1) = false := by simpa using hne
        have hsf : Hid (spF xs (k + 1) = f) := by show _ = _; rw [HF.out]; simp [spF, hcb]
        have hsp : Hid (spP xs (k + 1) = spP xs k) := by show _ = _; simp [spP, hcb]
        clear hcb hne
        go_wp2_with fail
        go_roundw
        case rel => exact ⟨k + 1, by omega, by go_num, by rw [hsf.out], ⟨z2, rfl, hsm, hz3.1, hz3.2⟩, ⟨b, c, n, rfl, Lib.hid (by rw [hsp.out]; exact hn.out), by rw [hsp.out]; exact HR.out⟩, he⟩
        case measure => simp [intOf]; omega
      · have heq : z2 = (k : Int) + 1 := by
          unfold cloB at hcb; rw [← hsm.out] at hcb; exact of_decide_eq_true hcb
        have heqb : (z2 == (k : Int) + 1) = true := by simpa using heq
        have hsf : Hid (spF xs (k + 1) = k + 1) := by show _ = _; simp [spF, hcb]
        have hup := HCLO.out hcb
        obtain ⟨sg, hsg⟩ : ∃ sg, sg = seg xs f (k + 1) := ⟨_, rfl⟩
        have hsp : Hid (spP xs (k + 1) = spP xs k ++ [patL sg]) := by show _ = _; rw [hsg, HF.out]; simp [spP, hcb]
        have hsl : sg.length = k + 1 - f := by rw [hsg]; exact seg_len (by omega)
        have hseg : SI wr (.slice (some ⟨bb, off + f, none⟩) (k + 1 - f) (cap - f)) sg := by
          have := SI.seg (w := wr) (b := bb) (off := off) (cap := cap) (xs := xs) HC.out f (k + 1 - f) (by omega) hc1 hc2
          rw [hsg]; exact this
        have hrng : ∀ x ∈ sg, I64 (x + (-(f : Int))) := fun x hx => by
          have hm : x ∈ xs := by rw [hsg] at hx; exact List.mem_of_mem_drop (List.mem_of_mem_take hx)
          have := HPP.out.1 x hm
          unfold I64; omega
        rw [← hsg] at hup
        have HUP := Lib.hid hup
        have HRNG := Lib.hid hrng
        have HSG := Lib.hid hseg
        have HSL := Lib.hid hsl
        have f1 : (f : Int) ≤ (k : Int) + 1 := by omega
        have f2 : (k : Int) + 1 ≤ (cap : Int) := by omega
        have f3 : ((k : Int) + 1).toNat = k + 1 := by omega
        have f4 : 0 ≤ (k : Int) + 1 := by omega
        have f5 : (f : Int) ≤ (cap : Int) := by omega
        have f6 : ¬ (cap = f) := by omega
        have f7 : IntKind.i64.wrap (-(f : Int)) = -(f : Int) := IntWalk.i64_in _ (by omega)
        clear hcb hsg hseg hsl heq hup hrng
        go_wp2_with fail
        refine (raised_ok _ sg (-(f : Int)) _ HSG.out (by rw [HSL.out]; omega) HRNG.out).mono ?_
        rintro e w6 ⟨b6, c6, rfl, hb6, hr6, he6⟩
        rw [HUP.out] at hr6
        have hpl2 := patL_len sg
        have ho6 : OI w.heap.size w6.heap.size w6 (.slice (some ⟨b6, 0, none⟩) sg.length c6) (patL sg) := OI.row hr6 (by have := he.size; omega) hpl2.symm
        have hr6' := HR.out.ext he6
        have HO6 := Lib.hid ho6
        have HR6 := Lib.hid hr6'
        have HE6 := Lib.hid (he.trans he6)
        have hz6 := he6.size
        clear hpl2 hr6 hr6' ho6 he6
        go_wp2_with (at_builtin; refine wpl_appRR rfl _ _ rfl w.heap.size wr.heap.size b c n (spP xs k) _ _ _ (patL sg) rfl HR6.out hn.out HO6.out (fun i hi => by simp [Value.ownBlock] at hi; omega) hz6 rfl (by omega) ?_; intro b7 c7 w7 hr7 hb7 hu7)
        go_roundw
        case rel => exact ⟨k + 1, by omega, by go_num, by rw [hsf.out]; push_cast; rfl, ⟨z2, rfl, hsm, hz3.1, hz3.2⟩, ⟨b7, c7, n + 1, rfl, Lib.hid (by rw [hsp.out, hn.out]; simp), by rw [hsp.out]; exact hr7⟩, HE6.out.upd1 hu7 HR6.out.lo⟩
        case measure => simp [intOf]; omega
    · obtain rfl : k = xs.length := by omega
      go_wp2_with fail
      go_ret
      exact ⟨_, rfl, hr.oii hn.out, he⟩
end Go.Proofs.Ytcifngcmdiokpaa
