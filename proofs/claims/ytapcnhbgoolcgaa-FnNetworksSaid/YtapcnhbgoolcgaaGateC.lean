/- Contract of l2Copy: the rows copied into a new list. Conditions: lengths below a bound. -/
import Derived.Test.YtapcnhbgoolcgaaGateD
namespace Go.Proofs.Ytapcnhbgoolcgaa
open Go.RowKit

theorem takeL_succ {xss : List (List Int)} {k : Nat} (h : k < xss.length) : xss.take (k + 1) = xss.take k ++ [nthL xss k] := by
  rw [List.take_add_one]; simp [nthL, h]
set_option maxHeartbeats 1000000 in
theorem l2Copy_ok (v : Value) (xss : List (List Int)) (w : World) (h : SII w v xss) (hl : xss.length ≤ 1000) (hs : small xss) :
    Calls Try.prog 64 #[v] w fun e w' => ∃ b c, e = .returned (.slice (some ⟨b, 0, none⟩) xss.length c) ∧ GR w.heap.size w' b c xss ∧ Ext w w' := by
  obtain ⟨a, cap, rfl, hri⟩ := h.elim
  have hr0 := GR.new w.heap.size w (Nat.le_refl _)
  have he0 : Ext w (w.alloc (.cells #[] 28)) := Upd.alloc _ _ _
  have HRI := Lib.hid hri
  have HS := Lib.hid hs
  clear h hri hs
  go_enter Try.func64, Try.ntmps64
  go_wp2_with fail
  go_loopw [3, 4] (fun o i wr => ∃ k : Nat, k ≤ xss.length ∧ i = .int .i64 k ∧ (∃ b c, o = .slice (some ⟨b, 0, none⟩) k c ∧ GR w.heap.size wr b c (xss.take k)) ∧ Ext w wr) (fun _ i _ => xss.length - (intOf i).toNat)
  case atStart => exact ⟨0, Nat.zero_le _, rfl, ⟨_, 0, rfl, by simpa using hr0⟩, he0⟩
  case round =>
    obtain ⟨k, hk, rfl, ⟨b, c, rfl, hr⟩, he⟩ := hrel
    clear hr0 he0
    by_cases hlt : k < xss.length
    · have hri := HRI.out
      obtain ⟨b1, off, rfl, u, hu, hsu⟩ := hri k hlt
      have hcu := (he.alloc (.cells #[] 3)).cell hu
      replace hsu := hsu.ext he
      have hyl := HS.out.nth hlt
      have HT := Lib.hid (takeL_succ hlt)
      obtain ⟨ys, hys⟩ : ∃ ys, ys = nthL xss k := ⟨_, rfl⟩
      rw [← hys] at hsu hyl HT
      obtain ⟨au, cu, rfl, -⟩ := hsu.elim
      have HSU := Lib.hid hsu
      have hln : Hid (k = (xss.take k).length) := by show _ = _; rw [List.length_take]; omega
      have hlo := hr.lo
      have hlt2 := hr.lt
      have hzr := he.size
      have f3 : (k : Int) < (xss.length : Int) := by omega
      clear hri hu hsu hys
      go_wp2_with (first | (at_builtin; refine wpl_appSI rfl _ _ rfl wr.heap.size 0 0 [] ys rfl (Row.new 3 wr [] (by simp)) rfl _ rfl (HSU.out.ext (Upd.alloc _ _ _)) (by simp) (by omega) ?_; intro b4 c4 w4 hr4 hb4 hu4; rw [List.nil_append] at hr4; obtain ⟨hb4', ho4, he4⟩ := copied_own3 hr4 hb4 hu4; have hz4 := he4.size; have hA4 := Lib.hid (hr.ext he4); have hE4 := Lib.hid (he.trans he4); clear hb4 hu4 hr4 hr) | (at_builtin; refine wpl_app1GR rfl _ _ rfl w.heap.size b c k (xss.take k) _ ys rfl hln.out hA4.out _ rfl rfl (ho4.mono (by omega) (Nat.le_refl _)) (fun e => by have := (ho4.own e).1; omega) (by omega) (by rw [← hln.out]; omega) ?_; intro b8 c8 w8 hr8 hu8))
      go_roundw
      case rel => exact ⟨k + 1, by omega, by go_num, ⟨b8, c8, rfl, by rw [HT.out]; exact hr8⟩, hE4.out.upd1 hu8 hlo⟩
      case measure => simp [intOf]; omega
    · obtain rfl : k = xss.length := by omega
      rw [List.take_length] at hr
      go_wp2_with fail
      go_ret
      exact ⟨b, c, rfl, hr, he⟩
end Go.Proofs.Ytapcnhbgoolcgaa
