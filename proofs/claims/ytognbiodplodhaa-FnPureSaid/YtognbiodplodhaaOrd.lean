/- Rows in order, each once: contracts of slices.CompactFunc at rows no two neighbours of which are one, and of the program's ordered. Conditions: no row stands twice; lengths below a bound. -/
import Derived.Test.YtognbiodplodhaaBef
import Derived.Test.YtognbiodplodhaaSrtL
import Derived.Test.YtognbiodplodhaaRow3
import Derived.Test.YtognbiodplodhaaFunc
namespace Go.Proofs.Ytognbiodplodhaa
open Go.RowKit

set_option maxHeartbeats 1000000 in
theorem compact_same (B H b cap : Nat) (L : List (List Int)) (w : World) (hr : RR B H w b cap L) (hl : L.length ≤ 1000000) (hs : small L) (hd : ∀ k, k + 1 < L.length → nthL L (k + 1) ≠ nthL L k) :
    Calls Try.prog 87 #[.slice (some ⟨b, 0, none⟩) L.length cap, .func (.func 88) #[] #[]] w fun e w' => e = .returned (.slice (some ⟨b, 0, none⟩) L.length cap) ∧ Qt w w' := by
  have HR := Lib.hid hr
  have HS := Lib.hid hs
  have HD := Lib.hid hd
  have hen : ∀ args w, (callFunc 88 args).run Try.prog w = .ok (.enter 88 args) w := enters_of Try.func88 rfl rfl
  clear hr hs hd
  go_enter Try.func87, Try.ntmps87
  by_cases h2 : L.length < 2
  · go_wp2_with fail
    go_ret
    exact ⟨rfl, Qt.refl _⟩
  · go_wp2_with fail
    go_loopw [5] (fun i wr => ∃ j : Nat, j + 1 ≤ L.length ∧ i = .int .i64 ((j : Int) + 1) ∧ Qt w wr) (fun i _ => L.length - (intOf i).toNat)
    case atStart => exact ⟨0, by omega, rfl, Qt.refl _⟩
    case round =>
      obtain ⟨j, hj, rfl, hq⟩ := hrel
      by_cases hlt : j + 1 < L.length
      · have hR := HR.out.ext hq.ext
        obtain ⟨u, hu, hou⟩ := hR.get (k := j) (by omega)
        obtain ⟨u2, hu2, hou2⟩ := hR.get (k := j + 1) hlt
        have hsm := HS.out.nth (k := j + 1) hlt
        have HE := fun m => slicesEqual_ok u2 u _ _ (wr.drewN m) (hou2.si.ext (Upd.drewN _ _ _)) (hou.si.ext (Upd.drewN _ _ _)) (by omega)
        simp only [HD.out j hlt, decide_false] at HE
        have HE' := Lib.hid HE
        have w1 : IntKind.i64.wrap ((j : Int) + 1 - 1) = (j : Int) := by rw [IntWalk.i64_in _ (by omega)]; omega
        have w1b : IntKind.i64.wrap (j : Int) = (j : Int) := IntWalk.i64_in _ (by omega)
        have w2 : ((j : Int) + 1).toNat = j + 1 := by omega
        have w3 : 0 ≤ (j : Int) + 1 := by omega
        have w4 : (j : Int) + 1 < (L.length : Int) := by omega
        have w5 : (j : Int) < (L.length : Int) := by omega
        clear HE hR hou hou2
        go_wp2_with fail
        go_quiet ((go_at_call 88; exact Calls.quiet_of (HE'.out _)))
        clear w1 w1b
        go_wp2_with fail
        go_roundw
        case rel => exact ⟨j + 1, by omega, by rw [Value.int.injEq]; exact ⟨rfl, by push_cast; rfl⟩, hq.drewN _⟩
        case measure => simp [intOf]; omega
      · have hnI : ¬ (j : Int) + 1 < (L.length : Int) := by omega
        go_wp2_with fail
        go_ret
        exact ⟨rfl, hq⟩
theorem srtL_next {L : List (List Int)} (h : SrtL L) : ∀ k, k + 1 < L.length → nthL L (k + 1) ≠ nthL L k := fun k hk e => by
  have := srtL_lt h (i := k) (j := k + 1) (by omega) hk
  rw [e, befB_irr] at this; exact absurd this (by simp)
set_option maxHeartbeats 2000000 in
/-- the program's ordered, of rows of which none stands twice. -/
theorem ordered_ok (v : Value) (L : List (List Int)) (w : World) (h : SII w v L) (hl : L.length ≤ 1000000) (hs : small L) (hn : L.Nodup) :
    Calls Try.prog 68 #[v] w fun e w' => ∃ b c, e = .returned (.slice (some ⟨b, 0, none⟩) (putAll L).length c) ∧ RR w.heap.size w'.heap.size w' b c (putAll L) ∧ Ext w w' := by
  obtain ⟨a, cap, rfl, hri⟩ := h.elim
  have HN := Lib.hid hn
  have HS := Lib.hid hs
  have hr0 := RR.new w
  have he0 : Ext w (w.alloc (.cells #[] 24)) := Upd.alloc _ _ _
  clear h hn hs
  go_enter Try.func68, Try.ntmps68
  go_wp2_with fail
  go_loopw [3, 5, 9] (fun o _ i wr => ∃ k : Nat, k ≤ L.length ∧ i = .int .i64 k ∧ (∃ b c n, o = .slice (some ⟨b, 0, none⟩) n c ∧ Hid (n = (L.take k).length) ∧ RR w.heap.size wr.heap.size wr b c (L.take k)) ∧ Ext w wr) (fun _ _ i _ => L.length - (intOf i).toNat)
  case atStart => exact ⟨0, Nat.zero_le _, rfl, ⟨_, 0, 0, rfl, Lib.hid rfl, hr0.mono (by simp)⟩, he0⟩
  case round =>
    obtain ⟨k, hk, rfl, ⟨b, c, n, rfl, hnl, hr⟩, he⟩ := hrel
    clear hr0 he0
    by_cases hlt : k < L.length
    · obtain ⟨b1, off, rfl, u, hu, hsu⟩ := hri k hlt
      replace hu := Ext.cell he hu
      have hsu2 := Lib.hid (hsu.ext he)
      have hsm := HS.out.nth hlt
      have HT := Lib.hid (take_nthL hlt)
      have HR := Lib.hid hr
      have hn9 : n ≤ 1000000 := by have := hnl.out; simp at this; omega
      clear hri hsu hr
      have hew := he.size
      go_wp2_with (first
        | (go_at_call 54; refine (slicesClone_ok _ (nthL L k) _ hsu2.out hsm).mono ?_; rintro e w4 ⟨v4, rfl, ho4, he4⟩; obtain ⟨p4, c4, rfl⟩ := ho4.shape; have HO4 := Lib.hid ho4; clear ho4)
        | (at_builtin; go_loud (refine wpl_appRR rfl _ _ rfl w.heap.size wr.heap.size b c n (L.take k) p4 _ c4 (nthL L k) rfl (HR.out.ext he4) hnl.out (HO4.out.mono hew (Nat.le_refl _)) (fun j hj => (HO4.out.own hj).1) he4.size rfl (by rw [← hnl.out]; omega) ?_); intro b5 c5 w5 hr5 hb5 hu5))
      rw [← HT.out] at hr5
      have HR5 := Lib.hid hr5
      have hlo := HR.out.lo
      have hE5 := Lib.hid ((he.trans he4).upd1 hu5 hlo)
      have hn5 : Hid (n + 1 = (L.take (k + 1)).length) := by show _ = _; rw [HT.out, List.length_append, ← hnl.out]; rfl
      clear hr5 hu5 hb5 hu
      go_roundw
      case rel => exact ⟨k + 1, by omega, by go_num, ⟨b5, c5, n + 1, rfl, hn5, HR5.out⟩, hE5.out⟩
      case measure => simp [intOf]; omega
    · obtain rfl : k = L.length := by omega
      have hTA : L.take L.length = L := take_all (Nat.le_refl _)
      rw [hTA] at hr hnl
      have hg : ∀ args w, (callFunc 86 args).run Try.prog w = .ok (.enter 86 args) w := enters_of Try.func86 rfl rfl
      have HC := Lib.hid (sortRows_ok befTot _ hg hr (by omega) (fun u v xs ys W h1 h2 h3 h4 => comparePerms_ok u v xs ys W h1 h2 (by rcases h3 with h | rfl; have := HS.out xs h; omega; simp) (by rcases h4 with h | rfl; have := HS.out ys h; omega; simp)))
      obtain rfl : n = L.length := hnl.out
      have hlo := hr.lo
      clear hTA hr
      go_wp2_with fail
      refine HC.out.mono ?_
      rintro e w5 ⟨rfl, L', hr5, hp5, hs5, hu5⟩
      have HL : Hid (L' = putAll L) := putAll_uniq (srtW_nodup hs5 (hp5.nodup_iff.2 HN.out)) (fun x => hp5.mem_iff)
      have hlen : L.length = (putAll L).length := by rw [← HL.out]; exact hp5.length_eq.symm
      have HLE := Lib.hid hlen
      have HS5 : Hid (small (putAll L)) := fun x hx => HS.out x ((putAll_mem L x).1 hx)
      rw [HL.out] at hr5
      have hz5 := hu5.size
      have HR5 := Lib.hid (hr5.mono hz5)
      have hE5 := Lib.hid (he.upd1 hu5 hlo)
      clear hlen hp5 hs5 hu5 hr5 hnl
      rw [HLE.out]
      go_wp2_with fail
      refine (compact_same w.heap.size w5.heap.size b c (putAll L) _ HR5.out (by rw [← HLE.out]; omega) HS5.out (srtL_next (putAll_srt L))).mono ?_
      rintro e w6 ⟨rfl, q6⟩
      go_wp2_with fail
      go_ret
      exact ⟨b, c, rfl, (HR5.out.ext q6.ext).mono q6.ext.size, hE5.out.trans q6.ext⟩
end Go.Proofs.Ytognbiodplodhaa
