/- slices.Grow of nil, slices.Concat of two lists, the program's sum of two. Conditions: lengths below a bound, not both empty. -/
import Derived.Test.YtcifngcmdiokpaaSmi
import Derived.Lib.AppendZeros
namespace Go.Proofs.Ytcifngcmdiokpaa
open Go.RowKit Go.Lib

set_option maxHeartbeats 1000000 in
theorem growNil_ok (n : Nat) (w : World) (h0 : 0 < n) (hn : n ≤ 1000) :
    Calls Try.prog 112 #[.slice none 0 0, .int .i64 (n : Int)] w fun e w' => ∃ b c, e = .returned (.slice (some ⟨b, 0, none⟩) 0 c) ∧ w.heap.size ≤ b ∧ Row 3 w' b c (vals []) ∧ Ext w w' := by
  obtain ⟨i, hi, hz, hs1, hby⟩ := info_int
  have HRUN := Lib.hid (fun ty (w : World) => run_append_nil_zeros (P := Try.prog) w 22 3 ty 3 i (.int .i64 0) .i64 .i64 Try.underlying22 Try.underlying3 hi hz n h0 (by rw [hs1]; decide) (by omega) (by rw [hby]; omega))
  have h0I : (0 : Int) < (n : Int) := by omega
  have h1 : ¬ (n : Int) < 0 := by omega
  clear hi hz hs1 hby
  have HROW : Hid (Row 3 (w.drew.alloc (.cells (Builtin.zeroCells (Value.int .i64 0).cells n ++ Builtin.zeroCells (Value.int .i64 0).cells (grownCap w n 0 3 - n)) 3)) w.heap.size (grownCap w n 0 3) (vals [])) := by
    have hge := grownCap_ge w n 0 3
    refine ⟨by simp [vals], grownCap_le_maxLen w n 0 3 (by unfold maxLen; omega), ⟨_, heap_alloc_new w.drew _, ?_, by simp [vals]⟩⟩
    have h1 : (Value.int IntKind.i64 0).cells.size = 1 := rfl
    simp only [Array.size_append, size_zeroCells, h1]
    omega
  have HEXT : Hid (Ext w (w.drew.alloc (.cells (Builtin.zeroCells (Value.int .i64 0).cells n ++ Builtin.zeroCells (Value.int .i64 0).cells (grownCap w n 0 3 - n)) 3))) := ((Ext.refl w).drew).alloc _
  obtain ⟨g, hg⟩ : ∃ g, g = grownCap w n 0 3 := ⟨_, rfl⟩
  have hgn : n ≤ g := by rw [hg]; exact grownCap_ge w n 0 3
  have HRUN2 := Lib.hid (fun ty => HRUN.out ty w)
  rw [← hg] at HROW HEXT HRUN2
  obtain ⟨W, hW⟩ : ∃ W, W = w.drew.alloc (.cells (Builtin.zeroCells (Value.int .i64 0).cells n ++ Builtin.zeroCells (Value.int .i64 0).cells (g - n)) 3) := ⟨_, rfl⟩
  rw [← hW] at HROW HEXT HRUN2
  clear hW hg HRUN
  go_enter Try.func112, Try.ntmps112
  go_wp2_with (at_builtin; go_loud (refine wpList_append_run _ rfl _ _ _ _ rfl _ _ rfl rfl _ _ (HRUN2.out _) ?_))
  go_ret
  exact ⟨_, g, rfl, Nat.le_refl _, HROW.out, HEXT.out⟩
set_option maxHeartbeats 4000000 in
theorem concat2_ok (b c : Nat) (ad1 ad2 : Addr) (c1 c2 : Nat) (xs ys : List Int) (w : World) (hc1 : w.cell? ⟨b, 0, none⟩ = some (.slice (some ad1) xs.length c1)) (hc2 : w.cell? ⟨b, 1, none⟩ = some (.slice (some ad2) ys.length c2))
    (h1 : SI w (.slice (some ad1) xs.length c1) xs) (h2 : SI w (.slice (some ad2) ys.length c2) ys) (hl1 : xs.length ≤ 100) (hl2 : ys.length ≤ 100) (h0 : 0 < xs.length + ys.length) :
    Calls Try.prog 109 #[.slice (some ⟨b, 0, none⟩) 2 c] w fun e w' => ∃ b' c', e = .returned (.slice (some ⟨b', 0, none⟩) (xs ++ ys).length c') ∧ w.heap.size ≤ b' ∧ Row 3 w' b' c' (vals (xs ++ ys)) ∧ Ext w w' := by
  have HC1 := Lib.hid hc1
  have HC2 := Lib.hid hc2
  have H1 := Lib.hid h1
  have H2 := Lib.hid h2
  clear hc1 hc2 h1 h2
  go_enter Try.func109, Try.ntmps109
  go_wp2_with fail
  go_loopw [3, 11] (fun s i wr => ∃ k : Nat, k ≤ 2 ∧ i = .int .i64 k ∧ (∃ q : Nat, s = .int .i64 q ∧ ((k = 0 ∧ q = 0) ∨ (k = 1 ∧ q = xs.length) ∨ (k = 2 ∧ q = xs.length + ys.length))) ∧ Hid (Ext w wr)) (fun _ i _ => 2 - (intOf i).toNat)
  case atStart => exact ⟨0, by omega, rfl, ⟨0, rfl, .inl ⟨rfl, rfl⟩⟩, Ext.refl _⟩
  case round =>
    obtain ⟨k, hk, rfl, ⟨q, rfl, hq⟩, he⟩ := hrel
    rcases hq with ⟨rfl, rfl⟩ | ⟨rfl, rfl⟩ | ⟨rfl, rfl⟩
    · have hcell := he.out.cell HC1.out
      have g1 : ((0 : Nat) : Int) + (xs.length : Int) = (xs.length : Int) := by omega
      go_wp2_with fail
      go_roundw
      case rel => exact ⟨1, by omega, by go_num, ⟨xs.length, by go_num, .inr (.inl ⟨rfl, rfl⟩)⟩, he⟩
      case measure => simp [intOf]
    · have hcell := he.out.cell HC2.out
      go_wp2_with fail
      go_roundw
      case rel => exact ⟨2, by omega, by go_num, ⟨xs.length + ys.length, by go_num, .inr (.inr ⟨rfl, rfl⟩)⟩, he⟩
      case measure => simp [intOf]
    · obtain ⟨n, hn⟩ : ∃ n, n = xs.length + ys.length := ⟨_, rfl⟩
      rw [← hn] at h0 ⊢
      have HN := Lib.hid hn
      have hnb : n ≤ 1000 := by omega
      clear hn
      go_wp2_with fail
      refine (growNil_ok n _ h0 hnb).mono ?_
      rintro e w3 ⟨b3, c3, rfl, hb3, hr3, h3⟩
      have HR3 := Lib.hid hr3
      have HE3 := Lib.hid (he.out.trans h3)
      have hb3' : w.heap.size ≤ b3 := Nat.le_trans he.out.size hb3
      clear hr3 h3 he
      go_wp2_with fail
      go_loopw [6, 27] (fun o i wr => ∃ k : Nat, k ≤ 2 ∧ i = .int .i64 k ∧ (∃ b' c' m zs, o = .slice (some ⟨b', 0, none⟩) m c' ∧ Hid (m = zs.length) ∧ Hid (Row 3 wr b' c' (vals zs)) ∧ w.heap.size ≤ b' ∧ ((k = 0 ∧ Hid (zs = [])) ∨ (k = 1 ∧ Hid (zs = xs)) ∨ (k = 2 ∧ Hid (zs = xs ++ ys)))) ∧ Hid (Ext w wr)) (fun _ i _ => 2 - (intOf i).toNat)
      case atStart => exact ⟨0, by omega, rfl, ⟨b3, c3, 0, [], rfl, Lib.hid rfl, HR3, hb3', .inl ⟨rfl, Lib.hid rfl⟩⟩, HE3⟩
      case round =>
        obtain ⟨k, hk, rfl, ⟨b', c', m, zs, rfl, hm, hr, hb', hz⟩, he⟩ := hrel
        rcases hz with ⟨rfl, hz⟩ | ⟨rfl, hz⟩ | ⟨rfl, hz⟩
        · have hcell := he.out.cell HC1.out
          have HRI : Hid (RI wr (some ad1) xs) := by obtain ⟨_, _, e, _, _, _, h⟩ := H1.out.ext he.out; injection e with e1 _ _; show RI _ _ _; rw [e1]; exact h
          have HZL : Hid (zs.length ≤ 1000000000) := by show _ ≤ _; rw [hz.out]; simp
          have HXL : Hid (xs.length ≤ 1000000000) := by show _ ≤ _; omega
          go_wp2_with (at_builtin; go_loud (refine wpl_appSrc rfl (.tmp 31) (.tmp 32) rfl b' c' m zs xs rfl hr.out hm.out ad1 _ _ rfl rfl HRI.out HZL.out HXL.out ?_); intro b5 c5 w5 hr5 hb5 hu5; have HR5 := Lib.hid hr5; have HU5 := Lib.hid hu5; clear hr5 hu5)
          have hwz := he.out.size
          have HZ5 : Hid (zs ++ xs = xs) := by show _ = _; rw [hz.out]; rfl
          have HM5 : Hid (m + xs.length = (zs ++ xs).length) := by show _ = _; rw [List.length_append, ← hm.out]
          have hb5' : w.heap.size ≤ b5 := by rcases hb5 with e | e <;> omega
          go_roundw
          case rel => exact ⟨1, by omega, by go_num, ⟨b5, c5, _, zs ++ xs, rfl, HM5, HR5, hb5', .inr (.inl ⟨rfl, HZ5⟩)⟩, Lib.hid (he.out.upd1 HU5.out hb')⟩
          case measure => simp [intOf]
        · have hcell := he.out.cell HC2.out
          have HRI : Hid (RI wr (some ad2) ys) := by obtain ⟨_, _, e, _, _, _, h⟩ := H2.out.ext he.out; injection e with e1 _ _; show RI _ _ _; rw [e1]; exact h
          have HZL : Hid (zs.length ≤ 1000000000) := by show _ ≤ _; rw [hz.out]; omega
          have HXL : Hid (ys.length ≤ 1000000000) := by show _ ≤ _; omega
          go_wp2_with (at_builtin; go_loud (refine wpl_appSrc rfl (.tmp 31) (.tmp 32) rfl b' c' m zs ys rfl hr.out hm.out ad2 _ _ rfl rfl HRI.out HZL.out HXL.out ?_); intro b5 c5 w5 hr5 hb5 hu5; have HR5 := Lib.hid hr5; have HU5 := Lib.hid hu5; clear hr5 hu5)
          have hwz := he.out.size
          have HZ5 : Hid (zs ++ ys = xs ++ ys) := by show _ = _; rw [hz.out]
          have HM5 : Hid (m + ys.length = (zs ++ ys).length) := by show _ = _; rw [List.length_append, ← hm.out]
          have hb5' : w.heap.size ≤ b5 := by rcases hb5 with e | e <;> omega
          go_roundw
          case rel => exact ⟨2, by omega, by go_num, ⟨b5, c5, _, zs ++ ys, rfl, HM5, HR5, hb5', .inr (.inr ⟨rfl, HZ5⟩)⟩, Lib.hid (he.out.upd1 HU5.out hb')⟩
          case measure => simp [intOf]
        · go_wp2_with fail
          go_ret
          exact ⟨b', c', by rw [hm.out, hz.out]; rfl, hb', by rw [← hz.out]; exact hr.out, he.out⟩
end Go.Proofs.Ytcifngcmdiokpaa
