/- Joins of permutations, the reference's; the program's joinParts. Conditions: permutations, at most 8 numbers together. -/
import Derived.Test.YtcifngcmdiokpaaCpl
import Derived.Deep.RegionLaw
namespace Go.Proofs.Ytcifngcmdiokpaa
open Go.RowKit
def jnF (p q : List Int) : List Int := p ++ q.map (· + (p.length : Int))
def jnTo (p q : List Int) (k : Nat) : List Int := p ++ (q.take k).map (· + (p.length : Int))
theorem jnTo_zero (p q : List Int) : jnTo p q 0 = p := by simp [jnTo]
theorem jnTo_len (p : List Int) {q : List Int} {k : Nat} (h : k ≤ q.length) : (jnTo p q k).length = p.length + k := by simp [jnTo]; omega
theorem jnTo_succ (p : List Int) {q : List Int} {k : Nat} (h : k < q.length) : jnTo p q (k + 1) = jnTo p q k ++ [nth q k + (p.length : Int)] := by
  unfold jnTo; rw [take_nth h, List.map_append, List.append_assoc]; rfl
theorem step_app1R {w : World} {ops : Array Oper} {o : Oper} {a : Act} {K : Act → World → Prop} {Q : Exit → Act → World → Prop} {E : Prop} (hgd : o.guard = none) (s x : Operand)
    (ho : o.op = .call { callee := .builtin .append, args := #[s, x], argTypes := #[22, 22] })
    (b cap n : Nat) (xs : List Int) (y : Int) (hs : a.eval s = .slice (some ⟨b, 0, none⟩) n cap) (hr : Row 3 w b cap (vals xs)) (hn : n = xs.length)
    (m : Nat) (hx : a.eval x = .slice (some ⟨m, 0, none⟩) 1 1) (hm : w.cell? ⟨m, 0, none⟩ = some (.int .i64 y)) (hb : xs.length ≤ 1000000000)
    (h : ∀ b' cap' w', Row 3 w' b' cap' (vals (xs ++ [y])) → (b' = b ∨ w.heap.size ≤ b') → Upd (· = b) w w' → K (a.put o.dst (.slice (some ⟨b', 0, none⟩) (n + 1) cap')) w') :
    if Region.wanted o (yielded ops a.tmps) = true then Oper.wp Try.prog o a w K Q else E := by
  refine step_appSrc hgd s x ho b cap n xs [y] hs hr hn ⟨m, 0, none⟩ 1 1 hx rfl (.inr ⟨m, 0, rfl, fun i hi => ?_⟩) hb (by simp) h
  obtain rfl : i = 0 := by simpa using hi
  exact hm
def jnT2 (p q : List Int) (k : Nat) : List Int := upL p (q.length : Int) ++ q.take k
theorem jnT2_zero (p q : List Int) : jnT2 p q 0 = upL p (q.length : Int) := by simp [jnT2]
theorem jnT2_len (p : List Int) {q : List Int} {k : Nat} (h : k ≤ q.length) : (jnT2 p q k).length = p.length + k := by simp [jnT2, upL_len]; omega
theorem jnT2_succ (p : List Int) {q : List Int} {k : Nat} (h : k < q.length) : jnT2 p q (k + 1) = jnT2 p q k ++ [nth q k] := by
  unfold jnT2; rw [take_nth h, List.append_assoc]
set_option maxHeartbeats 4000000 in
theorem l4JoinF_ok (v v2 : Value) (p q : List Int) (w : World) (h : SI w v p) (h2 : SI w v2 q) (hl : p.length ≤ 8) (hl2 : q.length ≤ 8) (hb : ∀ x ∈ p, -100 ≤ x ∧ x ≤ 100) (hb2 : ∀ x ∈ q, -100 ≤ x ∧ x ≤ 100) :
    Calls Try.prog 111 #[v, v2, .bool false] w fun e w' => ∃ b c, e = .returned (.slice (some ⟨b, 0, none⟩) (jnF p q).length c) ∧ w.heap.size ≤ b ∧ Row 3 w' b c (vals (jnF p q)) ∧ Ext w w' := by
  obtain ⟨a, cap, rfl, hri⟩ := h.elim
  obtain ⟨a2, cap2, rfl, hri2⟩ := h2.elim
  have hr0 := Row.new 3 w [] (by simp)
  have he0 : Ext w (w.alloc (.cells #[] 3)) := Upd.alloc _ _ _
  have HB := Lib.hid hb
  have HB2 := Lib.hid hb2
  clear h h2 hb hb2
  go_enter Try.func111, Try.ntmps111
  go_wp2_with fail
  go_loopw [7, 8] (fun o i wr => ∃ k : Nat, k ≤ p.length ∧ i = .int .i64 k ∧ (∃ b c, o = .slice (some ⟨b, 0, none⟩) k c ∧ w.heap.size ≤ b ∧ Row 3 wr b c (vals (p.take k))) ∧ Ext w wr) (fun _ i _ => p.length - (intOf i).toNat)
  case atStart => exact ⟨0, Nat.zero_le _, rfl, ⟨_, 0, rfl, Nat.le_refl _, hr0⟩, he0⟩
  case round =>
    obtain ⟨k, hk, rfl, ⟨b, c, rfl, hb, hr⟩, he⟩ := hrel
    clear hr0 he0
    by_cases hlt : k < p.length
    · obtain ⟨bb, off, rfl, hc⟩ := (hri.ext he).get hlt
      have hck := hc k hlt
      have hxb := HB.out _ (nth_mem hlt)
      have HT := Lib.hid (take_nth hlt)
      have hln : Hid (k = (p.take k).length) := by show _ = _; rw [List.length_take]; omega
      obtain ⟨x, hx⟩ : ∃ x, x = nth p k := ⟨_, rfl⟩
      rw [← hx] at hck hxb HT
      have HR := Lib.hid hr
      have hbl := hr.lt
      have f1 : IntKind.i64.wrap 0 = 0 := by decide
      have f2 : IntKind.i64.wrap x = x := IntWalk.i64_in _ (by omega)
      have f3 : (k : Int) < (p.length : Int) := by omega
      clear hx hc hr
      go_wp2_with fail
      go_region_law (first
        | (go_simp; go_at_call 92; refine (l1Bit_f _).mono ?_; rintro e w7 ⟨rfl, ⟨m7, rfl⟩⟩)
        | (refine step_app1R (by rfl) (.tmp 17) (.tmp 28) (by rfl) b c k (p.take k) x (by rfl) (HR.out.ext (by first | exact ((Ext.refl _).drewN _).alloc _ | exact (((Ext.refl _).drew.drewN _).alloc _) | exact ((Ext.refl _).alloc _).drew.drewN _)) hln.out wr.heap.size (by rfl) (by first | exact World.cell?_alloc_at _ _ _ _ rfl | exact Upd.cell (Upd.drewN _ _ (fun _ => False)) (Upd.cell (Upd.drew _ (fun _ => False)) (World.cell?_alloc_at _ _ _ _ rfl) id) id) (by rw [← hln.out]; omega) ?_; intro b8 c8 w8 hr8 hb8 hu8))
      all_goals
        have HR8 := Lib.hid (show Row 3 w8 b8 c8 (vals (p.take (k + 1))) by rw [HT.out]; exact hr8)
        have HE8 := Lib.hid (Ext.upd1 (show Ext w _ from (he.drewN _).alloc _) hu8 hb)
        have hz := he.size
        have hb8' : w.heap.size ≤ b8 := by
          rcases hb8 with e | e
          · omega
          · simp at e; omega
        clear hr8 hu8 hb8 f1 f2
        go_wp2_with fail
        go_roundw
        case rel => exact ⟨k + 1, by omega, by go_num, ⟨b8, c8, rfl, hb8', HR8.out⟩, HE8.out⟩
        case measure => simp [intOf]; omega
    · obtain rfl : k = p.length := by omega
      rw [take_all (Nat.le_refl _)] at hr
      have hr1 : Row 3 wr b c (vals (jnTo p q 0)) := by rw [jnTo_zero]; exact hr
      clear hr
      go_wp2_with fail
      go_loopw [7, 9] (fun o i wr => ∃ k : Nat, k ≤ q.length ∧ i = .int .i64 k ∧ (∃ b c n, o = .slice (some ⟨b, 0, none⟩) n c ∧ n = p.length + k ∧ w.heap.size ≤ b ∧ Row 3 wr b c (vals (jnTo p q k))) ∧ Ext w wr) (fun _ i _ => q.length - (intOf i).toNat)
      case atStart => exact ⟨0, Nat.zero_le _, rfl, ⟨_, _, _, rfl, by omega, hb, hr1⟩, he⟩
      case round =>
        obtain ⟨k, hk, rfl, ⟨b, c, n, rfl, hn, hb, hr⟩, he⟩ := hrel
        clear hr1
        by_cases hlt : k < q.length
        · obtain ⟨bb, off, rfl, hc⟩ := (hri2.ext he).get hlt
          have hck := hc k hlt
          have hxb := HB2.out _ (nth_mem hlt)
          have HT := Lib.hid (jnTo_succ p hlt)
          have hln : Hid (n = (jnTo p q k).length) := by show _ = _; rw [jnTo_len p (by omega)]; exact hn
          obtain ⟨x, hx⟩ : ∃ x, x = nth q k := ⟨_, rfl⟩
          rw [← hx] at hck hxb HT
          have HR := Lib.hid hr
          have hbl := hr.lt
          have f1 : IntKind.i64.wrap (p.length : Int) = (p.length : Int) := IntWalk.i64_in _ (by omega)
          have f2 : IntKind.i64.wrap (x + (p.length : Int)) = x + (p.length : Int) := IntWalk.i64_in _ (by omega)
          have f3 : (k : Int) < (q.length : Int) := by omega
          have HN := Lib.hid hn
          clear hx hc hr hn
          go_wp2_with fail
          go_region_law (first
            | (go_simp; go_at_call 92; refine (l1Bit_t _).mono ?_; rintro e w7 ⟨rfl, ⟨m7, rfl⟩⟩)
            | (refine step_app1R (by rfl) (.tmp 36) (.tmp 48) (by rfl) b c n (jnTo p q k) (x + (p.length : Int)) (by rfl) (HR.out.ext (by first | exact ((Ext.refl _).drewN _).alloc _ | exact (((Ext.refl _).drew.drewN _).alloc _) | exact ((Ext.refl _).alloc _).drew.drewN _)) hln.out wr.heap.size (by rfl) (by first | exact World.cell?_alloc_at _ _ _ _ rfl | exact Upd.cell (Upd.drewN _ _ (fun _ => False)) (Upd.cell (Upd.drew _ (fun _ => False)) (World.cell?_alloc_at _ _ _ _ rfl) id) id) (by rw [jnTo_len p (by omega)]; omega) ?_; intro b8 c8 w8 hr8 hb8 hu8))
          all_goals
            have HR8 := Lib.hid (show Row 3 w8 b8 c8 (vals (jnTo p q (k + 1))) by rw [HT.out]; exact hr8)
            have HE8 := Lib.hid (Ext.upd1 (show Ext w _ from (he.drewN _).alloc _) hu8 hb)
            have hz := he.size
            have hb8' : w.heap.size ≤ b8 := by
              rcases hb8 with e | e
              · omega
              · simp at e; omega
            clear hr8 hu8 hb8 f1 f2
            go_wp2_with fail
            go_roundw
            case rel => exact ⟨k + 1, by omega, by go_num, ⟨b8, c8, n + 1, rfl, by have := HN.out; omega, hb8', HR8.out⟩, HE8.out⟩
            case measure => simp [intOf]; omega
        · obtain rfl : k = q.length := by omega
          have hfin := Lib.hid (show n = (jnF p q).length by rw [hn]; simp [jnF])
          have hr2 : Row 3 wr b c (vals (jnF p q)) := by
            have : jnTo p q q.length = jnF p q := by unfold jnTo jnF; rw [take_all (Nat.le_refl _)]
            rw [← this]; exact hr
          clear hn
          go_wp2_with fail
          go_ret
          rw [← hfin.out]
          exact ⟨_, _, rfl, hb, hr2, he⟩
set_option maxHeartbeats 4000000 in
theorem l4JoinT_ok (v v2 : Value) (p q : List Int) (w : World) (h : SI w v p) (h2 : SI w v2 q) (hl : p.length ≤ 8) (hl2 : q.length ≤ 8) (hb : ∀ x ∈ p, -100 ≤ x ∧ x ≤ 100) (hb2 : ∀ x ∈ q, -100 ≤ x ∧ x ≤ 100) :
    Calls Try.prog 111 #[v, v2, .bool true] w fun e w' => ∃ b c, e = .returned (.slice (some ⟨b, 0, none⟩) (joinG true p q).length c) ∧ w.heap.size ≤ b ∧ Row 3 w' b c (vals (joinG true p q)) ∧ Ext w w' := by
  obtain ⟨a, cap, rfl, hri⟩ := h.elim
  obtain ⟨a2, cap2, rfl, hri2⟩ := h2.elim
  have hr0 := Row.new 3 w [] (by simp)
  have he0 : Ext w (w.alloc (.cells #[] 3)) := Upd.alloc _ _ _
  have HB := Lib.hid hb
  have HB2 := Lib.hid hb2
  clear h h2 hb hb2
  go_enter Try.func111, Try.ntmps111
  go_wp2_with fail
  go_loopw [7, 8] (fun o i wr => ∃ k : Nat, k ≤ p.length ∧ i = .int .i64 k ∧ (∃ b c, o = .slice (some ⟨b, 0, none⟩) k c ∧ w.heap.size ≤ b ∧ Row 3 wr b c (vals (upL (p.take k) (q.length : Int)))) ∧ Ext w wr) (fun _ i _ => p.length - (intOf i).toNat)
  case atStart => exact ⟨0, Nat.zero_le _, rfl, ⟨_, 0, rfl, Nat.le_refl _, hr0⟩, he0⟩
  case round =>
    obtain ⟨k, hk, rfl, ⟨b, c, rfl, hb, hr⟩, he⟩ := hrel
    clear hr0 he0
    by_cases hlt : k < p.length
    · obtain ⟨bb, off, rfl, hc⟩ := (hri.ext he).get hlt
      have hck := hc k hlt
      have hxb := HB.out _ (nth_mem hlt)
      have HT := Lib.hid (upL_take (d := (q.length : Int)) hlt)
      have hln : Hid (k = (upL (p.take k) (q.length : Int)).length) := by show _ = _; rw [upL_len, List.length_take]; omega
      obtain ⟨x, hx⟩ : ∃ x, x = nth p k := ⟨_, rfl⟩
      rw [← hx] at hck hxb HT
      have HR := Lib.hid hr
      have hbl := hr.lt
      have f1 : IntKind.i64.wrap (q.length : Int) = (q.length : Int) := IntWalk.i64_in _ (by omega)
      have f2 : IntKind.i64.wrap (x + (q.length : Int)) = x + (q.length : Int) := IntWalk.i64_in _ (by omega)
      have f3 : (k : Int) < (p.length : Int) := by omega
      clear hx hc hr
      go_wp2_with fail
      go_region_law (first
        | (go_simp; go_at_call 92; refine (l1Bit_t _).mono ?_; rintro e w7 ⟨rfl, ⟨m7, rfl⟩⟩)
        | (refine step_app1R (by rfl) (.tmp 17) (.tmp 28) (by rfl) b c k (upL (p.take k) (q.length : Int)) (x + (q.length : Int)) (by rfl) (HR.out.ext (by first | exact ((Ext.refl _).drewN _).alloc _ | exact (((Ext.refl _).drew.drewN _).alloc _) | exact ((Ext.refl _).alloc _).drew.drewN _)) hln.out wr.heap.size (by rfl) (by first | exact World.cell?_alloc_at _ _ _ _ rfl | exact Upd.cell (Upd.drewN _ _ (fun _ => False)) (Upd.cell (Upd.drew _ (fun _ => False)) (World.cell?_alloc_at _ _ _ _ rfl) id) id) (by rw [← hln.out]; omega) ?_; intro b8 c8 w8 hr8 hb8 hu8))
      all_goals
        have HR8 := Lib.hid (show Row 3 w8 b8 c8 (vals (upL (p.take (k + 1)) (q.length : Int))) by rw [HT.out]; exact hr8)
        have HE8 := Lib.hid (Ext.upd1 (show Ext w _ from (he.drewN _).alloc _) hu8 hb)
        have hz := he.size
        have hb8' : w.heap.size ≤ b8 := by
          rcases hb8 with e | e
          · omega
          · simp at e; omega
        clear hr8 hu8 hb8 f1 f2
        go_wp2_with fail
        go_roundw
        case rel => exact ⟨k + 1, by omega, by go_num, ⟨b8, c8, rfl, hb8', HR8.out⟩, HE8.out⟩
        case measure => simp [intOf]; omega
    · obtain rfl : k = p.length := by omega
      rw [take_all (Nat.le_refl _)] at hr
      have hr1 : Row 3 wr b c (vals (jnT2 p q 0)) := by rw [jnT2_zero]; exact hr
      clear hr
      go_wp2_with fail
      go_loopw [7, 9] (fun o i wr => ∃ k : Nat, k ≤ q.length ∧ i = .int .i64 k ∧ (∃ b c n, o = .slice (some ⟨b, 0, none⟩) n c ∧ n = p.length + k ∧ w.heap.size ≤ b ∧ Row 3 wr b c (vals (jnT2 p q k))) ∧ Ext w wr) (fun _ i _ => q.length - (intOf i).toNat)
      case atStart => exact ⟨0, Nat.zero_le _, rfl, ⟨_, _, _, rfl, by omega, hb, hr1⟩, he⟩
      case round =>
        obtain ⟨k, hk, rfl, ⟨b, c, n, rfl, hn, hb, hr⟩, he⟩ := hrel
        clear hr1
        by_cases hlt : k < q.length
        · obtain ⟨bb, off, rfl, hc⟩ := (hri2.ext he).get hlt
          have hck := hc k hlt
          have hxb := HB2.out _ (nth_mem hlt)
          have HT := Lib.hid (jnT2_succ p hlt)
          have hln : Hid (n = (jnT2 p q k).length) := by show _ = _; rw [jnT2_len p (by omega)]; exact hn
          obtain ⟨x, hx⟩ : ∃ x, x = nth q k := ⟨_, rfl⟩
          rw [← hx] at hck hxb HT
          have HR := Lib.hid hr
          have hbl := hr.lt
          have f1 : IntKind.i64.wrap 0 = 0 := by decide
          have f2 : IntKind.i64.wrap x = x := IntWalk.i64_in _ (by omega)
          have f3 : (k : Int) < (q.length : Int) := by omega
          have HN := Lib.hid hn
          clear hx hc hr hn
          go_wp2_with fail
          go_region_law (first
            | (go_simp; go_at_call 92; refine (l1Bit_f _).mono ?_; rintro e w7 ⟨rfl, ⟨m7, rfl⟩⟩)
            | (refine step_app1R (by rfl) (.tmp 36) (.tmp 48) (by rfl) b c n (jnT2 p q k) x (by rfl) (HR.out.ext (by first | exact ((Ext.refl _).drewN _).alloc _ | exact (((Ext.refl _).drew.drewN _).alloc _) | exact ((Ext.refl _).alloc _).drew.drewN _)) hln.out wr.heap.size (by rfl) (by first | exact World.cell?_alloc_at _ _ _ _ rfl | exact Upd.cell (Upd.drewN _ _ (fun _ => False)) (Upd.cell (Upd.drew _ (fun _ => False)) (World.cell?_alloc_at _ _ _ _ rfl) id) id) (by rw [jnT2_len p (by omega)]; omega) ?_; intro b8 c8 w8 hr8 hb8 hu8))
          all_goals
            have HR8 := Lib.hid (show Row 3 w8 b8 c8 (vals (jnT2 p q (k + 1))) by rw [HT.out]; exact hr8)
            have HE8 := Lib.hid (Ext.upd1 (show Ext w _ from (he.drewN _).alloc _) hu8 hb)
            have hz := he.size
            have hb8' : w.heap.size ≤ b8 := by
              rcases hb8 with e | e
              · omega
              · simp at e; omega
            clear hr8 hu8 hb8 f1 f2
            go_wp2_with fail
            go_roundw
            case rel => exact ⟨k + 1, by omega, by go_num, ⟨b8, c8, n + 1, rfl, by have := HN.out; omega, hb8', HR8.out⟩, HE8.out⟩
            case measure => simp [intOf]; omega
        · obtain rfl : k = q.length := by omega
          have hfin := Lib.hid (show n = (joinG true p q).length by rw [hn, joinG_len])
          have hr2 : Row 3 wr b c (vals (joinG true p q)) := by
            have : jnT2 p q q.length = joinG true p q := by unfold jnT2; rw [take_all (Nat.le_refl _)]; rfl
            rw [← this]; exact hr
          clear hn
          go_wp2_with fail
          go_ret
          rw [← hfin.out]
          exact ⟨_, _, rfl, hb, hr2, he⟩
theorem l4JoinG_ok (sk : Bool) (v v2 : Value) (p q : List Int) (w : World) (h : SI w v p) (h2 : SI w v2 q) (hl : p.length ≤ 8) (hl2 : q.length ≤ 8) (hb : ∀ x ∈ p, 1 ≤ x ∧ x ≤ 8) (hb2 : ∀ x ∈ q, 1 ≤ x ∧ x ≤ 8) :
    Calls Try.prog 111 #[v, v2, .bool sk] w fun e w' => ∃ b c, e = .returned (.slice (some ⟨b, 0, none⟩) (joinG sk p q).length c) ∧ w.heap.size ≤ b ∧ Row 3 w' b c (vals (joinG sk p q)) ∧ Ext w w' := by
  cases sk
  · exact l4JoinF_ok v v2 p q w h h2 hl hl2 (fun x hx => by have := hb x hx; omega) (fun x hx => by have := hb2 x hx; omega)
  · exact l4JoinT_ok v v2 p q w h h2 hl hl2 (fun x hx => by have := hb x hx; omega) (fun x hx => by have := hb2 x hx; omega)
end Go.Proofs.Ytcifngcmdiokpaa
