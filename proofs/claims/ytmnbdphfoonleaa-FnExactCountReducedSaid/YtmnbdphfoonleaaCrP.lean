/- The number of reduced words: plain facts, and the map that keeps the numbers known. Conditions: at most 6 numbers. -/
import Derived.Test.YtmnbdphfoonleaaRws
import Derived.Test.YtmnbdphfoonleaaTxt
import Derived.Maps.OwnSet
import Derived.Maps.OwnOps
namespace Go.Proofs.Ytmnbdphfoonleaa
open Go.RowKit Go.Maps

def cnt (p : List Int) : Int := ((rwL p).length : Int)
def cntTo (p : List Int) (k : Nat) : Int := ((rwTo p k).length : Int)
theorem cntTo_zero (p : List Int) : cntTo p 0 = 0 := by simp [cntTo, rwTo]
theorem cntTo_t {p : List Int} {k : Nat} (h : nth p (k + 1) < nth p k) : cntTo p (k + 1) = cntTo p k + cnt (nsw p k) := by
  unfold cntTo cnt; rw [rwTo_succ, rwOne_t h, List.length_append, List.length_map]; omega
theorem cntTo_f {p : List Int} {k : Nat} (h : ¬ nth p (k + 1) < nth p k) : cntTo p (k + 1) = cntTo p k := by
  unfold cntTo; rw [rwTo_succ, rwOne_f h, List.append_nil]
theorem cnt_step {p : List Int} (h : srtB p = false) : cnt p = cntTo p (p.length - 1) := by unfold cnt cntTo; rw [rwL_step h]
theorem cnt_srt {p : List Int} (h : srtB p = true) : cnt p = 1 := by unfold cnt; rw [rwL_srt h]; rfl
theorem cnt_rng {p : List Int} (hp : IsP p) (h6 : p.length ≤ 6) : 0 ≤ cnt p ∧ cnt p ≤ 470184984576 := by
  have := cr_small hp h6; unfold cnt; omega
theorem cntTo_rng {p : List Int} {k : Nat} (hp : IsP p) (h6 : p.length ≤ 6) (hs : srtB p = false) (hk : k ≤ p.length - 1) : 0 ≤ cntTo p k ∧ cntTo p k ≤ 470184984576 := by
  have h1 := cr_small hp h6
  have h2 := rwTo_le (p := p) hk
  rw [← rwL_step hs] at h2
  unfold cntTo; omega
theorem six_pos (d : Nat) : 1 ≤ 6 ^ d := Nat.one_le_pow _ _ (by omega)
/-- the rounds' room. -/
theorem six_room {N k d : Nat} (hk : k ≤ 5) : N + k * 6 ^ d + 1 ≤ N + 6 ^ (d + 1) := by
  have h1 := six_pos d
  have h2 : k * 6 ^ d ≤ 5 * 6 ^ d := Nat.mul_le_mul_right _ hk
  rw [Nat.pow_succ]; omega
theorem six_room2 {N k d : Nat} (hk : k + 1 ≤ 5) : N + k * 6 ^ d + 6 ^ d ≤ N + 6 ^ (d + 1) := by
  have h2 : (k + 1) * 6 ^ d ≤ 5 * 6 ^ d := Nat.mul_le_mul_right _ hk
  rw [Nat.add_mul, Nat.one_mul] at h2
  rw [Nat.pow_succ]; omega

theorem six_next {N N' k d : Nat} (h : N' ≤ N + k * 6 ^ d) : N' + 6 ^ d ≤ N + (k + 1) * 6 ^ d := by rw [Nat.add_mul, Nat.one_mul]; omega
/-! ### the map -/
def keyT (p : List Int) : Lit := .string (txt p).data.toList
theorem isP_rng {p : List Int} (hp : IsP p) (h8 : p.length ≤ 8) : ∀ x ∈ p, 1 ≤ x ∧ x ≤ 8 := fun x hx => by have := hp.1 x hx; omega
theorem keyT_ne {p q : List Int} (hp : IsP p) (hq : IsP q) (h8 : p.length ≤ 8) (h9 : q.length ≤ 8) (h : p ≠ q) : keyT p ≠ keyT q := by
  intro e
  refine h (txt_inj (isP_rng hp h8) (isP_rng hq h9) ?_)
  injection e with e
  exact ByteArray.ext (Array.toList_inj.1 e)
theorem key_ok {p : List Int} (h8 : p.length ≤ 8) : keyOf Try.prog 9 (.string (txt p)) = some (keyT p) :=
  Go.WideMaps.keyOf_string_mk Try.underlying9 (by rw [show (txt p).size = p.length by unfold txt; rw [strOfNums_size, txN_len]]; unfold maxLen; omega)
theorem keyed9 : Keyed Try.prog 9 := string_keyed Try.underlying9
theorem zero_int (w : World) : (zeroValue 3).run Try.prog w = .ok (.int .i64 0) w := by kernel_rfl
def OM (b N : Nat) (D : DataW Unit) (w : World) : Prop := w.ownsMap Try.prog 9 (plainElem Try.prog 3) b N D
def Good (n : Nat) (D : DataW Unit) : Prop := IsMap D ∧ ∀ q, IsP q → q.length = n → has D (keyT q) = true → D.atKey (keyT q) (.lit (.int .i64 0)) = .lit (.int .i64 (cnt q))
theorem Good.nil (n : Nat) : Good n (.map []) := ⟨isMap_empty, fun q _ _ h => by simp [has] at h⟩
theorem Good.put {n : Nat} {D : DataW Unit} (h : Good n D) {p : List Int} (hp : IsP p) (hl : p.length = n) (h8 : n ≤ 8) : Good n (D.put (keyT p) (.lit (.int .i64 (cnt p)))) := by
  refine ⟨h.1.put _ _, fun q hq hql hh => ?_⟩
  by_cases e : q = p
  · subst e; exact atKey_put_same h.1 (show WideAt.IsKeyLit (.string _) from trivial) _ _
  · have hne := keyT_ne hq hp (by omega) (by omega) e
    rw [has_put_other hne] at hh
    rw [atKey_put_other hne]; exact h.2 q hq hql hh
theorem OM.upd {b N : Nat} {D : DataW Unit} {E : Nat → Prop} {w w' : World} (h : OM b N D w) (hu : Upd E w w') (hb : ¬ E b) : OM b N D w' := by
  have hlt := World.ownsMap.lt h
  obtain ⟨es, clock, hh, F, hs, hD⟩ := h
  exact ⟨es, clock, (hu.block b hlt hb).trans hh, F, hs, hD⟩
theorem OM.ext {b N : Nat} {D : DataW Unit} {w w' : World} (h : OM b N D w) (hu : Ext w w') : OM b N D w' := h.upd hu id
theorem OM.lt {b N : Nat} {D : DataW Unit} {w : World} (h : OM b N D w) : b < w.heap.size := World.ownsMap.lt h
def CRP (n b M : Nat) (w w' : World) : Prop := ∃ N' D', OM b N' D' w' ∧ Good n D' ∧ N' ≤ M ∧ Upd (· = b) w w'
theorem CRP.ext {n b M : Nat} {w w1 w2 : World} (h : CRP n b M w w1) (hu : Ext w1 w2) : CRP n b M w w2 := by
  obtain ⟨N', D', h1, h2, h3, h4⟩ := h
  exact ⟨N', D', h1.ext hu, h2, h3, h4.trans (Ext.toUpd hu _)⟩
theorem CRP.mono {n b M M' : Nat} {w w1 : World} (h : CRP n b M w w1) (hM : M ≤ M') : CRP n b M' w w1 := by
  obtain ⟨N', D', h1, h2, h3, h4⟩ := h
  exact ⟨N', D', h1, h2, by omega, h4⟩
theorem CRP.upd {n b M : Nat} {w w1 : World} (h : CRP n b M w w1) : Upd (· = b) w w1 := by obtain ⟨N', D', h1, h2, h3, h4⟩ := h; exact h4
theorem CRP.off {n b M c : Nat} {w w1 w2 : World} (h : CRP n b M w w1) (hu : Upd (· = c) w1 w2) (hc : w.heap.size ≤ c) (hb : b < w.heap.size) : CRP n b M w w2 := by
  obtain ⟨N', D', h1, h2, h3, h4⟩ := h
  exact ⟨N', D', h1.upd hu (by omega), h2, h3, h4.comp hu (D' := (· = b)) (fun _ _ h => h) (fun i hi e => by omega)⟩
theorem CRP.comp {n m b M M' : Nat} {w w1 w2 : World} (hu : Upd (· = b) w w1) (h : CRP m b M w1 w2) (hm : m = n) (hM : M ≤ M') : CRP n b M' w w2 := by
  subst hm
  obtain ⟨N', D', h1, h2, h3, h4⟩ := h
  exact ⟨N', D', h1, h2, by omega, hu.trans h4⟩
theorem grown_upd {w w' : World} {b : Nat} (h : w.grownBy w' (some b)) : Upd (· = b) w w' := ⟨h.os, h.tape, h.output, h.size, fun k hk hn => h.block k hk (fun e => hn (by injection e))⟩
/-- a slice that can be read lies off a map's block. -/
theorem OM.off {b N : Nat} {D : DataW Unit} {w : World} (h : OM b N D w) {v : Value} {xs : List Int} (hs : SI w v xs) : Off b v xs := by
  obtain ⟨a, cap, rfl, h2, h3, h4, h5⟩ := hs
  rcases h5 with h5 | ⟨b1, off, rfl, hc⟩
  · exact .inl h5
  · by_cases e : xs = []
    · exact .inl e
    · refine .inr (fun b' off' s n c e2 e3 => ?_)
      have hl : 0 < xs.length := by cases xs with | nil => exact absurd rfl e | cons _ _ => simp
      have hc0 := hc 0 hl
      injection e2 with e4
      injection e4 with e4
      injection e4 with e5
      subst e3 e5
      obtain ⟨es, clock, hh, _⟩ := h
      simp [World.cell?, hh] at hc0
end Go.Proofs.Ytmnbdphfoonleaa
