/- Two rows compared: contracts of cmp.Compare, slices.Compare, cmp.Or, comparePerms and the reference's l2Before. Conditions: lengths below a bound. -/
import Derived.Test.YtcifngcmdiokpaaBase2
import Derived.Test.YtcifngcmdiokpaaSrtI
namespace Go.Proofs.Ytcifngcmdiokpaa
open Go.RowKit

def ciI (x y : Int) : Int := if x < y then -1 else if y < x then 1 else 0
theorem lex_at : ∀ (k : Nat) {xs ys : List Int}, eqTo xs ys k → k < xs.length → k < ys.length → nth xs k ≠ nth ys k → lexB xs ys = decide (nth xs k < nth ys k) := by
  intro k
  induction k with
  | zero =>
    intro xs ys _ h1 h2 hne
    cases xs with
    | nil => simp at h1
    | cons x xs => cases ys with
      | nil => simp at h2
      | cons y ys =>
        have e1 : nth (x :: xs) 0 = x := rfl
        have e2 : nth (y :: ys) 0 = y := rfl
        rw [e1, e2] at hne ⊢
        simp [lexB, hne]
  | succ k ih =>
    intro xs ys he h1 h2 hne
    cases xs with
    | nil => simp at h1
    | cons x xs => cases ys with
      | nil => simp at h2
      | cons y ys =>
        have e0 : x = y := he 0 (by omega)
        have e1 : nth (x :: xs) (k + 1) = nth xs k := by simp [nth]
        have e2 : nth (y :: ys) (k + 1) = nth ys k := by simp [nth]
        rw [e1, e2] at hne ⊢
        rw [← ih (xs := xs) (ys := ys) (fun i hi => by have := he (i + 1) (by omega); simpa [nth] using this) (by simpa using h1) (by simpa using h2) hne]
        subst e0
        simp [lexB]
theorem lex_end : ∀ {xs ys : List Int}, eqTo xs ys xs.length → xs.length ≤ ys.length → lexB xs ys = decide (xs.length < ys.length) ∧ lexB ys xs = false := by
  intro xs
  induction xs with
  | nil => intro ys _ _; cases ys with
    | nil => simp [lexB]
    | cons y ys => simp [lexB]
  | cons x xs ih =>
    intro ys he hl
    cases ys with
    | nil => simp at hl
    | cons y ys =>
      have e0 : x = y := he 0 (by simp)
      subst e0
      obtain ⟨h1, h2⟩ := ih (ys := ys) (fun i hi => by have := he (i + 1) (by simp; omega); simpa [nth] using this) (by simpa using hl)
      simp [lexB, h1, h2]
theorem eqTo.symm {xs ys : List Int} {k : Nat} (h : eqTo xs ys k) : eqTo ys xs k := fun i hi => (h i hi).symm
theorem cmpG_at {k : Nat} {xs ys : List Int} (he : eqTo xs ys k) (h1 : k < xs.length) (h2 : k < ys.length) (hne : nth xs k ≠ nth ys k) : cmpG lexB xs ys = ciI (nth xs k) (nth ys k) := by
  unfold cmpG ciI
  rw [lex_at k he h1 h2 hne, lex_at k he.symm h2 h1 (fun e => hne e.symm)]
  by_cases h : nth xs k < nth ys k
  · simp [h]
  · have h' : nth ys k < nth xs k := by omega
    simp [h, h']
theorem cmpG_long {xs ys : List Int} (he : eqTo xs ys ys.length) (h : ys.length < xs.length) : cmpG lexB xs ys = 1 := by
  have := lex_end he.symm (by omega)
  unfold cmpG
  rw [this.2, this.1, decide_eq_true h]; rfl
theorem cmpG_short {xs ys : List Int} (he : eqTo xs ys xs.length) (h : xs.length < ys.length) : cmpG lexB xs ys = -1 := by
  have := lex_end he (by omega)
  unfold cmpG
  rw [this.1, decide_eq_true h]; rfl
theorem cmpG_same {xs ys : List Int} (he : eqTo xs ys xs.length) (h : xs.length = ys.length) : cmpG lexB xs ys = 0 := by
  have := lex_end he (by omega)
  unfold cmpG
  rw [this.1, this.2, decide_eq_false (by omega)]; rfl
theorem cmpG_bef (xs ys : List Int) : cmpG befB xs ys = if xs.length = ys.length then cmpG lexB xs ys else ciI xs.length ys.length := by
  unfold cmpG befB ciI
  by_cases h : xs.length = ys.length
  · simp [h]
  · rw [if_neg h]
    by_cases h1 : xs.length < ys.length
    · have h2 : ¬ ys.length < xs.length := by omega
      simp [h1]
    · have h2 : ys.length < xs.length := by omega
      have h3 : ¬ ys.length = xs.length := by omega
      simp [h1, h2, h]
theorem befB_len {xs ys : List Int} (h : xs.length ≠ ys.length) : befB xs ys = decide (xs.length < ys.length) := by simp [befB, h]
theorem befB_at {k : Nat} {xs ys : List Int} (hl : xs.length = ys.length) (he : eqTo xs ys k) (h1 : k < xs.length) (hne : nth xs k ≠ nth ys k) : befB xs ys = decide (nth xs k < nth ys k) := by
  unfold befB
  rw [lex_at k he h1 (by omega) hne]; simp [hl]
theorem cmpG_range (bf : List Int → List Int → Bool) (xs ys : List Int) : cmpG bf xs ys = -1 ∨ cmpG bf xs ys = 0 ∨ cmpG bf xs ys = 1 := by
  unfold cmpG
  cases bf xs ys
  · cases bf ys xs
    · right; left; rfl
    · right; right; rfl
  · left; rfl

set_option maxHeartbeats 1000000 in
theorem l2BeforeB_ok (v v2 : Value) (xs ys : List Int) (w : World) (h : SI w v xs) (h2 : SI w v2 ys) (hl : xs.length ≤ 1000000000) :
    Calls Try.prog 87 #[v, v2] w fun e w' => e = .returned (.bool (befB xs ys)) ∧ Qt w w' := by
  obtain ⟨a, cap, rfl, hri⟩ := h.elim
  obtain ⟨a2, cap2, rfl, hri2⟩ := h2.elim
  clear h h2
  by_cases hlen : xs.length = ys.length
  · have H := Lib.hid hlen
    rw [← hlen]
    have hb : ((xs.length : Int) != (xs.length : Int)) = false := by simp
    clear hlen
    go_enter Try.func87, Try.ntmps87
    go_wp2_with fail
    go_loopw [5] (fun i wr => ∃ k : Nat, k ≤ xs.length ∧ i = .int .i64 k ∧ Hid (eqTo xs ys k) ∧ Qt w wr) (fun i _ => xs.length - (intOf i).toNat)
    case atStart => exact ⟨0, by omega, rfl, Lib.hid (fun i hi => by omega), Qt.refl _⟩
    case round =>
      obtain ⟨k, hk, rfl, He, hq⟩ := hrel
      clear hb
      by_cases hlt : k < xs.length
      · obtain ⟨b, off, rfl, hc⟩ := (hri.ext hq.ext).get hlt
        obtain ⟨b2, off2, rfl, hc2⟩ := (hri2.ext hq.ext).get (k := k) (by rw [← H.out]; exact hlt)
        have hck := hc k hlt
        have hck2 := hc2 k (by rw [← H.out]; exact hlt)
        obtain ⟨x, hx⟩ : ∃ x, x = nth xs k := ⟨_, rfl⟩
        obtain ⟨y, hy⟩ : ∃ y, y = nth ys k := ⟨_, rfl⟩
        rw [← hx] at hck
        rw [← hy] at hck2
        clear hc hc2 hri hri2
        by_cases hne : x = y
        · have hb : (x != y) = false := by simp [hne]
          have He2 := Lib.hid (eqTo_succ He.out (show nth xs k = nth ys k by rw [← hx, ← hy, hne]))
          clear hne hx hy
          go_wp2
          go_quiet (fail)
          go_wp2
          go_roundw
          case rel => exact ⟨k + 1, by omega, by go_num, He2, hq.drewN _⟩
          case measure => simp [intOf]; omega
        · have hb : (x != y) = true := by simp [hne]
          have HR := Lib.hid (befB_at H.out He.out hlt (by rw [← hx, ← hy]; exact hne))
          rw [← hx, ← hy] at HR
          clear hne hx hy
          go_wp2
          go_quiet (fail)
          go_wp2
          go_quiet (fail)
          go_wp2
          go_ret
          exact ⟨by rw [HR.out]; rfl, (hq.drewN _).drewN _⟩
      · obtain rfl : k = xs.length := by omega
        have HR : Hid (befB xs ys = false) := by
          show _ = _
          rw [eqTo_all He.out H.out]; exact befB_irr _
        go_wp2_with fail
        go_ret
        exact ⟨by rw [HR.out]; rfl, hq⟩
  · have hb : ((xs.length : Int) != (ys.length : Int)) = true := by simp; omega
    have HR := Lib.hid (befB_len hlen)
    clear hlen
    go_enter Try.func87, Try.ntmps87
    go_wp2_with fail
    go_ret
    exact ⟨by rw [HR.out]; rfl, Qt.refl _⟩
end Go.Proofs.Ytcifngcmdiokpaa
