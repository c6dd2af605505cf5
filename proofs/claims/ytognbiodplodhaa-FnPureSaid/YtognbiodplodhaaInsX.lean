/- The specification's InsertPerm. Conditions: a slice that can be read. -/
import Derived.Test.YtognbiodplodhaaInsS
namespace Go.Proofs.Ytognbiodplodhaa
open Go.RowKit

theorem nthL_far {L : List (List Int)} {i : Nat} (h : L.length ≤ i) : nthL L i = [] := by simp [nthL, List.getElem?_eq_none h]
theorem isL_lens (L : List (List Int)) (v : Int) (r i : Nat) : (nthL (isL L v r) i).length = (nthL L i).length := by
  induction r with
  | zero => rfl
  | succ r ih =>
    rw [isL_succ]
    by_cases e : r = i
    · subst e
      by_cases hr : r < (isL L v r).length
      · rw [nthL_set_same _ hr, List.length_set, ih]
      · rw [List.set_eq_of_length_le (by omega), ih]
    · rw [nthL_set_other _ e, ih]
theorem grow_lens {L : List (List Int)} {r : Nat} {x : Int} (hr : r ≤ L.length) (i : Nat) : (nthL (grow L r x) i).length = (nthL L i).length + if i = r then 1 else 0 := by
  unfold grow
  by_cases e : r = L.length
  · rw [if_pos e]
    rcases Nat.lt_trichotomy i L.length with e2 | e2 | e2
    · rw [nthL_append_lt e2, if_neg (by omega)]; rfl
    · subst e2; rw [if_pos e.symm, nthL_far (Nat.le_refl _)]; simp [nthL]
    · rw [if_neg (by omega), nthL_far (by simp; omega), nthL_far (by omega)]; rfl
  · rw [if_neg e]
    by_cases e2 : r = i
    · subst e2; rw [nthL_set_same _ (by omega), if_pos rfl]; simp
    · rw [nthL_set_other _ e2, if_neg (by omega)]; rfl
/-- both tables are of one form. -/
theorem Ins.lens {p : List Int} {k : Nat} {A B : List (List Int)} (h : Ins p k A B) : ∀ i, (nthL A i).length = (nthL B i).length := by
  induction h with
  | zero => intro i; rfl
  | @succ k A B r h1 h2 ih =>
    intro i
    unfold insA
    rw [grow_lens (by rw [isL_len]; exact h2.1), isL_lens, grow_lens (by rw [← h1.len.1]; exact h2.1), ih i]
/-- what InsertPerm's two tables are. -/
def InsRes (p : List Int) (A T : List (List Int)) : Prop := (isP8 p = true → Ins p p.length A T) ∧ (isP8 p = false → A = [] ∧ T = [])
theorem InsRes.det {p : List Int} {A T A' T' : List (List Int)} (h : InsRes p A T) (k : InsRes p A' T') : A = A' ∧ T = T' := by
  cases hp : isP8 p
  · have h1 := h.2 hp; have h2 := k.2 hp; exact ⟨h1.1.trans h2.1.symm, h1.2.trans h2.2.symm⟩
  · exact (h.1 hp).det (k.1 hp)
theorem InsRes.bd {p : List Int} {A T : List (List Int)} (h : InsRes p A T) : A.length ≤ 8 ∧ T.length = A.length ∧ (∀ i, i < A.length → (nthL A i).length ≤ 8) ∧ (∀ i, i < T.length → (nthL T i).length ≤ 8) := by
  cases hp : isP8 p
  · obtain ⟨rfl, rfl⟩ := h.2 hp; simp
  · have hi := h.1 hp
    have h8 := (isP8_iff.1 hp).1
    exact ⟨by have := hi.len.2; omega, hi.len.1.symm, fun i h => (hi.ne (Nat.le_refl _) h8 i h).2, hi.bd h8⟩
theorem TT.oiiA {B : Nat} {w : World} {ba ca n : Nat} {va : List Value} {A : List (List Int)} {bb cb : Nat} {vb : List Value} {T : List (List Int)} (h : TT B w ba ca va A bb cb vb T) (hn : n = A.length) : OII B w.heap.size w (.slice (some ⟨ba, 0, none⟩) n ca) A := by
  subst hn; exact .inr ⟨ba, ca, va, rfl, h.la, h.ra.lt, h.ra, h.ea, fun i hi => (h.ea.el i hi).offOuter h.ra⟩
def IpPost (p : List Int) (w : World) (e : Ending) (w' : World) : Prop := ∃ va A vb T, e = .returned (.tuple #[va, vb, .bool (isP8 p)]) ∧ InsRes p A T ∧ OII w.heap.size w'.heap.size w' va A ∧ OII w.heap.size w'.heap.size w' vb T ∧ Ext w w'
theorem IpPost.of {p : List Int} {w w' : World} {e : Ending} (va : Value) (A : List (List Int)) (vb : Value) (T : List (List Int)) (h1 : e = .returned (.tuple #[va, vb, .bool (isP8 p)])) (h2 : InsRes p A T) (h3 : OII w.heap.size w'.heap.size w' va A) (h4 : OII w.heap.size w'.heap.size w' vb T) (h5 : Ext w w') : IpPost p w e w' := ⟨va, A, vb, T, h1, h2, h3, h4, h5⟩
set_option maxHeartbeats 2000000 in
theorem spec_InsertPerm_ok (v : Value) (p : List Int) (w : World) (h : SI w v p) (hl : p.length ≤ 1000000) :
    Calls Try.prog 44 #[v] w (IpPost p w) := by
  have h00 := h
  obtain ⟨a, cap, rfl, -⟩ := h00.elim
  have HH := Lib.hid h
  cases hp : isP8 p
  · have hP := Lib.hid hp
    clear h h00 hp
    go_enter Try.func44, Try.ntmps44
    go_wp2_with fail
    refine (spec_IsPerm_qt _ p _ HH.out (by omega)).mono ?_
    rintro e w1 ⟨rfl, q1⟩
    rw [hP.out]
    have HE := Lib.hid q1.ext
    have hz := q1.ext.size
    have h1 : Ext w1 (w1.alloc (.cells #[] 24)) := Upd.alloc _ _ _
    have h2 : Ext (w1.alloc (.cells #[] 24)) ((w1.alloc (.cells #[] 24)).alloc (.cells #[] 24)) := Upd.alloc _ _ _
    have HA := Lib.hid (((RR.new w1).ext h2).mono (show w1.heap.size + 1 ≤ ((w1.alloc (.cells #[] 24)).alloc (.cells #[] 24)).heap.size by simp))
    have hrb := (RR.new (w1.alloc (.cells #[] 24))).mono (show (w1.alloc (.cells #[] 24)).heap.size + 1 ≤ ((w1.alloc (.cells #[] 24)).alloc (.cells #[] 24)).heap.size by simp)
    have hws : (w1.alloc (.cells #[] 24)).heap.size = w1.heap.size + 1 := by simp
    have HEA := Lib.hid (HE.out.trans (h1.trans h2))
    have hrb2 := hrb.monoB (show w.heap.size ≤ (w1.alloc (.cells #[] 24)).heap.size by rw [hws]; omega)
    have HB := Lib.hid (hrb2.oii rfl)
    rw [hws] at HB
    clear q1 h1 h2 hrb hrb2
    go_wp2_with fail
    go_ret3
    exact IpPost.of _ [] _ [] (by rw [hP.out]; rfl) ⟨fun e => by rw [hP.out] at e; exact absurd e (by decide), fun _ => ⟨rfl, rfl⟩⟩ ((HA.out.monoB hz).oii rfl) HB.out HEA.out
  · have hP := Lib.hid hp
    obtain ⟨h8, hpp⟩ := isP8_iff.1 hp
    have HPP := Lib.hid hpp
    clear h h00 hp hpp
    go_enter Try.func44, Try.ntmps44
    go_wp2_with fail
    refine (spec_IsPerm_qt _ p _ HH.out (by omega)).mono ?_
    rintro e w1 ⟨rfl, q1⟩
    rw [hP.out]
    have HE := Lib.hid q1.ext
    have hz := q1.ext.size
    clear q1
    go_wp2_with fail
    refine (l19Insert_ok _ p _ (HH.out.ext HE.out) HPP.out h8).mono ?_
    rintro e w2 ⟨ba, ca, va, A, bb, cb, vb, T, na, nb, rfl, hna, hnb, hI, hT, he⟩
    have HOA := Lib.hid ((hT.oiiA hna).mono hz (Nat.le_refl _))
    have HOB := Lib.hid ((hT.swap.oiiA hnb).mono hz (Nat.le_refl _))
    have HI := Lib.hid hI
    have HE2 := Lib.hid (HE.out.trans he)
    clear hna hnb hI hT he
    go_wp2_with fail
    go_ret3
    exact IpPost.of _ A _ T (by rw [hP.out]; rfl) ⟨fun _ => HI.out, fun e => by rw [hP.out] at e; exact absurd e (by decide)⟩ HOA.out HOB.out HE2.out
end Go.Proofs.Ytognbiodplodhaa
