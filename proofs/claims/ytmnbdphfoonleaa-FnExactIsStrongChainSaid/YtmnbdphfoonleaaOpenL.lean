/- How a slice of slices of ints that came in is read by the walks of this seat. Conditions: none. -/
import Derived.Test.YtmnbdphfoonleaaOpen
import Derived.OpenShut
import Derived.Deep.Matrix
namespace Go.Proofs.Ytmnbdphfoonleaa
open Go.RowKit Go.ChangeShapes Go.WideShapes

def I64ss (xss : List (List Int)) : Prop := ∀ xs ∈ xss, I64s xs

theorem row_si {w : World} {A : Option Addr} {L C : Nat} {Z : List Int} (h1 : L ≤ C) (h2 : C ≤ maxLen) (h3 : Z.length = C) (h4 : ∀ n ∈ Z, (Lit.int .i64 n).wf = true) (h5 : A = none → C = 0)
    (h6 : ∀ a', A = some a' → ∀ c, c < C → w.cell? (a'.add c) = some (.int .i64 (Z.getD c 0))) : SI w (.slice A L C) (Z.take L) ∧ I64s (Z.take L) := by
  have hr : IsRow .i64 w A L C Z := by
    cases A with
    | none =>
      have hc := h5 rfl
      exact .inl ⟨rfl, by omega, hc, List.eq_nil_of_length_eq_zero (by omega)⟩
    | some a' => exact .inr ⟨a', rfl, h1, h2, h3, fun i hi => h6 a' rfl i (by omega), h4⟩
  rcases hr with ⟨rfl, rfl, rfl, rfl⟩ | ⟨x, rfl, hl, hm, hz, hc, hw⟩
  · exact ⟨SI.nil w, fun _ h => by simp at h⟩
  · have hlen : (Z.take L).length = L := by simp; omega
    refine ⟨⟨some x, C, by rw [hlen], by omega, hm, by simp, ?_⟩, fun n hn => I64_of_wf (hw n (List.mem_of_mem_take hn))⟩
    by_cases h0 : L = 0
    · exact .inl (by subst h0; rfl)
    · have hx := hc 0 (by omega)
      obtain ⟨b, o, s⟩ := x
      rw [Addr.add_zero'] at hx
      obtain rfl := cell_spot hx
      refine .inr ⟨b, o, rfl, fun i hi => ?_⟩
      rw [hlen] at hi
      have := hc i (by omega)
      rw [Addr.add_lit] at this
      rw [this]
      unfold nth
      simp [hi]

theorem open_ll {H : Type} {enc : TypeId × Value → H} {w : World} {held : Bool} {fuel : Nat} {v : Value} {x : DataW H × List MemPlace} {a : Option Addr} {l c : Nat} (hv : v = .slice a l c)
    (h : DataW.trod enc Try.prog w 0 (fun _ => true) held fuel 30 v.cells.toList = some x) : ∃ xss, SII w v xss ∧ I64ss xss := by
  subst hv
  rcases Go.Deep.open_int_rows Try.underlying30 Try.underlying24 Try.underlying3 (by kernel_rfl) (by kernel_rfl) h with ⟨hcs, _⟩ | ⟨ad, len, cap, A, L, C, Z, hcs, _, hl, hm, _, hrow⟩
  · simp [Value.cells] at hcs
    obtain ⟨rfl, rfl, rfl⟩ := hcs
    exact ⟨[], SII.nil w, fun _ h => by simp at h⟩
  · simp [Value.cells] at hcs
    obtain ⟨rfl, rfl, rfl⟩ := hcs
    have hlen : ((List.range l).map fun r => (Z r).take (L r)).length = l := by simp
    refine ⟨(List.range l).map fun r => (Z r).take (L r), ⟨some ad, c, by rw [hlen], by omega, hm, by simp, ?_⟩, fun xs hx => ?_⟩
    · by_cases h0 : l = 0
      · exact .inl (by subst h0; rfl)
      · have hx := (hrow 0 (by omega)).1
        obtain ⟨b, o, s⟩ := ad
        rw [Addr.add_zero'] at hx
        obtain rfl := cell_spot hx
        refine .inr ⟨b, o, rfl, fun i hi => ?_⟩
        rw [hlen] at hi
        obtain ⟨e1, e2, e3, e4, e5, e6, e7⟩ := hrow i (by omega)
        refine ⟨_, by rw [Addr.add_lit] at e1; exact e1, ?_⟩
        have := (row_si e2 e3 e4 e5 e6 (fun a' ha' => (e7 a' ha').2)).1
        simpa [nthL, hi] using this
    · obtain ⟨r, hr, rfl⟩ := List.mem_map.1 hx
      have hr' : r < l := List.mem_range.1 hr
      obtain ⟨e1, e2, e3, e4, e5, e6, e7⟩ := hrow r (by omega)
      exact (row_si e2 e3 e4 e5 e6 (fun a' ha' => (e7 a' ha').2)).2
end Go.Proofs.Ytmnbdphfoonleaa
