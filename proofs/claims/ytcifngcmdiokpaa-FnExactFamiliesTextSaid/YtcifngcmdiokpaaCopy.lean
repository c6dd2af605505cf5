/- 'append(row, src...)' of ints from whatever slice can be read, nil too. Conditions: lengths below a bound. -/
import Derived.Test.YtcifngcmdiokpaaSort
namespace Go.Proofs.Ytcifngcmdiokpaa
open Go.RowKit

theorem Row.owns {e : TypeId} {w : World} {b cap : Nat} {xs : List Value} (h : Row e w b cap xs) : w.ownsRow 0 e 1 (.slice (some ⟨b, 0, none⟩) xs.length cap) xs.length xs := by
  obtain ⟨cur, h1, h2, h3⟩ := h.cur
  exact ⟨by simp, .inr ⟨b, cap, cur, rfl, Nat.zero_le _, h1, h.le, h.mx, by omega, by simpa using h3⟩⟩

theorem wpl_appSI {w : World} {ops : Array Oper} {rest : List Oper} {o : Oper} {a : Act} {Q : Exit → Act → World → Prop} (hgd : o.guard = none) (s x : Operand)
    (ho : o.op = .call { callee := .builtin .append, args := #[s, x], argTypes := #[22, 22] })
    (b cap n : Nat) (xs ys : List Int) (hs : a.eval s = .slice (some ⟨b, 0, none⟩) n cap) (hr : Row 3 w b cap (vals xs)) (hn : n = xs.length)
    (v : Value) (hx : a.eval x = v) (hy : SI w v ys) (hb : xs.length ≤ 1000000000) (hb2 : ys.length ≤ 1000000000)
    (h : ∀ b' cap' w', Row 3 w' b' cap' (vals (xs ++ ys)) → (b' = b ∨ w.heap.size ≤ b') → Upd (· = b) w w' → wpList Try.prog ops Q rest (a.put o.dst (.slice (some ⟨b', 0, none⟩) (n + ys.length) cap')) w') :
    wpList Try.prog ops Q (o :: rest) a w := by
  obtain ⟨ao, c, rfl, h1, h2, h3, h4⟩ := hy
  cases ao with
  | some ad => exact wpl_appSrc hgd s x ho b cap n xs ys hs hr hn ad _ _ hx rfl h4 hb hb2 h
  | none =>
    obtain rfl : c = 0 := h3 rfl
    have hnil : ys = [] := List.eq_nil_of_length_eq_zero (by omega)
    subst hnil
    obtain ⟨i, hi, hz, hs1, hby⟩ := info_int
    have hown := hr.owns
    have hrun := run_append_owned_none (P := Try.prog) w 0 22 o.type 3 i 1 Try.underlying22 hi _ _ _ hown
    subst hn
    refine wpList_plain hgd fun K hK => ?_
    unfold Oper.wp execOp
    simp only [List.length_map] at hrun
    simp only [ho, resolve, invoke, builtin, Sem.run_bind, Sem.run_pure, Result.andThen_ok, List.map_toArray, List.map_cons, List.map_nil, hs, hx, List.length_nil, hrun]
    have := h b cap w (by simpa using hr) (.inl rfl) (Upd.refl _ _)
    exact hK _ _ (by simpa using this)
end Go.Proofs.Ytcifngcmdiokpaa
