/- The library's sort laid at this program. Conditions: none. -/
import Derived.Test.YtmnbdphfoonleaaSrtI
import Derived.KernelRfl
namespace Go.Proofs.Ytmnbdphfoonleaa
open Go.RowKit Go.Sort
def sortL_ren : Go.Shelf.Ren := ⟨fun | 6 => 75 | 15 => 107 | 14 => 106 | 28 => 130 | 29 => 131 | 20 => 122 | 21 => 123 | 22 => 124 | 23 => 125 | 24 => 126 | 25 => 127 | 26 => 128 | 27 => 129 | 46 => 138 | 47 => 139 | 48 => 140 | 49 => 141 | 50 => 142 | 57 => 143 | n => n, fun | 22 => 30 | 24 => 24 | 25 => 57 | 3 => 3 | 39 => 73 | 0 => 0 | 53 => 97 | 55 => 99 | 4 => 4 | 46 => 91 | 45 => 90 | 50 => 84 | 5 => 5 | 9 => 9 | 66 => 104 | 70 => 108 | 76 => 110 | 77 => 111 | n => n, fun | n => n⟩
theorem sortL : Go.Proofs.SlLaysF.n6 Try.prog sortL_ren := {
  mixed := by kernel_rfl
  f6 := ⟨Try.f75.name, by decide, Try.func75.trans (congrArg some (by kernel_rfl))⟩
  f14 := ⟨Try.f106.name, by decide, Try.func106.trans (congrArg some (by kernel_rfl))⟩
  f15 := Try.func107.trans (congrArg some (by kernel_rfl))
  f20 := ⟨Try.f122.name, by decide, Try.func122.trans (congrArg some (by kernel_rfl))⟩
  f21 := ⟨Try.f123.name, by decide, Try.func123.trans (congrArg some (by kernel_rfl))⟩
  f22 := ⟨Try.f124.name, by decide, Try.func124.trans (congrArg some (by kernel_rfl))⟩
  f23 := ⟨Try.f125.name, by decide, Try.func125.trans (congrArg some (by kernel_rfl))⟩
  f24 := ⟨Try.f126.name, by decide, Try.func126.trans (congrArg some (by kernel_rfl))⟩
  f25 := ⟨Try.f127.name, by decide, Try.func127.trans (congrArg some (by kernel_rfl))⟩
  f26 := ⟨Try.f128.name, by decide, Try.func128.trans (congrArg some (by kernel_rfl))⟩
  f27 := ⟨Try.f129.name, by decide, Try.func129.trans (congrArg some (by kernel_rfl))⟩
  f28 := Try.func130.trans (congrArg some (by kernel_rfl))
  f29 := Try.func131.trans (congrArg some (by kernel_rfl))
  f46 := ⟨Try.f138.name, by decide, Try.func138.trans (congrArg some (by kernel_rfl))⟩
  f47 := Try.func139.trans (congrArg some (by kernel_rfl))
  f48 := Try.func140.trans (congrArg some (by kernel_rfl))
  f49 := ⟨Try.f141.name, by decide, Try.func141.trans (congrArg some (by kernel_rfl))⟩
  f50 := ⟨Try.f142.name, by decide, Try.func142.trans (congrArg some (by kernel_rfl))⟩
  f57 := ⟨Try.f143.name, by decide, Try.func143.trans (congrArg some (by kernel_rfl))⟩
  t0 := Try.underlying0
  a0 := Try.isAgg0
  z0 := Try.sizeOf0
  v0 := Try.zeroValue0
  t3 := Try.underlying3
  a3 := Try.isAgg3
  z3 := Try.sizeOf3
  v3 := Try.zeroValue3
  t4 := Try.underlying4
  a4 := Try.isAgg4
  z4 := Try.sizeOf4
  v4 := Try.zeroValue4
  t5 := Try.underlying5
  a5 := Try.isAgg5
  z5 := Try.sizeOf5
  v5 := Try.zeroValue5
  t9 := Try.underlying9
  a9 := Try.isAgg9
  z9 := Try.sizeOf9
  v9 := Try.zeroValue9
  t22 := Try.underlying30
  a22 := Try.isAgg30
  z22 := Try.sizeOf30
  v22 := Try.zeroValue30
  a24 := Try.isAgg24
  z24 := Try.sizeOf24
  t25 := Try.underlying57
  a25 := Try.isAgg57
  z25 := Try.sizeOf57
  v25 := Try.zeroValue57
  t39 := Try.underlying73
  a39 := Try.isAgg73
  z39 := Try.sizeOf73
  v39 := Try.zeroValue73
  t45 := Try.underlying90
  a45 := Try.isAgg90
  z45 := Try.sizeOf90
  v45 := Try.zeroValue90
  t46 := Try.underlying91
  a46 := Try.isAgg91
  z46 := Try.sizeOf91
  v46 := Try.zeroValue91
  t50 := Try.underlying84
  a50 := Try.isAgg84
  z50 := Try.sizeOf84
  v50 := Try.zeroValue84
  t53 := Try.underlying97
  a53 := Try.isAgg97
  z53 := Try.sizeOf97
  v53 := Try.zeroValue97
  t55 := Try.underlying99
  a55 := Try.isAgg99
  z55 := Try.sizeOf99
  v55 := Try.zeroValue99
  t66 := Try.underlying104
  a66 := Try.isAgg104
  z66 := Try.sizeOf104
  v66 := Try.zeroValue104
  t70 := Try.underlying108
  a70 := Try.isAgg108
  z70 := Try.sizeOf108
  v70 := Try.zeroValue108
  t76 := Try.underlying110
  a76 := Try.isAgg110
  z76 := Try.sizeOf110
  v76 := Try.zeroValue110
  t77 := Try.underlying111
  a77 := Try.isAgg111
  z77 := Try.sizeOf111
  v77 := Try.zeroValue111 }
theorem encV_one {B H : Nat} {w : World} {vs : List Value} {L : List (List Int)} (h : Els B H w vs L) : OneCell (encV vs) := by
  intro x
  rcases Nat.lt_or_ge x L.length with e | e
  · rw [encV_nth (by rw [h.len]; exact e)]
    rcases h.el x e with ⟨h1, _⟩ | ⟨b, cap, h1, _⟩ <;> rw [h1] <;> rfl
  · rw [encV_far (by rw [h.len]; exact e)]; rfl
/-- slices.SortFunc at rows, by a comparison that is an order. -/
theorem sortRows_ok {bf : List Int → List Int → Bool} (ht : TotB bf) (g : Nat) (hg : ∀ args w, (callFunc g args).run Try.prog w = .ok (.enter g args) w) {B H : Nat} {b cap : Nat} {L : List (List Int)} {w : World} (hr : RR B H w b cap L) (hl : L.length ≤ 1000000000)
    (hc : ∀ (u v : Value) (xs ys : List Int) (W : World), SI W u xs → SI W v ys → (xs ∈ L ∨ xs = []) → (ys ∈ L ∨ ys = []) → Calls Try.prog g #[u, v] W fun e w' => e = .returned (.int .i64 (cmpG bf xs ys)) ∧ Lay W w') :
    Calls Try.prog 75 #[.slice (some ⟨b, 0, none⟩) L.length cap, .func (.func g) #[] #[]] w fun e w' => e = .returned (.tuple #[]) ∧ ∃ L', RR B H w' b cap L' ∧ L'.Perm L ∧ L'.Pairwise (fun a b => bf b a = false) ∧ Upd (· = b) w w' := by
  have hlt := hr.lt
  obtain ⟨vs, h1, h2, h3, h4, h5⟩ := hr
  have hH := h1.holds
  rw [h2.len] at hH
  have hcon := Any.slices_SortFunc sortL (encV vs) (encV_one h2) (cfN bf L) (cfN_swo ht L) g #[] b 0 cap (idxA L.length) w (hg) (cmp_lays h2 h3 hc) hH hlt (by rw [idxA_size]; omega)
  rw [show Value.slice (some ⟨b, 0, none⟩) L.length cap = .slice (some ⟨b, 0, none⟩) (idxA L.length).size cap by rw [idxA_size]]
  refine Calls.mono hcon ?_
  rintro e w' ⟨rfl, d, n, os, hp, hs, rfl⟩
  obtain ⟨L', g1, g2, g3⟩ := RR.sorted h1 h2 h3 h4 h5 hp hs n os
  exact ⟨rfl, L', g1, g2, g3, upd_sortWorld _ _ _ _ _ _ _⟩
end Go.Proofs.Ytmnbdphfoonleaa
