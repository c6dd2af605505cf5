/- The library's sort laid at this program. Conditions: none. -/
import Derived.Test.YtognbiodplodhaaSrtI
import Derived.KernelRfl
namespace Go.Proofs.Ytognbiodplodhaa
open Go.RowKit Go.Sort
def sortL_ren : Go.Shelf.Ren := ⟨fun | 6 => 85 | 15 => 99 | 14 => 98 | 28 => 112 | 29 => 113 | 20 => 104 | 21 => 105 | 22 => 106 | 23 => 107 | 24 => 108 | 25 => 109 | 26 => 110 | 27 => 111 | 46 => 114 | 47 => 115 | 48 => 116 | 49 => 117 | 50 => 118 | 57 => 119 | n => n, fun | 22 => 28 | 24 => 24 | 25 => 65 | 3 => 3 | 39 => 78 | 0 => 0 | 53 => 89 | 55 => 91 | 4 => 4 | 46 => 82 | 45 => 81 | 50 => 86 | 5 => 5 | 9 => 9 | 66 => 92 | 70 => 96 | 76 => 98 | 77 => 99 | n => n, fun | n => n⟩
theorem sortL : Go.Proofs.SlLaysF.n6 Try.prog sortL_ren := {
  mixed := by kernel_rfl
  f6 := ⟨Try.f85.name, by decide, Try.func85.trans (congrArg some (by kernel_rfl))⟩
  f14 := ⟨Try.f98.name, by decide, Try.func98.trans (congrArg some (by kernel_rfl))⟩
  f15 := Try.func99.trans (congrArg some (by kernel_rfl))
  f20 := ⟨Try.f104.name, by decide, Try.func104.trans (congrArg some (by kernel_rfl))⟩
  f21 := ⟨Try.f105.name, by decide, Try.func105.trans (congrArg some (by kernel_rfl))⟩
  f22 := ⟨Try.f106.name, by decide, Try.func106.trans (congrArg some (by kernel_rfl))⟩
  f23 := ⟨Try.f107.name, by decide, Try.func107.trans (congrArg some (by kernel_rfl))⟩
  f24 := ⟨Try.f108.name, by decide, Try.func108.trans (congrArg some (by kernel_rfl))⟩
  f25 := ⟨Try.f109.name, by decide, Try.func109.trans (congrArg some (by kernel_rfl))⟩
  f26 := ⟨Try.f110.name, by decide, Try.func110.trans (congrArg some (by kernel_rfl))⟩
  f27 := ⟨Try.f111.name, by decide, Try.func111.trans (congrArg some (by kernel_rfl))⟩
  f28 := Try.func112.trans (congrArg some (by kernel_rfl))
  f29 := Try.func113.trans (congrArg some (by kernel_rfl))
  f46 := ⟨Try.f114.name, by decide, Try.func114.trans (congrArg some (by kernel_rfl))⟩
  f47 := Try.func115.trans (congrArg some (by kernel_rfl))
  f48 := Try.func116.trans (congrArg some (by kernel_rfl))
  f49 := ⟨Try.f117.name, by decide, Try.func117.trans (congrArg some (by kernel_rfl))⟩
  f50 := ⟨Try.f118.name, by decide, Try.func118.trans (congrArg some (by kernel_rfl))⟩
  f57 := ⟨Try.f119.name, by decide, Try.func119.trans (congrArg some (by kernel_rfl))⟩
  t0 := Try.underlying0
  a0 := Try.isAgg0
  z0 := Try.sizeOf0
  v0 := Try.zeroValue0
  t3 := Try.underlying3
  a3 := Try.isAgg3
  z3 := Try.sizeOf3
  v3 := Try.zeroValue3
  t4 := Try.underlying4
  a4 := Try.isAgg4
  z4 := Try.sizeOf4
  v4 := Try.zeroValue4
  t5 := Try.underlying5
  a5 := Try.isAgg5
  z5 := Try.sizeOf5
  v5 := Try.zeroValue5
  t9 := Try.underlying9
  a9 := Try.isAgg9
  z9 := Try.sizeOf9
  v9 := Try.zeroValue9
  t22 := Try.underlying28
  a22 := Try.isAgg28
  z22 := Try.sizeOf28
  v22 := Try.zeroValue28
  a24 := Try.isAgg24
  z24 := Try.sizeOf24
  t25 := Try.underlying65
  a25 := Try.isAgg65
  z25 := Try.sizeOf65
  v25 := Try.zeroValue65
  t39 := Try.underlying78
  a39 := Try.isAgg78
  z39 := Try.sizeOf78
  v39 := Try.zeroValue78
  t45 := Try.underlying81
  a45 := Try.isAgg81
  z45 := Try.sizeOf81
  v45 := Try.zeroValue81
  t46 := Try.underlying82
  a46 := Try.isAgg82
  z46 := Try.sizeOf82
  v46 := Try.zeroValue82
  t50 := Try.underlying86
  a50 := Try.isAgg86
  z50 := Try.sizeOf86
  v50 := Try.zeroValue86
  t53 := Try.underlying89
  a53 := Try.isAgg89
  z53 := Try.sizeOf89
  v53 := Try.zeroValue89
  t55 := Try.underlying91
  a55 := Try.isAgg91
  z55 := Try.sizeOf91
  v55 := Try.zeroValue91
  t66 := Try.underlying92
  a66 := Try.isAgg92
  z66 := Try.sizeOf92
  v66 := Try.zeroValue92
  t70 := Try.underlying96
  a70 := Try.isAgg96
  z70 := Try.sizeOf96
  v70 := Try.zeroValue96
  t76 := Try.underlying98
  a76 := Try.isAgg98
  z76 := Try.sizeOf98
  v76 := Try.zeroValue98
  t77 := Try.underlying99
  a77 := Try.isAgg99
  z77 := Try.sizeOf99
  v77 := Try.zeroValue99 }
theorem encV_one {B H : Nat} {w : World} {vs : List Value} {L : List (List Int)} (h : Els B H w vs L) : OneCell (encV vs) := by
  intro x
  rcases Nat.lt_or_ge x L.length with e | e
  · rw [encV_nth (by rw [h.len]; exact e)]
    rcases h.el x e with ⟨h1, _⟩ | ⟨b, cap, h1, _⟩ <;> rw [h1] <;> rfl
  · rw [encV_far (by rw [h.len]; exact e)]; rfl
/-- slices.SortFunc at rows, by a comparison that is an order. -/
theorem sortRows_ok {bf : List Int → List Int → Bool} (ht : TotB bf) (g : Nat) (hg : ∀ args w, (callFunc g args).run Try.prog w = .ok (.enter g args) w) {B H : Nat} {b cap : Nat} {L : List (List Int)} {w : World} (hr : RR B H w b cap L) (hl : L.length ≤ 1000000000)
    (hc : ∀ (u v : Value) (xs ys : List Int) (W : World), SI W u xs → SI W v ys → (xs ∈ L ∨ xs = []) → (ys ∈ L ∨ ys = []) → Calls Try.prog g #[u, v] W fun e w' => e = .returned (.int .i64 (cmpG bf xs ys)) ∧ Lay W w') :
    Calls Try.prog 85 #[.slice (some ⟨b, 0, none⟩) L.length cap, .func (.func g) #[] #[]] w fun e w' => e = .returned (.tuple #[]) ∧ ∃ L', RR B H w' b cap L' ∧ L'.Perm L ∧ L'.Pairwise (fun a b => bf b a = false) ∧ Upd (· = b) w w' := by
  have hlt := hr.lt
  obtain ⟨vs, h1, h2, h3, h4, h5⟩ := hr
  have hH := h1.holds
  rw [h2.len] at hH
  have hcon := Any.slices_SortFunc sortL (encV vs) (encV_one h2) (cfN bf L) (cfN_swo ht L) g #[] b 0 cap (idxA L.length) w (hg) (cmp_lays h2 h3 hc) hH hlt (by rw [idxA_size]; omega)
  rw [show Value.slice (some ⟨b, 0, none⟩) L.length cap = .slice (some ⟨b, 0, none⟩) (idxA L.length).size cap by rw [idxA_size]]
  refine Calls.mono hcon ?_
  rintro e w' ⟨rfl, d, n, os, hp, hs, rfl⟩
  obtain ⟨L', g1, g2, g3⟩ := RR.sorted h1 h2 h3 h4 h5 hp hs n os
  exact ⟨rfl, L', g1, g2, g3, upd_sortWorld _ _ _ _ _ _ _⟩
end Go.Proofs.Ytognbiodplodhaa
