/- Smooth, vexillary, commutative, skew-merged permutations: contracts, the program's and the reference's. Conditions: lengths below a bound. -/
import Derived.Test.YtcifngcmdiokpaaFree
namespace Go.Proofs.Ytcifngcmdiokpaa
open Go.RowKit

theorem BasOK.of {L : List (List Int)} (h1 : L.length ≤ 8) (h2 : ∀ k, k < L.length → isP8 (nthL L k) = true ∧ 0 < (nthL L k).length ∧ (nthL L k).length ≤ 5)
    (h3 : ∀ k, k < L.length → k + 1 < L.length → (nthL L k).length = (nthL L (k + 1)).length ∧ nth (nthL L k) 0 < nth (nthL L (k + 1)) 0) (h4 : ∀ k, k < L.length → ∀ i, i < k → occB (nthL L k) (nthL L i) = false) : BasOK L :=
  ⟨h1, h2, fun k hk => h3 k (by omega) hk, fun k i hi hk => h4 k hk i hi⟩
def t3412 : ByteArray := ⟨#[51, 52, 49, 50]⟩
def t4231 : ByteArray := ⟨#[52, 50, 51, 49]⟩
def t2143 : ByteArray := ⟨#[50, 49, 52, 51]⟩
def t321 : ByteArray := ⟨#[51, 50, 49]⟩
theorem tx3412 : TxOK t3412 := ⟨by decide +kernel, by decide +kernel, by decide +kernel, by decide +kernel⟩
theorem tx4231 : TxOK t4231 := ⟨by decide +kernel, by decide +kernel, by decide +kernel, by decide +kernel⟩
theorem tx2143 : TxOK t2143 := ⟨by decide +kernel, by decide +kernel, by decide +kernel, by decide +kernel⟩
theorem tx321 : TxOK t321 := ⟨by decide +kernel, by decide +kernel, by decide +kernel, by decide +kernel⟩
theorem frB_swap (s t : ByteArray) (p : List Int) : frB [s, t] p = frB [t, s] p := by
  unfold frB avB; simp [Bool.and_comm]
def smoothB (p : List Int) : Bool := frB [t3412, t4231] p
theorem tex_IsSmooth : TexOK ⟨#[51, 52, 49, 50, 32, 52, 50, 51, 49]⟩ [t3412, t4231] where
  spl := by decide +kernel
  ne := by decide +kernel
  small := by decide +kernel
  each := by
    intro t ht
    simp only [List.mem_cons, List.not_mem_nil, or_false] at ht
    rcases ht with rfl | rfl
    · exact tx3412
    · exact tx4231
  bas := BasOK.of (by decide +kernel) (by decide +kernel) (by decide +kernel) (by decide +kernel)
set_option maxHeartbeats 400000 in
theorem impl_IsSmooth_ok (v : Value) (p : List Int) (w : World) (h : SI w v p) (_hl : p.length ≤ 1048576) (_hb : I64s p) :
    Calls Try.prog 17 #[v] w fun e w' => e = .returned (.bool (smoothB p)) ∧ Ext w w' := by
  obtain ⟨a, cap, rfl, -⟩ := h.elim
  have hr := Row.new 9 w ([t3412, t4231].map Value.string) (by decide)
  have hss : SS _ (.slice (some ⟨w.heap.size, 0, none⟩) 2 2) [t3412, t4231] := hr.ss
  have he : Ext w (w.alloc (.cells #[.string ⟨#[51, 52, 49, 50]⟩, .string ⟨#[52, 50, 51, 49]⟩] 9)) := Upd.alloc _ _ _
  have HS := Lib.hid hss
  clear hr hss
  go_enter Try.func17, Try.ntmps17
  go_wp2_with fail
  refine (isFreeOf_ok [t3412, t4231] p _ _ _ (h.ext he) HS.out (by decide) (fun t ht => by
    simp only [List.mem_cons, List.not_mem_nil, or_false] at ht
    rcases ht with rfl | rfl
    · exact tx3412
    · exact tx4231)).mono ?_
  rintro e w1 ⟨rfl, he1⟩
  go_wp2_with fail
  go_ret
  exact ⟨rfl, he.trans he1⟩
set_option maxHeartbeats 400000 in
theorem spec_IsSmooth_ok (v : Value) (p : List Int) (w : World) (h : SI w v p) (hl : p.length ≤ 1048576) (_hb : I64s p) :
    Calls Try.prog 16 #[v] w fun e w' => e = .returned (.bool (smoothB p)) ∧ Ext w w' := by
  obtain ⟨a, cap, rfl, -⟩ := h.elim
  go_enter Try.func16, Try.ntmps16
  go_wp2_with fail
  refine (l29Avoids_ok _ _ p _ _ tex_IsSmooth h hl).mono ?_
  rintro e w1 ⟨rfl, he1⟩
  go_wp2_with fail
  go_ret
  exact ⟨rfl, he1⟩
def vexB (p : List Int) : Bool := frB [t2143] p
theorem tex_IsVexillary : TexOK ⟨#[50, 49, 52, 51]⟩ [t2143] where
  spl := by decide +kernel
  ne := by decide +kernel
  small := by decide +kernel
  each := by
    intro t ht
    simp only [List.mem_cons, List.not_mem_nil, or_false] at ht
    subst ht
    exact tx2143
  bas := BasOK.of (by decide +kernel) (by decide +kernel) (by decide +kernel) (by decide +kernel)
set_option maxHeartbeats 400000 in
theorem impl_IsVexillary_ok (v : Value) (p : List Int) (w : World) (h : SI w v p) (_hl : p.length ≤ 1048576) (_hb : I64s p) :
    Calls Try.prog 19 #[v] w fun e w' => e = .returned (.bool (vexB p)) ∧ Ext w w' := by
  obtain ⟨a, cap, rfl, -⟩ := h.elim
  have hr := Row.new 9 w ([t2143].map Value.string) (by decide)
  have hss : SS _ (.slice (some ⟨w.heap.size, 0, none⟩) 1 1) [t2143] := hr.ss
  have he : Ext w (w.alloc (.cells #[.string ⟨#[50, 49, 52, 51]⟩] 9)) := Upd.alloc _ _ _
  have HS := Lib.hid hss
  clear hr hss
  go_enter Try.func19, Try.ntmps19
  go_wp2_with fail
  refine (isFreeOf_ok [t2143] p _ _ _ (h.ext he) HS.out (by decide) (fun t ht => by
    simp only [List.mem_cons, List.not_mem_nil, or_false] at ht
    subst ht
    exact tx2143)).mono ?_
  rintro e w1 ⟨rfl, he1⟩
  go_wp2_with fail
  go_ret
  exact ⟨rfl, he.trans he1⟩
set_option maxHeartbeats 400000 in
theorem spec_IsVexillary_ok (v : Value) (p : List Int) (w : World) (h : SI w v p) (hl : p.length ≤ 1048576) (_hb : I64s p) :
    Calls Try.prog 18 #[v] w fun e w' => e = .returned (.bool (vexB p)) ∧ Ext w w' := by
  obtain ⟨a, cap, rfl, -⟩ := h.elim
  go_enter Try.func18, Try.ntmps18
  go_wp2_with fail
  refine (l29Avoids_ok _ _ p _ _ tex_IsVexillary h hl).mono ?_
  rintro e w1 ⟨rfl, he1⟩
  go_wp2_with fail
  go_ret
  exact ⟨rfl, he1⟩
def comB (p : List Int) : Bool := frB [t321] p
theorem tex_IsCommutative : TexOK ⟨#[51, 50, 49]⟩ [t321] where
  spl := by decide +kernel
  ne := by decide +kernel
  small := by decide +kernel
  each := by
    intro t ht
    simp only [List.mem_cons, List.not_mem_nil, or_false] at ht
    subst ht
    exact tx321
  bas := BasOK.of (by decide +kernel) (by decide +kernel) (by decide +kernel) (by decide +kernel)
set_option maxHeartbeats 400000 in
theorem impl_IsCommutative_ok (v : Value) (p : List Int) (w : World) (h : SI w v p) (_hl : p.length ≤ 1048576) (_hb : I64s p) :
    Calls Try.prog 21 #[v] w fun e w' => e = .returned (.bool (comB p)) ∧ Ext w w' := by
  obtain ⟨a, cap, rfl, -⟩ := h.elim
  have hr := Row.new 9 w ([t321].map Value.string) (by decide)
  have hss : SS _ (.slice (some ⟨w.heap.size, 0, none⟩) 1 1) [t321] := hr.ss
  have he : Ext w (w.alloc (.cells #[.string ⟨#[51, 50, 49]⟩] 9)) := Upd.alloc _ _ _
  have HS := Lib.hid hss
  clear hr hss
  go_enter Try.func21, Try.ntmps21
  go_wp2_with fail
  refine (isFreeOf_ok [t321] p _ _ _ (h.ext he) HS.out (by decide) (fun t ht => by
    simp only [List.mem_cons, List.not_mem_nil, or_false] at ht
    subst ht
    exact tx321)).mono ?_
  rintro e w1 ⟨rfl, he1⟩
  go_wp2_with fail
  go_ret
  exact ⟨rfl, he.trans he1⟩
set_option maxHeartbeats 400000 in
theorem spec_IsCommutative_ok (v : Value) (p : List Int) (w : World) (h : SI w v p) (hl : p.length ≤ 1048576) (_hb : I64s p) :
    Calls Try.prog 20 #[v] w fun e w' => e = .returned (.bool (comB p)) ∧ Ext w w' := by
  obtain ⟨a, cap, rfl, -⟩ := h.elim
  go_enter Try.func20, Try.ntmps20
  go_wp2_with fail
  refine (l29Avoids_ok _ _ p _ _ tex_IsCommutative h hl).mono ?_
  rintro e w1 ⟨rfl, he1⟩
  go_wp2_with fail
  go_ret
  exact ⟨rfl, he1⟩
def skewB (p : List Int) : Bool := frB [t3412, t2143] p
theorem tex_IsSkewMerged : TexOK ⟨#[50, 49, 52, 51, 32, 51, 52, 49, 50]⟩ [t2143, t3412] where
  spl := by decide +kernel
  ne := by decide +kernel
  small := by decide +kernel
  each := by
    intro t ht
    simp only [List.mem_cons, List.not_mem_nil, or_false] at ht
    rcases ht with rfl | rfl
    · exact tx2143
    · exact tx3412
  bas := BasOK.of (by decide +kernel) (by decide +kernel) (by decide +kernel) (by decide +kernel)
set_option maxHeartbeats 400000 in
theorem impl_IsSkewMerged_ok (v : Value) (p : List Int) (w : World) (h : SI w v p) (_hl : p.length ≤ 1048576) (_hb : I64s p) :
    Calls Try.prog 23 #[v] w fun e w' => e = .returned (.bool (skewB p)) ∧ Ext w w' := by
  obtain ⟨a, cap, rfl, -⟩ := h.elim
  have hr := Row.new 9 w ([t3412, t2143].map Value.string) (by decide)
  have hss : SS _ (.slice (some ⟨w.heap.size, 0, none⟩) 2 2) [t3412, t2143] := hr.ss
  have he : Ext w (w.alloc (.cells #[.string ⟨#[51, 52, 49, 50]⟩, .string ⟨#[50, 49, 52, 51]⟩] 9)) := Upd.alloc _ _ _
  have HS := Lib.hid hss
  clear hr hss
  go_enter Try.func23, Try.ntmps23
  go_wp2_with fail
  refine (isFreeOf_ok [t3412, t2143] p _ _ _ (h.ext he) HS.out (by decide) (fun t ht => by
    simp only [List.mem_cons, List.not_mem_nil, or_false] at ht
    rcases ht with rfl | rfl
    · exact tx3412
    · exact tx2143)).mono ?_
  rintro e w1 ⟨rfl, he1⟩
  go_wp2_with fail
  go_ret
  exact ⟨rfl, he.trans he1⟩
set_option maxHeartbeats 400000 in
theorem spec_IsSkewMerged_ok (v : Value) (p : List Int) (w : World) (h : SI w v p) (hl : p.length ≤ 1048576) (_hb : I64s p) :
    Calls Try.prog 22 #[v] w fun e w' => e = .returned (.bool (skewB p)) ∧ Ext w w' := by
  obtain ⟨a, cap, rfl, -⟩ := h.elim
  go_enter Try.func22, Try.ntmps22
  go_wp2_with fail
  refine (l29Avoids_ok _ _ p _ _ tex_IsSkewMerged h hl).mono ?_
  rintro e w1 ⟨rfl, he1⟩
  rw [frB_swap]
  go_wp2_with fail
  go_ret
  exact ⟨rfl, he1⟩
end Go.Proofs.Ytcifngcmdiokpaa
