/- All permutations of a length, in order: contracts of the program's and the reference's. Conditions: a length of at most 6. -/
import Derived.Test.YtmnbdphfoonleaaRow3
import Derived.Test.YtmnbdphfoonleaaFunc
import Derived.Test.YtmnbdphfoonleaaCopy
namespace Go.Proofs.Ytmnbdphfoonleaa
open Go.RowKit

/-- one number more behind a list, each of 1 to t that it has not. -/
def one (p : List Int) (v : Int) : List (List Int) := bif hasB p v then [] else [p ++ [v]]
def extTo (t : Nat) (p : List Int) : List (List Int) := (idL t).flatMap (one p)
def fillL (n : Nat) : Nat → List Int → List (List Int)
  | 0, p => [p]
  | d + 1, p => (extTo n p).flatMap (fillL n d)
def permsL (n : Nat) : List (List Int) := fillL n n []
def layer (n : Nat) : Nat → List (List Int)
  | 0 => [[]]
  | k + 1 => (layer n k).flatMap (extTo n)
theorem extTo_zero (p : List Int) : extTo 0 p = [] := rfl
theorem extTo_succ (t : Nat) (p : List Int) : extTo (t + 1) p = extTo t p ++ one p ((t : Int) + 1) := by simp [extTo, idL_succ]
theorem layer_from (n : Nat) (d : Nat) : ∀ k, (layer n k).flatMap (fillL n d) = (layer n (k + d)).flatMap (fillL n 0) := by
  induction d with
  | zero => intro k; rfl
  | succ d ih =>
    intro k
    have h1 : (layer n k).flatMap (fillL n (d + 1)) = (layer n (k + 1)).flatMap (fillL n d) := by
      show (layer n k).flatMap (fun p => (extTo n p).flatMap (fillL n d)) = ((layer n k).flatMap (extTo n)).flatMap (fillL n d)
      rw [List.flatMap_assoc]
    rw [h1, ih (k + 1)]
    congr 2; omega
theorem layer_perms (n : Nat) : layer n n = permsL n := by
  have h := layer_from n n 0
  rw [Nat.zero_add] at h
  have h0 : ∀ L : List (List Int), L.flatMap (fillL n 0) = L := by
    intro L; show L.flatMap (fun p => [p]) = L
    simp
  rw [h0] at h
  rw [← h]
  simp [layer, permsL]
theorem layer_small : ∀ n, n ≤ 6 → ∀ k, k ≤ n → (layer n k).length ≤ 1000 := by decide +kernel
theorem perms_small (n : Nat) (h : n ≤ 6) : (permsL n).length ≤ 1000 := by rw [← layer_perms]; exact layer_small n h n (Nat.le_refl _)
theorem flatMap_pre {α β : Type} (f : α → List β) (L : List α) (j : Nat) : ((L.take j).flatMap f).length ≤ (L.flatMap f).length := by
  conv => rhs; rw [← List.take_append_drop j L, List.flatMap_append, List.length_append]
  omega
theorem idL_take (t n : Nat) (h : t ≤ n) : idL t = (idL n).take t := by
  unfold idL; rw [← List.map_take, List.take_range, Nat.min_eq_left h]
theorem extTo_le {t n : Nat} (h : t ≤ n) (p : List Int) : (extTo t p).length ≤ (extTo n p).length := by
  unfold extTo; rw [idL_take t n h]; exact flatMap_pre _ _ _
theorem layer_part {n k j t : Nat} (hn : n ≤ 6) (hk : k < n) (hj : j < (layer n k).length) (ht : t ≤ n) : (((layer n k).take j).flatMap (extTo n) ++ extTo t (nthL (layer n k) j)).length ≤ 1000 := by
  have h1 := layer_small n hn (k + 1) (by omega)
  have h2 : layer n (k + 1) = (layer n k).flatMap (extTo n) := rfl
  rw [h2] at h1
  have h3 := flatMap_pre (extTo n) (layer n k) (j + 1)
  rw [take_nthL hj, List.flatMap_append, List.length_append, List.flatMap_cons, List.flatMap_nil, List.append_nil] at h3
  have h4 := extTo_le ht (nthL (layer n k) j)
  rw [List.length_append]
  omega
theorem mem_ext {n : Nat} {p q : List Int} (h : q ∈ extTo n p) : q.length = p.length + 1 := by
  simp only [extTo, List.mem_flatMap, one] at h
  obtain ⟨v, _, h⟩ := h
  cases hb : hasB p v
  · rw [hb] at h; simp at h; subst h; simp
  · rw [hb] at h; simp at h
theorem layer_each (n : Nat) : ∀ k, ∀ p ∈ layer n k, p.length = k := by
  intro k
  induction k with
  | zero => intro p h; simp [layer] at h; subst h; rfl
  | succ k ih =>
    intro p h
    simp only [layer, List.mem_flatMap] at h
    obtain ⟨q, hq, hp⟩ := h
    rw [mem_ext hp, ih q hq]
theorem perms_each {n : Nat} {p : List Int} (h : p ∈ permsL n) : p.length = n := by rw [← layer_perms] at h; exact layer_each n n p h

set_option maxHeartbeats 400000 in
theorem slicesCloneRow_ok (ad : Addr) (c : Nat) (xs : List Int) (w : World) (h : SI w (.slice (some ad) xs.length c) xs) (hl : xs.length ≤ 10000000) :
    Calls Try.prog 81 #[.slice (some ad) xs.length c] w fun e w' => ∃ b c', e = .returned (.slice (some ⟨b, 0, none⟩) xs.length c') ∧ w.heap.size ≤ b ∧ Row 3 w' b c' (vals xs) ∧ Ext w w' := by
  obtain ⟨a, cap, hv, hc1, hc2, hc3, hri⟩ := h
  injection hv with e1 e2 e3
  subst e1 e3
  have hnn := fun (w : World) (n c n' c' : Nat) => Lib.run_eql_slice_nil (P := Try.prog) w 24 3 (some ad) n c n' c' Try.underlying24
  have hr0 := Row.new 3 w [] (by simp)
  have hri2 := hri.ext (Upd.alloc w (.cells #[] 3) _)
  go_enter Try.func81, Try.ntmps81
  go_wp2_with (at_builtin; refine wpl_appSrc rfl _ _ rfl w.heap.size 0 0 [] xs rfl hr0 rfl ad xs.length c rfl rfl hri2 (by simp) (by omega) ?_; intro b' cap' w' h1 h2 h3)
  go_ret
  rw [List.nil_append] at h1
  refine ⟨b', cap', by simp, ?_, h1, (Ext.refl w).alloc _ |>.upd1 h3 (Nat.le_refl _)⟩
  rcases h2 with h2 | h2
  · omega
  · simp at h2; omega
/-- every row of a slice of slices of its own is no nil slice. -/
def NN (w : World) (b n : Nat) : Prop := ∀ i, i < n → ∀ l c, w.cell? ⟨b, i, none⟩ ≠ some (.slice none l c)
set_option maxHeartbeats 2000000 in
theorem perms_ok (n : Nat) (w : World) (hn : n ≤ 6) :
    Calls Try.prog 91 #[.int .i64 n] w fun e w' => ∃ v', e = .returned v' ∧ OII w.heap.size w'.heap.size w' v' (permsL n) ∧ Ext w w' := by
  have hi0 : OI w.heap.size (w.alloc (.cells #[] 3)).heap.size (w.alloc (.cells #[] 3)) (.slice (some ⟨w.heap.size, 0, none⟩) 0 0) [] := OI.row (Row.new 3 w [] (by simp)) (Nat.le_refl _) rfl
  have hr0 := RR.single w.heap.size hi0 (by simp)
  have hE0 : Ext w ((w.alloc (.cells #[] 3)).alloc (.cells #[.slice (some ⟨w.heap.size, 0, none⟩) 0 0] 24)) := ((Ext.refl w).alloc _).alloc _
  simp only [show (w.alloc (.cells #[] 3)).heap.size = w.heap.size + 1 by simp] at hr0
  have hlp := Lib.hid (layer_perms n)
  clear hi0
  go_enter Try.func91, Try.ntmps91
  go_wp2_with fail
  go_loopw [3, 11] (fun o i wr => ∃ k : Nat, k ≤ n ∧ i = .int .i64 k ∧ (∃ b c m, o = .slice (some ⟨b, 0, none⟩) m c ∧ Hid (m = (layer n k).length) ∧ RR w.heap.size wr.heap.size wr b c (layer n k)) ∧ Ext w wr) (fun _ i _ => n - (intOf i).toNat)
  case atStart => exact ⟨0, Nat.zero_le _, rfl, ⟨_, 1, 1, rfl, Lib.hid rfl, hr0.mono (by simp)⟩, hE0⟩
  case round =>
    obtain ⟨k, hk, rfl, ⟨b, c, m, rfl, hm, hr⟩, he⟩ := hrel
    clear hr0 hE0
    by_cases hlt : k < n
    · obtain ⟨wp, hwp⟩ : ∃ wp, wp = wr := ⟨_, rfl⟩
      subst hwp
      have hzw := he.size
      have hbw := hr.lt
      have hq0 := RR.new wp
      have heq0 : Ext wp (wp.alloc (.cells #[] 24)) := Upd.alloc _ _ _
      have hml : m ≤ 1000 := by have := layer_small n hn k (by omega); have := hm.out; omega
      go_wp2_with fail
      go_loopw [4, 16] (fun o i wr => ∃ j : Nat, j ≤ m ∧ i = .int .i64 j ∧ (∃ b2 c2 m2, o = .slice (some ⟨b2, 0, none⟩) m2 c2 ∧ Hid (m2 = (((layer n k).take j).flatMap (extTo n)).length) ∧ RR wp.heap.size wr.heap.size wr b2 c2 (((layer n k).take j).flatMap (extTo n))) ∧ Ext wp wr) (fun _ i _ => m - (intOf i).toNat)
      case atStart => exact ⟨0, Nat.zero_le _, rfl, ⟨_, 0, 0, rfl, Lib.hid rfl, by simpa using hq0.mono (by simp)⟩, heq0⟩
      case round =>
        obtain ⟨j, hj, rfl, ⟨b2, c2, m2, rfl, hm2, hr2⟩, he2⟩ := hrel
        clear hq0 heq0
        by_cases hjl : j < m
        · have hjl' : j < (layer n k).length := by have := hm.out; omega
          have HJL := Lib.hid hjl'
          obtain ⟨pp, pc, hcell, hop⟩ := hr.cell hjl'
          replace hcell := he2.cell hcell
          have hpl : (nthL (layer n k) j).length = k := layer_each n k _ (nthL_mem hjl')
          obtain ⟨P, hP⟩ : ∃ P, P = nthL (layer n k) j := ⟨_, rfl⟩
          rw [← hP] at hcell hop hpl
          have HPL := Lib.hid hpl
          rw [hpl] at hcell hop
          have hsp := hop.si
          have HPP := Lib.hid hP
          clear hP hpl hop hjl'
          obtain ⟨wq, hwq⟩ : ∃ wq, wq = wr := ⟨_, rfl⟩
          subst hwq
          have hpre : Hid (∀ t, t ≤ n → (((layer n k).take j).flatMap (extTo n) ++ extTo t P).length ≤ 1000) := by
            show ∀ t, t ≤ n → _
            intro t ht; rw [HPP.out]; exact layer_part hn hlt HJL.out ht
          go_wp2_with fail
          go_loopw [4, 7] (fun o i wr => ∃ t : Nat, t ≤ n ∧ i = .int .i64 ((t : Int) + 1) ∧ (∃ b3 c3 m3, o = .slice (some ⟨b3, 0, none⟩) m3 c3 ∧ Hid (m3 = (((layer n k).take j).flatMap (extTo n) ++ extTo t P).length) ∧ RR wp.heap.size wr.heap.size wr b3 c3 (((layer n k).take j).flatMap (extTo n) ++ extTo t P)) ∧ Ext wp wr) (fun _ i _ => n + 1 - (intOf i).toNat)
          case atStart => exact ⟨0, Nat.zero_le _, rfl, ⟨b2, c2, m2, rfl, Lib.hid (by rw [extTo_zero, List.append_nil]; exact hm2.out), by rw [extTo_zero, List.append_nil]; exact hr2⟩, he2⟩
          case round =>
            obtain ⟨t, ht, rfl, ⟨b3, c3, m3, rfl, hm3, hr3⟩, he3⟩ := hrel
            clear hr2
            by_cases htl : t < n
            · have hs1 := hsp.ext he3
              cases hb : hasB P ((t : Int) + 1)
              · have HB := Lib.hid hb
                have hst : Hid (((layer n k).take j).flatMap (extTo n) ++ extTo (t + 1) P = ((layer n k).take j).flatMap (extTo n) ++ extTo t P ++ [P ++ [(t : Int) + 1]]) := by
                  show _ = _; rw [extTo_succ, one, hb]; simp
                have hp1 := hpre.out t (by omega)
                have hm31 : m3 ≤ 1000 := by have := hm3.out; omega
                have HP1 := Lib.hid hp1
                clear hb hp1
                go_wp2_with fail
                refine (slicesContains_ok _ P ((t : Int) + 1) _ hs1 (by have := HPL.out; omega)).mono ?_
                rintro e w4 ⟨rfl, hq4⟩
                rw [HB.out]
                go_wp2_with fail
                refine (slicesClone_ok _ P _ (hs1.ext hq4.ext) (by have := HPL.out; omega)).mono ?_
                rintro e w5 ⟨v5, rfl, ho5, he5⟩
                have hz4 := hq4.ext.size
                have hz5 := he5.size
                have hz3 := he3.size
                have hR5 := Lib.hid ((hr3.ext hq4.ext).ext he5)
                have HO5 := Lib.hid ho5
                have hE5 : Ext wp w5 := (he3.trans hq4.ext).trans he5
                have hHH : wr.heap.size ≤ w4.heap.size := hz4
                clear hr3 ho5
                go_wp2_with (first | (at_builtin; refine wpl_app1O rfl _ _ rfl w4.heap.size v5 P ((t : Int) + 1) rfl HO5.out (by omega) rfl (by have := HPL.out; omega) ?_; intro b6 c6 w6 hr6 hb6 hu6; have hu6' : Upd (fun i => w4.heap.size ≤ i) w5 w6 := hu6.mono (fun i _ e => (HO5.out.own e).1); have hz6 := hu6.size; have hR6 := Lib.hid (hR5.out.upd hu6' (fun i h1 h2 h3 => by omega)); have hE6 : Ext wp w6 := hE5.upd hu6' (fun i h1 => by omega); have ho6 : OI w4.heap.size w6.heap.size w6 (.slice (some ⟨b6, 0, none⟩) (P.length + 1) c6) (P ++ [(t : Int) + 1]) := OI.row hr6 hb6 (by simp); have HO6 := Lib.hid ho6; clear ho6 hr6 hu6 hu6' hR5 hE5 HO5) | (at_builtin; refine wpl_appRR rfl _ _ rfl wp.heap.size wr.heap.size b3 c3 m3 _ (some ⟨b6, 0, none⟩) _ c6 (P ++ [(t : Int) + 1]) rfl hR6.out hm3.out (HO6.out.mono (by omega) (Nat.le_refl _)) (fun q hq => by have := (HO6.out.own hq).1; omega) (by omega) rfl (by have := HP1.out; omega) ?_; intro b7 c7 w7 hr7 hb7 hu7))
                go_roundw
                case rel => exact ⟨t + 1, by omega, by go_num, ⟨b7, c7, m3 + 1, rfl, Lib.hid (by rw [hst.out, List.length_append, hm3.out]; rfl), by rw [hst.out]; exact hr7⟩, hE6.upd1 hu7 hR6.out.lo⟩
                case measure => simp [intOf]; omega
              · have HB := Lib.hid hb
                have hst : Hid (((layer n k).take j).flatMap (extTo n) ++ extTo (t + 1) P = ((layer n k).take j).flatMap (extTo n) ++ extTo t P) := by
                  show _ = _; rw [extTo_succ, one, hb]; simp
                clear hb
                go_wp2_with fail
                refine (slicesContains_ok _ P ((t : Int) + 1) _ hs1 (by have := HPL.out; omega)).mono ?_
                rintro e w4 ⟨rfl, hq4⟩
                rw [HB.out]
                go_wp2_with fail
                go_roundw
                case rel => exact ⟨t + 1, by omega, by go_num, ⟨b3, c3, m3, rfl, Lib.hid (by rw [hst.out]; exact hm3.out), by rw [hst.out]; exact (hr3.ext hq4.ext).mono hq4.ext.size⟩, he3.trans hq4.ext⟩
                case measure => simp [intOf]; omega
            · obtain rfl : t = n := by omega
              have hst : Hid (((layer t k).take (j + 1)).flatMap (extTo t) = ((layer t k).take j).flatMap (extTo t) ++ extTo t P) := by
                show _ = _; rw [take_nthL HJL.out, List.flatMap_append, HPP.out]; simp
              go_wp2_with fail
              go_roundw
              case rel => exact ⟨j + 1, by omega, by go_num, ⟨b3, c3, m3, rfl, Lib.hid (by rw [hst.out]; exact hm3.out), by rw [hst.out]; exact hr3⟩, he3⟩
              case measure => simp [intOf]; omega
        · have hst : Hid (((layer n k).take j).flatMap (extTo n) = layer n (k + 1)) := by
            show _ = _; rw [take_all (by have := hm.out; omega)]; rfl
          go_wp2_with fail
          go_roundw
          case rel => exact ⟨k + 1, by omega, by go_num, ⟨b2, c2, m2, rfl, Lib.hid (by rw [← hst.out]; exact hm2.out), by rw [← hst.out]; exact hr2.monoB hzw⟩, he.trans he2⟩
          case measure => simp [intOf]; omega
    · have hfin : Hid (permsL n = layer n k) := by show _ = _; rw [← hlp.out]; congr 1; omega
      go_wp2_with fail
      go_ret
      rw [hfin.out]
      exact ⟨_, rfl, hr.oii hm.out, he⟩
end Go.Proofs.Ytmnbdphfoonleaa
