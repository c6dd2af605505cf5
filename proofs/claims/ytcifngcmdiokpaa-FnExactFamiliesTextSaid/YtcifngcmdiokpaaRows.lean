/-
  No cell of these rows narrows 'for every input' (looked for: loops, veiled, ifaces, maps, wideKeys, modest, calm, conditions, laid).
  DERIVED. THE GIVEN ROWS OF THIS SEAT. 7 by the template 'for every input the law returns true; each argument reads behind the call as it read before'; 0 by the template 'total and deterministic' (their statements: YtcifngcmdiokpaaTotals.lean).
  GIVEN WITH THE SEED: the statements are not yours to turn. If you find one false, say at which input.
  Laid BY PROGRAM, IN A SANDBOX (cutbox-rows.mjs): the forced cells as the released guide's own fill.sh prints them over the translation 42bc1e0df62636d5… (all of the seat's roots in one cut). By AI agents, Wed Nov 11 2026. No macro, syntax, notation, axiom, sorry.
-/
import Derived.Test.YtcifngcmdiokpaaChecked
import GoSem.Claim
import GoSem.ClaimJoined
import GoSem.ClaimMapViews
import Derived.JoinedTies
import Derived.KernelRfl
namespace Go.Proofs.Ytcifngcmdiokpaa
/- THE CELL 'sum', in the pinned program and in every row, IS THE sha256 OF THE DUMP (.gsa) THAT YtcifngcmdiokpaaProg.lean LOADS. Nothing in Lean hashes anything: it is a label: what it is worth is what the hold of that sum in a sandbox is worth. -/
noncomputable def Try.pinned : Pinned := { name := "ytcifngcmdiokpaa", sum := "42bc1e0df62636d5a44b82d2040c2bf72987d2b2672d4c6e50046789a48382a3", checked := Try.checked }
namespace Rows
def none {H : Type} : Left H := { results := [], args := [] }

/-- 'laws.FnExactHasBraid': WHATEVER THE INPUT: true; the input reads as it did. -/
def fnExactHasBraidSpec : ChangeSpec := { name := "fnExactHasBraid", fn := fun _ => fun
  | [d] => { results := [.lit (.bool true)], args := [d] }
  | _ => none }
def fnExactHasBraidRow : OpenClaim := { program := "ytcifngcmdiokpaa", sum := "42bc1e0df62636d5a44b82d2040c2bf72987d2b2672d4c6e50046789a48382a3", func := "loop.example/g03101/laws.FnExactHasBraid", spec := "fnExactHasBraid", apart := false }
def FnExactHasBraidSaid : Prop := fnExactHasBraidRow.holds Try.pinned (OpenSpec.ofChange fnExactHasBraidSpec)

/-- ITS FALSE NEIGHBOUR: 'it returns false'. Refute it at one input. -/
def fnExactHasBraidWrong : ChangeSpec := { name := "fnExactHasBraid", fn := fun _ => fun
  | [d] => { results := [.lit (.bool false)], args := [d] }
  | _ => none }
def FnExactHasBraidWrongFalsely : Prop := fnExactHasBraidRow.holds Try.pinned (OpenSpec.ofChange fnExactHasBraidWrong)

/-- 'laws.FnExactIsPalindromic': WHATEVER THE INPUT: true; the input reads as it did. -/
def fnExactIsPalindromicSpec : ChangeSpec := { name := "fnExactIsPalindromic", fn := fun _ => fun
  | [d] => { results := [.lit (.bool true)], args := [d] }
  | _ => none }
def fnExactIsPalindromicRow : OpenClaim := { program := "ytcifngcmdiokpaa", sum := "42bc1e0df62636d5a44b82d2040c2bf72987d2b2672d4c6e50046789a48382a3", func := "loop.example/g03101/laws.FnExactIsPalindromic", spec := "fnExactIsPalindromic", apart := false }
def FnExactIsPalindromicSaid : Prop := fnExactIsPalindromicRow.holds Try.pinned (OpenSpec.ofChange fnExactIsPalindromicSpec)

/-- ITS FALSE NEIGHBOUR: 'it returns false'. Refute it at one input. -/
def fnExactIsPalindromicWrong : ChangeSpec := { name := "fnExactIsPalindromic", fn := fun _ => fun
  | [d] => { results := [.lit (.bool false)], args := [d] }
  | _ => none }
def FnExactIsPalindromicWrongFalsely : Prop := fnExactIsPalindromicRow.holds Try.pinned (OpenSpec.ofChange fnExactIsPalindromicWrong)

/-- 'laws.FnExactIsSmooth': WHATEVER THE INPUT: true; the input reads as it did. -/
def fnExactIsSmoothSpec : ChangeSpec := { name := "fnExactIsSmooth", fn := fun _ => fun
  | [d] => { results := [.lit (.bool true)], args := [d] }
  | _ => none }
def fnExactIsSmoothRow : OpenClaim := { program := "ytcifngcmdiokpaa", sum := "42bc1e0df62636d5a44b82d2040c2bf72987d2b2672d4c6e50046789a48382a3", func := "loop.example/g03101/laws.FnExactIsSmooth", spec := "fnExactIsSmooth", recurses := true, apart := false }
def FnExactIsSmoothSaid : Prop := fnExactIsSmoothRow.holds Try.pinned (OpenSpec.ofChange fnExactIsSmoothSpec)

/-- ITS FALSE NEIGHBOUR: 'it returns false'. Refute it at one input. -/
def fnExactIsSmoothWrong : ChangeSpec := { name := "fnExactIsSmooth", fn := fun _ => fun
  | [d] => { results := [.lit (.bool false)], args := [d] }
  | _ => none }
def FnExactIsSmoothWrongFalsely : Prop := fnExactIsSmoothRow.holds Try.pinned (OpenSpec.ofChange fnExactIsSmoothWrong)

/-- 'laws.FnExactIsVexillary': WHATEVER THE INPUT: true; the input reads as it did. -/
def fnExactIsVexillarySpec : ChangeSpec := { name := "fnExactIsVexillary", fn := fun _ => fun
  | [d] => { results := [.lit (.bool true)], args := [d] }
  | _ => none }
def fnExactIsVexillaryRow : OpenClaim := { program := "ytcifngcmdiokpaa", sum := "42bc1e0df62636d5a44b82d2040c2bf72987d2b2672d4c6e50046789a48382a3", func := "loop.example/g03101/laws.FnExactIsVexillary", spec := "fnExactIsVexillary", recurses := true, apart := false }
def FnExactIsVexillarySaid : Prop := fnExactIsVexillaryRow.holds Try.pinned (OpenSpec.ofChange fnExactIsVexillarySpec)

/-- ITS FALSE NEIGHBOUR: 'it returns false'. Refute it at one input. -/
def fnExactIsVexillaryWrong : ChangeSpec := { name := "fnExactIsVexillary", fn := fun _ => fun
  | [d] => { results := [.lit (.bool false)], args := [d] }
  | _ => none }
def FnExactIsVexillaryWrongFalsely : Prop := fnExactIsVexillaryRow.holds Try.pinned (OpenSpec.ofChange fnExactIsVexillaryWrong)

/-- 'laws.FnExactIsCommutative': WHATEVER THE INPUT: true; the input reads as it did. -/
def fnExactIsCommutativeSpec : ChangeSpec := { name := "fnExactIsCommutative", fn := fun _ => fun
  | [d] => { results := [.lit (.bool true)], args := [d] }
  | _ => none }
def fnExactIsCommutativeRow : OpenClaim := { program := "ytcifngcmdiokpaa", sum := "42bc1e0df62636d5a44b82d2040c2bf72987d2b2672d4c6e50046789a48382a3", func := "loop.example/g03101/laws.FnExactIsCommutative", spec := "fnExactIsCommutative", recurses := true, apart := false }
def FnExactIsCommutativeSaid : Prop := fnExactIsCommutativeRow.holds Try.pinned (OpenSpec.ofChange fnExactIsCommutativeSpec)

/-- ITS FALSE NEIGHBOUR: 'it returns false'. Refute it at one input. -/
def fnExactIsCommutativeWrong : ChangeSpec := { name := "fnExactIsCommutative", fn := fun _ => fun
  | [d] => { results := [.lit (.bool false)], args := [d] }
  | _ => none }
def FnExactIsCommutativeWrongFalsely : Prop := fnExactIsCommutativeRow.holds Try.pinned (OpenSpec.ofChange fnExactIsCommutativeWrong)

/-- 'laws.FnExactIsSkewMerged': WHATEVER THE INPUT: true; the input reads as it did. -/
def fnExactIsSkewMergedSpec : ChangeSpec := { name := "fnExactIsSkewMerged", fn := fun _ => fun
  | [d] => { results := [.lit (.bool true)], args := [d] }
  | _ => none }
def fnExactIsSkewMergedRow : OpenClaim := { program := "ytcifngcmdiokpaa", sum := "42bc1e0df62636d5a44b82d2040c2bf72987d2b2672d4c6e50046789a48382a3", func := "loop.example/g03101/laws.FnExactIsSkewMerged", spec := "fnExactIsSkewMerged", recurses := true, apart := false }
def FnExactIsSkewMergedSaid : Prop := fnExactIsSkewMergedRow.holds Try.pinned (OpenSpec.ofChange fnExactIsSkewMergedSpec)

/-- ITS FALSE NEIGHBOUR: 'it returns false'. Refute it at one input. -/
def fnExactIsSkewMergedWrong : ChangeSpec := { name := "fnExactIsSkewMerged", fn := fun _ => fun
  | [d] => { results := [.lit (.bool false)], args := [d] }
  | _ => none }
def FnExactIsSkewMergedWrongFalsely : Prop := fnExactIsSkewMergedRow.holds Try.pinned (OpenSpec.ofChange fnExactIsSkewMergedWrong)

/-- 'laws.FnExactFamiliesText': WHATEVER THE INPUT: true; the input reads as it did. -/
def fnExactFamiliesTextSpec : ChangeSpec := { name := "fnExactFamiliesText", fn := fun _ => fun
  | [d] => { results := [.lit (.bool true)], args := [d] }
  | _ => none }
def fnExactFamiliesTextRow : OpenClaim := { program := "ytcifngcmdiokpaa", sum := "42bc1e0df62636d5a44b82d2040c2bf72987d2b2672d4c6e50046789a48382a3", func := "loop.example/g03101/laws.FnExactFamiliesText", spec := "fnExactFamiliesText", inPlace := ["internal/abi.NoEscape", "internal/bytealg.MakeNoZero"], unfollowed := true, recurses := true, apart := false }
def FnExactFamiliesTextSaid : Prop := fnExactFamiliesTextRow.holds Try.pinned (OpenSpec.ofChange fnExactFamiliesTextSpec)

/-- ITS FALSE NEIGHBOUR: 'it returns false'. Refute it at one input. -/
def fnExactFamiliesTextWrong : ChangeSpec := { name := "fnExactFamiliesText", fn := fun _ => fun
  | [d] => { results := [.lit (.bool false)], args := [d] }
  | _ => none }
def FnExactFamiliesTextWrongFalsely : Prop := fnExactFamiliesTextRow.holds Try.pinned (OpenSpec.ofChange fnExactFamiliesTextWrong)

/- THE SECOND FORM. 'bulk': how many values and letters a reading holds, each counted each time it is reached (what is shared counts as often as it is met; a slice's spare places count too). A statement '..UptoSaid' is the law's where the arguments, and the package variables that the reading takes, are together of bulk at most 1048576: NARROWER than '..Said'. Prove '..Said' where nothing that the law and all that it calls make is longer than what came in: it says more and counts as full. Else prove '..UptoSaid'. A law counts once. -/
mutual
def uptoBulk {H : Type} : DataW H → Nat
  | .lit (.string bytes) => bytes.length + 1
  | .lit _ => 1
  | .nil => 1
  | .ptr d => uptoBulk d + 1
  | .slice elems spare => uptoBulkAll elems + uptoBulkAll spare + 1
  | .agg parts => uptoBulkAll parts + 1
  | .iface _ d => uptoBulk d + 1
  | .map entries => uptoBulkEntries entries + 1
  | .held _ => 1
def uptoBulkAll {H : Type} : List (DataW H) → Nat
  | [] => 0
  | d :: r => uptoBulk d + uptoBulkAll r
def uptoBulkEntries {H : Type} : List (Lit × DataW H) → Nat
  | [] => 0
  | x :: r => uptoBulkEntry x + uptoBulkEntries r
def uptoBulkEntry {H : Type} : Lit × DataW H → Nat
  | (.string bytes, d) => bytes.length + uptoBulk d + 1
  | (_, d) => uptoBulk d + 1
 end
def uptoSmall : (H : Type) → List (DataW H) → Bool := fun _ ds => decide (uptoBulkAll ds ≤ 1048576)
def OpenSpec.upto (s : _root_.Go.ChangeSpec) : _root_.Go.OpenSpec := { _root_.Go.OpenSpec.ofChange s with cond := some uptoSmall }

/-- 'laws.FnExactHasBraid', WHERE WHAT IT READS IS OF BULK AT MOST 1048576: true; the input reads as it did. -/
def fnExactHasBraidUptoRow : OpenClaim := { program := "ytcifngcmdiokpaa", sum := "42bc1e0df62636d5a44b82d2040c2bf72987d2b2672d4c6e50046789a48382a3", func := "loop.example/g03101/laws.FnExactHasBraid", spec := "fnExactHasBraid", apart := false, narrowed := true }
def FnExactHasBraidUptoSaid : Prop := fnExactHasBraidUptoRow.holds Try.pinned (OpenSpec.upto fnExactHasBraidSpec)

/-- 'laws.FnExactIsPalindromic', WHERE WHAT IT READS IS OF BULK AT MOST 1048576: true; the input reads as it did. -/
def fnExactIsPalindromicUptoRow : OpenClaim := { program := "ytcifngcmdiokpaa", sum := "42bc1e0df62636d5a44b82d2040c2bf72987d2b2672d4c6e50046789a48382a3", func := "loop.example/g03101/laws.FnExactIsPalindromic", spec := "fnExactIsPalindromic", apart := false, narrowed := true }
def FnExactIsPalindromicUptoSaid : Prop := fnExactIsPalindromicUptoRow.holds Try.pinned (OpenSpec.upto fnExactIsPalindromicSpec)

/-- 'laws.FnExactIsSmooth', WHERE WHAT IT READS IS OF BULK AT MOST 1048576: true; the input reads as it did. -/
def fnExactIsSmoothUptoRow : OpenClaim := { program := "ytcifngcmdiokpaa", sum := "42bc1e0df62636d5a44b82d2040c2bf72987d2b2672d4c6e50046789a48382a3", func := "loop.example/g03101/laws.FnExactIsSmooth", spec := "fnExactIsSmooth", recurses := true, apart := false, narrowed := true }
def FnExactIsSmoothUptoSaid : Prop := fnExactIsSmoothUptoRow.holds Try.pinned (OpenSpec.upto fnExactIsSmoothSpec)

/-- 'laws.FnExactIsVexillary', WHERE WHAT IT READS IS OF BULK AT MOST 1048576: true; the input reads as it did. -/
def fnExactIsVexillaryUptoRow : OpenClaim := { program := "ytcifngcmdiokpaa", sum := "42bc1e0df62636d5a44b82d2040c2bf72987d2b2672d4c6e50046789a48382a3", func := "loop.example/g03101/laws.FnExactIsVexillary", spec := "fnExactIsVexillary", recurses := true, apart := false, narrowed := true }
def FnExactIsVexillaryUptoSaid : Prop := fnExactIsVexillaryUptoRow.holds Try.pinned (OpenSpec.upto fnExactIsVexillarySpec)

/-- 'laws.FnExactIsCommutative', WHERE WHAT IT READS IS OF BULK AT MOST 1048576: true; the input reads as it did. -/
def fnExactIsCommutativeUptoRow : OpenClaim := { program := "ytcifngcmdiokpaa", sum := "42bc1e0df62636d5a44b82d2040c2bf72987d2b2672d4c6e50046789a48382a3", func := "loop.example/g03101/laws.FnExactIsCommutative", spec := "fnExactIsCommutative", recurses := true, apart := false, narrowed := true }
def FnExactIsCommutativeUptoSaid : Prop := fnExactIsCommutativeUptoRow.holds Try.pinned (OpenSpec.upto fnExactIsCommutativeSpec)

/-- 'laws.FnExactIsSkewMerged', WHERE WHAT IT READS IS OF BULK AT MOST 1048576: true; the input reads as it did. -/
def fnExactIsSkewMergedUptoRow : OpenClaim := { program := "ytcifngcmdiokpaa", sum := "42bc1e0df62636d5a44b82d2040c2bf72987d2b2672d4c6e50046789a48382a3", func := "loop.example/g03101/laws.FnExactIsSkewMerged", spec := "fnExactIsSkewMerged", recurses := true, apart := false, narrowed := true }
def FnExactIsSkewMergedUptoSaid : Prop := fnExactIsSkewMergedUptoRow.holds Try.pinned (OpenSpec.upto fnExactIsSkewMergedSpec)

/-- 'laws.FnExactFamiliesText', WHERE WHAT IT READS IS OF BULK AT MOST 1048576: true; the input reads as it did. -/
def fnExactFamiliesTextUptoRow : OpenClaim := { program := "ytcifngcmdiokpaa", sum := "42bc1e0df62636d5a44b82d2040c2bf72987d2b2672d4c6e50046789a48382a3", func := "loop.example/g03101/laws.FnExactFamiliesText", spec := "fnExactFamiliesText", inPlace := ["internal/abi.NoEscape", "internal/bytealg.MakeNoZero"], unfollowed := true, recurses := true, apart := false, narrowed := true }
def FnExactFamiliesTextUptoSaid : Prop := fnExactFamiliesTextUptoRow.holds Try.pinned (OpenSpec.upto fnExactFamiliesTextSpec)

end Rows
end Go.Proofs.Ytcifngcmdiokpaa
