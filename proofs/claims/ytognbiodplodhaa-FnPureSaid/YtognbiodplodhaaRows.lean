/-
  No cell of these rows narrows 'for every input' (looked for: loops, veiled, ifaces, maps, wideKeys, modest, calm, conditions, laid).
  DERIVED. THE GIVEN ROWS OF THIS SEAT. 7 by the template 'for every input the law returns true; each argument reads behind the call as it read before'; 0 by the template 'total and deterministic' (their statements: YtognbiodplodhaaTotals.lean).
  GIVEN WITH THE SEED: the statements are not yours to turn. If you find one false, say at which input.
  Laid BY PROGRAM, IN A SANDBOX (cutbox-rows.mjs): the forced cells as the released guide's own fill.sh prints them over the translation 19b5d3fd5da38887… (all of the seat's roots in one cut). By AI agents, Wed Nov 11 2026. No macro, syntax, notation, axiom, sorry.
-/
import Derived.Test.YtognbiodplodhaaChecked
import GoSem.Claim
import GoSem.ClaimJoined
import GoSem.ClaimMapViews
import Derived.JoinedTies
import Derived.KernelRfl
namespace Go.Proofs.Ytognbiodplodhaa
/- THE CELL 'sum', in the pinned program and in every row, IS THE sha256 OF THE DUMP (.gsa) THAT YtognbiodplodhaaProg.lean LOADS. Nothing in Lean hashes anything: it is a label: what it is worth is what the hold of that sum in a sandbox is worth. -/
noncomputable def Try.pinned : Pinned := { name := "ytognbiodplodhaa", sum := "19b5d3fd5da3888712bd5f6a1425c6c3ec39f5e45dc6036d8e629fce802ddf00", checked := Try.checked }
namespace Rows
def none {H : Type} : Left H := { results := [], args := [] }

/-- 'laws.FnPops': WHATEVER THE INPUT: true; the input reads as it did. -/
def fnPopsSpec : ChangeSpec := { name := "fnPops", fn := fun _ => fun
  | [d] => { results := [.lit (.bool true)], args := [d] }
  | _ => none }
def fnPopsRow : OpenClaim := { program := "ytognbiodplodhaa", sum := "19b5d3fd5da3888712bd5f6a1425c6c3ec39f5e45dc6036d8e629fce802ddf00", func := "loop.example/g03101/laws.FnPops", spec := "fnPops", unfollowed := true, recurses := true, apart := false }
def FnPopsSaid : Prop := fnPopsRow.holds Try.pinned (OpenSpec.ofChange fnPopsSpec)

/-- ITS FALSE NEIGHBOUR: 'it returns false'. Refute it at one input. -/
def fnPopsWrong : ChangeSpec := { name := "fnPops", fn := fun _ => fun
  | [d] => { results := [.lit (.bool false)], args := [d] }
  | _ => none }
def FnPopsWrongFalsely : Prop := fnPopsRow.holds Try.pinned (OpenSpec.ofChange fnPopsWrong)

/-- 'laws.FnExactFallsOf': WHATEVER THE INPUT: true; the input reads as it did. -/
def fnExactFallsOfSpec : ChangeSpec := { name := "fnExactFallsOf", fn := fun _ => fun
  | [d] => { results := [.lit (.bool true)], args := [d] }
  | _ => none }
def fnExactFallsOfRow : OpenClaim := { program := "ytognbiodplodhaa", sum := "19b5d3fd5da3888712bd5f6a1425c6c3ec39f5e45dc6036d8e629fce802ddf00", func := "loop.example/g03101/laws.FnExactFallsOf", spec := "fnExactFallsOf", apart := false }
def FnExactFallsOfSaid : Prop := fnExactFallsOfRow.holds Try.pinned (OpenSpec.ofChange fnExactFallsOfSpec)

/-- ITS FALSE NEIGHBOUR: 'it returns false'. Refute it at one input. -/
def fnExactFallsOfWrong : ChangeSpec := { name := "fnExactFallsOf", fn := fun _ => fun
  | [d] => { results := [.lit (.bool false)], args := [d] }
  | _ => none }
def FnExactFallsOfWrongFalsely : Prop := fnExactFallsOfRow.holds Try.pinned (OpenSpec.ofChange fnExactFallsOfWrong)

/-- 'laws.FnExactPopPass': WHATEVER THE INPUT: true; the input reads as it did. -/
def fnExactPopPassSpec : ChangeSpec := { name := "fnExactPopPass", fn := fun _ => fun
  | [d] => { results := [.lit (.bool true)], args := [d] }
  | _ => none }
def fnExactPopPassRow : OpenClaim := { program := "ytognbiodplodhaa", sum := "19b5d3fd5da3888712bd5f6a1425c6c3ec39f5e45dc6036d8e629fce802ddf00", func := "loop.example/g03101/laws.FnExactPopPass", spec := "fnExactPopPass", apart := false }
def FnExactPopPassSaid : Prop := fnExactPopPassRow.holds Try.pinned (OpenSpec.ofChange fnExactPopPassSpec)

/-- ITS FALSE NEIGHBOUR: 'it returns false'. Refute it at one input. -/
def fnExactPopPassWrong : ChangeSpec := { name := "fnExactPopPass", fn := fun _ => fun
  | [d] => { results := [.lit (.bool false)], args := [d] }
  | _ => none }
def FnExactPopPassWrongFalsely : Prop := fnExactPopPassRow.holds Try.pinned (OpenSpec.ofChange fnExactPopPassWrong)

/-- 'laws.FnExactIsPopSorted': WHATEVER THE INPUT: true; the input reads as it did. -/
def fnExactIsPopSortedSpec : ChangeSpec := { name := "fnExactIsPopSorted", fn := fun _ => fun
  | [d] => { results := [.lit (.bool true)], args := [d] }
  | _ => none }
def fnExactIsPopSortedRow : OpenClaim := { program := "ytognbiodplodhaa", sum := "19b5d3fd5da3888712bd5f6a1425c6c3ec39f5e45dc6036d8e629fce802ddf00", func := "loop.example/g03101/laws.FnExactIsPopSorted", spec := "fnExactIsPopSorted", apart := false }
def FnExactIsPopSortedSaid : Prop := fnExactIsPopSortedRow.holds Try.pinned (OpenSpec.ofChange fnExactIsPopSortedSpec)

/-- ITS FALSE NEIGHBOUR: 'it returns false'. Refute it at one input. -/
def fnExactIsPopSortedWrong : ChangeSpec := { name := "fnExactIsPopSorted", fn := fun _ => fun
  | [d] => { results := [.lit (.bool false)], args := [d] }
  | _ => none }
def FnExactIsPopSortedWrongFalsely : Prop := fnExactIsPopSortedRow.holds Try.pinned (OpenSpec.ofChange fnExactIsPopSortedWrong)

/-- 'laws.FnExactPopTimes': WHATEVER THE INPUT: true; the input reads as it did. -/
def fnExactPopTimesSpec : ChangeSpec := { name := "fnExactPopTimes", fn := fun _ => fun
  | [d] => { results := [.lit (.bool true)], args := [d] }
  | _ => none }
def fnExactPopTimesRow : OpenClaim := { program := "ytognbiodplodhaa", sum := "19b5d3fd5da3888712bd5f6a1425c6c3ec39f5e45dc6036d8e629fce802ddf00", func := "loop.example/g03101/laws.FnExactPopTimes", spec := "fnExactPopTimes", unfollowed := true, recurses := true, apart := false }
def FnExactPopTimesSaid : Prop := fnExactPopTimesRow.holds Try.pinned (OpenSpec.ofChange fnExactPopTimesSpec)

/-- ITS FALSE NEIGHBOUR: 'it returns false'. Refute it at one input. -/
def fnExactPopTimesWrong : ChangeSpec := { name := "fnExactPopTimes", fn := fun _ => fun
  | [d] => { results := [.lit (.bool false)], args := [d] }
  | _ => none }
def FnExactPopTimesWrongFalsely : Prop := fnExactPopTimesRow.holds Try.pinned (OpenSpec.ofChange fnExactPopTimesWrong)

/-- 'laws.FnExactPopTrail': WHATEVER THE INPUT: true; the input reads as it did. -/
def fnExactPopTrailSpec : ChangeSpec := { name := "fnExactPopTrail", fn := fun _ => fun
  | [d] => { results := [.lit (.bool true)], args := [d] }
  | _ => none }
def fnExactPopTrailRow : OpenClaim := { program := "ytognbiodplodhaa", sum := "19b5d3fd5da3888712bd5f6a1425c6c3ec39f5e45dc6036d8e629fce802ddf00", func := "loop.example/g03101/laws.FnExactPopTrail", spec := "fnExactPopTrail", apart := false }
def FnExactPopTrailSaid : Prop := fnExactPopTrailRow.holds Try.pinned (OpenSpec.ofChange fnExactPopTrailSpec)

/-- ITS FALSE NEIGHBOUR: 'it returns false'. Refute it at one input. -/
def fnExactPopTrailWrong : ChangeSpec := { name := "fnExactPopTrail", fn := fun _ => fun
  | [d] => { results := [.lit (.bool false)], args := [d] }
  | _ => none }
def FnExactPopTrailWrongFalsely : Prop := fnExactPopTrailRow.holds Try.pinned (OpenSpec.ofChange fnExactPopTrailWrong)

/-- 'laws.FnPure': WHATEVER THE INPUT: true; the input reads as it did. -/
def fnPureSpec : ChangeSpec := { name := "fnPure", fn := fun _ => fun
  | [d] => { results := [.lit (.bool true)], args := [d] }
  | _ => none }
def fnPureRow : OpenClaim := { program := "ytognbiodplodhaa", sum := "19b5d3fd5da3888712bd5f6a1425c6c3ec39f5e45dc6036d8e629fce802ddf00", func := "loop.example/g03101/laws.FnPure", spec := "fnPure", unfollowed := true, recurses := true, apart := false }
def FnPureSaid : Prop := fnPureRow.holds Try.pinned (OpenSpec.ofChange fnPureSpec)

/-- ITS FALSE NEIGHBOUR: 'it returns false'. Refute it at one input. -/
def fnPureWrong : ChangeSpec := { name := "fnPure", fn := fun _ => fun
  | [d] => { results := [.lit (.bool false)], args := [d] }
  | _ => none }
def FnPureWrongFalsely : Prop := fnPureRow.holds Try.pinned (OpenSpec.ofChange fnPureWrong)

/- THE SECOND FORM. 'bulk': how many values and letters a reading holds, each counted each time it is reached (what is shared counts as often as it is met; a slice's spare places count too). A statement '..UptoSaid' is the law's where the arguments, and the package variables that the reading takes, are together of bulk at most 1048576: NARROWER than '..Said'. Prove '..Said' where nothing that the law and all that it calls make is longer than what came in: it says more and counts as full. Else prove '..UptoSaid'. A law counts once. -/
mutual
def uptoBulk {H : Type} : DataW H → Nat
  | .lit (.string bytes) => bytes.length + 1
  | .lit _ => 1
  | .nil => 1
  | .ptr d => uptoBulk d + 1
  | .slice elems spare => uptoBulkAll elems + uptoBulkAll spare + 1
  | .agg parts => uptoBulkAll parts + 1
  | .iface _ d => uptoBulk d + 1
  | .map entries => uptoBulkEntries entries + 1
  | .held _ => 1
def uptoBulkAll {H : Type} : List (DataW H) → Nat
  | [] => 0
  | d :: r => uptoBulk d + uptoBulkAll r
def uptoBulkEntries {H : Type} : List (Lit × DataW H) → Nat
  | [] => 0
  | x :: r => uptoBulkEntry x + uptoBulkEntries r
def uptoBulkEntry {H : Type} : Lit × DataW H → Nat
  | (.string bytes, d) => bytes.length + uptoBulk d + 1
  | (_, d) => uptoBulk d + 1
 end
def uptoSmall : (H : Type) → List (DataW H) → Bool := fun _ ds => decide (uptoBulkAll ds ≤ 1048576)
def OpenSpec.upto (s : _root_.Go.ChangeSpec) : _root_.Go.OpenSpec := { _root_.Go.OpenSpec.ofChange s with cond := some uptoSmall }

/-- 'laws.FnPops', WHERE WHAT IT READS IS OF BULK AT MOST 1048576: true; the input reads as it did. -/
def fnPopsUptoRow : OpenClaim := { program := "ytognbiodplodhaa", sum := "19b5d3fd5da3888712bd5f6a1425c6c3ec39f5e45dc6036d8e629fce802ddf00", func := "loop.example/g03101/laws.FnPops", spec := "fnPops", unfollowed := true, recurses := true, apart := false, narrowed := true }
def FnPopsUptoSaid : Prop := fnPopsUptoRow.holds Try.pinned (OpenSpec.upto fnPopsSpec)

/-- 'laws.FnExactFallsOf', WHERE WHAT IT READS IS OF BULK AT MOST 1048576: true; the input reads as it did. -/
def fnExactFallsOfUptoRow : OpenClaim := { program := "ytognbiodplodhaa", sum := "19b5d3fd5da3888712bd5f6a1425c6c3ec39f5e45dc6036d8e629fce802ddf00", func := "loop.example/g03101/laws.FnExactFallsOf", spec := "fnExactFallsOf", apart := false, narrowed := true }
def FnExactFallsOfUptoSaid : Prop := fnExactFallsOfUptoRow.holds Try.pinned (OpenSpec.upto fnExactFallsOfSpec)

/-- 'laws.FnExactPopPass', WHERE WHAT IT READS IS OF BULK AT MOST 1048576: true; the input reads as it did. -/
def fnExactPopPassUptoRow : OpenClaim := { program := "ytognbiodplodhaa", sum := "19b5d3fd5da3888712bd5f6a1425c6c3ec39f5e45dc6036d8e629fce802ddf00", func := "loop.example/g03101/laws.FnExactPopPass", spec := "fnExactPopPass", apart := false, narrowed := true }
def FnExactPopPassUptoSaid : Prop := fnExactPopPassUptoRow.holds Try.pinned (OpenSpec.upto fnExactPopPassSpec)

/-- 'laws.FnExactIsPopSorted', WHERE WHAT IT READS IS OF BULK AT MOST 1048576: true; the input reads as it did. -/
def fnExactIsPopSortedUptoRow : OpenClaim := { program := "ytognbiodplodhaa", sum := "19b5d3fd5da3888712bd5f6a1425c6c3ec39f5e45dc6036d8e629fce802ddf00", func := "loop.example/g03101/laws.FnExactIsPopSorted", spec := "fnExactIsPopSorted", apart := false, narrowed := true }
def FnExactIsPopSortedUptoSaid : Prop := fnExactIsPopSortedUptoRow.holds Try.pinned (OpenSpec.upto fnExactIsPopSortedSpec)

/-- 'laws.FnExactPopTimes', WHERE WHAT IT READS IS OF BULK AT MOST 1048576: true; the input reads as it did. -/
def fnExactPopTimesUptoRow : OpenClaim := { program := "ytognbiodplodhaa", sum := "19b5d3fd5da3888712bd5f6a1425c6c3ec39f5e45dc6036d8e629fce802ddf00", func := "loop.example/g03101/laws.FnExactPopTimes", spec := "fnExactPopTimes", unfollowed := true, recurses := true, apart := false, narrowed := true }
def FnExactPopTimesUptoSaid : Prop := fnExactPopTimesUptoRow.holds Try.pinned (OpenSpec.upto fnExactPopTimesSpec)

/-- 'laws.FnExactPopTrail', WHERE WHAT IT READS IS OF BULK AT MOST 1048576: true; the input reads as it did. -/
def fnExactPopTrailUptoRow : OpenClaim := { program := "ytognbiodplodhaa", sum := "19b5d3fd5da3888712bd5f6a1425c6c3ec39f5e45dc6036d8e629fce802ddf00", func := "loop.example/g03101/laws.FnExactPopTrail", spec := "fnExactPopTrail", apart := false, narrowed := true }
def FnExactPopTrailUptoSaid : Prop := fnExactPopTrailUptoRow.holds Try.pinned (OpenSpec.upto fnExactPopTrailSpec)

/-- 'laws.FnPure', WHERE WHAT IT READS IS OF BULK AT MOST 1048576: true; the input reads as it did. -/
def fnPureUptoRow : OpenClaim := { program := "ytognbiodplodhaa", sum := "19b5d3fd5da3888712bd5f6a1425c6c3ec39f5e45dc6036d8e629fce802ddf00", func := "loop.example/g03101/laws.FnPure", spec := "fnPure", unfollowed := true, recurses := true, apart := false, narrowed := true }
def FnPureUptoSaid : Prop := fnPureUptoRow.holds Try.pinned (OpenSpec.upto fnPureSpec)

end Rows
end Go.Proofs.Ytognbiodplodhaa
