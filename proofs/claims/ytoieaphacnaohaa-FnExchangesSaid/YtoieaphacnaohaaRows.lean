/-
  No cell of these rows narrows 'for every input' (looked for: loops, veiled, ifaces, maps, wideKeys, modest, calm, conditions, laid).
  DERIVED. THE GIVEN ROWS OF THIS SEAT. 9 by the template 'for every input the law returns true; each argument reads behind the call as it read before'; 0 by the template 'total and deterministic' (their statements: YtoieaphacnaohaaTotals.lean).
  GIVEN WITH THE SEED: the statements are not yours to turn. If you find one false, say at which input.
  Laid BY PROGRAM, IN A SANDBOX (cutbox-rows.mjs): the forced cells as the released guide's own fill.sh prints them over the translation fc8920ae2ef9ed65… (all of the seat's roots in one cut). By AI agents, Wed Nov 11 2026. No macro, syntax, notation, axiom, sorry.
-/
import Derived.Test.YtoieaphacnaohaaChecked
import GoSem.Claim
import GoSem.ClaimJoined
import GoSem.ClaimMapViews
import Derived.JoinedTies
import Derived.KernelRfl
namespace Go.Proofs.Ytoieaphacnaohaa
/- THE CELL 'sum', in the pinned program and in every row, IS THE sha256 OF THE DUMP (.gsa) THAT YtoieaphacnaohaaProg.lean LOADS. Nothing in Lean hashes anything: it is a label: what it is worth is what the hold of that sum in a sandbox is worth. -/
noncomputable def Try.pinned : Pinned := { name := "ytoieaphacnaohaa", sum := "fc8920ae2ef9ed6533308740772b022ff8a1897a81645667bf97302203cc403c", checked := Try.checked }
namespace Rows
def none {H : Type} : Left H := { results := [], args := [] }

/-- 'laws.FnExchanges': WHATEVER THE INPUT: true; the input reads as it did. -/
def fnExchangesSpec : ChangeSpec := { name := "fnExchanges", fn := fun _ => fun
  | [d] => { results := [.lit (.bool true)], args := [d] }
  | _ => none }
def fnExchangesRow : OpenClaim := { program := "ytoieaphacnaohaa", sum := "fc8920ae2ef9ed6533308740772b022ff8a1897a81645667bf97302203cc403c", func := "loop.example/g03101/laws.FnExchanges", spec := "fnExchanges", unfollowed := true, recurses := true, apart := false }
def FnExchangesSaid : Prop := fnExchangesRow.holds Try.pinned (OpenSpec.ofChange fnExchangesSpec)

/-- ITS FALSE NEIGHBOUR: 'it returns false'. Refute it at one input. -/
def fnExchangesWrong : ChangeSpec := { name := "fnExchanges", fn := fun _ => fun
  | [d] => { results := [.lit (.bool false)], args := [d] }
  | _ => none }
def FnExchangesWrongFalsely : Prop := fnExchangesRow.holds Try.pinned (OpenSpec.ofChange fnExchangesWrong)

/-- 'laws.FnExactBubblePass': WHATEVER THE INPUT: true; the input reads as it did. -/
def fnExactBubblePassSpec : ChangeSpec := { name := "fnExactBubblePass", fn := fun _ => fun
  | [d] => { results := [.lit (.bool true)], args := [d] }
  | _ => none }
def fnExactBubblePassRow : OpenClaim := { program := "ytoieaphacnaohaa", sum := "fc8920ae2ef9ed6533308740772b022ff8a1897a81645667bf97302203cc403c", func := "loop.example/g03101/laws.FnExactBubblePass", spec := "fnExactBubblePass", apart := false }
def FnExactBubblePassSaid : Prop := fnExactBubblePassRow.holds Try.pinned (OpenSpec.ofChange fnExactBubblePassSpec)

/-- ITS FALSE NEIGHBOUR: 'it returns false'. Refute it at one input. -/
def fnExactBubblePassWrong : ChangeSpec := { name := "fnExactBubblePass", fn := fun _ => fun
  | [d] => { results := [.lit (.bool false)], args := [d] }
  | _ => none }
def FnExactBubblePassWrongFalsely : Prop := fnExactBubblePassRow.holds Try.pinned (OpenSpec.ofChange fnExactBubblePassWrong)

/-- 'laws.FnExactBubbleTimes': WHATEVER THE INPUT: true; the input reads as it did. -/
def fnExactBubbleTimesSpec : ChangeSpec := { name := "fnExactBubbleTimes", fn := fun _ => fun
  | [d] => { results := [.lit (.bool true)], args := [d] }
  | _ => none }
def fnExactBubbleTimesRow : OpenClaim := { program := "ytoieaphacnaohaa", sum := "fc8920ae2ef9ed6533308740772b022ff8a1897a81645667bf97302203cc403c", func := "loop.example/g03101/laws.FnExactBubbleTimes", spec := "fnExactBubbleTimes", unfollowed := true, recurses := true, apart := false }
def FnExactBubbleTimesSaid : Prop := fnExactBubbleTimesRow.holds Try.pinned (OpenSpec.ofChange fnExactBubbleTimesSpec)

/-- ITS FALSE NEIGHBOUR: 'it returns false'. Refute it at one input. -/
def fnExactBubbleTimesWrong : ChangeSpec := { name := "fnExactBubbleTimes", fn := fun _ => fun
  | [d] => { results := [.lit (.bool false)], args := [d] }
  | _ => none }
def FnExactBubbleTimesWrongFalsely : Prop := fnExactBubbleTimesRow.holds Try.pinned (OpenSpec.ofChange fnExactBubbleTimesWrong)

/-- 'laws.FnExactSelectionTrail': WHATEVER THE INPUT: true; the input reads as it did. -/
def fnExactSelectionTrailSpec : ChangeSpec := { name := "fnExactSelectionTrail", fn := fun _ => fun
  | [d] => { results := [.lit (.bool true)], args := [d] }
  | _ => none }
def fnExactSelectionTrailRow : OpenClaim := { program := "ytoieaphacnaohaa", sum := "fc8920ae2ef9ed6533308740772b022ff8a1897a81645667bf97302203cc403c", func := "loop.example/g03101/laws.FnExactSelectionTrail", spec := "fnExactSelectionTrail", apart := false }
def FnExactSelectionTrailSaid : Prop := fnExactSelectionTrailRow.holds Try.pinned (OpenSpec.ofChange fnExactSelectionTrailSpec)

/-- ITS FALSE NEIGHBOUR: 'it returns false'. Refute it at one input. -/
def fnExactSelectionTrailWrong : ChangeSpec := { name := "fnExactSelectionTrail", fn := fun _ => fun
  | [d] => { results := [.lit (.bool false)], args := [d] }
  | _ => none }
def FnExactSelectionTrailWrongFalsely : Prop := fnExactSelectionTrailRow.holds Try.pinned (OpenSpec.ofChange fnExactSelectionTrailWrong)

/-- 'laws.FnExactInsertionSteps': WHATEVER THE INPUT: true; the input reads as it did. -/
def fnExactInsertionStepsSpec : ChangeSpec := { name := "fnExactInsertionSteps", fn := fun _ => fun
  | [d] => { results := [.lit (.bool true)], args := [d] }
  | _ => none }
def fnExactInsertionStepsRow : OpenClaim := { program := "ytoieaphacnaohaa", sum := "fc8920ae2ef9ed6533308740772b022ff8a1897a81645667bf97302203cc403c", func := "loop.example/g03101/laws.FnExactInsertionSteps", spec := "fnExactInsertionSteps", apart := false }
def FnExactInsertionStepsSaid : Prop := fnExactInsertionStepsRow.holds Try.pinned (OpenSpec.ofChange fnExactInsertionStepsSpec)

/-- ITS FALSE NEIGHBOUR: 'it returns false'. Refute it at one input. -/
def fnExactInsertionStepsWrong : ChangeSpec := { name := "fnExactInsertionSteps", fn := fun _ => fun
  | [d] => { results := [.lit (.bool false)], args := [d] }
  | _ => none }
def FnExactInsertionStepsWrongFalsely : Prop := fnExactInsertionStepsRow.holds Try.pinned (OpenSpec.ofChange fnExactInsertionStepsWrong)

/-- 'laws.FnExactIsBubbleSorted': WHATEVER THE INPUT: true; the input reads as it did. -/
def fnExactIsBubbleSortedSpec : ChangeSpec := { name := "fnExactIsBubbleSorted", fn := fun _ => fun
  | [d] => { results := [.lit (.bool true)], args := [d] }
  | _ => none }
def fnExactIsBubbleSortedRow : OpenClaim := { program := "ytoieaphacnaohaa", sum := "fc8920ae2ef9ed6533308740772b022ff8a1897a81645667bf97302203cc403c", func := "loop.example/g03101/laws.FnExactIsBubbleSorted", spec := "fnExactIsBubbleSorted", apart := false }
def FnExactIsBubbleSortedSaid : Prop := fnExactIsBubbleSortedRow.holds Try.pinned (OpenSpec.ofChange fnExactIsBubbleSortedSpec)

/-- ITS FALSE NEIGHBOUR: 'it returns false'. Refute it at one input. -/
def fnExactIsBubbleSortedWrong : ChangeSpec := { name := "fnExactIsBubbleSorted", fn := fun _ => fun
  | [d] => { results := [.lit (.bool false)], args := [d] }
  | _ => none }
def FnExactIsBubbleSortedWrongFalsely : Prop := fnExactIsBubbleSortedRow.holds Try.pinned (OpenSpec.ofChange fnExactIsBubbleSortedWrong)

/-- 'laws.FnExactCodeOf': WHATEVER THE INPUT: true; the input reads as it did. -/
def fnExactCodeOfSpec : ChangeSpec := { name := "fnExactCodeOf", fn := fun _ => fun
  | [d] => { results := [.lit (.bool true)], args := [d] }
  | _ => none }
def fnExactCodeOfRow : OpenClaim := { program := "ytoieaphacnaohaa", sum := "fc8920ae2ef9ed6533308740772b022ff8a1897a81645667bf97302203cc403c", func := "loop.example/g03101/laws.FnExactCodeOf", spec := "fnExactCodeOf", apart := false }
def FnExactCodeOfSaid : Prop := fnExactCodeOfRow.holds Try.pinned (OpenSpec.ofChange fnExactCodeOfSpec)

/-- ITS FALSE NEIGHBOUR: 'it returns false'. Refute it at one input. -/
def fnExactCodeOfWrong : ChangeSpec := { name := "fnExactCodeOf", fn := fun _ => fun
  | [d] => { results := [.lit (.bool false)], args := [d] }
  | _ => none }
def FnExactCodeOfWrongFalsely : Prop := fnExactCodeOfRow.holds Try.pinned (OpenSpec.ofChange fnExactCodeOfWrong)

/-- 'laws.FnExactPermOfCode': WHATEVER THE INPUT: true; the input reads as it did. -/
def fnExactPermOfCodeSpec : ChangeSpec := { name := "fnExactPermOfCode", fn := fun _ => fun
  | [d] => { results := [.lit (.bool true)], args := [d] }
  | _ => none }
def fnExactPermOfCodeRow : OpenClaim := { program := "ytoieaphacnaohaa", sum := "fc8920ae2ef9ed6533308740772b022ff8a1897a81645667bf97302203cc403c", func := "loop.example/g03101/laws.FnExactPermOfCode", spec := "fnExactPermOfCode", apart := false }
def FnExactPermOfCodeSaid : Prop := fnExactPermOfCodeRow.holds Try.pinned (OpenSpec.ofChange fnExactPermOfCodeSpec)

/-- ITS FALSE NEIGHBOUR: 'it returns false'. Refute it at one input. -/
def fnExactPermOfCodeWrong : ChangeSpec := { name := "fnExactPermOfCode", fn := fun _ => fun
  | [d] => { results := [.lit (.bool false)], args := [d] }
  | _ => none }
def FnExactPermOfCodeWrongFalsely : Prop := fnExactPermOfCodeRow.holds Try.pinned (OpenSpec.ofChange fnExactPermOfCodeWrong)

/-- 'laws.FnExactTurnedForm': WHATEVER THE INPUT: true; the input reads as it did. -/
def fnExactTurnedFormSpec : ChangeSpec := { name := "fnExactTurnedForm", fn := fun _ => fun
  | [d] => { results := [.lit (.bool true)], args := [d] }
  | _ => none }
def fnExactTurnedFormRow : OpenClaim := { program := "ytoieaphacnaohaa", sum := "fc8920ae2ef9ed6533308740772b022ff8a1897a81645667bf97302203cc403c", func := "loop.example/g03101/laws.FnExactTurnedForm", spec := "fnExactTurnedForm", unfollowed := true, recurses := true, apart := false }
def FnExactTurnedFormSaid : Prop := fnExactTurnedFormRow.holds Try.pinned (OpenSpec.ofChange fnExactTurnedFormSpec)

/-- ITS FALSE NEIGHBOUR: 'it returns false'. Refute it at one input. -/
def fnExactTurnedFormWrong : ChangeSpec := { name := "fnExactTurnedForm", fn := fun _ => fun
  | [d] => { results := [.lit (.bool false)], args := [d] }
  | _ => none }
def FnExactTurnedFormWrongFalsely : Prop := fnExactTurnedFormRow.holds Try.pinned (OpenSpec.ofChange fnExactTurnedFormWrong)

/- THE SECOND FORM. 'bulk': how many values and letters a reading holds, each counted each time it is reached (what is shared counts as often as it is met; a slice's spare places count too). A statement '..UptoSaid' is the law's where the arguments, and the package variables that the reading takes, are together of bulk at most 1048576: NARROWER than '..Said'. Prove '..Said' where nothing that the law and all that it calls make is longer than what came in: it says more and counts as full. Else prove '..UptoSaid'. A law counts once. -/
mutual
def uptoBulk {H : Type} : DataW H → Nat
  | .lit (.string bytes) => bytes.length + 1
  | .lit _ => 1
  | .nil => 1
  | .ptr d => uptoBulk d + 1
  | .slice elems spare => uptoBulkAll elems + uptoBulkAll spare + 1
  | .agg parts => uptoBulkAll parts + 1
  | .iface _ d => uptoBulk d + 1
  | .map entries => uptoBulkEntries entries + 1
  | .held _ => 1
def uptoBulkAll {H : Type} : List (DataW H) → Nat
  | [] => 0
  | d :: r => uptoBulk d + uptoBulkAll r
def uptoBulkEntries {H : Type} : List (Lit × DataW H) → Nat
  | [] => 0
  | x :: r => uptoBulkEntry x + uptoBulkEntries r
def uptoBulkEntry {H : Type} : Lit × DataW H → Nat
  | (.string bytes, d) => bytes.length + uptoBulk d + 1
  | (_, d) => uptoBulk d + 1
 end
def uptoSmall : (H : Type) → List (DataW H) → Bool := fun _ ds => decide (uptoBulkAll ds ≤ 1048576)
def OpenSpec.upto (s : _root_.Go.ChangeSpec) : _root_.Go.OpenSpec := { _root_.Go.OpenSpec.ofChange s with cond := some uptoSmall }

/-- 'laws.FnExchanges', WHERE WHAT IT READS IS OF BULK AT MOST 1048576: true; the input reads as it did. -/
def fnExchangesUptoRow : OpenClaim := { program := "ytoieaphacnaohaa", sum := "fc8920ae2ef9ed6533308740772b022ff8a1897a81645667bf97302203cc403c", func := "loop.example/g03101/laws.FnExchanges", spec := "fnExchanges", unfollowed := true, recurses := true, apart := false, narrowed := true }
def FnExchangesUptoSaid : Prop := fnExchangesUptoRow.holds Try.pinned (OpenSpec.upto fnExchangesSpec)

/-- 'laws.FnExactBubblePass', WHERE WHAT IT READS IS OF BULK AT MOST 1048576: true; the input reads as it did. -/
def fnExactBubblePassUptoRow : OpenClaim := { program := "ytoieaphacnaohaa", sum := "fc8920ae2ef9ed6533308740772b022ff8a1897a81645667bf97302203cc403c", func := "loop.example/g03101/laws.FnExactBubblePass", spec := "fnExactBubblePass", apart := false, narrowed := true }
def FnExactBubblePassUptoSaid : Prop := fnExactBubblePassUptoRow.holds Try.pinned (OpenSpec.upto fnExactBubblePassSpec)

/-- 'laws.FnExactBubbleTimes', WHERE WHAT IT READS IS OF BULK AT MOST 1048576: true; the input reads as it did. -/
def fnExactBubbleTimesUptoRow : OpenClaim := { program := "ytoieaphacnaohaa", sum := "fc8920ae2ef9ed6533308740772b022ff8a1897a81645667bf97302203cc403c", func := "loop.example/g03101/laws.FnExactBubbleTimes", spec := "fnExactBubbleTimes", unfollowed := true, recurses := true, apart := false, narrowed := true }
def FnExactBubbleTimesUptoSaid : Prop := fnExactBubbleTimesUptoRow.holds Try.pinned (OpenSpec.upto fnExactBubbleTimesSpec)

/-- 'laws.FnExactSelectionTrail', WHERE WHAT IT READS IS OF BULK AT MOST 1048576: true; the input reads as it did. -/
def fnExactSelectionTrailUptoRow : OpenClaim := { program := "ytoieaphacnaohaa", sum := "fc8920ae2ef9ed6533308740772b022ff8a1897a81645667bf97302203cc403c", func := "loop.example/g03101/laws.FnExactSelectionTrail", spec := "fnExactSelectionTrail", apart := false, narrowed := true }
def FnExactSelectionTrailUptoSaid : Prop := fnExactSelectionTrailUptoRow.holds Try.pinned (OpenSpec.upto fnExactSelectionTrailSpec)

/-- 'laws.FnExactInsertionSteps', WHERE WHAT IT READS IS OF BULK AT MOST 1048576: true; the input reads as it did. -/
def fnExactInsertionStepsUptoRow : OpenClaim := { program := "ytoieaphacnaohaa", sum := "fc8920ae2ef9ed6533308740772b022ff8a1897a81645667bf97302203cc403c", func := "loop.example/g03101/laws.FnExactInsertionSteps", spec := "fnExactInsertionSteps", apart := false, narrowed := true }
def FnExactInsertionStepsUptoSaid : Prop := fnExactInsertionStepsUptoRow.holds Try.pinned (OpenSpec.upto fnExactInsertionStepsSpec)

/-- 'laws.FnExactIsBubbleSorted', WHERE WHAT IT READS IS OF BULK AT MOST 1048576: true; the input reads as it did. -/
def fnExactIsBubbleSortedUptoRow : OpenClaim := { program := "ytoieaphacnaohaa", sum := "fc8920ae2ef9ed6533308740772b022ff8a1897a81645667bf97302203cc403c", func := "loop.example/g03101/laws.FnExactIsBubbleSorted", spec := "fnExactIsBubbleSorted", apart := false, narrowed := true }
def FnExactIsBubbleSortedUptoSaid : Prop := fnExactIsBubbleSortedUptoRow.holds Try.pinned (OpenSpec.upto fnExactIsBubbleSortedSpec)

/-- 'laws.FnExactCodeOf', WHERE WHAT IT READS IS OF BULK AT MOST 1048576: true; the input reads as it did. -/
def fnExactCodeOfUptoRow : OpenClaim := { program := "ytoieaphacnaohaa", sum := "fc8920ae2ef9ed6533308740772b022ff8a1897a81645667bf97302203cc403c", func := "loop.example/g03101/laws.FnExactCodeOf", spec := "fnExactCodeOf", apart := false, narrowed := true }
def FnExactCodeOfUptoSaid : Prop := fnExactCodeOfUptoRow.holds Try.pinned (OpenSpec.upto fnExactCodeOfSpec)

/-- 'laws.FnExactPermOfCode', WHERE WHAT IT READS IS OF BULK AT MOST 1048576: true; the input reads as it did. -/
def fnExactPermOfCodeUptoRow : OpenClaim := { program := "ytoieaphacnaohaa", sum := "fc8920ae2ef9ed6533308740772b022ff8a1897a81645667bf97302203cc403c", func := "loop.example/g03101/laws.FnExactPermOfCode", spec := "fnExactPermOfCode", apart := false, narrowed := true }
def FnExactPermOfCodeUptoSaid : Prop := fnExactPermOfCodeUptoRow.holds Try.pinned (OpenSpec.upto fnExactPermOfCodeSpec)

/-- 'laws.FnExactTurnedForm', WHERE WHAT IT READS IS OF BULK AT MOST 1048576: true; the input reads as it did. -/
def fnExactTurnedFormUptoRow : OpenClaim := { program := "ytoieaphacnaohaa", sum := "fc8920ae2ef9ed6533308740772b022ff8a1897a81645667bf97302203cc403c", func := "loop.example/g03101/laws.FnExactTurnedForm", spec := "fnExactTurnedForm", unfollowed := true, recurses := true, apart := false, narrowed := true }
def FnExactTurnedFormUptoSaid : Prop := fnExactTurnedFormUptoRow.holds Try.pinned (OpenSpec.upto fnExactTurnedFormSpec)

end Rows
end Go.Proofs.Ytoieaphacnaohaa
