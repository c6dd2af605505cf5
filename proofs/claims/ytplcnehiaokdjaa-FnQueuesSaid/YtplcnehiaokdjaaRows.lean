/-
  No cell of these rows narrows 'for every input' (looked for: loops, veiled, ifaces, maps, wideKeys, modest, calm, conditions, laid).
  DERIVED. THE GIVEN ROWS OF THIS SEAT. 8 by the template 'for every input the law returns true; each argument reads behind the call as it read before'; 0 by the template 'total and deterministic' (their statements: YtplcnehiaokdjaaTotals.lean).
  GIVEN WITH THE SEED: the statements are not yours to turn. If you find one false, say at which input.
  Laid BY PROGRAM, IN A SANDBOX (cutbox-rows.mjs): the forced cells as the released guide's own fill.sh prints them over the translation a63df037022fd3db… (all of the seat's roots in one cut). By AI agents, Wed Nov 11 2026. No macro, syntax, notation, axiom, sorry.
-/
import Derived.Test.YtplcnehiaokdjaaChecked
import GoSem.Claim
import GoSem.ClaimJoined
import GoSem.ClaimMapViews
import Derived.JoinedTies
import Derived.KernelRfl
namespace Go.Proofs.Ytplcnehiaokdjaa
/- THE CELL 'sum', in the pinned program and in every row, IS THE sha256 OF THE DUMP (.gsa) THAT YtplcnehiaokdjaaProg.lean LOADS. Nothing in Lean hashes anything: it is a label: what it is worth is what the hold of that sum in a sandbox is worth. -/
noncomputable def Try.pinned : Pinned := { name := "ytplcnehiaokdjaa", sum := "a63df037022fd3db6165ed21583b410b57d28d22480d8af1a909b9ade08acf0d", checked := Try.checked }
namespace Rows
def none {H : Type} : Left H := { results := [], args := [] }

/-- 'laws.FnQueues': WHATEVER THE INPUT: true; the input reads as it did. -/
def fnQueuesSpec : ChangeSpec := { name := "fnQueues", fn := fun _ => fun
  | [d] => { results := [.lit (.bool true)], args := [d] }
  | _ => none }
def fnQueuesRow : OpenClaim := { program := "ytplcnehiaokdjaa", sum := "a63df037022fd3db6165ed21583b410b57d28d22480d8af1a909b9ade08acf0d", func := "loop.example/g03101/laws.FnQueues", spec := "fnQueues", unfollowed := true, recurses := true, apart := false }
def FnQueuesSaid : Prop := fnQueuesRow.holds Try.pinned (OpenSpec.ofChange fnQueuesSpec)

/-- ITS FALSE NEIGHBOUR: 'it returns false'. Refute it at one input. -/
def fnQueuesWrong : ChangeSpec := { name := "fnQueues", fn := fun _ => fun
  | [d] => { results := [.lit (.bool false)], args := [d] }
  | _ => none }
def FnQueuesWrongFalsely : Prop := fnQueuesRow.holds Try.pinned (OpenSpec.ofChange fnQueuesWrong)

/-- 'laws.FnExactQueuePlan': WHATEVER THE INPUT: true; the input reads as it did. -/
def fnExactQueuePlanSpec : ChangeSpec := { name := "fnExactQueuePlan", fn := fun _ => fun
  | [d] => { results := [.lit (.bool true)], args := [d] }
  | _ => none }
def fnExactQueuePlanRow : OpenClaim := { program := "ytplcnehiaokdjaa", sum := "a63df037022fd3db6165ed21583b410b57d28d22480d8af1a909b9ade08acf0d", func := "loop.example/g03101/laws.FnExactQueuePlan", spec := "fnExactQueuePlan", apart := false }
def FnExactQueuePlanSaid : Prop := fnExactQueuePlanRow.holds Try.pinned (OpenSpec.ofChange fnExactQueuePlanSpec)

/-- ITS FALSE NEIGHBOUR: 'it returns false'. Refute it at one input. -/
def fnExactQueuePlanWrong : ChangeSpec := { name := "fnExactQueuePlan", fn := fun _ => fun
  | [d] => { results := [.lit (.bool false)], args := [d] }
  | _ => none }
def FnExactQueuePlanWrongFalsely : Prop := fnExactQueuePlanRow.holds Try.pinned (OpenSpec.ofChange fnExactQueuePlanWrong)

/-- 'laws.FnExactCountQueues': WHATEVER THE INPUT: true; the input reads as it did. -/
def fnExactCountQueuesSpec : ChangeSpec := { name := "fnExactCountQueues", fn := fun _ => fun
  | [d] => { results := [.lit (.bool true)], args := [d] }
  | _ => none }
def fnExactCountQueuesRow : OpenClaim := { program := "ytplcnehiaokdjaa", sum := "a63df037022fd3db6165ed21583b410b57d28d22480d8af1a909b9ade08acf0d", func := "loop.example/g03101/laws.FnExactCountQueues", spec := "fnExactCountQueues", apart := false }
def FnExactCountQueuesSaid : Prop := fnExactCountQueuesRow.holds Try.pinned (OpenSpec.ofChange fnExactCountQueuesSpec)

/-- ITS FALSE NEIGHBOUR: 'it returns false'. Refute it at one input. -/
def fnExactCountQueuesWrong : ChangeSpec := { name := "fnExactCountQueues", fn := fun _ => fun
  | [d] => { results := [.lit (.bool false)], args := [d] }
  | _ => none }
def FnExactCountQueuesWrongFalsely : Prop := fnExactCountQueuesRow.holds Try.pinned (OpenSpec.ofChange fnExactCountQueuesWrong)

/-- 'laws.FnExactRunPlan': WHATEVER THE INPUT: true; the input reads as it did. -/
def fnExactRunPlanSpec : ChangeSpec := { name := "fnExactRunPlan", fn := fun _ => fun
  | [d1, d2] => { results := [.lit (.bool true)], args := [d1, d2] }
  | _ => none }
def fnExactRunPlanRow : OpenClaim := { program := "ytplcnehiaokdjaa", sum := "a63df037022fd3db6165ed21583b410b57d28d22480d8af1a909b9ade08acf0d", func := "loop.example/g03101/laws.FnExactRunPlan", spec := "fnExactRunPlan", apart := false }
def FnExactRunPlanSaid : Prop := fnExactRunPlanRow.holds Try.pinned (OpenSpec.ofChange fnExactRunPlanSpec)

/-- ITS FALSE NEIGHBOUR: 'it returns false'. Refute it at one input. -/
def fnExactRunPlanWrong : ChangeSpec := { name := "fnExactRunPlan", fn := fun _ => fun
  | [d1, d2] => { results := [.lit (.bool false)], args := [d1, d2] }
  | _ => none }
def FnExactRunPlanWrongFalsely : Prop := fnExactRunPlanRow.holds Try.pinned (OpenSpec.ofChange fnExactRunPlanWrong)

/-- 'laws.FnExactSortsByPlan': WHATEVER THE INPUT: true; the input reads as it did. -/
def fnExactSortsByPlanSpec : ChangeSpec := { name := "fnExactSortsByPlan", fn := fun _ => fun
  | [d1, d2] => { results := [.lit (.bool true)], args := [d1, d2] }
  | _ => none }
def fnExactSortsByPlanRow : OpenClaim := { program := "ytplcnehiaokdjaa", sum := "a63df037022fd3db6165ed21583b410b57d28d22480d8af1a909b9ade08acf0d", func := "loop.example/g03101/laws.FnExactSortsByPlan", spec := "fnExactSortsByPlan", apart := false }
def FnExactSortsByPlanSaid : Prop := fnExactSortsByPlanRow.holds Try.pinned (OpenSpec.ofChange fnExactSortsByPlanSpec)

/-- ITS FALSE NEIGHBOUR: 'it returns false'. Refute it at one input. -/
def fnExactSortsByPlanWrong : ChangeSpec := { name := "fnExactSortsByPlan", fn := fun _ => fun
  | [d1, d2] => { results := [.lit (.bool false)], args := [d1, d2] }
  | _ => none }
def FnExactSortsByPlanWrongFalsely : Prop := fnExactSortsByPlanRow.holds Try.pinned (OpenSpec.ofChange fnExactSortsByPlanWrong)

/-- 'laws.FnExactFewestQueues': WHATEVER THE INPUT: true; the input reads as it did. -/
def fnExactFewestQueuesSpec : ChangeSpec := { name := "fnExactFewestQueues", fn := fun _ => fun
  | [d1, d2] => { results := [.lit (.bool true)], args := [d1, d2] }
  | _ => none }
def fnExactFewestQueuesRow : OpenClaim := { program := "ytplcnehiaokdjaa", sum := "a63df037022fd3db6165ed21583b410b57d28d22480d8af1a909b9ade08acf0d", func := "loop.example/g03101/laws.FnExactFewestQueues", spec := "fnExactFewestQueues", unfollowed := true, recurses := true, apart := false }
def FnExactFewestQueuesSaid : Prop := fnExactFewestQueuesRow.holds Try.pinned (OpenSpec.ofChange fnExactFewestQueuesSpec)

/-- ITS FALSE NEIGHBOUR: 'it returns false'. Refute it at one input. -/
def fnExactFewestQueuesWrong : ChangeSpec := { name := "fnExactFewestQueues", fn := fun _ => fun
  | [d1, d2] => { results := [.lit (.bool false)], args := [d1, d2] }
  | _ => none }
def FnExactFewestQueuesWrongFalsely : Prop := fnExactFewestQueuesRow.holds Try.pinned (OpenSpec.ofChange fnExactFewestQueuesWrong)

/-- 'laws.FnExactMovesFor': WHATEVER THE INPUT: true; the input reads as it did. -/
def fnExactMovesForSpec : ChangeSpec := { name := "fnExactMovesFor", fn := fun _ => fun
  | [d] => { results := [.lit (.bool true)], args := [d] }
  | _ => none }
def fnExactMovesForRow : OpenClaim := { program := "ytplcnehiaokdjaa", sum := "a63df037022fd3db6165ed21583b410b57d28d22480d8af1a909b9ade08acf0d", func := "loop.example/g03101/laws.FnExactMovesFor", spec := "fnExactMovesFor", apart := false }
def FnExactMovesForSaid : Prop := fnExactMovesForRow.holds Try.pinned (OpenSpec.ofChange fnExactMovesForSpec)

/-- ITS FALSE NEIGHBOUR: 'it returns false'. Refute it at one input. -/
def fnExactMovesForWrong : ChangeSpec := { name := "fnExactMovesFor", fn := fun _ => fun
  | [d] => { results := [.lit (.bool false)], args := [d] }
  | _ => none }
def FnExactMovesForWrongFalsely : Prop := fnExactMovesForRow.holds Try.pinned (OpenSpec.ofChange fnExactMovesForWrong)

/-- 'laws.FnExactSortingMoves': WHATEVER THE INPUT: true; the input reads as it did. -/
def fnExactSortingMovesSpec : ChangeSpec := { name := "fnExactSortingMoves", fn := fun _ => fun
  | [d] => { results := [.lit (.bool true)], args := [d] }
  | _ => none }
def fnExactSortingMovesRow : OpenClaim := { program := "ytplcnehiaokdjaa", sum := "a63df037022fd3db6165ed21583b410b57d28d22480d8af1a909b9ade08acf0d", func := "loop.example/g03101/laws.FnExactSortingMoves", spec := "fnExactSortingMoves", apart := false }
def FnExactSortingMovesSaid : Prop := fnExactSortingMovesRow.holds Try.pinned (OpenSpec.ofChange fnExactSortingMovesSpec)

/-- ITS FALSE NEIGHBOUR: 'it returns false'. Refute it at one input. -/
def fnExactSortingMovesWrong : ChangeSpec := { name := "fnExactSortingMoves", fn := fun _ => fun
  | [d] => { results := [.lit (.bool false)], args := [d] }
  | _ => none }
def FnExactSortingMovesWrongFalsely : Prop := fnExactSortingMovesRow.holds Try.pinned (OpenSpec.ofChange fnExactSortingMovesWrong)

/- THE SECOND FORM. 'bulk': how many values and letters a reading holds, each counted each time it is reached (what is shared counts as often as it is met; a slice's spare places count too). A statement '..UptoSaid' is the law's where the arguments, and the package variables that the reading takes, are together of bulk at most 1048576: NARROWER than '..Said'. Prove '..Said' where nothing that the law and all that it calls make is longer than what came in: it says more and counts as full. Else prove '..UptoSaid'. A law counts once. -/
mutual
def uptoBulk {H : Type} : DataW H → Nat
  | .lit (.string bytes) => bytes.length + 1
  | .lit _ => 1
  | .nil => 1
  | .ptr d => uptoBulk d + 1
  | .slice elems spare => uptoBulkAll elems + uptoBulkAll spare + 1
  | .agg parts => uptoBulkAll parts + 1
  | .iface _ d => uptoBulk d + 1
  | .map entries => uptoBulkEntries entries + 1
  | .held _ => 1
def uptoBulkAll {H : Type} : List (DataW H) → Nat
  | [] => 0
  | d :: r => uptoBulk d + uptoBulkAll r
def uptoBulkEntries {H : Type} : List (Lit × DataW H) → Nat
  | [] => 0
  | x :: r => uptoBulkEntry x + uptoBulkEntries r
def uptoBulkEntry {H : Type} : Lit × DataW H → Nat
  | (.string bytes, d) => bytes.length + uptoBulk d + 1
  | (_, d) => uptoBulk d + 1
 end
def uptoSmall : (H : Type) → List (DataW H) → Bool := fun _ ds => decide (uptoBulkAll ds ≤ 1048576)
def OpenSpec.upto (s : _root_.Go.ChangeSpec) : _root_.Go.OpenSpec := { _root_.Go.OpenSpec.ofChange s with cond := some uptoSmall }

/-- 'laws.FnQueues', WHERE WHAT IT READS IS OF BULK AT MOST 1048576: true; the input reads as it did. -/
def fnQueuesUptoRow : OpenClaim := { program := "ytplcnehiaokdjaa", sum := "a63df037022fd3db6165ed21583b410b57d28d22480d8af1a909b9ade08acf0d", func := "loop.example/g03101/laws.FnQueues", spec := "fnQueues", unfollowed := true, recurses := true, apart := false, narrowed := true }
def FnQueuesUptoSaid : Prop := fnQueuesUptoRow.holds Try.pinned (OpenSpec.upto fnQueuesSpec)

/-- 'laws.FnExactQueuePlan', WHERE WHAT IT READS IS OF BULK AT MOST 1048576: true; the input reads as it did. -/
def fnExactQueuePlanUptoRow : OpenClaim := { program := "ytplcnehiaokdjaa", sum := "a63df037022fd3db6165ed21583b410b57d28d22480d8af1a909b9ade08acf0d", func := "loop.example/g03101/laws.FnExactQueuePlan", spec := "fnExactQueuePlan", apart := false, narrowed := true }
def FnExactQueuePlanUptoSaid : Prop := fnExactQueuePlanUptoRow.holds Try.pinned (OpenSpec.upto fnExactQueuePlanSpec)

/-- 'laws.FnExactCountQueues', WHERE WHAT IT READS IS OF BULK AT MOST 1048576: true; the input reads as it did. -/
def fnExactCountQueuesUptoRow : OpenClaim := { program := "ytplcnehiaokdjaa", sum := "a63df037022fd3db6165ed21583b410b57d28d22480d8af1a909b9ade08acf0d", func := "loop.example/g03101/laws.FnExactCountQueues", spec := "fnExactCountQueues", apart := false, narrowed := true }
def FnExactCountQueuesUptoSaid : Prop := fnExactCountQueuesUptoRow.holds Try.pinned (OpenSpec.upto fnExactCountQueuesSpec)

/-- 'laws.FnExactRunPlan', WHERE WHAT IT READS IS OF BULK AT MOST 1048576: true; the input reads as it did. -/
def fnExactRunPlanUptoRow : OpenClaim := { program := "ytplcnehiaokdjaa", sum := "a63df037022fd3db6165ed21583b410b57d28d22480d8af1a909b9ade08acf0d", func := "loop.example/g03101/laws.FnExactRunPlan", spec := "fnExactRunPlan", apart := false, narrowed := true }
def FnExactRunPlanUptoSaid : Prop := fnExactRunPlanUptoRow.holds Try.pinned (OpenSpec.upto fnExactRunPlanSpec)

/-- 'laws.FnExactSortsByPlan', WHERE WHAT IT READS IS OF BULK AT MOST 1048576: true; the input reads as it did. -/
def fnExactSortsByPlanUptoRow : OpenClaim := { program := "ytplcnehiaokdjaa", sum := "a63df037022fd3db6165ed21583b410b57d28d22480d8af1a909b9ade08acf0d", func := "loop.example/g03101/laws.FnExactSortsByPlan", spec := "fnExactSortsByPlan", apart := false, narrowed := true }
def FnExactSortsByPlanUptoSaid : Prop := fnExactSortsByPlanUptoRow.holds Try.pinned (OpenSpec.upto fnExactSortsByPlanSpec)

/-- 'laws.FnExactFewestQueues', WHERE WHAT IT READS IS OF BULK AT MOST 1048576: true; the input reads as it did. -/
def fnExactFewestQueuesUptoRow : OpenClaim := { program := "ytplcnehiaokdjaa", sum := "a63df037022fd3db6165ed21583b410b57d28d22480d8af1a909b9ade08acf0d", func := "loop.example/g03101/laws.FnExactFewestQueues", spec := "fnExactFewestQueues", unfollowed := true, recurses := true, apart := false, narrowed := true }
def FnExactFewestQueuesUptoSaid : Prop := fnExactFewestQueuesUptoRow.holds Try.pinned (OpenSpec.upto fnExactFewestQueuesSpec)

/-- 'laws.FnExactMovesFor', WHERE WHAT IT READS IS OF BULK AT MOST 1048576: true; the input reads as it did. -/
def fnExactMovesForUptoRow : OpenClaim := { program := "ytplcnehiaokdjaa", sum := "a63df037022fd3db6165ed21583b410b57d28d22480d8af1a909b9ade08acf0d", func := "loop.example/g03101/laws.FnExactMovesFor", spec := "fnExactMovesFor", apart := false, narrowed := true }
def FnExactMovesForUptoSaid : Prop := fnExactMovesForUptoRow.holds Try.pinned (OpenSpec.upto fnExactMovesForSpec)

/-- 'laws.FnExactSortingMoves', WHERE WHAT IT READS IS OF BULK AT MOST 1048576: true; the input reads as it did. -/
def fnExactSortingMovesUptoRow : OpenClaim := { program := "ytplcnehiaokdjaa", sum := "a63df037022fd3db6165ed21583b410b57d28d22480d8af1a909b9ade08acf0d", func := "loop.example/g03101/laws.FnExactSortingMoves", spec := "fnExactSortingMoves", apart := false, narrowed := true }
def FnExactSortingMovesUptoSaid : Prop := fnExactSortingMovesUptoRow.holds Try.pinned (OpenSpec.upto fnExactSortingMovesSpec)

end Rows
end Go.Proofs.Ytplcnehiaokdjaa
