/-
  No cell of these rows narrows 'for every input' (looked for: loops, veiled, ifaces, maps, wideKeys, modest, calm, conditions, laid).
  DERIVED. THE GIVEN ROWS OF THIS SEAT. 14 by the template 'for every input the law returns true; each argument reads behind the call as it read before'; 0 by the template 'total and deterministic' (their statements: YtmnbdphfoonleaaTotals.lean).
  GIVEN WITH THE SEED: the statements are not yours to turn. If you find one false, say at which input.
  Laid BY PROGRAM, IN A SANDBOX (cutbox-rows.mjs): the forced cells as the released guide's own fill.sh prints them over the translation 19e136ac31105c34… (all of the seat's roots in one cut). By AI agents, Wed Nov 11 2026. No macro, syntax, notation, axiom, sorry.
-/
import Derived.Test.YtmnbdphfoonleaaChecked
import GoSem.Claim
import GoSem.ClaimJoined
import GoSem.ClaimMapViews
import Derived.JoinedTies
import Derived.KernelRfl
namespace Go.Proofs.Ytmnbdphfoonleaa
/- THE CELL 'sum', in the pinned program and in every row, IS THE sha256 OF THE DUMP (.gsa) THAT YtmnbdphfoonleaaProg.lean LOADS. Nothing in Lean hashes anything: it is a label: what it is worth is what the hold of that sum in a sandbox is worth. -/
noncomputable def Try.pinned : Pinned := { name := "ytmnbdphfoonleaa", sum := "19e136ac31105c34757320065a126beeaa84a79189b12b9ced58e2f2b64bc1a8", checked := Try.checked }
namespace Rows
def none {H : Type} : Left H := { results := [], args := [] }

/-- 'laws.FnWords': WHATEVER THE INPUT: true; the input reads as it did. -/
def fnWordsSpec : ChangeSpec := { name := "fnWords", fn := fun _ => fun
  | [d] => { results := [.lit (.bool true)], args := [d] }
  | _ => none }
def fnWordsRow : OpenClaim := { program := "ytmnbdphfoonleaa", sum := "19e136ac31105c34757320065a126beeaa84a79189b12b9ced58e2f2b64bc1a8", func := "loop.example/g03101/laws.FnWords", spec := "fnWords", unfollowed := true, recurses := true, apart := false }
def FnWordsSaid : Prop := fnWordsRow.holds Try.pinned (OpenSpec.ofChange fnWordsSpec)

/-- ITS FALSE NEIGHBOUR: 'it returns false'. Refute it at one input. -/
def fnWordsWrong : ChangeSpec := { name := "fnWords", fn := fun _ => fun
  | [d] => { results := [.lit (.bool false)], args := [d] }
  | _ => none }
def FnWordsWrongFalsely : Prop := fnWordsRow.holds Try.pinned (OpenSpec.ofChange fnWordsWrong)

/-- 'laws.FnStrong': WHATEVER THE INPUT: true; the input reads as it did. -/
def fnStrongSpec : ChangeSpec := { name := "fnStrong", fn := fun _ => fun
  | [d] => { results := [.lit (.bool true)], args := [d] }
  | _ => none }
def fnStrongRow : OpenClaim := { program := "ytmnbdphfoonleaa", sum := "19e136ac31105c34757320065a126beeaa84a79189b12b9ced58e2f2b64bc1a8", func := "loop.example/g03101/laws.FnStrong", spec := "fnStrong", unfollowed := true, recurses := true, apart := false }
def FnStrongSaid : Prop := fnStrongRow.holds Try.pinned (OpenSpec.ofChange fnStrongSpec)

/-- ITS FALSE NEIGHBOUR: 'it returns false'. Refute it at one input. -/
def fnStrongWrong : ChangeSpec := { name := "fnStrong", fn := fun _ => fun
  | [d] => { results := [.lit (.bool false)], args := [d] }
  | _ => none }
def FnStrongWrongFalsely : Prop := fnStrongRow.holds Try.pinned (OpenSpec.ofChange fnStrongWrong)

/-- 'laws.FnExactWordPerm': WHATEVER THE INPUT: true; the input reads as it did. -/
def fnExactWordPermSpec : ChangeSpec := { name := "fnExactWordPerm", fn := fun _ => fun
  | [d1, d2] => { results := [.lit (.bool true)], args := [d1, d2] }
  | _ => none }
def fnExactWordPermRow : OpenClaim := { program := "ytmnbdphfoonleaa", sum := "19e136ac31105c34757320065a126beeaa84a79189b12b9ced58e2f2b64bc1a8", func := "loop.example/g03101/laws.FnExactWordPerm", spec := "fnExactWordPerm", unfollowed := true, recurses := true, apart := false }
def FnExactWordPermSaid : Prop := fnExactWordPermRow.holds Try.pinned (OpenSpec.ofChange fnExactWordPermSpec)

/-- ITS FALSE NEIGHBOUR: 'it returns false'. Refute it at one input. -/
def fnExactWordPermWrong : ChangeSpec := { name := "fnExactWordPerm", fn := fun _ => fun
  | [d1, d2] => { results := [.lit (.bool false)], args := [d1, d2] }
  | _ => none }
def FnExactWordPermWrongFalsely : Prop := fnExactWordPermRow.holds Try.pinned (OpenSpec.ofChange fnExactWordPermWrong)

/-- 'laws.FnExactIsReduced': WHATEVER THE INPUT: true; the input reads as it did. -/
def fnExactIsReducedSpec : ChangeSpec := { name := "fnExactIsReduced", fn := fun _ => fun
  | [d1, d2] => { results := [.lit (.bool true)], args := [d1, d2] }
  | _ => none }
def fnExactIsReducedRow : OpenClaim := { program := "ytmnbdphfoonleaa", sum := "19e136ac31105c34757320065a126beeaa84a79189b12b9ced58e2f2b64bc1a8", func := "loop.example/g03101/laws.FnExactIsReduced", spec := "fnExactIsReduced", unfollowed := true, recurses := true, apart := false }
def FnExactIsReducedSaid : Prop := fnExactIsReducedRow.holds Try.pinned (OpenSpec.ofChange fnExactIsReducedSpec)

/-- ITS FALSE NEIGHBOUR: 'it returns false'. Refute it at one input. -/
def fnExactIsReducedWrong : ChangeSpec := { name := "fnExactIsReduced", fn := fun _ => fun
  | [d1, d2] => { results := [.lit (.bool false)], args := [d1, d2] }
  | _ => none }
def FnExactIsReducedWrongFalsely : Prop := fnExactIsReducedRow.holds Try.pinned (OpenSpec.ofChange fnExactIsReducedWrong)

/-- 'laws.FnExactReducedWords': WHATEVER THE INPUT: true; the input reads as it did. -/
def fnExactReducedWordsSpec : ChangeSpec := { name := "fnExactReducedWords", fn := fun _ => fun
  | [d] => { results := [.lit (.bool true)], args := [d] }
  | _ => none }
def fnExactReducedWordsRow : OpenClaim := { program := "ytmnbdphfoonleaa", sum := "19e136ac31105c34757320065a126beeaa84a79189b12b9ced58e2f2b64bc1a8", func := "loop.example/g03101/laws.FnExactReducedWords", spec := "fnExactReducedWords", unfollowed := true, recurses := true, apart := false }
def FnExactReducedWordsSaid : Prop := fnExactReducedWordsRow.holds Try.pinned (OpenSpec.ofChange fnExactReducedWordsSpec)

/-- ITS FALSE NEIGHBOUR: 'it returns false'. Refute it at one input. -/
def fnExactReducedWordsWrong : ChangeSpec := { name := "fnExactReducedWords", fn := fun _ => fun
  | [d] => { results := [.lit (.bool false)], args := [d] }
  | _ => none }
def FnExactReducedWordsWrongFalsely : Prop := fnExactReducedWordsRow.holds Try.pinned (OpenSpec.ofChange fnExactReducedWordsWrong)

/-- 'laws.FnExactCountReduced': WHATEVER THE INPUT: true; the input reads as it did. -/
def fnExactCountReducedSpec : ChangeSpec := { name := "fnExactCountReduced", fn := fun _ => fun
  | [d] => { results := [.lit (.bool true)], args := [d] }
  | _ => none }
def fnExactCountReducedRow : OpenClaim := { program := "ytmnbdphfoonleaa", sum := "19e136ac31105c34757320065a126beeaa84a79189b12b9ced58e2f2b64bc1a8", func := "loop.example/g03101/laws.FnExactCountReduced", spec := "fnExactCountReduced", recurses := true, apart := false }
def FnExactCountReducedSaid : Prop := fnExactCountReducedRow.holds Try.pinned (OpenSpec.ofChange fnExactCountReducedSpec)

/-- ITS FALSE NEIGHBOUR: 'it returns false'. Refute it at one input. -/
def fnExactCountReducedWrong : ChangeSpec := { name := "fnExactCountReduced", fn := fun _ => fun
  | [d] => { results := [.lit (.bool false)], args := [d] }
  | _ => none }
def FnExactCountReducedWrongFalsely : Prop := fnExactCountReducedRow.holds Try.pinned (OpenSpec.ofChange fnExactCountReducedWrong)

/-- 'laws.FnExactWeakBelow': WHATEVER THE INPUT: true; the input reads as it did. -/
def fnExactWeakBelowSpec : ChangeSpec := { name := "fnExactWeakBelow", fn := fun _ => fun
  | [d1, d2] => { results := [.lit (.bool true)], args := [d1, d2] }
  | _ => none }
def fnExactWeakBelowRow : OpenClaim := { program := "ytmnbdphfoonleaa", sum := "19e136ac31105c34757320065a126beeaa84a79189b12b9ced58e2f2b64bc1a8", func := "loop.example/g03101/laws.FnExactWeakBelow", spec := "fnExactWeakBelow", apart := false }
def FnExactWeakBelowSaid : Prop := fnExactWeakBelowRow.holds Try.pinned (OpenSpec.ofChange fnExactWeakBelowSpec)

/-- ITS FALSE NEIGHBOUR: 'it returns false'. Refute it at one input. -/
def fnExactWeakBelowWrong : ChangeSpec := { name := "fnExactWeakBelow", fn := fun _ => fun
  | [d1, d2] => { results := [.lit (.bool false)], args := [d1, d2] }
  | _ => none }
def FnExactWeakBelowWrongFalsely : Prop := fnExactWeakBelowRow.holds Try.pinned (OpenSpec.ofChange fnExactWeakBelowWrong)

/-- 'laws.FnExactWeakCovers': WHATEVER THE INPUT: true; the input reads as it did. -/
def fnExactWeakCoversSpec : ChangeSpec := { name := "fnExactWeakCovers", fn := fun _ => fun
  | [d] => { results := [.lit (.bool true)], args := [d] }
  | _ => none }
def fnExactWeakCoversRow : OpenClaim := { program := "ytmnbdphfoonleaa", sum := "19e136ac31105c34757320065a126beeaa84a79189b12b9ced58e2f2b64bc1a8", func := "loop.example/g03101/laws.FnExactWeakCovers", spec := "fnExactWeakCovers", apart := false }
def FnExactWeakCoversSaid : Prop := fnExactWeakCoversRow.holds Try.pinned (OpenSpec.ofChange fnExactWeakCoversSpec)

/-- ITS FALSE NEIGHBOUR: 'it returns false'. Refute it at one input. -/
def fnExactWeakCoversWrong : ChangeSpec := { name := "fnExactWeakCovers", fn := fun _ => fun
  | [d] => { results := [.lit (.bool false)], args := [d] }
  | _ => none }
def FnExactWeakCoversWrongFalsely : Prop := fnExactWeakCoversRow.holds Try.pinned (OpenSpec.ofChange fnExactWeakCoversWrong)

/-- 'laws.FnExactStrongBelow': WHATEVER THE INPUT: true; the input reads as it did. -/
def fnExactStrongBelowSpec : ChangeSpec := { name := "fnExactStrongBelow", fn := fun _ => fun
  | [d1, d2] => { results := [.lit (.bool true)], args := [d1, d2] }
  | _ => none }
def fnExactStrongBelowRow : OpenClaim := { program := "ytmnbdphfoonleaa", sum := "19e136ac31105c34757320065a126beeaa84a79189b12b9ced58e2f2b64bc1a8", func := "loop.example/g03101/laws.FnExactStrongBelow", spec := "fnExactStrongBelow", apart := false }
def FnExactStrongBelowSaid : Prop := fnExactStrongBelowRow.holds Try.pinned (OpenSpec.ofChange fnExactStrongBelowSpec)

/-- ITS FALSE NEIGHBOUR: 'it returns false'. Refute it at one input. -/
def fnExactStrongBelowWrong : ChangeSpec := { name := "fnExactStrongBelow", fn := fun _ => fun
  | [d1, d2] => { results := [.lit (.bool false)], args := [d1, d2] }
  | _ => none }
def FnExactStrongBelowWrongFalsely : Prop := fnExactStrongBelowRow.holds Try.pinned (OpenSpec.ofChange fnExactStrongBelowWrong)

/-- 'laws.FnExactStrongCovers': WHATEVER THE INPUT: true; the input reads as it did. -/
def fnExactStrongCoversSpec : ChangeSpec := { name := "fnExactStrongCovers", fn := fun _ => fun
  | [d] => { results := [.lit (.bool true)], args := [d] }
  | _ => none }
def fnExactStrongCoversRow : OpenClaim := { program := "ytmnbdphfoonleaa", sum := "19e136ac31105c34757320065a126beeaa84a79189b12b9ced58e2f2b64bc1a8", func := "loop.example/g03101/laws.FnExactStrongCovers", spec := "fnExactStrongCovers", unfollowed := true, recurses := true, apart := false }
def FnExactStrongCoversSaid : Prop := fnExactStrongCoversRow.holds Try.pinned (OpenSpec.ofChange fnExactStrongCoversSpec)

/-- ITS FALSE NEIGHBOUR: 'it returns false'. Refute it at one input. -/
def fnExactStrongCoversWrong : ChangeSpec := { name := "fnExactStrongCovers", fn := fun _ => fun
  | [d] => { results := [.lit (.bool false)], args := [d] }
  | _ => none }
def FnExactStrongCoversWrongFalsely : Prop := fnExactStrongCoversRow.holds Try.pinned (OpenSpec.ofChange fnExactStrongCoversWrong)

/-- 'laws.FnExactBelowOf': WHATEVER THE INPUT: true; the input reads as it did. -/
def fnExactBelowOfSpec : ChangeSpec := { name := "fnExactBelowOf", fn := fun _ => fun
  | [d] => { results := [.lit (.bool true)], args := [d] }
  | _ => none }
def fnExactBelowOfRow : OpenClaim := { program := "ytmnbdphfoonleaa", sum := "19e136ac31105c34757320065a126beeaa84a79189b12b9ced58e2f2b64bc1a8", func := "loop.example/g03101/laws.FnExactBelowOf", spec := "fnExactBelowOf", recurses := true, apart := false }
def FnExactBelowOfSaid : Prop := fnExactBelowOfRow.holds Try.pinned (OpenSpec.ofChange fnExactBelowOfSpec)

/-- ITS FALSE NEIGHBOUR: 'it returns false'. Refute it at one input. -/
def fnExactBelowOfWrong : ChangeSpec := { name := "fnExactBelowOf", fn := fun _ => fun
  | [d] => { results := [.lit (.bool false)], args := [d] }
  | _ => none }
def FnExactBelowOfWrongFalsely : Prop := fnExactBelowOfRow.holds Try.pinned (OpenSpec.ofChange fnExactBelowOfWrong)

/-- 'laws.FnExactRankCounts': WHATEVER THE INPUT: true; the input reads as it did. -/
def fnExactRankCountsSpec : ChangeSpec := { name := "fnExactRankCounts", fn := fun _ => fun
  | [d] => { results := [.lit (.bool true)], args := [d] }
  | _ => none }
def fnExactRankCountsRow : OpenClaim := { program := "ytmnbdphfoonleaa", sum := "19e136ac31105c34757320065a126beeaa84a79189b12b9ced58e2f2b64bc1a8", func := "loop.example/g03101/laws.FnExactRankCounts", spec := "fnExactRankCounts", recurses := true, apart := false }
def FnExactRankCountsSaid : Prop := fnExactRankCountsRow.holds Try.pinned (OpenSpec.ofChange fnExactRankCountsSpec)

/-- ITS FALSE NEIGHBOUR: 'it returns false'. Refute it at one input. -/
def fnExactRankCountsWrong : ChangeSpec := { name := "fnExactRankCounts", fn := fun _ => fun
  | [d] => { results := [.lit (.bool false)], args := [d] }
  | _ => none }
def FnExactRankCountsWrongFalsely : Prop := fnExactRankCountsRow.holds Try.pinned (OpenSpec.ofChange fnExactRankCountsWrong)

/-- 'laws.FnExactIsStrongChain': WHATEVER THE INPUT: true; the input reads as it did. -/
def fnExactIsStrongChainSpec : ChangeSpec := { name := "fnExactIsStrongChain", fn := fun _ => fun
  | [d] => { results := [.lit (.bool true)], args := [d] }
  | _ => none }
def fnExactIsStrongChainRow : OpenClaim := { program := "ytmnbdphfoonleaa", sum := "19e136ac31105c34757320065a126beeaa84a79189b12b9ced58e2f2b64bc1a8", func := "loop.example/g03101/laws.FnExactIsStrongChain", spec := "fnExactIsStrongChain", unfollowed := true, recurses := true, apart := false }
def FnExactIsStrongChainSaid : Prop := fnExactIsStrongChainRow.holds Try.pinned (OpenSpec.ofChange fnExactIsStrongChainSpec)

/-- ITS FALSE NEIGHBOUR: 'it returns false'. Refute it at one input. -/
def fnExactIsStrongChainWrong : ChangeSpec := { name := "fnExactIsStrongChain", fn := fun _ => fun
  | [d] => { results := [.lit (.bool false)], args := [d] }
  | _ => none }
def FnExactIsStrongChainWrongFalsely : Prop := fnExactIsStrongChainRow.holds Try.pinned (OpenSpec.ofChange fnExactIsStrongChainWrong)

/-- 'laws.FnExactSubwordBelow': WHATEVER THE INPUT: true; the input reads as it did. -/
def fnExactSubwordBelowSpec : ChangeSpec := { name := "fnExactSubwordBelow", fn := fun _ => fun
  | [d1, d2, d3] => { results := [.lit (.bool true)], args := [d1, d2, d3] }
  | _ => none }
def fnExactSubwordBelowRow : OpenClaim := { program := "ytmnbdphfoonleaa", sum := "19e136ac31105c34757320065a126beeaa84a79189b12b9ced58e2f2b64bc1a8", func := "loop.example/g03101/laws.FnExactSubwordBelow", spec := "fnExactSubwordBelow", unfollowed := true, recurses := true, apart := false }
def FnExactSubwordBelowSaid : Prop := fnExactSubwordBelowRow.holds Try.pinned (OpenSpec.ofChange fnExactSubwordBelowSpec)

/-- ITS FALSE NEIGHBOUR: 'it returns false'. Refute it at one input. -/
def fnExactSubwordBelowWrong : ChangeSpec := { name := "fnExactSubwordBelow", fn := fun _ => fun
  | [d1, d2, d3] => { results := [.lit (.bool false)], args := [d1, d2, d3] }
  | _ => none }
def FnExactSubwordBelowWrongFalsely : Prop := fnExactSubwordBelowRow.holds Try.pinned (OpenSpec.ofChange fnExactSubwordBelowWrong)

/- THE SECOND FORM. 'bulk': how many values and letters a reading holds, each counted each time it is reached (what is shared counts as often as it is met; a slice's spare places count too). A statement '..UptoSaid' is the law's where the arguments, and the package variables that the reading takes, are together of bulk at most 1048576: NARROWER than '..Said'. Prove '..Said' where nothing that the law and all that it calls make is longer than what came in: it says more and counts as full. Else prove '..UptoSaid'. A law counts once. -/
mutual
def uptoBulk {H : Type} : DataW H → Nat
  | .lit (.string bytes) => bytes.length + 1
  | .lit _ => 1
  | .nil => 1
  | .ptr d => uptoBulk d + 1
  | .slice elems spare => uptoBulkAll elems + uptoBulkAll spare + 1
  | .agg parts => uptoBulkAll parts + 1
  | .iface _ d => uptoBulk d + 1
  | .map entries => uptoBulkEntries entries + 1
  | .held _ => 1
def uptoBulkAll {H : Type} : List (DataW H) → Nat
  | [] => 0
  | d :: r => uptoBulk d + uptoBulkAll r
def uptoBulkEntries {H : Type} : List (Lit × DataW H) → Nat
  | [] => 0
  | x :: r => uptoBulkEntry x + uptoBulkEntries r
def uptoBulkEntry {H : Type} : Lit × DataW H → Nat
  | (.string bytes, d) => bytes.length + uptoBulk d + 1
  | (_, d) => uptoBulk d + 1
 end
def uptoSmall : (H : Type) → List (DataW H) → Bool := fun _ ds => decide (uptoBulkAll ds ≤ 1048576)
def OpenSpec.upto (s : _root_.Go.ChangeSpec) : _root_.Go.OpenSpec := { _root_.Go.OpenSpec.ofChange s with cond := some uptoSmall }

/-- 'laws.FnWords', WHERE WHAT IT READS IS OF BULK AT MOST 1048576: true; the input reads as it did. -/
def fnWordsUptoRow : OpenClaim := { program := "ytmnbdphfoonleaa", sum := "19e136ac31105c34757320065a126beeaa84a79189b12b9ced58e2f2b64bc1a8", func := "loop.example/g03101/laws.FnWords", spec := "fnWords", unfollowed := true, recurses := true, apart := false, narrowed := true }
def FnWordsUptoSaid : Prop := fnWordsUptoRow.holds Try.pinned (OpenSpec.upto fnWordsSpec)

/-- 'laws.FnStrong', WHERE WHAT IT READS IS OF BULK AT MOST 1048576: true; the input reads as it did. -/
def fnStrongUptoRow : OpenClaim := { program := "ytmnbdphfoonleaa", sum := "19e136ac31105c34757320065a126beeaa84a79189b12b9ced58e2f2b64bc1a8", func := "loop.example/g03101/laws.FnStrong", spec := "fnStrong", unfollowed := true, recurses := true, apart := false, narrowed := true }
def FnStrongUptoSaid : Prop := fnStrongUptoRow.holds Try.pinned (OpenSpec.upto fnStrongSpec)

/-- 'laws.FnExactWordPerm', WHERE WHAT IT READS IS OF BULK AT MOST 1048576: true; the input reads as it did. -/
def fnExactWordPermUptoRow : OpenClaim := { program := "ytmnbdphfoonleaa", sum := "19e136ac31105c34757320065a126beeaa84a79189b12b9ced58e2f2b64bc1a8", func := "loop.example/g03101/laws.FnExactWordPerm", spec := "fnExactWordPerm", unfollowed := true, recurses := true, apart := false, narrowed := true }
def FnExactWordPermUptoSaid : Prop := fnExactWordPermUptoRow.holds Try.pinned (OpenSpec.upto fnExactWordPermSpec)

/-- 'laws.FnExactIsReduced', WHERE WHAT IT READS IS OF BULK AT MOST 1048576: true; the input reads as it did. -/
def fnExactIsReducedUptoRow : OpenClaim := { program := "ytmnbdphfoonleaa", sum := "19e136ac31105c34757320065a126beeaa84a79189b12b9ced58e2f2b64bc1a8", func := "loop.example/g03101/laws.FnExactIsReduced", spec := "fnExactIsReduced", unfollowed := true, recurses := true, apart := false, narrowed := true }
def FnExactIsReducedUptoSaid : Prop := fnExactIsReducedUptoRow.holds Try.pinned (OpenSpec.upto fnExactIsReducedSpec)

/-- 'laws.FnExactReducedWords', WHERE WHAT IT READS IS OF BULK AT MOST 1048576: true; the input reads as it did. -/
def fnExactReducedWordsUptoRow : OpenClaim := { program := "ytmnbdphfoonleaa", sum := "19e136ac31105c34757320065a126beeaa84a79189b12b9ced58e2f2b64bc1a8", func := "loop.example/g03101/laws.FnExactReducedWords", spec := "fnExactReducedWords", unfollowed := true, recurses := true, apart := false, narrowed := true }
def FnExactReducedWordsUptoSaid : Prop := fnExactReducedWordsUptoRow.holds Try.pinned (OpenSpec.upto fnExactReducedWordsSpec)

/-- 'laws.FnExactCountReduced', WHERE WHAT IT READS IS OF BULK AT MOST 1048576: true; the input reads as it did. -/
def fnExactCountReducedUptoRow : OpenClaim := { program := "ytmnbdphfoonleaa", sum := "19e136ac31105c34757320065a126beeaa84a79189b12b9ced58e2f2b64bc1a8", func := "loop.example/g03101/laws.FnExactCountReduced", spec := "fnExactCountReduced", recurses := true, apart := false, narrowed := true }
def FnExactCountReducedUptoSaid : Prop := fnExactCountReducedUptoRow.holds Try.pinned (OpenSpec.upto fnExactCountReducedSpec)

/-- 'laws.FnExactWeakBelow', WHERE WHAT IT READS IS OF BULK AT MOST 1048576: true; the input reads as it did. -/
def fnExactWeakBelowUptoRow : OpenClaim := { program := "ytmnbdphfoonleaa", sum := "19e136ac31105c34757320065a126beeaa84a79189b12b9ced58e2f2b64bc1a8", func := "loop.example/g03101/laws.FnExactWeakBelow", spec := "fnExactWeakBelow", apart := false, narrowed := true }
def FnExactWeakBelowUptoSaid : Prop := fnExactWeakBelowUptoRow.holds Try.pinned (OpenSpec.upto fnExactWeakBelowSpec)

/-- 'laws.FnExactWeakCovers', WHERE WHAT IT READS IS OF BULK AT MOST 1048576: true; the input reads as it did. -/
def fnExactWeakCoversUptoRow : OpenClaim := { program := "ytmnbdphfoonleaa", sum := "19e136ac31105c34757320065a126beeaa84a79189b12b9ced58e2f2b64bc1a8", func := "loop.example/g03101/laws.FnExactWeakCovers", spec := "fnExactWeakCovers", apart := false, narrowed := true }
def FnExactWeakCoversUptoSaid : Prop := fnExactWeakCoversUptoRow.holds Try.pinned (OpenSpec.upto fnExactWeakCoversSpec)

/-- 'laws.FnExactStrongBelow', WHERE WHAT IT READS IS OF BULK AT MOST 1048576: true; the input reads as it did. -/
def fnExactStrongBelowUptoRow : OpenClaim := { program := "ytmnbdphfoonleaa", sum := "19e136ac31105c34757320065a126beeaa84a79189b12b9ced58e2f2b64bc1a8", func := "loop.example/g03101/laws.FnExactStrongBelow", spec := "fnExactStrongBelow", apart := false, narrowed := true }
def FnExactStrongBelowUptoSaid : Prop := fnExactStrongBelowUptoRow.holds Try.pinned (OpenSpec.upto fnExactStrongBelowSpec)

/-- 'laws.FnExactStrongCovers', WHERE WHAT IT READS IS OF BULK AT MOST 1048576: true; the input reads as it did. -/
def fnExactStrongCoversUptoRow : OpenClaim := { program := "ytmnbdphfoonleaa", sum := "19e136ac31105c34757320065a126beeaa84a79189b12b9ced58e2f2b64bc1a8", func := "loop.example/g03101/laws.FnExactStrongCovers", spec := "fnExactStrongCovers", unfollowed := true, recurses := true, apart := false, narrowed := true }
def FnExactStrongCoversUptoSaid : Prop := fnExactStrongCoversUptoRow.holds Try.pinned (OpenSpec.upto fnExactStrongCoversSpec)

/-- 'laws.FnExactBelowOf', WHERE WHAT IT READS IS OF BULK AT MOST 1048576: true; the input reads as it did. -/
def fnExactBelowOfUptoRow : OpenClaim := { program := "ytmnbdphfoonleaa", sum := "19e136ac31105c34757320065a126beeaa84a79189b12b9ced58e2f2b64bc1a8", func := "loop.example/g03101/laws.FnExactBelowOf", spec := "fnExactBelowOf", recurses := true, apart := false, narrowed := true }
def FnExactBelowOfUptoSaid : Prop := fnExactBelowOfUptoRow.holds Try.pinned (OpenSpec.upto fnExactBelowOfSpec)

/-- 'laws.FnExactRankCounts', WHERE WHAT IT READS IS OF BULK AT MOST 1048576: true; the input reads as it did. -/
def fnExactRankCountsUptoRow : OpenClaim := { program := "ytmnbdphfoonleaa", sum := "19e136ac31105c34757320065a126beeaa84a79189b12b9ced58e2f2b64bc1a8", func := "loop.example/g03101/laws.FnExactRankCounts", spec := "fnExactRankCounts", recurses := true, apart := false, narrowed := true }
def FnExactRankCountsUptoSaid : Prop := fnExactRankCountsUptoRow.holds Try.pinned (OpenSpec.upto fnExactRankCountsSpec)

/-- 'laws.FnExactIsStrongChain', WHERE WHAT IT READS IS OF BULK AT MOST 1048576: true; the input reads as it did. -/
def fnExactIsStrongChainUptoRow : OpenClaim := { program := "ytmnbdphfoonleaa", sum := "19e136ac31105c34757320065a126beeaa84a79189b12b9ced58e2f2b64bc1a8", func := "loop.example/g03101/laws.FnExactIsStrongChain", spec := "fnExactIsStrongChain", unfollowed := true, recurses := true, apart := false, narrowed := true }
def FnExactIsStrongChainUptoSaid : Prop := fnExactIsStrongChainUptoRow.holds Try.pinned (OpenSpec.upto fnExactIsStrongChainSpec)

/-- 'laws.FnExactSubwordBelow', WHERE WHAT IT READS IS OF BULK AT MOST 1048576: true; the input reads as it did. -/
def fnExactSubwordBelowUptoRow : OpenClaim := { program := "ytmnbdphfoonleaa", sum := "19e136ac31105c34757320065a126beeaa84a79189b12b9ced58e2f2b64bc1a8", func := "loop.example/g03101/laws.FnExactSubwordBelow", spec := "fnExactSubwordBelow", unfollowed := true, recurses := true, apart := false, narrowed := true }
def FnExactSubwordBelowUptoSaid : Prop := fnExactSubwordBelowUptoRow.holds Try.pinned (OpenSpec.upto fnExactSubwordBelowSpec)

end Rows
end Go.Proofs.Ytmnbdphfoonleaa
