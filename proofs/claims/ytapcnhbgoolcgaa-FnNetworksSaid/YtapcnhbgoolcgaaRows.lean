/-
  No cell of these rows narrows 'for every input' (looked for: loops, veiled, ifaces, maps, wideKeys, modest, calm, conditions, laid).
  DERIVED. THE GIVEN ROWS OF THIS SEAT. 8 by the template 'for every input the law returns true; each argument reads behind the call as it read before'; 0 by the template 'total and deterministic' (their statements: YtapcnhbgoolcgaaTotals.lean).
  GIVEN WITH THE SEED: the statements are not yours to turn. If you find one false, say at which input.
  Laid BY PROGRAM, IN A SANDBOX (cutbox-rows.mjs): the forced cells as the released guide's own fill.sh prints them over the translation 941905e433e942b4… (all of the seat's roots in one cut). By AI agents, Wed Nov 11 2026. No macro, syntax, notation, axiom, sorry.
-/
import Derived.Test.YtapcnhbgoolcgaaChecked
import GoSem.Claim
import GoSem.ClaimJoined
import GoSem.ClaimMapViews
import Derived.JoinedTies
import Derived.KernelRfl
namespace Go.Proofs.Ytapcnhbgoolcgaa
/- THE CELL 'sum', in the pinned program and in every row, IS THE sha256 OF THE DUMP (.gsa) THAT YtapcnhbgoolcgaaProg.lean LOADS. Nothing in Lean hashes anything: it is a label: what it is worth is what the hold of that sum in a sandbox is worth. -/
noncomputable def Try.pinned : Pinned := { name := "ytapcnhbgoolcgaa", sum := "941905e433e942b42bee05f86b144e3cec8e7cfecf5bae8c205a6911908d7277", checked := Try.checked }
namespace Rows
def none {H : Type} : Left H := { results := [], args := [] }

/-- 'laws.FnNetworks': WHATEVER THE INPUT: true; the input reads as it did. -/
def fnNetworksSpec : ChangeSpec := { name := "fnNetworks", fn := fun _ => fun
  | [d] => { results := [.lit (.bool true)], args := [d] }
  | _ => none }
def fnNetworksRow : OpenClaim := { program := "ytapcnhbgoolcgaa", sum := "941905e433e942b42bee05f86b144e3cec8e7cfecf5bae8c205a6911908d7277", func := "loop.example/g03101/laws.FnNetworks", spec := "fnNetworks", unfollowed := true, recurses := true, apart := false }
def FnNetworksSaid : Prop := fnNetworksRow.holds Try.pinned (OpenSpec.ofChange fnNetworksSpec)

/-- ITS FALSE NEIGHBOUR: 'it returns false'. Refute it at one input. -/
def fnNetworksWrong : ChangeSpec := { name := "fnNetworks", fn := fun _ => fun
  | [d] => { results := [.lit (.bool false)], args := [d] }
  | _ => none }
def FnNetworksWrongFalsely : Prop := fnNetworksRow.holds Try.pinned (OpenSpec.ofChange fnNetworksWrong)

/-- 'laws.FnExactBrickNetwork': WHATEVER THE INPUT: true; the input reads as it did. -/
def fnExactBrickNetworkSpec : ChangeSpec := { name := "fnExactBrickNetwork", fn := fun _ => fun
  | [d] => { results := [.lit (.bool true)], args := [d] }
  | _ => none }
def fnExactBrickNetworkRow : OpenClaim := { program := "ytapcnhbgoolcgaa", sum := "941905e433e942b42bee05f86b144e3cec8e7cfecf5bae8c205a6911908d7277", func := "loop.example/g03101/laws.FnExactBrickNetwork", spec := "fnExactBrickNetwork", apart := false }
def FnExactBrickNetworkSaid : Prop := fnExactBrickNetworkRow.holds Try.pinned (OpenSpec.ofChange fnExactBrickNetworkSpec)

/-- ITS FALSE NEIGHBOUR: 'it returns false'. Refute it at one input. -/
def fnExactBrickNetworkWrong : ChangeSpec := { name := "fnExactBrickNetwork", fn := fun _ => fun
  | [d] => { results := [.lit (.bool false)], args := [d] }
  | _ => none }
def FnExactBrickNetworkWrongFalsely : Prop := fnExactBrickNetworkRow.holds Try.pinned (OpenSpec.ofChange fnExactBrickNetworkWrong)

/-- 'laws.FnExactIsNetwork': WHATEVER THE INPUT: true; the input reads as it did. -/
def fnExactIsNetworkSpec : ChangeSpec := { name := "fnExactIsNetwork", fn := fun _ => fun
  | [d1, d2] => { results := [.lit (.bool true)], args := [d1, d2] }
  | _ => none }
def fnExactIsNetworkRow : OpenClaim := { program := "ytapcnhbgoolcgaa", sum := "941905e433e942b42bee05f86b144e3cec8e7cfecf5bae8c205a6911908d7277", func := "loop.example/g03101/laws.FnExactIsNetwork", spec := "fnExactIsNetwork", unfollowed := true, recurses := true, apart := false }
def FnExactIsNetworkSaid : Prop := fnExactIsNetworkRow.holds Try.pinned (OpenSpec.ofChange fnExactIsNetworkSpec)

/-- ITS FALSE NEIGHBOUR: 'it returns false'. Refute it at one input. -/
def fnExactIsNetworkWrong : ChangeSpec := { name := "fnExactIsNetwork", fn := fun _ => fun
  | [d1, d2] => { results := [.lit (.bool false)], args := [d1, d2] }
  | _ => none }
def FnExactIsNetworkWrongFalsely : Prop := fnExactIsNetworkRow.holds Try.pinned (OpenSpec.ofChange fnExactIsNetworkWrong)

/-- 'laws.FnExactDepthOf': WHATEVER THE INPUT: true; the input reads as it did. -/
def fnExactDepthOfSpec : ChangeSpec := { name := "fnExactDepthOf", fn := fun _ => fun
  | [d1, d2] => { results := [.lit (.bool true)], args := [d1, d2] }
  | _ => none }
def fnExactDepthOfRow : OpenClaim := { program := "ytapcnhbgoolcgaa", sum := "941905e433e942b42bee05f86b144e3cec8e7cfecf5bae8c205a6911908d7277", func := "loop.example/g03101/laws.FnExactDepthOf", spec := "fnExactDepthOf", unfollowed := true, recurses := true, apart := false }
def FnExactDepthOfSaid : Prop := fnExactDepthOfRow.holds Try.pinned (OpenSpec.ofChange fnExactDepthOfSpec)

/-- ITS FALSE NEIGHBOUR: 'it returns false'. Refute it at one input. -/
def fnExactDepthOfWrong : ChangeSpec := { name := "fnExactDepthOf", fn := fun _ => fun
  | [d1, d2] => { results := [.lit (.bool false)], args := [d1, d2] }
  | _ => none }
def FnExactDepthOfWrongFalsely : Prop := fnExactDepthOfRow.holds Try.pinned (OpenSpec.ofChange fnExactDepthOfWrong)

/-- 'laws.FnExactRunNetwork': WHATEVER THE INPUT: true; the input reads as it did. -/
def fnExactRunNetworkSpec : ChangeSpec := { name := "fnExactRunNetwork", fn := fun _ => fun
  | [d1, d2] => { results := [.lit (.bool true)], args := [d1, d2] }
  | _ => none }
def fnExactRunNetworkRow : OpenClaim := { program := "ytapcnhbgoolcgaa", sum := "941905e433e942b42bee05f86b144e3cec8e7cfecf5bae8c205a6911908d7277", func := "loop.example/g03101/laws.FnExactRunNetwork", spec := "fnExactRunNetwork", unfollowed := true, recurses := true, apart := false }
def FnExactRunNetworkSaid : Prop := fnExactRunNetworkRow.holds Try.pinned (OpenSpec.ofChange fnExactRunNetworkSpec)

/-- ITS FALSE NEIGHBOUR: 'it returns false'. Refute it at one input. -/
def fnExactRunNetworkWrong : ChangeSpec := { name := "fnExactRunNetwork", fn := fun _ => fun
  | [d1, d2] => { results := [.lit (.bool false)], args := [d1, d2] }
  | _ => none }
def FnExactRunNetworkWrongFalsely : Prop := fnExactRunNetworkRow.holds Try.pinned (OpenSpec.ofChange fnExactRunNetworkWrong)

/-- 'laws.FnExactSortsAll': WHATEVER THE INPUT: true; the input reads as it did. -/
def fnExactSortsAllSpec : ChangeSpec := { name := "fnExactSortsAll", fn := fun _ => fun
  | [d1, d2] => { results := [.lit (.bool true)], args := [d1, d2] }
  | _ => none }
def fnExactSortsAllRow : OpenClaim := { program := "ytapcnhbgoolcgaa", sum := "941905e433e942b42bee05f86b144e3cec8e7cfecf5bae8c205a6911908d7277", func := "loop.example/g03101/laws.FnExactSortsAll", spec := "fnExactSortsAll", unfollowed := true, recurses := true, apart := false }
def FnExactSortsAllSaid : Prop := fnExactSortsAllRow.holds Try.pinned (OpenSpec.ofChange fnExactSortsAllSpec)

/-- ITS FALSE NEIGHBOUR: 'it returns false'. Refute it at one input. -/
def fnExactSortsAllWrong : ChangeSpec := { name := "fnExactSortsAll", fn := fun _ => fun
  | [d1, d2] => { results := [.lit (.bool false)], args := [d1, d2] }
  | _ => none }
def FnExactSortsAllWrongFalsely : Prop := fnExactSortsAllRow.holds Try.pinned (OpenSpec.ofChange fnExactSortsAllWrong)

/-- 'laws.FnExactSortsBits': WHATEVER THE INPUT: true; the input reads as it did. -/
def fnExactSortsBitsSpec : ChangeSpec := { name := "fnExactSortsBits", fn := fun _ => fun
  | [d1, d2] => { results := [.lit (.bool true)], args := [d1, d2] }
  | _ => none }
def fnExactSortsBitsRow : OpenClaim := { program := "ytapcnhbgoolcgaa", sum := "941905e433e942b42bee05f86b144e3cec8e7cfecf5bae8c205a6911908d7277", func := "loop.example/g03101/laws.FnExactSortsBits", spec := "fnExactSortsBits", unfollowed := true, recurses := true, apart := false }
def FnExactSortsBitsSaid : Prop := fnExactSortsBitsRow.holds Try.pinned (OpenSpec.ofChange fnExactSortsBitsSpec)

/-- ITS FALSE NEIGHBOUR: 'it returns false'. Refute it at one input. -/
def fnExactSortsBitsWrong : ChangeSpec := { name := "fnExactSortsBits", fn := fun _ => fun
  | [d1, d2] => { results := [.lit (.bool false)], args := [d1, d2] }
  | _ => none }
def FnExactSortsBitsWrongFalsely : Prop := fnExactSortsBitsRow.holds Try.pinned (OpenSpec.ofChange fnExactSortsBitsWrong)

/-- 'laws.FnExactIdleGates': WHATEVER THE INPUT: true; the input reads as it did. -/
def fnExactIdleGatesSpec : ChangeSpec := { name := "fnExactIdleGates", fn := fun _ => fun
  | [d1, d2] => { results := [.lit (.bool true)], args := [d1, d2] }
  | _ => none }
def fnExactIdleGatesRow : OpenClaim := { program := "ytapcnhbgoolcgaa", sum := "941905e433e942b42bee05f86b144e3cec8e7cfecf5bae8c205a6911908d7277", func := "loop.example/g03101/laws.FnExactIdleGates", spec := "fnExactIdleGates", unfollowed := true, recurses := true, apart := false }
def FnExactIdleGatesSaid : Prop := fnExactIdleGatesRow.holds Try.pinned (OpenSpec.ofChange fnExactIdleGatesSpec)

/-- ITS FALSE NEIGHBOUR: 'it returns false'. Refute it at one input. -/
def fnExactIdleGatesWrong : ChangeSpec := { name := "fnExactIdleGates", fn := fun _ => fun
  | [d1, d2] => { results := [.lit (.bool false)], args := [d1, d2] }
  | _ => none }
def FnExactIdleGatesWrongFalsely : Prop := fnExactIdleGatesRow.holds Try.pinned (OpenSpec.ofChange fnExactIdleGatesWrong)

/- THE SECOND FORM. 'bulk': how many values and letters a reading holds, each counted each time it is reached (what is shared counts as often as it is met; a slice's spare places count too). A statement '..UptoSaid' is the law's where the arguments, and the package variables that the reading takes, are together of bulk at most 1048576: NARROWER than '..Said'. Prove '..Said' where nothing that the law and all that it calls make is longer than what came in: it says more and counts as full. Else prove '..UptoSaid'. A law counts once. -/
mutual
def uptoBulk {H : Type} : DataW H → Nat
  | .lit (.string bytes) => bytes.length + 1
  | .lit _ => 1
  | .nil => 1
  | .ptr d => uptoBulk d + 1
  | .slice elems spare => uptoBulkAll elems + uptoBulkAll spare + 1
  | .agg parts => uptoBulkAll parts + 1
  | .iface _ d => uptoBulk d + 1
  | .map entries => uptoBulkEntries entries + 1
  | .held _ => 1
def uptoBulkAll {H : Type} : List (DataW H) → Nat
  | [] => 0
  | d :: r => uptoBulk d + uptoBulkAll r
def uptoBulkEntries {H : Type} : List (Lit × DataW H) → Nat
  | [] => 0
  | x :: r => uptoBulkEntry x + uptoBulkEntries r
def uptoBulkEntry {H : Type} : Lit × DataW H → Nat
  | (.string bytes, d) => bytes.length + uptoBulk d + 1
  | (_, d) => uptoBulk d + 1
 end
def uptoSmall : (H : Type) → List (DataW H) → Bool := fun _ ds => decide (uptoBulkAll ds ≤ 1048576)
def OpenSpec.upto (s : _root_.Go.ChangeSpec) : _root_.Go.OpenSpec := { _root_.Go.OpenSpec.ofChange s with cond := some uptoSmall }

/-- 'laws.FnNetworks', WHERE WHAT IT READS IS OF BULK AT MOST 1048576: true; the input reads as it did. -/
def fnNetworksUptoRow : OpenClaim := { program := "ytapcnhbgoolcgaa", sum := "941905e433e942b42bee05f86b144e3cec8e7cfecf5bae8c205a6911908d7277", func := "loop.example/g03101/laws.FnNetworks", spec := "fnNetworks", unfollowed := true, recurses := true, apart := false, narrowed := true }
def FnNetworksUptoSaid : Prop := fnNetworksUptoRow.holds Try.pinned (OpenSpec.upto fnNetworksSpec)

/-- 'laws.FnExactBrickNetwork', WHERE WHAT IT READS IS OF BULK AT MOST 1048576: true; the input reads as it did. -/
def fnExactBrickNetworkUptoRow : OpenClaim := { program := "ytapcnhbgoolcgaa", sum := "941905e433e942b42bee05f86b144e3cec8e7cfecf5bae8c205a6911908d7277", func := "loop.example/g03101/laws.FnExactBrickNetwork", spec := "fnExactBrickNetwork", apart := false, narrowed := true }
def FnExactBrickNetworkUptoSaid : Prop := fnExactBrickNetworkUptoRow.holds Try.pinned (OpenSpec.upto fnExactBrickNetworkSpec)

/-- 'laws.FnExactIsNetwork', WHERE WHAT IT READS IS OF BULK AT MOST 1048576: true; the input reads as it did. -/
def fnExactIsNetworkUptoRow : OpenClaim := { program := "ytapcnhbgoolcgaa", sum := "941905e433e942b42bee05f86b144e3cec8e7cfecf5bae8c205a6911908d7277", func := "loop.example/g03101/laws.FnExactIsNetwork", spec := "fnExactIsNetwork", unfollowed := true, recurses := true, apart := false, narrowed := true }
def FnExactIsNetworkUptoSaid : Prop := fnExactIsNetworkUptoRow.holds Try.pinned (OpenSpec.upto fnExactIsNetworkSpec)

/-- 'laws.FnExactDepthOf', WHERE WHAT IT READS IS OF BULK AT MOST 1048576: true; the input reads as it did. -/
def fnExactDepthOfUptoRow : OpenClaim := { program := "ytapcnhbgoolcgaa", sum := "941905e433e942b42bee05f86b144e3cec8e7cfecf5bae8c205a6911908d7277", func := "loop.example/g03101/laws.FnExactDepthOf", spec := "fnExactDepthOf", unfollowed := true, recurses := true, apart := false, narrowed := true }
def FnExactDepthOfUptoSaid : Prop := fnExactDepthOfUptoRow.holds Try.pinned (OpenSpec.upto fnExactDepthOfSpec)

/-- 'laws.FnExactRunNetwork', WHERE WHAT IT READS IS OF BULK AT MOST 1048576: true; the input reads as it did. -/
def fnExactRunNetworkUptoRow : OpenClaim := { program := "ytapcnhbgoolcgaa", sum := "941905e433e942b42bee05f86b144e3cec8e7cfecf5bae8c205a6911908d7277", func := "loop.example/g03101/laws.FnExactRunNetwork", spec := "fnExactRunNetwork", unfollowed := true, recurses := true, apart := false, narrowed := true }
def FnExactRunNetworkUptoSaid : Prop := fnExactRunNetworkUptoRow.holds Try.pinned (OpenSpec.upto fnExactRunNetworkSpec)

/-- 'laws.FnExactSortsAll', WHERE WHAT IT READS IS OF BULK AT MOST 1048576: true; the input reads as it did. -/
def fnExactSortsAllUptoRow : OpenClaim := { program := "ytapcnhbgoolcgaa", sum := "941905e433e942b42bee05f86b144e3cec8e7cfecf5bae8c205a6911908d7277", func := "loop.example/g03101/laws.FnExactSortsAll", spec := "fnExactSortsAll", unfollowed := true, recurses := true, apart := false, narrowed := true }
def FnExactSortsAllUptoSaid : Prop := fnExactSortsAllUptoRow.holds Try.pinned (OpenSpec.upto fnExactSortsAllSpec)

/-- 'laws.FnExactSortsBits', WHERE WHAT IT READS IS OF BULK AT MOST 1048576: true; the input reads as it did. -/
def fnExactSortsBitsUptoRow : OpenClaim := { program := "ytapcnhbgoolcgaa", sum := "941905e433e942b42bee05f86b144e3cec8e7cfecf5bae8c205a6911908d7277", func := "loop.example/g03101/laws.FnExactSortsBits", spec := "fnExactSortsBits", unfollowed := true, recurses := true, apart := false, narrowed := true }
def FnExactSortsBitsUptoSaid : Prop := fnExactSortsBitsUptoRow.holds Try.pinned (OpenSpec.upto fnExactSortsBitsSpec)

/-- 'laws.FnExactIdleGates', WHERE WHAT IT READS IS OF BULK AT MOST 1048576: true; the input reads as it did. -/
def fnExactIdleGatesUptoRow : OpenClaim := { program := "ytapcnhbgoolcgaa", sum := "941905e433e942b42bee05f86b144e3cec8e7cfecf5bae8c205a6911908d7277", func := "loop.example/g03101/laws.FnExactIdleGates", spec := "fnExactIdleGates", unfollowed := true, recurses := true, apart := false, narrowed := true }
def FnExactIdleGatesUptoSaid : Prop := fnExactIdleGatesUptoRow.holds Try.pinned (OpenSpec.upto fnExactIdleGatesSpec)

end Rows
end Go.Proofs.Ytapcnhbgoolcgaa
