/-
  No cell of these rows narrows 'for every input' (looked for: loops, veiled, ifaces, maps, wideKeys, modest, calm, conditions, laid).
  DERIVED. THE GIVEN ROWS OF THIS SEAT. 6 by the template 'for every input the law returns true; each argument reads behind the call as it read before'; 0 by the template 'total and deterministic' (their statements: YtghjblbkbelcfaaTotals.lean).
  GIVEN WITH THE SEED: the statements are not yours to turn. If you find one false, say at which input.
  Laid BY PROGRAM, IN A SANDBOX (cutbox-rows.mjs): the forced cells as the released guide's own fill.sh prints them over the translation a81a2a9731b13743… (all of the seat's roots in one cut). By AI agents, Wed Nov 11 2026. No macro, syntax, notation, axiom, sorry.
-/
import Derived.Test.YtghjblbkbelcfaaChecked
import GoSem.Claim
import GoSem.ClaimJoined
import GoSem.ClaimMapViews
import Derived.JoinedTies
import Derived.KernelRfl
namespace Go.Proofs.Ytghjblbkbelcfaa
/- THE CELL 'sum', in the pinned program and in every row, IS THE sha256 OF THE DUMP (.gsa) THAT YtghjblbkbelcfaaProg.lean LOADS. Nothing in Lean hashes anything: it is a label: what it is worth is what the hold of that sum in a sandbox is worth. -/
noncomputable def Try.pinned : Pinned := { name := "ytghjblbkbelcfaa", sum := "a81a2a9731b13743547f2d1da707eb36a6c9daf7568380f5d72aa0394d8af75c", checked := Try.checked }
namespace Rows
def none {H : Type} : Left H := { results := [], args := [] }

/-- 'loftblocklaw18.BridleForms': WHATEVER THE INPUT: true; the input reads as it did. -/
def bridleFormsSpec : ChangeSpec := { name := "bridleForms", fn := fun _ => fun
  | [d1, d2] => { results := [.lit (.bool true)], args := [d1, d2] }
  | _ => none }
def bridleFormsRow : OpenClaim := { program := "ytghjblbkbelcfaa", sum := "a81a2a9731b13743547f2d1da707eb36a6c9daf7568380f5d72aa0394d8af75c", func := "loftblock/loftblocklaw18.BridleForms", spec := "bridleForms", unfollowed := true, recurses := true, apart := false }
def BridleFormsSaid : Prop := bridleFormsRow.holds Try.pinned (OpenSpec.ofChange bridleFormsSpec)

/-- ITS FALSE NEIGHBOUR: 'it returns false'. Refute it at one input. -/
def bridleFormsWrong : ChangeSpec := { name := "bridleForms", fn := fun _ => fun
  | [d1, d2] => { results := [.lit (.bool false)], args := [d1, d2] }
  | _ => none }
def BridleFormsWrongFalsely : Prop := bridleFormsRow.holds Try.pinned (OpenSpec.ofChange bridleFormsWrong)

/-- 'loftblocklaw18.BridleTwice': WHATEVER THE INPUT: true; the input reads as it did. -/
def bridleTwiceSpec : ChangeSpec := { name := "bridleTwice", fn := fun _ => fun
  | [d1, d2] => { results := [.lit (.bool true)], args := [d1, d2] }
  | _ => none }
def bridleTwiceRow : OpenClaim := { program := "ytghjblbkbelcfaa", sum := "a81a2a9731b13743547f2d1da707eb36a6c9daf7568380f5d72aa0394d8af75c", func := "loftblock/loftblocklaw18.BridleTwice", spec := "bridleTwice", unfollowed := true, recurses := true, apart := false }
def BridleTwiceSaid : Prop := bridleTwiceRow.holds Try.pinned (OpenSpec.ofChange bridleTwiceSpec)

/-- ITS FALSE NEIGHBOUR: 'it returns false'. Refute it at one input. -/
def bridleTwiceWrong : ChangeSpec := { name := "bridleTwice", fn := fun _ => fun
  | [d1, d2] => { results := [.lit (.bool false)], args := [d1, d2] }
  | _ => none }
def BridleTwiceWrongFalsely : Prop := bridleTwiceRow.holds Try.pinned (OpenSpec.ofChange bridleTwiceWrong)

/-- 'loftblocklaw18.BridleTensions': WHATEVER THE INPUT: true; the input reads as it did. -/
def bridleTensionsSpec : ChangeSpec := { name := "bridleTensions", fn := fun _ => fun
  | [d1, d2] => { results := [.lit (.bool true)], args := [d1, d2] }
  | _ => none }
def bridleTensionsRow : OpenClaim := { program := "ytghjblbkbelcfaa", sum := "a81a2a9731b13743547f2d1da707eb36a6c9daf7568380f5d72aa0394d8af75c", func := "loftblock/loftblocklaw18.BridleTensions", spec := "bridleTensions", unfollowed := true, recurses := true, apart := false }
def BridleTensionsSaid : Prop := bridleTensionsRow.holds Try.pinned (OpenSpec.ofChange bridleTensionsSpec)

/-- ITS FALSE NEIGHBOUR: 'it returns false'. Refute it at one input. -/
def bridleTensionsWrong : ChangeSpec := { name := "bridleTensions", fn := fun _ => fun
  | [d1, d2] => { results := [.lit (.bool false)], args := [d1, d2] }
  | _ => none }
def BridleTensionsWrongFalsely : Prop := bridleTensionsRow.holds Try.pinned (OpenSpec.ofChange bridleTensionsWrong)

/-- 'loftblocklaw18.BridleMoved': WHATEVER THE INPUT: true; the input reads as it did. -/
def bridleMovedSpec : ChangeSpec := { name := "bridleMoved", fn := fun _ => fun
  | [d1, d2, d3, d4] => { results := [.lit (.bool true)], args := [d1, d2, d3, d4] }
  | _ => none }
def bridleMovedRow : OpenClaim := { program := "ytghjblbkbelcfaa", sum := "a81a2a9731b13743547f2d1da707eb36a6c9daf7568380f5d72aa0394d8af75c", func := "loftblock/loftblocklaw18.BridleMoved", spec := "bridleMoved", unfollowed := true, recurses := true, apart := false }
def BridleMovedSaid : Prop := bridleMovedRow.holds Try.pinned (OpenSpec.ofChange bridleMovedSpec)

/-- ITS FALSE NEIGHBOUR: 'it returns false'. Refute it at one input. -/
def bridleMovedWrong : ChangeSpec := { name := "bridleMoved", fn := fun _ => fun
  | [d1, d2, d3, d4] => { results := [.lit (.bool false)], args := [d1, d2, d3, d4] }
  | _ => none }
def BridleMovedWrongFalsely : Prop := bridleMovedRow.holds Try.pinned (OpenSpec.ofChange bridleMovedWrong)

/-- 'loftblocklaw18.BridleStrong': WHATEVER THE INPUT: true; the input reads as it did. -/
def bridleStrongSpec : ChangeSpec := { name := "bridleStrong", fn := fun _ => fun
  | [d1, d2] => { results := [.lit (.bool true)], args := [d1, d2] }
  | _ => none }
def bridleStrongRow : OpenClaim := { program := "ytghjblbkbelcfaa", sum := "a81a2a9731b13743547f2d1da707eb36a6c9daf7568380f5d72aa0394d8af75c", func := "loftblock/loftblocklaw18.BridleStrong", spec := "bridleStrong", unfollowed := true, recurses := true, apart := false }
def BridleStrongSaid : Prop := bridleStrongRow.holds Try.pinned (OpenSpec.ofChange bridleStrongSpec)

/-- ITS FALSE NEIGHBOUR: 'it returns false'. Refute it at one input. -/
def bridleStrongWrong : ChangeSpec := { name := "bridleStrong", fn := fun _ => fun
  | [d1, d2] => { results := [.lit (.bool false)], args := [d1, d2] }
  | _ => none }
def BridleStrongWrongFalsely : Prop := bridleStrongRow.holds Try.pinned (OpenSpec.ofChange bridleStrongWrong)

/-- 'loftblocklaw18.BridleHolds': WHATEVER THE INPUT: true; the input reads as it did. -/
def bridleHoldsSpec : ChangeSpec := { name := "bridleHolds", fn := fun _ => fun
  | [d1, d2, d3] => { results := [.lit (.bool true)], args := [d1, d2, d3] }
  | _ => none }
def bridleHoldsRow : OpenClaim := { program := "ytghjblbkbelcfaa", sum := "a81a2a9731b13743547f2d1da707eb36a6c9daf7568380f5d72aa0394d8af75c", func := "loftblock/loftblocklaw18.BridleHolds", spec := "bridleHolds", inPlace := ["math/bits.Add64", "math/bits.Sub64"], unfollowed := true, recurses := true, named := ["math/bits.divideError", "math/bits.overflowError"], apart := false }
def BridleHoldsSaid : Prop := bridleHoldsRow.holds Try.pinned (OpenSpec.ofChange bridleHoldsSpec)

/-- ITS FALSE NEIGHBOUR: 'it returns false'. Refute it at one input. -/
def bridleHoldsWrong : ChangeSpec := { name := "bridleHolds", fn := fun _ => fun
  | [d1, d2, d3] => { results := [.lit (.bool false)], args := [d1, d2, d3] }
  | _ => none }
def BridleHoldsWrongFalsely : Prop := bridleHoldsRow.holds Try.pinned (OpenSpec.ofChange bridleHoldsWrong)

/- THE SECOND FORM. 'bulk': how many values and letters a reading holds, each counted each time it is reached (what is shared counts as often as it is met; a slice's spare places count too). A statement '..UptoSaid' is the law's where the arguments, and the package variables that the reading takes, are together of bulk at most 1048576: NARROWER than '..Said'. Prove '..Said' where nothing that the law and all that it calls make is longer than what came in: it says more and counts as full. Else prove '..UptoSaid'. A law counts once. -/
mutual
def uptoBulk {H : Type} : DataW H → Nat
  | .lit (.string bytes) => bytes.length + 1
  | .lit _ => 1
  | .nil => 1
  | .ptr d => uptoBulk d + 1
  | .slice elems spare => uptoBulkAll elems + uptoBulkAll spare + 1
  | .agg parts => uptoBulkAll parts + 1
  | .iface _ d => uptoBulk d + 1
  | .map entries => uptoBulkEntries entries + 1
  | .held _ => 1
def uptoBulkAll {H : Type} : List (DataW H) → Nat
  | [] => 0
  | d :: r => uptoBulk d + uptoBulkAll r
def uptoBulkEntries {H : Type} : List (Lit × DataW H) → Nat
  | [] => 0
  | x :: r => uptoBulkEntry x + uptoBulkEntries r
def uptoBulkEntry {H : Type} : Lit × DataW H → Nat
  | (.string bytes, d) => bytes.length + uptoBulk d + 1
  | (_, d) => uptoBulk d + 1
 end
def uptoSmall : (H : Type) → List (DataW H) → Bool := fun _ ds => decide (uptoBulkAll ds ≤ 1048576)
def OpenSpec.upto (s : _root_.Go.ChangeSpec) : _root_.Go.OpenSpec := { _root_.Go.OpenSpec.ofChange s with cond := some uptoSmall }

/-- 'loftblocklaw18.BridleForms', WHERE WHAT IT READS IS OF BULK AT MOST 1048576: true; the input reads as it did. -/
def bridleFormsUptoRow : OpenClaim := { program := "ytghjblbkbelcfaa", sum := "a81a2a9731b13743547f2d1da707eb36a6c9daf7568380f5d72aa0394d8af75c", func := "loftblock/loftblocklaw18.BridleForms", spec := "bridleForms", unfollowed := true, recurses := true, apart := false, narrowed := true }
def BridleFormsUptoSaid : Prop := bridleFormsUptoRow.holds Try.pinned (OpenSpec.upto bridleFormsSpec)

/-- 'loftblocklaw18.BridleTwice', WHERE WHAT IT READS IS OF BULK AT MOST 1048576: true; the input reads as it did. -/
def bridleTwiceUptoRow : OpenClaim := { program := "ytghjblbkbelcfaa", sum := "a81a2a9731b13743547f2d1da707eb36a6c9daf7568380f5d72aa0394d8af75c", func := "loftblock/loftblocklaw18.BridleTwice", spec := "bridleTwice", unfollowed := true, recurses := true, apart := false, narrowed := true }
def BridleTwiceUptoSaid : Prop := bridleTwiceUptoRow.holds Try.pinned (OpenSpec.upto bridleTwiceSpec)

/-- 'loftblocklaw18.BridleTensions', WHERE WHAT IT READS IS OF BULK AT MOST 1048576: true; the input reads as it did. -/
def bridleTensionsUptoRow : OpenClaim := { program := "ytghjblbkbelcfaa", sum := "a81a2a9731b13743547f2d1da707eb36a6c9daf7568380f5d72aa0394d8af75c", func := "loftblock/loftblocklaw18.BridleTensions", spec := "bridleTensions", unfollowed := true, recurses := true, apart := false, narrowed := true }
def BridleTensionsUptoSaid : Prop := bridleTensionsUptoRow.holds Try.pinned (OpenSpec.upto bridleTensionsSpec)

/-- 'loftblocklaw18.BridleMoved', WHERE WHAT IT READS IS OF BULK AT MOST 1048576: true; the input reads as it did. -/
def bridleMovedUptoRow : OpenClaim := { program := "ytghjblbkbelcfaa", sum := "a81a2a9731b13743547f2d1da707eb36a6c9daf7568380f5d72aa0394d8af75c", func := "loftblock/loftblocklaw18.BridleMoved", spec := "bridleMoved", unfollowed := true, recurses := true, apart := false, narrowed := true }
def BridleMovedUptoSaid : Prop := bridleMovedUptoRow.holds Try.pinned (OpenSpec.upto bridleMovedSpec)

/-- 'loftblocklaw18.BridleStrong', WHERE WHAT IT READS IS OF BULK AT MOST 1048576: true; the input reads as it did. -/
def bridleStrongUptoRow : OpenClaim := { program := "ytghjblbkbelcfaa", sum := "a81a2a9731b13743547f2d1da707eb36a6c9daf7568380f5d72aa0394d8af75c", func := "loftblock/loftblocklaw18.BridleStrong", spec := "bridleStrong", unfollowed := true, recurses := true, apart := false, narrowed := true }
def BridleStrongUptoSaid : Prop := bridleStrongUptoRow.holds Try.pinned (OpenSpec.upto bridleStrongSpec)

/-- 'loftblocklaw18.BridleHolds', WHERE WHAT IT READS IS OF BULK AT MOST 1048576: true; the input reads as it did. -/
def bridleHoldsUptoRow : OpenClaim := { program := "ytghjblbkbelcfaa", sum := "a81a2a9731b13743547f2d1da707eb36a6c9daf7568380f5d72aa0394d8af75c", func := "loftblock/loftblocklaw18.BridleHolds", spec := "bridleHolds", inPlace := ["math/bits.Add64", "math/bits.Sub64"], unfollowed := true, recurses := true, named := ["math/bits.divideError", "math/bits.overflowError"], apart := false, narrowed := true }
def BridleHoldsUptoSaid : Prop := bridleHoldsUptoRow.holds Try.pinned (OpenSpec.upto bridleHoldsSpec)

end Rows
end Go.Proofs.Ytghjblbkbelcfaa
