/-
  No cell of these rows narrows 'for every input' (looked for: loops, veiled, ifaces, maps, wideKeys, modest, calm, conditions, laid).
  DERIVED. THE GIVEN ROWS OF THIS SEAT. 7 by the template 'for every input the law returns true; each argument reads behind the call as it read before'; 0 by the template 'total and deterministic' (their statements: YtkoadlblncohgaaTotals.lean).
  GIVEN WITH THE SEED: the statements are not yours to turn. If you find one false, say at which input.
  Laid BY PROGRAM, IN A SANDBOX (cutbox-rows.mjs): the forced cells as the released guide's own fill.sh prints them over the translation 5df5e8b7e3a35df6… (all of the seat's roots in one cut). By AI agents, Wed Nov 11 2026. No macro, syntax, notation, axiom, sorry.
-/
import Derived.Test.YtkoadlblncohgaaChecked
import GoSem.Claim
import GoSem.ClaimJoined
import GoSem.ClaimMapViews
import Derived.JoinedTies
import Derived.KernelRfl
namespace Go.Proofs.Ytkoadlblncohgaa
/- THE CELL 'sum', in the pinned program and in every row, IS THE sha256 OF THE DUMP (.gsa) THAT YtkoadlblncohgaaProg.lean LOADS. Nothing in Lean hashes anything: it is a label: what it is worth is what the hold of that sum in a sandbox is worth. -/
noncomputable def Try.pinned : Pinned := { name := "ytkoadlblncohgaa", sum := "5df5e8b7e3a35df6b1d0feb1ae83dbe095031449d15a1ff85f94b0024c4f4eb5", checked := Try.checked }
namespace Rows
def none {H : Type} : Left H := { results := [], args := [] }

/-- 'loftblocklaw09.PointsLengths': WHATEVER THE INPUT: true; the input reads as it did. -/
def pointsLengthsSpec : ChangeSpec := { name := "pointsLengths", fn := fun _ => fun
  | [d1, d2, d3] => { results := [.lit (.bool true)], args := [d1, d2, d3] }
  | _ => none }
def pointsLengthsRow : OpenClaim := { program := "ytkoadlblncohgaa", sum := "5df5e8b7e3a35df6b1d0feb1ae83dbe095031449d15a1ff85f94b0024c4f4eb5", func := "loftblock/loftblocklaw09.PointsLengths", spec := "pointsLengths", unfollowed := true, recurses := true, apart := false }
def PointsLengthsSaid : Prop := pointsLengthsRow.holds Try.pinned (OpenSpec.ofChange pointsLengthsSpec)

/-- ITS FALSE NEIGHBOUR: 'it returns false'. Refute it at one input. -/
def pointsLengthsWrong : ChangeSpec := { name := "pointsLengths", fn := fun _ => fun
  | [d1, d2, d3] => { results := [.lit (.bool false)], args := [d1, d2, d3] }
  | _ => none }
def PointsLengthsWrongFalsely : Prop := pointsLengthsRow.holds Try.pinned (OpenSpec.ofChange pointsLengthsWrong)

/-- 'loftblocklaw09.PointsWays': WHATEVER THE INPUT: true; the input reads as it did. -/
def pointsWaysSpec : ChangeSpec := { name := "pointsWays", fn := fun _ => fun
  | [d1, d2, d3] => { results := [.lit (.bool true)], args := [d1, d2, d3] }
  | _ => none }
def pointsWaysRow : OpenClaim := { program := "ytkoadlblncohgaa", sum := "5df5e8b7e3a35df6b1d0feb1ae83dbe095031449d15a1ff85f94b0024c4f4eb5", func := "loftblock/loftblocklaw09.PointsWays", spec := "pointsWays", unfollowed := true, recurses := true, apart := false }
def PointsWaysSaid : Prop := pointsWaysRow.holds Try.pinned (OpenSpec.ofChange pointsWaysSpec)

/-- ITS FALSE NEIGHBOUR: 'it returns false'. Refute it at one input. -/
def pointsWaysWrong : ChangeSpec := { name := "pointsWays", fn := fun _ => fun
  | [d1, d2, d3] => { results := [.lit (.bool false)], args := [d1, d2, d3] }
  | _ => none }
def PointsWaysWrongFalsely : Prop := pointsWaysRow.holds Try.pinned (OpenSpec.ofChange pointsWaysWrong)

/-- 'loftblocklaw09.PointsBetween': WHATEVER THE INPUT: true; the input reads as it did. -/
def pointsBetweenSpec : ChangeSpec := { name := "pointsBetween", fn := fun _ => fun
  | [d1, d2, d3, d4, d5] => { results := [.lit (.bool true)], args := [d1, d2, d3, d4, d5] }
  | _ => none }
def pointsBetweenRow : OpenClaim := { program := "ytkoadlblncohgaa", sum := "5df5e8b7e3a35df6b1d0feb1ae83dbe095031449d15a1ff85f94b0024c4f4eb5", func := "loftblock/loftblocklaw09.PointsBetween", spec := "pointsBetween", unfollowed := true, recurses := true, apart := false }
def PointsBetweenSaid : Prop := pointsBetweenRow.holds Try.pinned (OpenSpec.ofChange pointsBetweenSpec)

/-- ITS FALSE NEIGHBOUR: 'it returns false'. Refute it at one input. -/
def pointsBetweenWrong : ChangeSpec := { name := "pointsBetween", fn := fun _ => fun
  | [d1, d2, d3, d4, d5] => { results := [.lit (.bool false)], args := [d1, d2, d3, d4, d5] }
  | _ => none }
def PointsBetweenWrongFalsely : Prop := pointsBetweenRow.holds Try.pinned (OpenSpec.ofChange pointsBetweenWrong)

/-- 'loftblocklaw09.PointsFlat': WHATEVER THE INPUT: true; the input reads as it did. -/
def pointsFlatSpec : ChangeSpec := { name := "pointsFlat", fn := fun _ => fun
  | [d1, d2, d3] => { results := [.lit (.bool true)], args := [d1, d2, d3] }
  | _ => none }
def pointsFlatRow : OpenClaim := { program := "ytkoadlblncohgaa", sum := "5df5e8b7e3a35df6b1d0feb1ae83dbe095031449d15a1ff85f94b0024c4f4eb5", func := "loftblock/loftblocklaw09.PointsFlat", spec := "pointsFlat", unfollowed := true, recurses := true, apart := false }
def PointsFlatSaid : Prop := pointsFlatRow.holds Try.pinned (OpenSpec.ofChange pointsFlatSpec)

/-- ITS FALSE NEIGHBOUR: 'it returns false'. Refute it at one input. -/
def pointsFlatWrong : ChangeSpec := { name := "pointsFlat", fn := fun _ => fun
  | [d1, d2, d3] => { results := [.lit (.bool false)], args := [d1, d2, d3] }
  | _ => none }
def PointsFlatWrongFalsely : Prop := pointsFlatRow.holds Try.pinned (OpenSpec.ofChange pointsFlatWrong)

/-- 'loftblocklaw09.PointsCovered': WHATEVER THE INPUT: true; the input reads as it did. -/
def pointsCoveredSpec : ChangeSpec := { name := "pointsCovered", fn := fun _ => fun
  | [d1, d2, d3, d4, d5] => { results := [.lit (.bool true)], args := [d1, d2, d3, d4, d5] }
  | _ => none }
def pointsCoveredRow : OpenClaim := { program := "ytkoadlblncohgaa", sum := "5df5e8b7e3a35df6b1d0feb1ae83dbe095031449d15a1ff85f94b0024c4f4eb5", func := "loftblock/loftblocklaw09.PointsCovered", spec := "pointsCovered", unfollowed := true, recurses := true, apart := false }
def PointsCoveredSaid : Prop := pointsCoveredRow.holds Try.pinned (OpenSpec.ofChange pointsCoveredSpec)

/-- ITS FALSE NEIGHBOUR: 'it returns false'. Refute it at one input. -/
def pointsCoveredWrong : ChangeSpec := { name := "pointsCovered", fn := fun _ => fun
  | [d1, d2, d3, d4, d5] => { results := [.lit (.bool false)], args := [d1, d2, d3, d4, d5] }
  | _ => none }
def PointsCoveredWrongFalsely : Prop := pointsCoveredRow.holds Try.pinned (OpenSpec.ofChange pointsCoveredWrong)

/-- 'loftblocklaw09.PointsLists': WHATEVER THE INPUT: true; the input reads as it did. -/
def pointsListsSpec : ChangeSpec := { name := "pointsLists", fn := fun _ => fun
  | [d1, d2] => { results := [.lit (.bool true)], args := [d1, d2] }
  | _ => none }
def pointsListsRow : OpenClaim := { program := "ytkoadlblncohgaa", sum := "5df5e8b7e3a35df6b1d0feb1ae83dbe095031449d15a1ff85f94b0024c4f4eb5", func := "loftblock/loftblocklaw09.PointsLists", spec := "pointsLists", unfollowed := true, recurses := true, apart := false }
def PointsListsSaid : Prop := pointsListsRow.holds Try.pinned (OpenSpec.ofChange pointsListsSpec)

/-- ITS FALSE NEIGHBOUR: 'it returns false'. Refute it at one input. -/
def pointsListsWrong : ChangeSpec := { name := "pointsLists", fn := fun _ => fun
  | [d1, d2] => { results := [.lit (.bool false)], args := [d1, d2] }
  | _ => none }
def PointsListsWrongFalsely : Prop := pointsListsRow.holds Try.pinned (OpenSpec.ofChange pointsListsWrong)

/-- 'loftblocklaw09.PointsTurns': WHATEVER THE INPUT: true; the input reads as it did. -/
def pointsTurnsSpec : ChangeSpec := { name := "pointsTurns", fn := fun _ => fun
  | [d1, d2, d3, d4, d5] => { results := [.lit (.bool true)], args := [d1, d2, d3, d4, d5] }
  | _ => none }
def pointsTurnsRow : OpenClaim := { program := "ytkoadlblncohgaa", sum := "5df5e8b7e3a35df6b1d0feb1ae83dbe095031449d15a1ff85f94b0024c4f4eb5", func := "loftblock/loftblocklaw09.PointsTurns", spec := "pointsTurns", unfollowed := true, recurses := true, apart := false }
def PointsTurnsSaid : Prop := pointsTurnsRow.holds Try.pinned (OpenSpec.ofChange pointsTurnsSpec)

/-- ITS FALSE NEIGHBOUR: 'it returns false'. Refute it at one input. -/
def pointsTurnsWrong : ChangeSpec := { name := "pointsTurns", fn := fun _ => fun
  | [d1, d2, d3, d4, d5] => { results := [.lit (.bool false)], args := [d1, d2, d3, d4, d5] }
  | _ => none }
def PointsTurnsWrongFalsely : Prop := pointsTurnsRow.holds Try.pinned (OpenSpec.ofChange pointsTurnsWrong)

/- THE SECOND FORM. 'bulk': how many values and letters a reading holds, each counted each time it is reached (what is shared counts as often as it is met; a slice's spare places count too). A statement '..UptoSaid' is the law's where the arguments, and the package variables that the reading takes, are together of bulk at most 1048576: NARROWER than '..Said'. Prove '..Said' where nothing that the law and all that it calls make is longer than what came in: it says more and counts as full. Else prove '..UptoSaid'. A law counts once. -/
mutual
def uptoBulk {H : Type} : DataW H → Nat
  | .lit (.string bytes) => bytes.length + 1
  | .lit _ => 1
  | .nil => 1
  | .ptr d => uptoBulk d + 1
  | .slice elems spare => uptoBulkAll elems + uptoBulkAll spare + 1
  | .agg parts => uptoBulkAll parts + 1
  | .iface _ d => uptoBulk d + 1
  | .map entries => uptoBulkEntries entries + 1
  | .held _ => 1
def uptoBulkAll {H : Type} : List (DataW H) → Nat
  | [] => 0
  | d :: r => uptoBulk d + uptoBulkAll r
def uptoBulkEntries {H : Type} : List (Lit × DataW H) → Nat
  | [] => 0
  | x :: r => uptoBulkEntry x + uptoBulkEntries r
def uptoBulkEntry {H : Type} : Lit × DataW H → Nat
  | (.string bytes, d) => bytes.length + uptoBulk d + 1
  | (_, d) => uptoBulk d + 1
 end
def uptoSmall : (H : Type) → List (DataW H) → Bool := fun _ ds => decide (uptoBulkAll ds ≤ 1048576)
def OpenSpec.upto (s : _root_.Go.ChangeSpec) : _root_.Go.OpenSpec := { _root_.Go.OpenSpec.ofChange s with cond := some uptoSmall }

/-- 'loftblocklaw09.PointsLengths', WHERE WHAT IT READS IS OF BULK AT MOST 1048576: true; the input reads as it did. -/
def pointsLengthsUptoRow : OpenClaim := { program := "ytkoadlblncohgaa", sum := "5df5e8b7e3a35df6b1d0feb1ae83dbe095031449d15a1ff85f94b0024c4f4eb5", func := "loftblock/loftblocklaw09.PointsLengths", spec := "pointsLengths", unfollowed := true, recurses := true, apart := false, narrowed := true }
def PointsLengthsUptoSaid : Prop := pointsLengthsUptoRow.holds Try.pinned (OpenSpec.upto pointsLengthsSpec)

/-- 'loftblocklaw09.PointsWays', WHERE WHAT IT READS IS OF BULK AT MOST 1048576: true; the input reads as it did. -/
def pointsWaysUptoRow : OpenClaim := { program := "ytkoadlblncohgaa", sum := "5df5e8b7e3a35df6b1d0feb1ae83dbe095031449d15a1ff85f94b0024c4f4eb5", func := "loftblock/loftblocklaw09.PointsWays", spec := "pointsWays", unfollowed := true, recurses := true, apart := false, narrowed := true }
def PointsWaysUptoSaid : Prop := pointsWaysUptoRow.holds Try.pinned (OpenSpec.upto pointsWaysSpec)

/-- 'loftblocklaw09.PointsBetween', WHERE WHAT IT READS IS OF BULK AT MOST 1048576: true; the input reads as it did. -/
def pointsBetweenUptoRow : OpenClaim := { program := "ytkoadlblncohgaa", sum := "5df5e8b7e3a35df6b1d0feb1ae83dbe095031449d15a1ff85f94b0024c4f4eb5", func := "loftblock/loftblocklaw09.PointsBetween", spec := "pointsBetween", unfollowed := true, recurses := true, apart := false, narrowed := true }
def PointsBetweenUptoSaid : Prop := pointsBetweenUptoRow.holds Try.pinned (OpenSpec.upto pointsBetweenSpec)

/-- 'loftblocklaw09.PointsFlat', WHERE WHAT IT READS IS OF BULK AT MOST 1048576: true; the input reads as it did. -/
def pointsFlatUptoRow : OpenClaim := { program := "ytkoadlblncohgaa", sum := "5df5e8b7e3a35df6b1d0feb1ae83dbe095031449d15a1ff85f94b0024c4f4eb5", func := "loftblock/loftblocklaw09.PointsFlat", spec := "pointsFlat", unfollowed := true, recurses := true, apart := false, narrowed := true }
def PointsFlatUptoSaid : Prop := pointsFlatUptoRow.holds Try.pinned (OpenSpec.upto pointsFlatSpec)

/-- 'loftblocklaw09.PointsCovered', WHERE WHAT IT READS IS OF BULK AT MOST 1048576: true; the input reads as it did. -/
def pointsCoveredUptoRow : OpenClaim := { program := "ytkoadlblncohgaa", sum := "5df5e8b7e3a35df6b1d0feb1ae83dbe095031449d15a1ff85f94b0024c4f4eb5", func := "loftblock/loftblocklaw09.PointsCovered", spec := "pointsCovered", unfollowed := true, recurses := true, apart := false, narrowed := true }
def PointsCoveredUptoSaid : Prop := pointsCoveredUptoRow.holds Try.pinned (OpenSpec.upto pointsCoveredSpec)

/-- 'loftblocklaw09.PointsLists', WHERE WHAT IT READS IS OF BULK AT MOST 1048576: true; the input reads as it did. -/
def pointsListsUptoRow : OpenClaim := { program := "ytkoadlblncohgaa", sum := "5df5e8b7e3a35df6b1d0feb1ae83dbe095031449d15a1ff85f94b0024c4f4eb5", func := "loftblock/loftblocklaw09.PointsLists", spec := "pointsLists", unfollowed := true, recurses := true, apart := false, narrowed := true }
def PointsListsUptoSaid : Prop := pointsListsUptoRow.holds Try.pinned (OpenSpec.upto pointsListsSpec)

/-- 'loftblocklaw09.PointsTurns', WHERE WHAT IT READS IS OF BULK AT MOST 1048576: true; the input reads as it did. -/
def pointsTurnsUptoRow : OpenClaim := { program := "ytkoadlblncohgaa", sum := "5df5e8b7e3a35df6b1d0feb1ae83dbe095031449d15a1ff85f94b0024c4f4eb5", func := "loftblock/loftblocklaw09.PointsTurns", spec := "pointsTurns", unfollowed := true, recurses := true, apart := false, narrowed := true }
def PointsTurnsUptoSaid : Prop := pointsTurnsUptoRow.holds Try.pinned (OpenSpec.upto pointsTurnsSpec)

end Rows
end Go.Proofs.Ytkoadlblncohgaa
