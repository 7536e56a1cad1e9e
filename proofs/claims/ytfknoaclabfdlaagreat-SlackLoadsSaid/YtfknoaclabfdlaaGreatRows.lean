/-
  No cell of these rows narrows 'for every input' (looked for: loops, veiled, ifaces, maps, wideKeys, modest, calm, conditions, laid).
  DERIVED. THE GIVEN ROWS OF THIS SEAT. 6 by the template 'for every input the law returns true; each argument reads behind the call as it read before'; 0 by the template 'total and deterministic' (their statements: YtfknoaclabfdlaaGreatTotals.lean).
  GIVEN WITH THE SEED: the statements are not yours to turn. If you find one false, say at which input.
  Laid BY PROGRAM, IN A SANDBOX (cutbox-rows.mjs): the forced cells as the released guide's own fill.sh prints them over the translation 7d22f138fbbee1a0… (all of the seat's roots in one cut). By AI agents, Wed Nov 11 2026. No macro, syntax, notation, axiom, sorry.
-/
import Derived.Test.YtfknoaclabfdlaaGreatChecked
import GoSem.Claim
import GoSem.ClaimJoined
import GoSem.ClaimMapViews
import Derived.JoinedTies
import Derived.KernelRfl
namespace Go.Proofs.YtfknoaclabfdlaaGreat
/- THE CELL 'sum', in the pinned program and in every row, IS THE sha256 OF THE DUMP (.gsa) THAT YtfknoaclabfdlaaGreatProg.lean LOADS. Nothing in Lean hashes anything: it is a label: what it is worth is what the hold of that sum in a sandbox is worth. -/
noncomputable def Tryz.pinned : Pinned := { name := "ytfknoaclabfdlaagreat", sum := "7d22f138fbbee1a01dc818e2c4fd4865107e0daa855238794f62fad0e3de9e6b", checked := Tryz.checked }
namespace Rows
def none {H : Type} : Left H := { results := [], args := [] }

/-- 'loftblocklaw15.SlackPrograms': WHATEVER THE INPUT: true; the input reads as it did. -/
def slackProgramsSpec : ChangeSpec := { name := "slackPrograms", fn := fun _ => fun
  | [d1, d2] => { results := [.lit (.bool true)], args := [d1, d2] }
  | _ => none }
def slackProgramsRow : OpenClaim := { program := "ytfknoaclabfdlaagreat", sum := "7d22f138fbbee1a01dc818e2c4fd4865107e0daa855238794f62fad0e3de9e6b", func := "loftblock/loftblocklaw15.SlackPrograms", spec := "slackPrograms", inPlace := ["math/bits.Add64", "math/bits.Sub64"], unfollowed := true, recurses := true, named := ["math/bits.divideError", "math/bits.overflowError"], apart := false }
def SlackProgramsSaid : Prop := slackProgramsRow.holds Tryz.pinned (OpenSpec.ofChange slackProgramsSpec)

/-- ITS FALSE NEIGHBOUR: 'it returns false'. Refute it at one input. -/
def slackProgramsWrong : ChangeSpec := { name := "slackPrograms", fn := fun _ => fun
  | [d1, d2] => { results := [.lit (.bool false)], args := [d1, d2] }
  | _ => none }
def SlackProgramsWrongFalsely : Prop := slackProgramsRow.holds Tryz.pinned (OpenSpec.ofChange slackProgramsWrong)

/-- 'loftblocklaw15.SlackLeast': WHATEVER THE INPUT: true; the input reads as it did. -/
def slackLeastSpec : ChangeSpec := { name := "slackLeast", fn := fun _ => fun
  | [d1, d2] => { results := [.lit (.bool true)], args := [d1, d2] }
  | _ => none }
def slackLeastRow : OpenClaim := { program := "ytfknoaclabfdlaagreat", sum := "7d22f138fbbee1a01dc818e2c4fd4865107e0daa855238794f62fad0e3de9e6b", func := "loftblock/loftblocklaw15.SlackLeast", spec := "slackLeast", inPlace := ["math/bits.Add64", "math/bits.Sub64"], unfollowed := true, recurses := true, named := ["math/bits.divideError", "math/bits.overflowError"], apart := false }
def SlackLeastSaid : Prop := slackLeastRow.holds Tryz.pinned (OpenSpec.ofChange slackLeastSpec)

/-- ITS FALSE NEIGHBOUR: 'it returns false'. Refute it at one input. -/
def slackLeastWrong : ChangeSpec := { name := "slackLeast", fn := fun _ => fun
  | [d1, d2] => { results := [.lit (.bool false)], args := [d1, d2] }
  | _ => none }
def SlackLeastWrongFalsely : Prop := slackLeastRow.holds Tryz.pinned (OpenSpec.ofChange slackLeastWrong)

/-- 'loftblocklaw15.SlackLoads': WHATEVER THE INPUT: true; the input reads as it did. -/
def slackLoadsSpec : ChangeSpec := { name := "slackLoads", fn := fun _ => fun
  | [d] => { results := [.lit (.bool true)], args := [d] }
  | _ => none }
def slackLoadsRow : OpenClaim := { program := "ytfknoaclabfdlaagreat", sum := "7d22f138fbbee1a01dc818e2c4fd4865107e0daa855238794f62fad0e3de9e6b", func := "loftblock/loftblocklaw15.SlackLoads", spec := "slackLoads", inPlace := ["math/bits.Add64", "math/bits.Sub64"], unfollowed := true, recurses := true, named := ["math/bits.divideError", "math/bits.overflowError"], apart := false }
def SlackLoadsSaid : Prop := slackLoadsRow.holds Tryz.pinned (OpenSpec.ofChange slackLoadsSpec)

/-- ITS FALSE NEIGHBOUR: 'it returns false'. Refute it at one input. -/
def slackLoadsWrong : ChangeSpec := { name := "slackLoads", fn := fun _ => fun
  | [d] => { results := [.lit (.bool false)], args := [d] }
  | _ => none }
def SlackLoadsWrongFalsely : Prop := slackLoadsRow.holds Tryz.pinned (OpenSpec.ofChange slackLoadsWrong)

/-- 'loftblocklaw15.SlackHolds': WHATEVER THE INPUT: true; the input reads as it did. -/
def slackHoldsSpec : ChangeSpec := { name := "slackHolds", fn := fun _ => fun
  | [d] => { results := [.lit (.bool true)], args := [d] }
  | _ => none }
def slackHoldsRow : OpenClaim := { program := "ytfknoaclabfdlaagreat", sum := "7d22f138fbbee1a01dc818e2c4fd4865107e0daa855238794f62fad0e3de9e6b", func := "loftblock/loftblocklaw15.SlackHolds", spec := "slackHolds", inPlace := ["math/bits.Add64", "math/bits.Sub64"], unfollowed := true, recurses := true, named := ["math/bits.divideError", "math/bits.overflowError"], apart := false }
def SlackHoldsSaid : Prop := slackHoldsRow.holds Tryz.pinned (OpenSpec.ofChange slackHoldsSpec)

/-- ITS FALSE NEIGHBOUR: 'it returns false'. Refute it at one input. -/
def slackHoldsWrong : ChangeSpec := { name := "slackHolds", fn := fun _ => fun
  | [d] => { results := [.lit (.bool false)], args := [d] }
  | _ => none }
def SlackHoldsWrongFalsely : Prop := slackHoldsRow.holds Tryz.pinned (OpenSpec.ofChange slackHoldsWrong)

/-- 'loftblocklaw15.SlackBounds': WHATEVER THE INPUT: true; the input reads as it did. -/
def slackBoundsSpec : ChangeSpec := { name := "slackBounds", fn := fun _ => fun
  | [d1, d2, d3] => { results := [.lit (.bool true)], args := [d1, d2, d3] }
  | _ => none }
def slackBoundsRow : OpenClaim := { program := "ytfknoaclabfdlaagreat", sum := "7d22f138fbbee1a01dc818e2c4fd4865107e0daa855238794f62fad0e3de9e6b", func := "loftblock/loftblocklaw15.SlackBounds", spec := "slackBounds", inPlace := ["math/bits.Add64", "math/bits.Sub64"], unfollowed := true, recurses := true, named := ["math/bits.divideError", "math/bits.overflowError"], apart := false }
def SlackBoundsSaid : Prop := slackBoundsRow.holds Tryz.pinned (OpenSpec.ofChange slackBoundsSpec)

/-- ITS FALSE NEIGHBOUR: 'it returns false'. Refute it at one input. -/
def slackBoundsWrong : ChangeSpec := { name := "slackBounds", fn := fun _ => fun
  | [d1, d2, d3] => { results := [.lit (.bool false)], args := [d1, d2, d3] }
  | _ => none }
def SlackBoundsWrongFalsely : Prop := slackBoundsRow.holds Tryz.pinned (OpenSpec.ofChange slackBoundsWrong)

/-- 'loftblocklaw15.SlackOnly': WHATEVER THE INPUT: true; the input reads as it did. -/
def slackOnlySpec : ChangeSpec := { name := "slackOnly", fn := fun _ => fun
  | [d] => { results := [.lit (.bool true)], args := [d] }
  | _ => none }
def slackOnlyRow : OpenClaim := { program := "ytfknoaclabfdlaagreat", sum := "7d22f138fbbee1a01dc818e2c4fd4865107e0daa855238794f62fad0e3de9e6b", func := "loftblock/loftblocklaw15.SlackOnly", spec := "slackOnly", inPlace := ["math/bits.Add64", "math/bits.Sub64"], unfollowed := true, recurses := true, named := ["math/bits.divideError", "math/bits.overflowError"], apart := false }
def SlackOnlySaid : Prop := slackOnlyRow.holds Tryz.pinned (OpenSpec.ofChange slackOnlySpec)

/-- ITS FALSE NEIGHBOUR: 'it returns false'. Refute it at one input. -/
def slackOnlyWrong : ChangeSpec := { name := "slackOnly", fn := fun _ => fun
  | [d] => { results := [.lit (.bool false)], args := [d] }
  | _ => none }
def SlackOnlyWrongFalsely : Prop := slackOnlyRow.holds Tryz.pinned (OpenSpec.ofChange slackOnlyWrong)

/- THE SECOND FORM. 'bulk': how many values and letters a reading holds, each counted each time it is reached (what is shared counts as often as it is met; a slice's spare places count too). A statement '..UptoSaid' is the law's where the arguments, and the package variables that the reading takes, are together of bulk at most 1048576: NARROWER than '..Said'. Prove '..Said' where nothing that the law and all that it calls make is longer than what came in: it says more and counts as full. Else prove '..UptoSaid'. A law counts once. -/
mutual
def uptoBulk {H : Type} : DataW H → Nat
  | .lit (.string bytes) => bytes.length + 1
  | .lit _ => 1
  | .nil => 1
  | .ptr d => uptoBulk d + 1
  | .slice elems spare => uptoBulkAll elems + uptoBulkAll spare + 1
  | .agg parts => uptoBulkAll parts + 1
  | .iface _ d => uptoBulk d + 1
  | .map entries => uptoBulkEntries entries + 1
  | .held _ => 1
def uptoBulkAll {H : Type} : List (DataW H) → Nat
  | [] => 0
  | d :: r => uptoBulk d + uptoBulkAll r
def uptoBulkEntries {H : Type} : List (Lit × DataW H) → Nat
  | [] => 0
  | x :: r => uptoBulkEntry x + uptoBulkEntries r
def uptoBulkEntry {H : Type} : Lit × DataW H → Nat
  | (.string bytes, d) => bytes.length + uptoBulk d + 1
  | (_, d) => uptoBulk d + 1
 end
def uptoSmall : (H : Type) → List (DataW H) → Bool := fun _ ds => decide (uptoBulkAll ds ≤ 1048576)
def OpenSpec.upto (s : _root_.Go.ChangeSpec) : _root_.Go.OpenSpec := { _root_.Go.OpenSpec.ofChange s with cond := some uptoSmall }

/-- 'loftblocklaw15.SlackPrograms', WHERE WHAT IT READS IS OF BULK AT MOST 1048576: true; the input reads as it did. -/
def slackProgramsUptoRow : OpenClaim := { program := "ytfknoaclabfdlaagreat", sum := "7d22f138fbbee1a01dc818e2c4fd4865107e0daa855238794f62fad0e3de9e6b", func := "loftblock/loftblocklaw15.SlackPrograms", spec := "slackPrograms", inPlace := ["math/bits.Add64", "math/bits.Sub64"], unfollowed := true, recurses := true, named := ["math/bits.divideError", "math/bits.overflowError"], apart := false, narrowed := true }
def SlackProgramsUptoSaid : Prop := slackProgramsUptoRow.holds Tryz.pinned (OpenSpec.upto slackProgramsSpec)

/-- 'loftblocklaw15.SlackLeast', WHERE WHAT IT READS IS OF BULK AT MOST 1048576: true; the input reads as it did. -/
def slackLeastUptoRow : OpenClaim := { program := "ytfknoaclabfdlaagreat", sum := "7d22f138fbbee1a01dc818e2c4fd4865107e0daa855238794f62fad0e3de9e6b", func := "loftblock/loftblocklaw15.SlackLeast", spec := "slackLeast", inPlace := ["math/bits.Add64", "math/bits.Sub64"], unfollowed := true, recurses := true, named := ["math/bits.divideError", "math/bits.overflowError"], apart := false, narrowed := true }
def SlackLeastUptoSaid : Prop := slackLeastUptoRow.holds Tryz.pinned (OpenSpec.upto slackLeastSpec)

/-- 'loftblocklaw15.SlackLoads', WHERE WHAT IT READS IS OF BULK AT MOST 1048576: true; the input reads as it did. -/
def slackLoadsUptoRow : OpenClaim := { program := "ytfknoaclabfdlaagreat", sum := "7d22f138fbbee1a01dc818e2c4fd4865107e0daa855238794f62fad0e3de9e6b", func := "loftblock/loftblocklaw15.SlackLoads", spec := "slackLoads", inPlace := ["math/bits.Add64", "math/bits.Sub64"], unfollowed := true, recurses := true, named := ["math/bits.divideError", "math/bits.overflowError"], apart := false, narrowed := true }
def SlackLoadsUptoSaid : Prop := slackLoadsUptoRow.holds Tryz.pinned (OpenSpec.upto slackLoadsSpec)

/-- 'loftblocklaw15.SlackHolds', WHERE WHAT IT READS IS OF BULK AT MOST 1048576: true; the input reads as it did. -/
def slackHoldsUptoRow : OpenClaim := { program := "ytfknoaclabfdlaagreat", sum := "7d22f138fbbee1a01dc818e2c4fd4865107e0daa855238794f62fad0e3de9e6b", func := "loftblock/loftblocklaw15.SlackHolds", spec := "slackHolds", inPlace := ["math/bits.Add64", "math/bits.Sub64"], unfollowed := true, recurses := true, named := ["math/bits.divideError", "math/bits.overflowError"], apart := false, narrowed := true }
def SlackHoldsUptoSaid : Prop := slackHoldsUptoRow.holds Tryz.pinned (OpenSpec.upto slackHoldsSpec)

/-- 'loftblocklaw15.SlackBounds', WHERE WHAT IT READS IS OF BULK AT MOST 1048576: true; the input reads as it did. -/
def slackBoundsUptoRow : OpenClaim := { program := "ytfknoaclabfdlaagreat", sum := "7d22f138fbbee1a01dc818e2c4fd4865107e0daa855238794f62fad0e3de9e6b", func := "loftblock/loftblocklaw15.SlackBounds", spec := "slackBounds", inPlace := ["math/bits.Add64", "math/bits.Sub64"], unfollowed := true, recurses := true, named := ["math/bits.divideError", "math/bits.overflowError"], apart := false, narrowed := true }
def SlackBoundsUptoSaid : Prop := slackBoundsUptoRow.holds Tryz.pinned (OpenSpec.upto slackBoundsSpec)

/-- 'loftblocklaw15.SlackOnly', WHERE WHAT IT READS IS OF BULK AT MOST 1048576: true; the input reads as it did. -/
def slackOnlyUptoRow : OpenClaim := { program := "ytfknoaclabfdlaagreat", sum := "7d22f138fbbee1a01dc818e2c4fd4865107e0daa855238794f62fad0e3de9e6b", func := "loftblock/loftblocklaw15.SlackOnly", spec := "slackOnly", inPlace := ["math/bits.Add64", "math/bits.Sub64"], unfollowed := true, recurses := true, named := ["math/bits.divideError", "math/bits.overflowError"], apart := false, narrowed := true }
def SlackOnlyUptoSaid : Prop := slackOnlyUptoRow.holds Tryz.pinned (OpenSpec.upto slackOnlySpec)

end Rows
end Go.Proofs.YtfknoaclabfdlaaGreat
