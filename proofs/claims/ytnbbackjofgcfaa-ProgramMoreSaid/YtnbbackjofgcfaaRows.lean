/-
  No cell of these rows narrows 'for every input' (looked for: loops, veiled, ifaces, maps, wideKeys, modest, calm, conditions, laid).
  DERIVED. THE GIVEN ROWS OF THIS SEAT. 8 by the template 'for every input the law returns true; each argument reads behind the call as it read before'; 0 by the template 'total and deterministic' (their statements: YtnbbackjofgcfaaTotals.lean).
  GIVEN WITH THE SEED: the statements are not yours to turn. If you find one false, say at which input.
  Laid BY PROGRAM, IN A SANDBOX (cutbox-rows.mjs): the forced cells as the released guide's own fill.sh prints them over the translation c7dd89594dc45aa2… (all of the seat's roots in one cut). By AI agents, Wed Nov 11 2026. No macro, syntax, notation, axiom, sorry.
-/
import Derived.Test.YtnbbackjofgcfaaChecked
import GoSem.Claim
import GoSem.ClaimJoined
import GoSem.ClaimMapViews
import Derived.JoinedTies
import Derived.KernelRfl
namespace Go.Proofs.Ytnbbackjofgcfaa
/- THE CELL 'sum', in the pinned program and in every row, IS THE sha256 OF THE DUMP (.gsa) THAT YtnbbackjofgcfaaProg.lean LOADS. Nothing in Lean hashes anything: it is a label: what it is worth is what the hold of that sum in a sandbox is worth. -/
noncomputable def Try.pinned : Pinned := { name := "ytnbbackjofgcfaa", sum := "c7dd89594dc45aa2dedf4a0ea60f7b08b6e4a0937739053d571c1f9f5d517827", checked := Try.checked }
namespace Rows
def none {H : Type} : Left H := { results := [], args := [] }

/-- 'loftblocklaw05.ProgramChecks': WHATEVER THE INPUT: true; the input reads as it did. -/
def programChecksSpec : ChangeSpec := { name := "programChecks", fn := fun _ => fun
  | [d1, d2, d3] => { results := [.lit (.bool true)], args := [d1, d2, d3] }
  | _ => none }
def programChecksRow : OpenClaim := { program := "ytnbbackjofgcfaa", sum := "c7dd89594dc45aa2dedf4a0ea60f7b08b6e4a0937739053d571c1f9f5d517827", func := "loftblock/loftblocklaw05.ProgramChecks", spec := "programChecks", inPlace := ["math/bits.Add64", "math/bits.Sub64"], unfollowed := true, recurses := true, named := ["math/bits.divideError", "math/bits.overflowError"], apart := false }
def ProgramChecksSaid : Prop := programChecksRow.holds Try.pinned (OpenSpec.ofChange programChecksSpec)

/-- ITS FALSE NEIGHBOUR: 'it returns false'. Refute it at one input. -/
def programChecksWrong : ChangeSpec := { name := "programChecks", fn := fun _ => fun
  | [d1, d2, d3] => { results := [.lit (.bool false)], args := [d1, d2, d3] }
  | _ => none }
def ProgramChecksWrongFalsely : Prop := programChecksRow.holds Try.pinned (OpenSpec.ofChange programChecksWrong)

/-- 'loftblocklaw05.ProgramMore': WHATEVER THE INPUT: true; the input reads as it did. -/
def programMoreSpec : ChangeSpec := { name := "programMore", fn := fun _ => fun
  | [d1, d2] => { results := [.lit (.bool true)], args := [d1, d2] }
  | _ => none }
def programMoreRow : OpenClaim := { program := "ytnbbackjofgcfaa", sum := "c7dd89594dc45aa2dedf4a0ea60f7b08b6e4a0937739053d571c1f9f5d517827", func := "loftblock/loftblocklaw05.ProgramMore", spec := "programMore", inPlace := ["math/bits.Add64", "math/bits.Sub64"], unfollowed := true, recurses := true, named := ["math/bits.divideError", "math/bits.overflowError"], apart := false }
def ProgramMoreSaid : Prop := programMoreRow.holds Try.pinned (OpenSpec.ofChange programMoreSpec)

/-- ITS FALSE NEIGHBOUR: 'it returns false'. Refute it at one input. -/
def programMoreWrong : ChangeSpec := { name := "programMore", fn := fun _ => fun
  | [d1, d2] => { results := [.lit (.bool false)], args := [d1, d2] }
  | _ => none }
def ProgramMoreWrongFalsely : Prop := programMoreRow.holds Try.pinned (OpenSpec.ofChange programMoreWrong)

/-- 'loftblocklaw05.ProgramSolves': WHATEVER THE INPUT: true; the input reads as it did. -/
def programSolvesSpec : ChangeSpec := { name := "programSolves", fn := fun _ => fun
  | [d] => { results := [.lit (.bool true)], args := [d] }
  | _ => none }
def programSolvesRow : OpenClaim := { program := "ytnbbackjofgcfaa", sum := "c7dd89594dc45aa2dedf4a0ea60f7b08b6e4a0937739053d571c1f9f5d517827", func := "loftblock/loftblocklaw05.ProgramSolves", spec := "programSolves", inPlace := ["math/bits.Add64", "math/bits.Sub64"], unfollowed := true, recurses := true, named := ["math/bits.divideError", "math/bits.overflowError"], apart := false }
def ProgramSolvesSaid : Prop := programSolvesRow.holds Try.pinned (OpenSpec.ofChange programSolvesSpec)

/-- ITS FALSE NEIGHBOUR: 'it returns false'. Refute it at one input. -/
def programSolvesWrong : ChangeSpec := { name := "programSolves", fn := fun _ => fun
  | [d] => { results := [.lit (.bool false)], args := [d] }
  | _ => none }
def ProgramSolvesWrongFalsely : Prop := programSolvesRow.holds Try.pinned (OpenSpec.ofChange programSolvesWrong)

/-- 'loftblocklaw05.ProgramForms': WHATEVER THE INPUT: true; the input reads as it did. -/
def programFormsSpec : ChangeSpec := { name := "programForms", fn := fun _ => fun
  | [d1, d2] => { results := [.lit (.bool true)], args := [d1, d2] }
  | _ => none }
def programFormsRow : OpenClaim := { program := "ytnbbackjofgcfaa", sum := "c7dd89594dc45aa2dedf4a0ea60f7b08b6e4a0937739053d571c1f9f5d517827", func := "loftblock/loftblocklaw05.ProgramForms", spec := "programForms", inPlace := ["math/bits.Add64", "math/bits.Sub64"], unfollowed := true, recurses := true, named := ["math/bits.divideError", "math/bits.overflowError"], apart := false }
def ProgramFormsSaid : Prop := programFormsRow.holds Try.pinned (OpenSpec.ofChange programFormsSpec)

/-- ITS FALSE NEIGHBOUR: 'it returns false'. Refute it at one input. -/
def programFormsWrong : ChangeSpec := { name := "programForms", fn := fun _ => fun
  | [d1, d2] => { results := [.lit (.bool false)], args := [d1, d2] }
  | _ => none }
def ProgramFormsWrongFalsely : Prop := programFormsRow.holds Try.pinned (OpenSpec.ofChange programFormsWrong)

/-- 'loftblocklaw05.ProgramBeats': WHATEVER THE INPUT: true; the input reads as it did. -/
def programBeatsSpec : ChangeSpec := { name := "programBeats", fn := fun _ => fun
  | [d1, d2] => { results := [.lit (.bool true)], args := [d1, d2] }
  | _ => none }
def programBeatsRow : OpenClaim := { program := "ytnbbackjofgcfaa", sum := "c7dd89594dc45aa2dedf4a0ea60f7b08b6e4a0937739053d571c1f9f5d517827", func := "loftblock/loftblocklaw05.ProgramBeats", spec := "programBeats", inPlace := ["math/bits.Add64", "math/bits.Sub64"], unfollowed := true, recurses := true, named := ["math/bits.divideError", "math/bits.overflowError"], apart := false }
def ProgramBeatsSaid : Prop := programBeatsRow.holds Try.pinned (OpenSpec.ofChange programBeatsSpec)

/-- ITS FALSE NEIGHBOUR: 'it returns false'. Refute it at one input. -/
def programBeatsWrong : ChangeSpec := { name := "programBeats", fn := fun _ => fun
  | [d1, d2] => { results := [.lit (.bool false)], args := [d1, d2] }
  | _ => none }
def ProgramBeatsWrongFalsely : Prop := programBeatsRow.holds Try.pinned (OpenSpec.ofChange programBeatsWrong)

/-- 'loftblocklaw05.ProgramDuals': WHATEVER THE INPUT: true; the input reads as it did. -/
def programDualsSpec : ChangeSpec := { name := "programDuals", fn := fun _ => fun
  | [d] => { results := [.lit (.bool true)], args := [d] }
  | _ => none }
def programDualsRow : OpenClaim := { program := "ytnbbackjofgcfaa", sum := "c7dd89594dc45aa2dedf4a0ea60f7b08b6e4a0937739053d571c1f9f5d517827", func := "loftblock/loftblocklaw05.ProgramDuals", spec := "programDuals", inPlace := ["math/bits.Add64", "math/bits.Sub64"], unfollowed := true, recurses := true, named := ["math/bits.divideError", "math/bits.overflowError"], apart := false }
def ProgramDualsSaid : Prop := programDualsRow.holds Try.pinned (OpenSpec.ofChange programDualsSpec)

/-- ITS FALSE NEIGHBOUR: 'it returns false'. Refute it at one input. -/
def programDualsWrong : ChangeSpec := { name := "programDuals", fn := fun _ => fun
  | [d] => { results := [.lit (.bool false)], args := [d] }
  | _ => none }
def ProgramDualsWrongFalsely : Prop := programDualsRow.holds Try.pinned (OpenSpec.ofChange programDualsWrong)

/-- 'loftblocklaw05.ProgramStrong': WHATEVER THE INPUT: true; the input reads as it did. -/
def programStrongSpec : ChangeSpec := { name := "programStrong", fn := fun _ => fun
  | [d] => { results := [.lit (.bool true)], args := [d] }
  | _ => none }
def programStrongRow : OpenClaim := { program := "ytnbbackjofgcfaa", sum := "c7dd89594dc45aa2dedf4a0ea60f7b08b6e4a0937739053d571c1f9f5d517827", func := "loftblock/loftblocklaw05.ProgramStrong", spec := "programStrong", inPlace := ["math/bits.Add64", "math/bits.Sub64"], unfollowed := true, recurses := true, named := ["math/bits.divideError", "math/bits.overflowError"], apart := false }
def ProgramStrongSaid : Prop := programStrongRow.holds Try.pinned (OpenSpec.ofChange programStrongSpec)

/-- ITS FALSE NEIGHBOUR: 'it returns false'. Refute it at one input. -/
def programStrongWrong : ChangeSpec := { name := "programStrong", fn := fun _ => fun
  | [d] => { results := [.lit (.bool false)], args := [d] }
  | _ => none }
def ProgramStrongWrongFalsely : Prop := programStrongRow.holds Try.pinned (OpenSpec.ofChange programStrongWrong)

/-- 'loftblocklaw05.ProgramProofs': WHATEVER THE INPUT: true; the input reads as it did. -/
def programProofsSpec : ChangeSpec := { name := "programProofs", fn := fun _ => fun
  | [d] => { results := [.lit (.bool true)], args := [d] }
  | _ => none }
def programProofsRow : OpenClaim := { program := "ytnbbackjofgcfaa", sum := "c7dd89594dc45aa2dedf4a0ea60f7b08b6e4a0937739053d571c1f9f5d517827", func := "loftblock/loftblocklaw05.ProgramProofs", spec := "programProofs", inPlace := ["math/bits.Add64", "math/bits.Sub64"], unfollowed := true, recurses := true, named := ["math/bits.divideError", "math/bits.overflowError"], apart := false }
def ProgramProofsSaid : Prop := programProofsRow.holds Try.pinned (OpenSpec.ofChange programProofsSpec)

/-- ITS FALSE NEIGHBOUR: 'it returns false'. Refute it at one input. -/
def programProofsWrong : ChangeSpec := { name := "programProofs", fn := fun _ => fun
  | [d] => { results := [.lit (.bool false)], args := [d] }
  | _ => none }
def ProgramProofsWrongFalsely : Prop := programProofsRow.holds Try.pinned (OpenSpec.ofChange programProofsWrong)

/- THE SECOND FORM. 'bulk': how many values and letters a reading holds, each counted each time it is reached (what is shared counts as often as it is met; a slice's spare places count too). A statement '..UptoSaid' is the law's where the arguments, and the package variables that the reading takes, are together of bulk at most 1048576: NARROWER than '..Said'. Prove '..Said' where nothing that the law and all that it calls make is longer than what came in: it says more and counts as full. Else prove '..UptoSaid'. A law counts once. -/
mutual
def uptoBulk {H : Type} : DataW H → Nat
  | .lit (.string bytes) => bytes.length + 1
  | .lit _ => 1
  | .nil => 1
  | .ptr d => uptoBulk d + 1
  | .slice elems spare => uptoBulkAll elems + uptoBulkAll spare + 1
  | .agg parts => uptoBulkAll parts + 1
  | .iface _ d => uptoBulk d + 1
  | .map entries => uptoBulkEntries entries + 1
  | .held _ => 1
def uptoBulkAll {H : Type} : List (DataW H) → Nat
  | [] => 0
  | d :: r => uptoBulk d + uptoBulkAll r
def uptoBulkEntries {H : Type} : List (Lit × DataW H) → Nat
  | [] => 0
  | x :: r => uptoBulkEntry x + uptoBulkEntries r
def uptoBulkEntry {H : Type} : Lit × DataW H → Nat
  | (.string bytes, d) => bytes.length + uptoBulk d + 1
  | (_, d) => uptoBulk d + 1
 end
def uptoSmall : (H : Type) → List (DataW H) → Bool := fun _ ds => decide (uptoBulkAll ds ≤ 1048576)
def OpenSpec.upto (s : _root_.Go.ChangeSpec) : _root_.Go.OpenSpec := { _root_.Go.OpenSpec.ofChange s with cond := some uptoSmall }

/-- 'loftblocklaw05.ProgramChecks', WHERE WHAT IT READS IS OF BULK AT MOST 1048576: true; the input reads as it did. -/
def programChecksUptoRow : OpenClaim := { program := "ytnbbackjofgcfaa", sum := "c7dd89594dc45aa2dedf4a0ea60f7b08b6e4a0937739053d571c1f9f5d517827", func := "loftblock/loftblocklaw05.ProgramChecks", spec := "programChecks", inPlace := ["math/bits.Add64", "math/bits.Sub64"], unfollowed := true, recurses := true, named := ["math/bits.divideError", "math/bits.overflowError"], apart := false, narrowed := true }
def ProgramChecksUptoSaid : Prop := programChecksUptoRow.holds Try.pinned (OpenSpec.upto programChecksSpec)

/-- 'loftblocklaw05.ProgramMore', WHERE WHAT IT READS IS OF BULK AT MOST 1048576: true; the input reads as it did. -/
def programMoreUptoRow : OpenClaim := { program := "ytnbbackjofgcfaa", sum := "c7dd89594dc45aa2dedf4a0ea60f7b08b6e4a0937739053d571c1f9f5d517827", func := "loftblock/loftblocklaw05.ProgramMore", spec := "programMore", inPlace := ["math/bits.Add64", "math/bits.Sub64"], unfollowed := true, recurses := true, named := ["math/bits.divideError", "math/bits.overflowError"], apart := false, narrowed := true }
def ProgramMoreUptoSaid : Prop := programMoreUptoRow.holds Try.pinned (OpenSpec.upto programMoreSpec)

/-- 'loftblocklaw05.ProgramSolves', WHERE WHAT IT READS IS OF BULK AT MOST 1048576: true; the input reads as it did. -/
def programSolvesUptoRow : OpenClaim := { program := "ytnbbackjofgcfaa", sum := "c7dd89594dc45aa2dedf4a0ea60f7b08b6e4a0937739053d571c1f9f5d517827", func := "loftblock/loftblocklaw05.ProgramSolves", spec := "programSolves", inPlace := ["math/bits.Add64", "math/bits.Sub64"], unfollowed := true, recurses := true, named := ["math/bits.divideError", "math/bits.overflowError"], apart := false, narrowed := true }
def ProgramSolvesUptoSaid : Prop := programSolvesUptoRow.holds Try.pinned (OpenSpec.upto programSolvesSpec)

/-- 'loftblocklaw05.ProgramForms', WHERE WHAT IT READS IS OF BULK AT MOST 1048576: true; the input reads as it did. -/
def programFormsUptoRow : OpenClaim := { program := "ytnbbackjofgcfaa", sum := "c7dd89594dc45aa2dedf4a0ea60f7b08b6e4a0937739053d571c1f9f5d517827", func := "loftblock/loftblocklaw05.ProgramForms", spec := "programForms", inPlace := ["math/bits.Add64", "math/bits.Sub64"], unfollowed := true, recurses := true, named := ["math/bits.divideError", "math/bits.overflowError"], apart := false, narrowed := true }
def ProgramFormsUptoSaid : Prop := programFormsUptoRow.holds Try.pinned (OpenSpec.upto programFormsSpec)

/-- 'loftblocklaw05.ProgramBeats', WHERE WHAT IT READS IS OF BULK AT MOST 1048576: true; the input reads as it did. -/
def programBeatsUptoRow : OpenClaim := { program := "ytnbbackjofgcfaa", sum := "c7dd89594dc45aa2dedf4a0ea60f7b08b6e4a0937739053d571c1f9f5d517827", func := "loftblock/loftblocklaw05.ProgramBeats", spec := "programBeats", inPlace := ["math/bits.Add64", "math/bits.Sub64"], unfollowed := true, recurses := true, named := ["math/bits.divideError", "math/bits.overflowError"], apart := false, narrowed := true }
def ProgramBeatsUptoSaid : Prop := programBeatsUptoRow.holds Try.pinned (OpenSpec.upto programBeatsSpec)

/-- 'loftblocklaw05.ProgramDuals', WHERE WHAT IT READS IS OF BULK AT MOST 1048576: true; the input reads as it did. -/
def programDualsUptoRow : OpenClaim := { program := "ytnbbackjofgcfaa", sum := "c7dd89594dc45aa2dedf4a0ea60f7b08b6e4a0937739053d571c1f9f5d517827", func := "loftblock/loftblocklaw05.ProgramDuals", spec := "programDuals", inPlace := ["math/bits.Add64", "math/bits.Sub64"], unfollowed := true, recurses := true, named := ["math/bits.divideError", "math/bits.overflowError"], apart := false, narrowed := true }
def ProgramDualsUptoSaid : Prop := programDualsUptoRow.holds Try.pinned (OpenSpec.upto programDualsSpec)

/-- 'loftblocklaw05.ProgramStrong', WHERE WHAT IT READS IS OF BULK AT MOST 1048576: true; the input reads as it did. -/
def programStrongUptoRow : OpenClaim := { program := "ytnbbackjofgcfaa", sum := "c7dd89594dc45aa2dedf4a0ea60f7b08b6e4a0937739053d571c1f9f5d517827", func := "loftblock/loftblocklaw05.ProgramStrong", spec := "programStrong", inPlace := ["math/bits.Add64", "math/bits.Sub64"], unfollowed := true, recurses := true, named := ["math/bits.divideError", "math/bits.overflowError"], apart := false, narrowed := true }
def ProgramStrongUptoSaid : Prop := programStrongUptoRow.holds Try.pinned (OpenSpec.upto programStrongSpec)

/-- 'loftblocklaw05.ProgramProofs', WHERE WHAT IT READS IS OF BULK AT MOST 1048576: true; the input reads as it did. -/
def programProofsUptoRow : OpenClaim := { program := "ytnbbackjofgcfaa", sum := "c7dd89594dc45aa2dedf4a0ea60f7b08b6e4a0937739053d571c1f9f5d517827", func := "loftblock/loftblocklaw05.ProgramProofs", spec := "programProofs", inPlace := ["math/bits.Add64", "math/bits.Sub64"], unfollowed := true, recurses := true, named := ["math/bits.divideError", "math/bits.overflowError"], apart := false, narrowed := true }
def ProgramProofsUptoSaid : Prop := programProofsUptoRow.holds Try.pinned (OpenSpec.upto programProofsSpec)

end Rows
end Go.Proofs.Ytnbbackjofgcfaa
