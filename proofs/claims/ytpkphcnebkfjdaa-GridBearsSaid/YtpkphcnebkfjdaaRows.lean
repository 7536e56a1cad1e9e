/-
  No cell of these rows narrows 'for every input' (looked for: loops, veiled, ifaces, maps, wideKeys, modest, calm, conditions, laid).
  DERIVED. THE GIVEN ROWS OF THIS SEAT. 6 by the template 'for every input the law returns true; each argument reads behind the call as it read before'; 0 by the template 'total and deterministic' (their statements: YtpkphcnebkfjdaaTotals.lean).
  GIVEN WITH THE SEED: the statements are not yours to turn. If you find one false, say at which input.
  Laid BY PROGRAM, IN A SANDBOX (cutbox-rows.mjs): the forced cells as the released guide's own fill.sh prints them over the translation b580fb10c36026de… (all of the seat's roots in one cut). By AI agents, Wed Nov 11 2026. No macro, syntax, notation, axiom, sorry.
-/
import Derived.Test.YtpkphcnebkfjdaaChecked
import GoSem.Claim
import GoSem.ClaimJoined
import GoSem.ClaimMapViews
import Derived.JoinedTies
import Derived.KernelRfl
namespace Go.Proofs.Ytpkphcnebkfjdaa
/- THE CELL 'sum', in the pinned program and in every row, IS THE sha256 OF THE DUMP (.gsa) THAT YtpkphcnebkfjdaaProg.lean LOADS. Nothing in Lean hashes anything: it is a label: what it is worth is what the hold of that sum in a sandbox is worth. -/
noncomputable def Try.pinned : Pinned := { name := "ytpkphcnebkfjdaa", sum := "b580fb10c36026de5e9156d91fa14b335ec8dc8e6145f527426d60c1e6e46aa6", checked := Try.checked }
namespace Rows
def none {H : Type} : Left H := { results := [], args := [] }

/-- 'loftblocklaw19.GridSpares': WHATEVER THE INPUT: true; the input reads as it did. -/
def gridSparesSpec : ChangeSpec := { name := "gridSpares", fn := fun _ => fun
  | [d1, d2, d3] => { results := [.lit (.bool true)], args := [d1, d2, d3] }
  | _ => none }
def gridSparesRow : OpenClaim := { program := "ytpkphcnebkfjdaa", sum := "b580fb10c36026de5e9156d91fa14b335ec8dc8e6145f527426d60c1e6e46aa6", func := "loftblock/loftblocklaw19.GridSpares", spec := "gridSpares", inPlace := ["math/bits.Add64", "math/bits.Sub64"], unfollowed := true, recurses := true, named := ["math/bits.divideError", "math/bits.overflowError"], apart := false }
def GridSparesSaid : Prop := gridSparesRow.holds Try.pinned (OpenSpec.ofChange gridSparesSpec)

/-- ITS FALSE NEIGHBOUR: 'it returns false'. Refute it at one input. -/
def gridSparesWrong : ChangeSpec := { name := "gridSpares", fn := fun _ => fun
  | [d1, d2, d3] => { results := [.lit (.bool false)], args := [d1, d2, d3] }
  | _ => none }
def GridSparesWrongFalsely : Prop := gridSparesRow.holds Try.pinned (OpenSpec.ofChange gridSparesWrong)

/-- 'loftblocklaw19.GridForms': WHATEVER THE INPUT: true; the input reads as it did. -/
def gridFormsSpec : ChangeSpec := { name := "gridForms", fn := fun _ => fun
  | [d1, d2] => { results := [.lit (.bool true)], args := [d1, d2] }
  | _ => none }
def gridFormsRow : OpenClaim := { program := "ytpkphcnebkfjdaa", sum := "b580fb10c36026de5e9156d91fa14b335ec8dc8e6145f527426d60c1e6e46aa6", func := "loftblock/loftblocklaw19.GridForms", spec := "gridForms", inPlace := ["math/bits.Add64", "math/bits.Sub64"], unfollowed := true, recurses := true, named := ["math/bits.divideError", "math/bits.overflowError"], apart := false }
def GridFormsSaid : Prop := gridFormsRow.holds Try.pinned (OpenSpec.ofChange gridFormsSpec)

/-- ITS FALSE NEIGHBOUR: 'it returns false'. Refute it at one input. -/
def gridFormsWrong : ChangeSpec := { name := "gridForms", fn := fun _ => fun
  | [d1, d2] => { results := [.lit (.bool false)], args := [d1, d2] }
  | _ => none }
def GridFormsWrongFalsely : Prop := gridFormsRow.holds Try.pinned (OpenSpec.ofChange gridFormsWrong)

/-- 'loftblocklaw19.GridLoads': WHATEVER THE INPUT: true; the input reads as it did. -/
def gridLoadsSpec : ChangeSpec := { name := "gridLoads", fn := fun _ => fun
  | [d1, d2] => { results := [.lit (.bool true)], args := [d1, d2] }
  | _ => none }
def gridLoadsRow : OpenClaim := { program := "ytpkphcnebkfjdaa", sum := "b580fb10c36026de5e9156d91fa14b335ec8dc8e6145f527426d60c1e6e46aa6", func := "loftblock/loftblocklaw19.GridLoads", spec := "gridLoads", inPlace := ["math/bits.Add64", "math/bits.Sub64"], unfollowed := true, recurses := true, named := ["math/bits.divideError", "math/bits.overflowError"], apart := false }
def GridLoadsSaid : Prop := gridLoadsRow.holds Try.pinned (OpenSpec.ofChange gridLoadsSpec)

/-- ITS FALSE NEIGHBOUR: 'it returns false'. Refute it at one input. -/
def gridLoadsWrong : ChangeSpec := { name := "gridLoads", fn := fun _ => fun
  | [d1, d2] => { results := [.lit (.bool false)], args := [d1, d2] }
  | _ => none }
def GridLoadsWrongFalsely : Prop := gridLoadsRow.holds Try.pinned (OpenSpec.ofChange gridLoadsWrong)

/-- 'loftblocklaw19.GridSums': WHATEVER THE INPUT: true; the input reads as it did. -/
def gridSumsSpec : ChangeSpec := { name := "gridSums", fn := fun _ => fun
  | [d1, d2] => { results := [.lit (.bool true)], args := [d1, d2] }
  | _ => none }
def gridSumsRow : OpenClaim := { program := "ytpkphcnebkfjdaa", sum := "b580fb10c36026de5e9156d91fa14b335ec8dc8e6145f527426d60c1e6e46aa6", func := "loftblock/loftblocklaw19.GridSums", spec := "gridSums", inPlace := ["math/bits.Add64", "math/bits.Sub64"], unfollowed := true, recurses := true, named := ["math/bits.divideError", "math/bits.overflowError"], apart := false }
def GridSumsSaid : Prop := gridSumsRow.holds Try.pinned (OpenSpec.ofChange gridSumsSpec)

/-- ITS FALSE NEIGHBOUR: 'it returns false'. Refute it at one input. -/
def gridSumsWrong : ChangeSpec := { name := "gridSums", fn := fun _ => fun
  | [d1, d2] => { results := [.lit (.bool false)], args := [d1, d2] }
  | _ => none }
def GridSumsWrongFalsely : Prop := gridSumsRow.holds Try.pinned (OpenSpec.ofChange gridSumsWrong)

/-- 'loftblocklaw19.GridAdds': WHATEVER THE INPUT: true; the input reads as it did. -/
def gridAddsSpec : ChangeSpec := { name := "gridAdds", fn := fun _ => fun
  | [d1, d2, d3] => { results := [.lit (.bool true)], args := [d1, d2, d3] }
  | _ => none }
def gridAddsRow : OpenClaim := { program := "ytpkphcnebkfjdaa", sum := "b580fb10c36026de5e9156d91fa14b335ec8dc8e6145f527426d60c1e6e46aa6", func := "loftblock/loftblocklaw19.GridAdds", spec := "gridAdds", inPlace := ["math/bits.Add64", "math/bits.Sub64"], unfollowed := true, recurses := true, named := ["math/bits.divideError", "math/bits.overflowError"], apart := false }
def GridAddsSaid : Prop := gridAddsRow.holds Try.pinned (OpenSpec.ofChange gridAddsSpec)

/-- ITS FALSE NEIGHBOUR: 'it returns false'. Refute it at one input. -/
def gridAddsWrong : ChangeSpec := { name := "gridAdds", fn := fun _ => fun
  | [d1, d2, d3] => { results := [.lit (.bool false)], args := [d1, d2, d3] }
  | _ => none }
def GridAddsWrongFalsely : Prop := gridAddsRow.holds Try.pinned (OpenSpec.ofChange gridAddsWrong)

/-- 'loftblocklaw19.GridBears': WHATEVER THE INPUT: true; the input reads as it did. -/
def gridBearsSpec : ChangeSpec := { name := "gridBears", fn := fun _ => fun
  | [d1, d2, d3] => { results := [.lit (.bool true)], args := [d1, d2, d3] }
  | _ => none }
def gridBearsRow : OpenClaim := { program := "ytpkphcnebkfjdaa", sum := "b580fb10c36026de5e9156d91fa14b335ec8dc8e6145f527426d60c1e6e46aa6", func := "loftblock/loftblocklaw19.GridBears", spec := "gridBears", inPlace := ["math/bits.Add64", "math/bits.Sub64"], unfollowed := true, recurses := true, named := ["math/bits.divideError", "math/bits.overflowError"], apart := false }
def GridBearsSaid : Prop := gridBearsRow.holds Try.pinned (OpenSpec.ofChange gridBearsSpec)

/-- ITS FALSE NEIGHBOUR: 'it returns false'. Refute it at one input. -/
def gridBearsWrong : ChangeSpec := { name := "gridBears", fn := fun _ => fun
  | [d1, d2, d3] => { results := [.lit (.bool false)], args := [d1, d2, d3] }
  | _ => none }
def GridBearsWrongFalsely : Prop := gridBearsRow.holds Try.pinned (OpenSpec.ofChange gridBearsWrong)

/- THE SECOND FORM. 'bulk': how many values and letters a reading holds, each counted each time it is reached (what is shared counts as often as it is met; a slice's spare places count too). A statement '..UptoSaid' is the law's where the arguments, and the package variables that the reading takes, are together of bulk at most 1048576: NARROWER than '..Said'. Prove '..Said' where nothing that the law and all that it calls make is longer than what came in: it says more and counts as full. Else prove '..UptoSaid'. A law counts once. -/
mutual
def uptoBulk {H : Type} : DataW H → Nat
  | .lit (.string bytes) => bytes.length + 1
  | .lit _ => 1
  | .nil => 1
  | .ptr d => uptoBulk d + 1
  | .slice elems spare => uptoBulkAll elems + uptoBulkAll spare + 1
  | .agg parts => uptoBulkAll parts + 1
  | .iface _ d => uptoBulk d + 1
  | .map entries => uptoBulkEntries entries + 1
  | .held _ => 1
def uptoBulkAll {H : Type} : List (DataW H) → Nat
  | [] => 0
  | d :: r => uptoBulk d + uptoBulkAll r
def uptoBulkEntries {H : Type} : List (Lit × DataW H) → Nat
  | [] => 0
  | x :: r => uptoBulkEntry x + uptoBulkEntries r
def uptoBulkEntry {H : Type} : Lit × DataW H → Nat
  | (.string bytes, d) => bytes.length + uptoBulk d + 1
  | (_, d) => uptoBulk d + 1
 end
def uptoSmall : (H : Type) → List (DataW H) → Bool := fun _ ds => decide (uptoBulkAll ds ≤ 1048576)
def OpenSpec.upto (s : _root_.Go.ChangeSpec) : _root_.Go.OpenSpec := { _root_.Go.OpenSpec.ofChange s with cond := some uptoSmall }

/-- 'loftblocklaw19.GridSpares', WHERE WHAT IT READS IS OF BULK AT MOST 1048576: true; the input reads as it did. -/
def gridSparesUptoRow : OpenClaim := { program := "ytpkphcnebkfjdaa", sum := "b580fb10c36026de5e9156d91fa14b335ec8dc8e6145f527426d60c1e6e46aa6", func := "loftblock/loftblocklaw19.GridSpares", spec := "gridSpares", inPlace := ["math/bits.Add64", "math/bits.Sub64"], unfollowed := true, recurses := true, named := ["math/bits.divideError", "math/bits.overflowError"], apart := false, narrowed := true }
def GridSparesUptoSaid : Prop := gridSparesUptoRow.holds Try.pinned (OpenSpec.upto gridSparesSpec)

/-- 'loftblocklaw19.GridForms', WHERE WHAT IT READS IS OF BULK AT MOST 1048576: true; the input reads as it did. -/
def gridFormsUptoRow : OpenClaim := { program := "ytpkphcnebkfjdaa", sum := "b580fb10c36026de5e9156d91fa14b335ec8dc8e6145f527426d60c1e6e46aa6", func := "loftblock/loftblocklaw19.GridForms", spec := "gridForms", inPlace := ["math/bits.Add64", "math/bits.Sub64"], unfollowed := true, recurses := true, named := ["math/bits.divideError", "math/bits.overflowError"], apart := false, narrowed := true }
def GridFormsUptoSaid : Prop := gridFormsUptoRow.holds Try.pinned (OpenSpec.upto gridFormsSpec)

/-- 'loftblocklaw19.GridLoads', WHERE WHAT IT READS IS OF BULK AT MOST 1048576: true; the input reads as it did. -/
def gridLoadsUptoRow : OpenClaim := { program := "ytpkphcnebkfjdaa", sum := "b580fb10c36026de5e9156d91fa14b335ec8dc8e6145f527426d60c1e6e46aa6", func := "loftblock/loftblocklaw19.GridLoads", spec := "gridLoads", inPlace := ["math/bits.Add64", "math/bits.Sub64"], unfollowed := true, recurses := true, named := ["math/bits.divideError", "math/bits.overflowError"], apart := false, narrowed := true }
def GridLoadsUptoSaid : Prop := gridLoadsUptoRow.holds Try.pinned (OpenSpec.upto gridLoadsSpec)

/-- 'loftblocklaw19.GridSums', WHERE WHAT IT READS IS OF BULK AT MOST 1048576: true; the input reads as it did. -/
def gridSumsUptoRow : OpenClaim := { program := "ytpkphcnebkfjdaa", sum := "b580fb10c36026de5e9156d91fa14b335ec8dc8e6145f527426d60c1e6e46aa6", func := "loftblock/loftblocklaw19.GridSums", spec := "gridSums", inPlace := ["math/bits.Add64", "math/bits.Sub64"], unfollowed := true, recurses := true, named := ["math/bits.divideError", "math/bits.overflowError"], apart := false, narrowed := true }
def GridSumsUptoSaid : Prop := gridSumsUptoRow.holds Try.pinned (OpenSpec.upto gridSumsSpec)

/-- 'loftblocklaw19.GridAdds', WHERE WHAT IT READS IS OF BULK AT MOST 1048576: true; the input reads as it did. -/
def gridAddsUptoRow : OpenClaim := { program := "ytpkphcnebkfjdaa", sum := "b580fb10c36026de5e9156d91fa14b335ec8dc8e6145f527426d60c1e6e46aa6", func := "loftblock/loftblocklaw19.GridAdds", spec := "gridAdds", inPlace := ["math/bits.Add64", "math/bits.Sub64"], unfollowed := true, recurses := true, named := ["math/bits.divideError", "math/bits.overflowError"], apart := false, narrowed := true }
def GridAddsUptoSaid : Prop := gridAddsUptoRow.holds Try.pinned (OpenSpec.upto gridAddsSpec)

/-- 'loftblocklaw19.GridBears', WHERE WHAT IT READS IS OF BULK AT MOST 1048576: true; the input reads as it did. -/
def gridBearsUptoRow : OpenClaim := { program := "ytpkphcnebkfjdaa", sum := "b580fb10c36026de5e9156d91fa14b335ec8dc8e6145f527426d60c1e6e46aa6", func := "loftblock/loftblocklaw19.GridBears", spec := "gridBears", inPlace := ["math/bits.Add64", "math/bits.Sub64"], unfollowed := true, recurses := true, named := ["math/bits.divideError", "math/bits.overflowError"], apart := false, narrowed := true }
def GridBearsUptoSaid : Prop := gridBearsUptoRow.holds Try.pinned (OpenSpec.upto gridBearsSpec)

end Rows
end Go.Proofs.Ytpkphcnebkfjdaa
