/-
  No cell of these rows narrows 'for every input' (looked for: loops, veiled, ifaces, maps, wideKeys, modest, calm, conditions, laid).
  DERIVED. THE GIVEN ROWS OF THIS SEAT. 8 by the template 'for every input the law returns true; each argument reads behind the call as it read before'; 0 by the template 'total and deterministic' (their statements: YtegbncajloeepaaGreatTotals.lean).
  GIVEN WITH THE SEED: the statements are not yours to turn. If you find one false, say at which input.
  Laid BY PROGRAM, IN A SANDBOX (cutbox-rows.mjs): the forced cells as the released guide's own fill.sh prints them over the translation 5452fedb2cd6dc34… (all of the seat's roots in one cut). By AI agents, Wed Nov 11 2026. No macro, syntax, notation, axiom, sorry.
-/
import Derived.Test.YtegbncajloeepaaGreatChecked
import GoSem.Claim
import GoSem.ClaimJoined
import GoSem.ClaimMapViews
import Derived.JoinedTies
import Derived.KernelRfl
namespace Go.Proofs.YtegbncajloeepaaGreat
/- THE CELL 'sum', in the pinned program and in every row, IS THE sha256 OF THE DUMP (.gsa) THAT YtegbncajloeepaaGreatProg.lean LOADS. Nothing in Lean hashes anything: it is a label: what it is worth is what the hold of that sum in a sandbox is worth. -/
noncomputable def Tryz.pinned : Pinned := { name := "ytegbncajloeepaagreat", sum := "5452fedb2cd6dc3413ea86d6cb7d9ed030cbb4a5362e44fa78bfc4748d66e6a4", checked := Tryz.checked }
namespace Rows
def none {H : Type} : Left H := { results := [], args := [] }

/-- 'loftblocklaw50.TensionClaims': WHATEVER THE INPUT: true; the input reads as it did. -/
def tensionClaimsSpec : ChangeSpec := { name := "tensionClaims", fn := fun _ => fun
  | [d] => { results := [.lit (.bool true)], args := [d] }
  | _ => none }
def tensionClaimsRow : OpenClaim := { program := "ytegbncajloeepaagreat", sum := "5452fedb2cd6dc3413ea86d6cb7d9ed030cbb4a5362e44fa78bfc4748d66e6a4", func := "loftblock/loftblocklaw50.TensionClaims", spec := "tensionClaims", inPlace := ["math/bits.Add64", "math/bits.Sub64"], unfollowed := true, recurses := true, named := ["math/bits.divideError", "math/bits.overflowError"], apart := false }
def TensionClaimsSaid : Prop := tensionClaimsRow.holds Tryz.pinned (OpenSpec.ofChange tensionClaimsSpec)

/-- ITS FALSE NEIGHBOUR: 'it returns false'. Refute it at one input. -/
def tensionClaimsWrong : ChangeSpec := { name := "tensionClaims", fn := fun _ => fun
  | [d] => { results := [.lit (.bool false)], args := [d] }
  | _ => none }
def TensionClaimsWrongFalsely : Prop := tensionClaimsRow.holds Tryz.pinned (OpenSpec.ofChange tensionClaimsWrong)

/-- 'loftblocklaw50.TensionChecks': WHATEVER THE INPUT: true; the input reads as it did. -/
def tensionChecksSpec : ChangeSpec := { name := "tensionChecks", fn := fun _ => fun
  | [d1, d2] => { results := [.lit (.bool true)], args := [d1, d2] }
  | _ => none }
def tensionChecksRow : OpenClaim := { program := "ytegbncajloeepaagreat", sum := "5452fedb2cd6dc3413ea86d6cb7d9ed030cbb4a5362e44fa78bfc4748d66e6a4", func := "loftblock/loftblocklaw50.TensionChecks", spec := "tensionChecks", inPlace := ["math/bits.Add64", "math/bits.Sub64"], unfollowed := true, recurses := true, named := ["math/bits.divideError", "math/bits.overflowError"], apart := false }
def TensionChecksSaid : Prop := tensionChecksRow.holds Tryz.pinned (OpenSpec.ofChange tensionChecksSpec)

/-- ITS FALSE NEIGHBOUR: 'it returns false'. Refute it at one input. -/
def tensionChecksWrong : ChangeSpec := { name := "tensionChecks", fn := fun _ => fun
  | [d1, d2] => { results := [.lit (.bool false)], args := [d1, d2] }
  | _ => none }
def TensionChecksWrongFalsely : Prop := tensionChecksRow.holds Tryz.pinned (OpenSpec.ofChange tensionChecksWrong)

/-- 'loftblocklaw50.TensionDecides': WHATEVER THE INPUT: true; the input reads as it did. -/
def tensionDecidesSpec : ChangeSpec := { name := "tensionDecides", fn := fun _ => fun
  | [d1, d2] => { results := [.lit (.bool true)], args := [d1, d2] }
  | _ => none }
def tensionDecidesRow : OpenClaim := { program := "ytegbncajloeepaagreat", sum := "5452fedb2cd6dc3413ea86d6cb7d9ed030cbb4a5362e44fa78bfc4748d66e6a4", func := "loftblock/loftblocklaw50.TensionDecides", spec := "tensionDecides", inPlace := ["math/bits.Add64", "math/bits.Sub64"], unfollowed := true, recurses := true, named := ["math/bits.divideError", "math/bits.overflowError"], apart := false }
def TensionDecidesSaid : Prop := tensionDecidesRow.holds Tryz.pinned (OpenSpec.ofChange tensionDecidesSpec)

/-- ITS FALSE NEIGHBOUR: 'it returns false'. Refute it at one input. -/
def tensionDecidesWrong : ChangeSpec := { name := "tensionDecides", fn := fun _ => fun
  | [d1, d2] => { results := [.lit (.bool false)], args := [d1, d2] }
  | _ => none }
def TensionDecidesWrongFalsely : Prop := tensionDecidesRow.holds Tryz.pinned (OpenSpec.ofChange tensionDecidesWrong)

/-- 'loftblocklaw50.TensionTwice': WHATEVER THE INPUT: true; the input reads as it did. -/
def tensionTwiceSpec : ChangeSpec := { name := "tensionTwice", fn := fun _ => fun
  | [d1, d2] => { results := [.lit (.bool true)], args := [d1, d2] }
  | _ => none }
def tensionTwiceRow : OpenClaim := { program := "ytegbncajloeepaagreat", sum := "5452fedb2cd6dc3413ea86d6cb7d9ed030cbb4a5362e44fa78bfc4748d66e6a4", func := "loftblock/loftblocklaw50.TensionTwice", spec := "tensionTwice", inPlace := ["math/bits.Add64", "math/bits.Sub64"], unfollowed := true, recurses := true, named := ["math/bits.divideError", "math/bits.overflowError"], apart := false }
def TensionTwiceSaid : Prop := tensionTwiceRow.holds Tryz.pinned (OpenSpec.ofChange tensionTwiceSpec)

/-- ITS FALSE NEIGHBOUR: 'it returns false'. Refute it at one input. -/
def tensionTwiceWrong : ChangeSpec := { name := "tensionTwice", fn := fun _ => fun
  | [d1, d2] => { results := [.lit (.bool false)], args := [d1, d2] }
  | _ => none }
def TensionTwiceWrongFalsely : Prop := tensionTwiceRow.holds Tryz.pinned (OpenSpec.ofChange tensionTwiceWrong)

/-- 'loftblocklaw50.TensionCodes': WHATEVER THE INPUT: true; the input reads as it did. -/
def tensionCodesSpec : ChangeSpec := { name := "tensionCodes", fn := fun _ => fun
  | [d1, d2] => { results := [.lit (.bool true)], args := [d1, d2] }
  | _ => none }
def tensionCodesRow : OpenClaim := { program := "ytegbncajloeepaagreat", sum := "5452fedb2cd6dc3413ea86d6cb7d9ed030cbb4a5362e44fa78bfc4748d66e6a4", func := "loftblock/loftblocklaw50.TensionCodes", spec := "tensionCodes", inPlace := ["math/bits.Add64", "math/bits.Sub64"], unfollowed := true, recurses := true, named := ["math/bits.divideError", "math/bits.overflowError"], apart := false }
def TensionCodesSaid : Prop := tensionCodesRow.holds Tryz.pinned (OpenSpec.ofChange tensionCodesSpec)

/-- ITS FALSE NEIGHBOUR: 'it returns false'. Refute it at one input. -/
def tensionCodesWrong : ChangeSpec := { name := "tensionCodes", fn := fun _ => fun
  | [d1, d2] => { results := [.lit (.bool false)], args := [d1, d2] }
  | _ => none }
def TensionCodesWrongFalsely : Prop := tensionCodesRow.holds Tryz.pinned (OpenSpec.ofChange tensionCodesWrong)

/-- 'loftblocklaw50.TensionDecodes': WHATEVER THE INPUT: true; the input reads as it did. -/
def tensionDecodesSpec : ChangeSpec := { name := "tensionDecodes", fn := fun _ => fun
  | [d] => { results := [.lit (.bool true)], args := [d] }
  | _ => none }
def tensionDecodesRow : OpenClaim := { program := "ytegbncajloeepaagreat", sum := "5452fedb2cd6dc3413ea86d6cb7d9ed030cbb4a5362e44fa78bfc4748d66e6a4", func := "loftblock/loftblocklaw50.TensionDecodes", spec := "tensionDecodes", inPlace := ["math/bits.Add64", "math/bits.Sub64"], unfollowed := true, recurses := true, named := ["math/bits.divideError", "math/bits.overflowError"], apart := false }
def TensionDecodesSaid : Prop := tensionDecodesRow.holds Tryz.pinned (OpenSpec.ofChange tensionDecodesSpec)

/-- ITS FALSE NEIGHBOUR: 'it returns false'. Refute it at one input. -/
def tensionDecodesWrong : ChangeSpec := { name := "tensionDecodes", fn := fun _ => fun
  | [d] => { results := [.lit (.bool false)], args := [d] }
  | _ => none }
def TensionDecodesWrongFalsely : Prop := tensionDecodesRow.holds Tryz.pinned (OpenSpec.ofChange tensionDecodesWrong)

/-- 'loftblocklaw50.TensionChanged': WHATEVER THE INPUT: true; the input reads as it did. -/
def tensionChangedSpec : ChangeSpec := { name := "tensionChanged", fn := fun _ => fun
  | [d1, d2, d3] => { results := [.lit (.bool true)], args := [d1, d2, d3] }
  | _ => none }
def tensionChangedRow : OpenClaim := { program := "ytegbncajloeepaagreat", sum := "5452fedb2cd6dc3413ea86d6cb7d9ed030cbb4a5362e44fa78bfc4748d66e6a4", func := "loftblock/loftblocklaw50.TensionChanged", spec := "tensionChanged", inPlace := ["math/bits.Add64", "math/bits.Sub64"], unfollowed := true, recurses := true, named := ["math/bits.divideError", "math/bits.overflowError"], apart := false }
def TensionChangedSaid : Prop := tensionChangedRow.holds Tryz.pinned (OpenSpec.ofChange tensionChangedSpec)

/-- ITS FALSE NEIGHBOUR: 'it returns false'. Refute it at one input. -/
def tensionChangedWrong : ChangeSpec := { name := "tensionChanged", fn := fun _ => fun
  | [d1, d2, d3] => { results := [.lit (.bool false)], args := [d1, d2, d3] }
  | _ => none }
def TensionChangedWrongFalsely : Prop := tensionChangedRow.holds Tryz.pinned (OpenSpec.ofChange tensionChangedWrong)

/-- 'loftblocklaw50.TensionOnly': WHATEVER THE INPUT: true; the input reads as it did. -/
def tensionOnlySpec : ChangeSpec := { name := "tensionOnly", fn := fun _ => fun
  | [d] => { results := [.lit (.bool true)], args := [d] }
  | _ => none }
def tensionOnlyRow : OpenClaim := { program := "ytegbncajloeepaagreat", sum := "5452fedb2cd6dc3413ea86d6cb7d9ed030cbb4a5362e44fa78bfc4748d66e6a4", func := "loftblock/loftblocklaw50.TensionOnly", spec := "tensionOnly", inPlace := ["math/bits.Add64", "math/bits.Sub64"], unfollowed := true, recurses := true, named := ["math/bits.divideError", "math/bits.overflowError"], apart := false }
def TensionOnlySaid : Prop := tensionOnlyRow.holds Tryz.pinned (OpenSpec.ofChange tensionOnlySpec)

/-- ITS FALSE NEIGHBOUR: 'it returns false'. Refute it at one input. -/
def tensionOnlyWrong : ChangeSpec := { name := "tensionOnly", fn := fun _ => fun
  | [d] => { results := [.lit (.bool false)], args := [d] }
  | _ => none }
def TensionOnlyWrongFalsely : Prop := tensionOnlyRow.holds Tryz.pinned (OpenSpec.ofChange tensionOnlyWrong)

/- THE SECOND FORM. 'bulk': how many values and letters a reading holds, each counted each time it is reached (what is shared counts as often as it is met; a slice's spare places count too). A statement '..UptoSaid' is the law's where the arguments, and the package variables that the reading takes, are together of bulk at most 1048576: NARROWER than '..Said'. Prove '..Said' where nothing that the law and all that it calls make is longer than what came in: it says more and counts as full. Else prove '..UptoSaid'. A law counts once. -/
mutual
def uptoBulk {H : Type} : DataW H → Nat
  | .lit (.string bytes) => bytes.length + 1
  | .lit _ => 1
  | .nil => 1
  | .ptr d => uptoBulk d + 1
  | .slice elems spare => uptoBulkAll elems + uptoBulkAll spare + 1
  | .agg parts => uptoBulkAll parts + 1
  | .iface _ d => uptoBulk d + 1
  | .map entries => uptoBulkEntries entries + 1
  | .held _ => 1
def uptoBulkAll {H : Type} : List (DataW H) → Nat
  | [] => 0
  | d :: r => uptoBulk d + uptoBulkAll r
def uptoBulkEntries {H : Type} : List (Lit × DataW H) → Nat
  | [] => 0
  | x :: r => uptoBulkEntry x + uptoBulkEntries r
def uptoBulkEntry {H : Type} : Lit × DataW H → Nat
  | (.string bytes, d) => bytes.length + uptoBulk d + 1
  | (_, d) => uptoBulk d + 1
 end
def uptoSmall : (H : Type) → List (DataW H) → Bool := fun _ ds => decide (uptoBulkAll ds ≤ 1048576)
def OpenSpec.upto (s : _root_.Go.ChangeSpec) : _root_.Go.OpenSpec := { _root_.Go.OpenSpec.ofChange s with cond := some uptoSmall }

/-- 'loftblocklaw50.TensionClaims', WHERE WHAT IT READS IS OF BULK AT MOST 1048576: true; the input reads as it did. -/
def tensionClaimsUptoRow : OpenClaim := { program := "ytegbncajloeepaagreat", sum := "5452fedb2cd6dc3413ea86d6cb7d9ed030cbb4a5362e44fa78bfc4748d66e6a4", func := "loftblock/loftblocklaw50.TensionClaims", spec := "tensionClaims", inPlace := ["math/bits.Add64", "math/bits.Sub64"], unfollowed := true, recurses := true, named := ["math/bits.divideError", "math/bits.overflowError"], apart := false, narrowed := true }
def TensionClaimsUptoSaid : Prop := tensionClaimsUptoRow.holds Tryz.pinned (OpenSpec.upto tensionClaimsSpec)

/-- 'loftblocklaw50.TensionChecks', WHERE WHAT IT READS IS OF BULK AT MOST 1048576: true; the input reads as it did. -/
def tensionChecksUptoRow : OpenClaim := { program := "ytegbncajloeepaagreat", sum := "5452fedb2cd6dc3413ea86d6cb7d9ed030cbb4a5362e44fa78bfc4748d66e6a4", func := "loftblock/loftblocklaw50.TensionChecks", spec := "tensionChecks", inPlace := ["math/bits.Add64", "math/bits.Sub64"], unfollowed := true, recurses := true, named := ["math/bits.divideError", "math/bits.overflowError"], apart := false, narrowed := true }
def TensionChecksUptoSaid : Prop := tensionChecksUptoRow.holds Tryz.pinned (OpenSpec.upto tensionChecksSpec)

/-- 'loftblocklaw50.TensionDecides', WHERE WHAT IT READS IS OF BULK AT MOST 1048576: true; the input reads as it did. -/
def tensionDecidesUptoRow : OpenClaim := { program := "ytegbncajloeepaagreat", sum := "5452fedb2cd6dc3413ea86d6cb7d9ed030cbb4a5362e44fa78bfc4748d66e6a4", func := "loftblock/loftblocklaw50.TensionDecides", spec := "tensionDecides", inPlace := ["math/bits.Add64", "math/bits.Sub64"], unfollowed := true, recurses := true, named := ["math/bits.divideError", "math/bits.overflowError"], apart := false, narrowed := true }
def TensionDecidesUptoSaid : Prop := tensionDecidesUptoRow.holds Tryz.pinned (OpenSpec.upto tensionDecidesSpec)

/-- 'loftblocklaw50.TensionTwice', WHERE WHAT IT READS IS OF BULK AT MOST 1048576: true; the input reads as it did. -/
def tensionTwiceUptoRow : OpenClaim := { program := "ytegbncajloeepaagreat", sum := "5452fedb2cd6dc3413ea86d6cb7d9ed030cbb4a5362e44fa78bfc4748d66e6a4", func := "loftblock/loftblocklaw50.TensionTwice", spec := "tensionTwice", inPlace := ["math/bits.Add64", "math/bits.Sub64"], unfollowed := true, recurses := true, named := ["math/bits.divideError", "math/bits.overflowError"], apart := false, narrowed := true }
def TensionTwiceUptoSaid : Prop := tensionTwiceUptoRow.holds Tryz.pinned (OpenSpec.upto tensionTwiceSpec)

/-- 'loftblocklaw50.TensionCodes', WHERE WHAT IT READS IS OF BULK AT MOST 1048576: true; the input reads as it did. -/
def tensionCodesUptoRow : OpenClaim := { program := "ytegbncajloeepaagreat", sum := "5452fedb2cd6dc3413ea86d6cb7d9ed030cbb4a5362e44fa78bfc4748d66e6a4", func := "loftblock/loftblocklaw50.TensionCodes", spec := "tensionCodes", inPlace := ["math/bits.Add64", "math/bits.Sub64"], unfollowed := true, recurses := true, named := ["math/bits.divideError", "math/bits.overflowError"], apart := false, narrowed := true }
def TensionCodesUptoSaid : Prop := tensionCodesUptoRow.holds Tryz.pinned (OpenSpec.upto tensionCodesSpec)

/-- 'loftblocklaw50.TensionDecodes', WHERE WHAT IT READS IS OF BULK AT MOST 1048576: true; the input reads as it did. -/
def tensionDecodesUptoRow : OpenClaim := { program := "ytegbncajloeepaagreat", sum := "5452fedb2cd6dc3413ea86d6cb7d9ed030cbb4a5362e44fa78bfc4748d66e6a4", func := "loftblock/loftblocklaw50.TensionDecodes", spec := "tensionDecodes", inPlace := ["math/bits.Add64", "math/bits.Sub64"], unfollowed := true, recurses := true, named := ["math/bits.divideError", "math/bits.overflowError"], apart := false, narrowed := true }
def TensionDecodesUptoSaid : Prop := tensionDecodesUptoRow.holds Tryz.pinned (OpenSpec.upto tensionDecodesSpec)

/-- 'loftblocklaw50.TensionChanged', WHERE WHAT IT READS IS OF BULK AT MOST 1048576: true; the input reads as it did. -/
def tensionChangedUptoRow : OpenClaim := { program := "ytegbncajloeepaagreat", sum := "5452fedb2cd6dc3413ea86d6cb7d9ed030cbb4a5362e44fa78bfc4748d66e6a4", func := "loftblock/loftblocklaw50.TensionChanged", spec := "tensionChanged", inPlace := ["math/bits.Add64", "math/bits.Sub64"], unfollowed := true, recurses := true, named := ["math/bits.divideError", "math/bits.overflowError"], apart := false, narrowed := true }
def TensionChangedUptoSaid : Prop := tensionChangedUptoRow.holds Tryz.pinned (OpenSpec.upto tensionChangedSpec)

/-- 'loftblocklaw50.TensionOnly', WHERE WHAT IT READS IS OF BULK AT MOST 1048576: true; the input reads as it did. -/
def tensionOnlyUptoRow : OpenClaim := { program := "ytegbncajloeepaagreat", sum := "5452fedb2cd6dc3413ea86d6cb7d9ed030cbb4a5362e44fa78bfc4748d66e6a4", func := "loftblock/loftblocklaw50.TensionOnly", spec := "tensionOnly", inPlace := ["math/bits.Add64", "math/bits.Sub64"], unfollowed := true, recurses := true, named := ["math/bits.divideError", "math/bits.overflowError"], apart := false, narrowed := true }
def TensionOnlyUptoSaid : Prop := tensionOnlyUptoRow.holds Tryz.pinned (OpenSpec.upto tensionOnlySpec)

end Rows
end Go.Proofs.YtegbncajloeepaaGreat
