/- Proved: 'loftblocklaw05.ProgramProofs' answers true at every input, and its input reads behind the call as it read before. No condition. -/
import Derived.Test.YtnbbackjofgcfaaRows
import Derived.Test.YtnbbackjofgcfaaMgM
namespace Go.Proofs.Ytnbbackjofgcfaa
open Go.ChangeShapes Go.WideShapes Go.ChangeAt Go.RowKit Dn

theorem own : ownKnob Try.prog.godebug = none := by kernel_rfl
theorem laidOut : laidOutB Try.prog = true := by kernel_rfl

set_option maxRecDepth 100000 in
theorem programProofs_lifted (os : Os) (started : os.Started) (H : Type) (enc : TypeId × Value → H) :
    ReturnsInHanded {} Try.checked os 10 .any (Rows.programProofsSpec.pre6 enc Try.prog Try.f10 Rows.programProofsRow.domain false) (Rows.programProofsSpec.post enc Try.prog Try.f10 false true false false) := by
  refine returnsInHanded_of_change (C := Try.checked) own started (by kernel_rfl) Try.func10
    (ChangeSpec.witness6 (enc := enc) (C := Try.checked) false ⟨#[], #[.agg #[.slice none 0 0, .slice none 0 0]], []⟩ 8 (by kernel_rfl) (by kernel_rfl) (by kernel_rfl) (by kernel_rfl)) ?_
  intro W base args ds gs before hval hW _ _
  exact law_true (P := Try.prog) laidOut ok10 (fun x _ => lawProofs x.1) (by kernel_rfl) (by kernel_rfl) Try.underlying4 rfl (fun ds h => by match ds, h with | [_], _ => rfl) hval hW

theorem programProofs_holds : Rows.ProgramProofsSaid :=
  OpenClaim.holds_of_wide 10 Try.f10 rfl rfl rfl rfl rfl rfl rfl ⟨rfl, rfl, rfl, rfl, rfl⟩ rfl rfl rfl rfl rfl (by kernel_rfl) Try.func10 (by kernel_rfl)
    (of_decide_eq_true (by kernel_rfl)) (by unfold Func.isWrapper; first | (rw [if_pos (by decide +kernel)]; kernel_rfl) | (rw [if_neg (by decide +kernel)]; exact ⟨rfl, rfl⟩))
    (fun os started H enc _ => programProofs_lifted os started H enc)

end Go.Proofs.Ytnbbackjofgcfaa
