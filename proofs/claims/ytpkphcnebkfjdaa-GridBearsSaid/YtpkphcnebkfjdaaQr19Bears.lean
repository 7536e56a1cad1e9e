/- Proved: 'loftblocklaw19.GridBears' answers true at every input, and its input reads behind the call as it read before. No condition. -/
import Derived.Test.YtpkphcnebkfjdaaRows
import Derived.Test.YtpkphcnebkfjdaaMgL
namespace Go.Proofs.Ytpkphcnebkfjdaa
open Go.ChangeShapes Go.WideShapes Go.ChangeAt Go.RowKit Dn

theorem own : ownKnob Try.prog.godebug = none := by kernel_rfl
theorem laidOut : laidOutB Try.prog = true := by kernel_rfl

set_option maxRecDepth 100000 in
theorem gridBears_lifted (os : Os) (started : os.Started) (H : Type) (enc : TypeId × Value → H) :
    ReturnsInHanded {} Try.checked os 8 .any (Rows.gridBearsSpec.pre6 enc Try.prog Try.f8 Rows.gridBearsRow.domain false) (Rows.gridBearsSpec.post enc Try.prog Try.f8 false true false false) := by
  refine returnsInHanded_of_change (C := Try.checked) own started (by kernel_rfl) Try.func8
    (ChangeSpec.witness6 (enc := enc) (C := Try.checked) false ⟨#[], #[.slice none 0 0, .slice none 0 0, .int .i64 0], []⟩ 8 (by kernel_rfl) (by kernel_rfl) (by kernel_rfl) (by kernel_rfl)) ?_
  intro W base args ds gs before hval hW _ _
  exact law_true (P := Try.prog) laidOut ok8 (fun x h => law8 x h) (by kernel_rfl) (by kernel_rfl) Try.underlying4 rfl (fun ds h => by match ds, h with | [_, _, _], _ => rfl) hval hW

theorem gridBears_holds : Rows.GridBearsSaid :=
  OpenClaim.holds_of_wide 8 Try.f8 rfl rfl rfl rfl rfl rfl rfl ⟨rfl, rfl, rfl, rfl, rfl⟩ rfl rfl rfl rfl rfl (by kernel_rfl) Try.func8 (by kernel_rfl)
    (of_decide_eq_true (by kernel_rfl)) (by unfold Func.isWrapper; first | (rw [if_pos (by decide +kernel)]; kernel_rfl) | (rw [if_neg (by decide +kernel)]; exact ⟨rfl, rfl⟩))
    (fun os started H enc _ => gridBears_lifted os started H enc)

end Go.Proofs.Ytpkphcnebkfjdaa
