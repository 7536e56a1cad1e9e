/- Proved: 'TensionDecodes' answers true at every input, and its input reads behind the call as it read before. No condition. -/
import Derived.Test.YtegbncajloeepaaGreatRows
import Derived.Test.YtegbncajloeepaaGreatMgO
namespace Go.Proofs.YtegbncajloeepaaGreat
open Go.ChangeShapes Go.WideShapes Go.ChangeAt Go.RowKit Dn

theorem own : ownKnob Tryz.prog.godebug = none := by kernel_rfl
theorem laidOut : laidOutB Tryz.prog = true := by kernel_rfl

set_option maxRecDepth 100000 in
theorem tensionDecodes_lifted (os : Os) (started : os.Started) (H : Type) (enc : TypeId × Value → H) :
    ReturnsInHanded {} Tryz.checked os 8 .any (Rows.tensionDecodesSpec.pre6 enc Tryz.prog Tryz.f8 Rows.tensionDecodesRow.domain false) (Rows.tensionDecodesSpec.post enc Tryz.prog Tryz.f8 false true false false) := by
  refine returnsInHanded_of_change (C := Tryz.checked) own started (by kernel_rfl) Tryz.func8
    (ChangeSpec.witness6 (enc := enc) (C := Tryz.checked) false ⟨#[], #[.slice none 0 0], []⟩ 8 (by kernel_rfl) (by kernel_rfl) (by kernel_rfl) (by kernel_rfl)) ?_
  intro W base args ds gs before hval hW _ _
  exact Fy (P := Tryz.prog) laidOut ok8 (fun x h => xy x.1 h.1) (by kernel_rfl) (by kernel_rfl) Tryz.underlying4 rfl (fun ds h => by match ds, h with | [_], _ => rfl) hval hW

theorem tensionDecodes_holds : Rows.TensionDecodesSaid :=
  OpenClaim.holds_of_wide 8 Tryz.f8 rfl rfl rfl rfl rfl rfl rfl ⟨rfl, rfl, rfl, rfl, rfl⟩ rfl rfl rfl rfl rfl (by kernel_rfl) Tryz.func8 (by kernel_rfl)
    (of_decide_eq_true (by kernel_rfl)) (by unfold Func.isWrapper; first | (rw [if_pos (by decide +kernel)]; kernel_rfl) | (rw [if_neg (by decide +kernel)]; exact ⟨rfl, rfl⟩))
    (fun os started H enc _ => tensionDecodes_lifted os started H enc)

end Go.Proofs.YtegbncajloeepaaGreat
