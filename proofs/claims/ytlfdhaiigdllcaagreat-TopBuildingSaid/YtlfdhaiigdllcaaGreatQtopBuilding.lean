/- Proved: 'TopBuilding' answers true at every input, and its input reads behind the call as it read before. No condition. -/
import Derived.Test.YtlfdhaiigdllcaaGreatRows
import Derived.Test.YtlfdhaiigdllcaaGreatMgP
namespace Go.Proofs.YtlfdhaiigdllcaaGreat
open Go.ChangeShapes Go.WideShapes Go.ChangeAt Go.RowKit Dn

theorem own : ownKnob Tryz.prog.godebug = none := by kernel_rfl
theorem laidOut : laidOutB Tryz.prog = true := by kernel_rfl

set_option maxRecDepth 100000 in
theorem topBuilding_lifted (os : Os) (started : os.Started) (H : Type) (enc : TypeId × Value → H) :
    ReturnsInHanded {} Tryz.checked os 3 .any (Rows.topBuildingSpec.pre6 enc Tryz.prog Tryz.f3 Rows.topBuildingRow.domain false) (Rows.topBuildingSpec.post enc Tryz.prog Tryz.f3 false true false false) := by
  refine returnsInHanded_of_change (C := Tryz.checked) own started (by kernel_rfl) Tryz.func3
    (ChangeSpec.witness6 (enc := enc) (C := Tryz.checked) false ⟨#[], #[.agg #[.string ⟨#[]⟩, .int .i64 0, .slice none 0 0, .slice none 0 0]], []⟩ 8 (by kernel_rfl) (by kernel_rfl) (by kernel_rfl) (by kernel_rfl)) ?_
  intro W base args ds gs before hval hW _ _
  exact Lg (P := Tryz.prog) laidOut ok3 (fun x _ => ER x.1) (by kernel_rfl) (by kernel_rfl) Tryz.underlying4 rfl (fun ds h => by match ds, h with | [_], _ => rfl) hval hW

theorem topBuilding_holds : Rows.TopBuildingSaid :=
  OpenClaim.holds_of_wide 3 Tryz.f3 rfl rfl rfl rfl rfl rfl rfl ⟨rfl, rfl, rfl, rfl, rfl⟩ rfl rfl rfl rfl rfl (by kernel_rfl) Tryz.func3 (by kernel_rfl)
    (of_decide_eq_true (by kernel_rfl)) (by unfold Func.isWrapper; first | (rw [if_pos (by decide +kernel)]; kernel_rfl) | (rw [if_neg (by decide +kernel)]; exact ⟨rfl, rfl⟩))
    (fun os started H enc _ => topBuilding_lifted os started H enc)

end Go.Proofs.YtlfdhaiigdllcaaGreat
