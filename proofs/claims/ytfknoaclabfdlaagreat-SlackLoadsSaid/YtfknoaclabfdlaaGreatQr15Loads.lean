/- Proved: 'SlackLoads' answers true at every input, and its input reads behind the call as it read before. No condition. -/
import Derived.Test.YtfknoaclabfdlaaGreatRows
import Derived.Test.YtfknoaclabfdlaaGreatMgO
namespace Go.Proofs.YtfknoaclabfdlaaGreat
open Go.ChangeShapes Go.WideShapes Go.ChangeAt Go.RowKit Dn

theorem own : ownKnob Tryz.prog.godebug = none := by kernel_rfl
theorem laidOut : laidOutB Tryz.prog = true := by kernel_rfl

set_option maxRecDepth 100000 in
theorem slackLoads_lifted (os : Os) (started : os.Started) (H : Type) (enc : TypeId × Value → H) :
    ReturnsInHanded {} Tryz.checked os 5 .any (Rows.slackLoadsSpec.pre6 enc Tryz.prog Tryz.f5 Rows.slackLoadsRow.domain false) (Rows.slackLoadsSpec.post enc Tryz.prog Tryz.f5 false true false false) := by
  refine returnsInHanded_of_change (C := Tryz.checked) own started (by kernel_rfl) Tryz.func5
    (ChangeSpec.witness6 (enc := enc) (C := Tryz.checked) false ⟨#[], #[.agg #[.slice none 0 0, .slice none 0 0]], []⟩ 8 (by kernel_rfl) (by kernel_rfl) (by kernel_rfl) (by kernel_rfl)) ?_
  intro W base args ds gs before hval hW _ _
  exact I4 (P := Tryz.prog) laidOut Uf (fun x _ => EO x.1) (by kernel_rfl) (by kernel_rfl) Tryz.underlying4 rfl (fun ds h => by match ds, h with | [_], _ => rfl) hval hW

theorem slackLoads_holds : Rows.SlackLoadsSaid :=
  OpenClaim.holds_of_wide 5 Tryz.f5 rfl rfl rfl rfl rfl rfl rfl ⟨rfl, rfl, rfl, rfl, rfl⟩ rfl rfl rfl rfl rfl (by kernel_rfl) Tryz.func5 (by kernel_rfl)
    (of_decide_eq_true (by kernel_rfl)) (by unfold Func.isWrapper; first | (rw [if_pos (by decide +kernel)]; kernel_rfl) | (rw [if_neg (by decide +kernel)]; exact ⟨rfl, rfl⟩))
    (fun os started H enc _ => slackLoads_lifted os started H enc)

end Go.Proofs.YtfknoaclabfdlaaGreat
