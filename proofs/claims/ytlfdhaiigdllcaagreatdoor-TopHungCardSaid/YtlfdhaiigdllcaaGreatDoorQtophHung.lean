/- Proved: the tied card of 'TopHung': it answers true at every input, and its input reads behind the call as it read before, where the three listed package variables of Go's library read as the program's text lays them, which the card ties. No other condition. -/
import Derived.Test.YtlfdhaiigdllcaaGreatDoorCards
import Derived.Test.YtlfdhaiigdllcaaGreatDoorTie
import Derived.LaidLaws
import Derived.Lib.LaidTab
import Derived.Handed
import Derived.SevenTiedAt
import Derived.Test.YtlfdhaiigdllcaaGreatDoorMgZ
namespace Go.Proofs.YtlfdhaiigdllcaaGreatDoor
open Go.ChangeShapes Go.WideShapes Go.ChangeAt Go.RowKit Dn

theorem own : ownKnob Tryz.prog.godebug = none := by kernel_rfl
theorem laidOut : laidOutB Tryz.prog = true := by kernel_rfl
theorem wf_u8' {n : Int} (h : Sh.wf (.int .u8) n) : 0 ≤ n ∧ n ≤ 255 := by
  have h' : (decide (IntKind.u8.min ≤ n) && decide (n ≤ IntKind.u8.max)) = true := h
  rw [Bool.and_eq_true, decide_eq_true_eq, decide_eq_true_eq, show IntKind.u8.min = 0 from rfl, show IntKind.u8.max = 255 from rfl] at h'
  exact h'
/-- From what the row lists to Go's table of powers. -/
theorem tab_laid {W : World} (h : laidMet Tryz.prog Rows.topHungRow.laid W) : Gd Tryz.prog W := by
  intro g _
  obtain ⟨ps, hl, _⟩ := h
  obtain ⟨_, _, _, _, _, _, _, _, _, _, hl, _⟩ := hl
  obtain ⟨_, _, _, _, _, _, _, _, _, _, hl, _⟩ := hl
  obtain ⟨g', t', cs, fuel, p, q, hg', ht', hvar, hd, _, _⟩ := hl
  have hgn : Tryz.prog.globalNamed "internal/strconv.uint64pow10" = some 2 := by kernel_rfl
  have hty : (Tryz.prog.globals[2]?).map (·.type) = some 202 := by kernel_rfl
  obtain rfl := Option.some.inj (hgn.symm.trans hg')
  obtain rfl := Option.some.inj (hty.symm.trans ht')
  unfold Lib.TabIs
  rw [hvar, ← Lib.cells_of_tab (k := .u64) (zs := Lib.pow10Tab) Tryz.underlying202 Tryz.underlying132 (by kernel_rfl) (by kernel_rfl) hd]

/-- The cells of a listed datum. -/
def litCells : DataW Unit → Array Value
  | .agg l => (l.map fun | .lit (.int k z) => Value.int k z | _ => .nilIface).toArray
  | _ => #[]
def putAt (g : Nat) (d : DataW Unit) (h : Array Obj) : Array Obj := h.modify g fun
  | .cells _ t frozen => .cells (litCells d) t frozen
  | o => o
/-- The settled world, the listed variables laid. -/
noncomputable def laidWorld (os : Os) : World :=
  let w0 := World.holding Tryz.prog os ⟨#[], #[], []⟩
  { w0 with heap := putAt 5 Rows.laid_math_bits_deBruijn64tab (putAt 4 Rows.laid_math_bits_deBruijn32tab (putAt 2 Rows.laid_internal_strconv_uint64pow10 w0.heap)) }
set_option maxRecDepth 100000 in
theorem laid_met (os : Os) (args : Array Value) : laidMet Tryz.prog Rows.topHungRow.laid ((laidWorld os).forCall (fun _ _ => 0) ⟨#[], args, []⟩).memory :=
  laidMet_of_run' 8 (by kernel_rfl) (by kernel_rfl)

set_option maxRecDepth 100000 in
theorem topHung_lifted (os : Os) (started : os.Started) (H : Type) (enc : TypeId × Value → H) :
    ReturnsInHanded {} Tryz.checked os 3 .any (fun w args => (Rows.topHungSpec.pre enc Tryz.prog Tryz.f3 Rows.topHungRow.domain false w args ∧ laidMet Tryz.prog Rows.topHungRow.laid w) ∧ sizedMet enc Tryz.prog Tryz.f3 (OpenSpec.ofChange Rows.topHungSpec) false w args)
      (Rows.topHungSpec.post enc Tryz.prog Tryz.f3 false true false false) := by
  refine returnsInHanded_of_change_and (C := Tryz.checked) (X := fun w _ => laidMet Tryz.prog Rows.topHungRow.laid w) (fun _ _ _ hh h => h.of_heap hh) own started (by kernel_rfl) Tryz.func3
    (ChangeSpec.witness_at (enc := enc) (C := Tryz.checked) (os := os) (X := fun w _ => laidMet Tryz.prog Rows.topHungRow.laid w) false (laidWorld os) #[.agg #[.string ⟨#[]⟩, .int .i64 0, .slice none 0 0, .slice none 0 0], .int .u8 0, .agg #[.string ⟨#[]⟩, .int .i64 0, .int .i64 0, .int .i64 0, .int .i64 0, .int .i64 0, .int .i64 0]] 8 rfl (by kernel_rfl) (by kernel_rfl) (by kernel_rfl) (by kernel_rfl) (by kernel_rfl) (laid_met os _)) ?_
  intro W base args ds gs before hval hW _ _ hL _
  exact law_true (P := Tryz.prog) laidOut ok3 (fun x hx => lawHung x.1 x.2.1 x.2.2.1 (wf_u8' hx.2.1).1 (wf_u8' hx.2.1).2) (by kernel_rfl) (by kernel_rfl) Tryz.underlying4 rfl (fun ds h => by match ds, h with | [_, _, _], _ => rfl) hval hW (tab_laid hL)

theorem topHung_row : Rows.TopHungSaid :=
  OpenClaim.holds_of_wide 3 Tryz.f3 rfl rfl rfl rfl rfl rfl rfl ⟨rfl, rfl, rfl, rfl, rfl⟩ rfl rfl rfl rfl rfl (by kernel_rfl) Tryz.func3 (by kernel_rfl)
    (of_decide_eq_true (by kernel_rfl)) (by unfold Func.isWrapper; first | (rw [if_pos (by decide +kernel)]; kernel_rfl) | (rw [if_neg (by decide +kernel)]; exact ⟨rfl, rfl⟩))
    (fun os started H enc _ => topHung_lifted os started H enc)

theorem topHung_holds : Rows.TopHungCardSaid :=
  Claim7.holds_tied_plain_at .later [] [.data, .data, .data] true (true, "87d607294f3400305107f3cd3ed25e9b8e406ea34c6b58aeed5ced45aa63fc3c") false
    topHung_row (fun _ h => by cases h) (by kernel_rfl) (fun _ h => by cases h) topHung_row_tie rfl ⟨rfl, rfl⟩ (by kernel_rfl) rfl
    (fun f fn hf hfn => by
      obtain rfl : f = 3 := Option.some.inj ((show Tryz.prog.funcNamed "loftblock/loftblocktop.TopHung" = some 3 by kernel_rfl).symm.trans hf) |>.symm
      obtain rfl : fn = Tryz.f3 := (Option.some.inj (Tryz.func3.symm.trans hfn)).symm
      exact ⟨by kernel_rfl, fun j t ht => by
        match j, ht with
        | 0, ht => obtain rfl : 25 = t := Option.some.inj ht; exact (show Tryz.prog.wantsStandIn 25 = false by kernel_rfl)
        | 1, ht => obtain rfl : 5 = t := Option.some.inj ht; exact (show Tryz.prog.wantsStandIn 5 = false by kernel_rfl)
        | 2, ht => obtain rfl : 27 = t := Option.some.inj ht; exact (show Tryz.prog.wantsStandIn 27 = false by kernel_rfl)
        | j + 3, ht => exact absurd ht (by rw [show Tryz.f3.params[j + 3]? = none from Array.getElem?_eq_none (by show 3 ≤ j + 3; omega)]; simp)⟩)
    (by kernel_rfl)

end Go.Proofs.YtlfdhaiigdllcaaGreatDoor
