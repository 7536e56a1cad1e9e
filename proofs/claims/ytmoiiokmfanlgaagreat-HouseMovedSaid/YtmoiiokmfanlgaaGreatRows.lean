/-
  No cell of these rows narrows 'for every input' (looked for: loops, veiled, ifaces, maps, wideKeys, modest, calm, conditions, laid).
  DERIVED. THE GIVEN ROWS OF THIS SEAT. 7 by the template 'for every input the law returns true; each argument reads behind the call as it read before'; 0 by the template 'total and deterministic' (their statements: YtmoiiokmfanlgaaGreatTotals.lean).
  GIVEN WITH THE SEED: the statements are not yours to turn. If you find one false, say at which input.
  Laid BY PROGRAM, IN A SANDBOX (cutbox-rows.mjs): the forced cells as the released guide's own fill.sh prints them over the translation c3659ec5cfad8d08… (all of the seat's roots in one cut). By AI agents, Wed Nov 11 2026. No macro, syntax, notation, axiom, sorry.
-/
import Derived.Test.YtmoiiokmfanlgaaGreatChecked
import GoSem.Claim
import GoSem.ClaimJoined
import GoSem.ClaimMapViews
import Derived.JoinedTies
import Derived.KernelRfl
namespace Go.Proofs.YtmoiiokmfanlgaaGreat
/- THE CELL 'sum', in the pinned program and in every row, IS THE sha256 OF THE DUMP (.gsa) THAT YtmoiiokmfanlgaaGreatProg.lean LOADS. Nothing in Lean hashes anything: it is a label: what it is worth is what the hold of that sum in a sandbox is worth. -/
noncomputable def Tryz.pinned : Pinned := { name := "ytmoiiokmfanlgaagreat", sum := "c3659ec5cfad8d080b280936cc2f36808ef782fd5468b7ad883529cc338e5701", checked := Tryz.checked }
namespace Rows
def none {H : Type} : Left H := { results := [], args := [] }

/-- 'loftblocklaw30.HouseLoads': WHATEVER THE INPUT: true; the input reads as it did. -/
def houseLoadsSpec : ChangeSpec := { name := "houseLoads", fn := fun _ => fun
  | [d] => { results := [.lit (.bool true)], args := [d] }
  | _ => none }
def houseLoadsRow : OpenClaim := { program := "ytmoiiokmfanlgaagreat", sum := "c3659ec5cfad8d080b280936cc2f36808ef782fd5468b7ad883529cc338e5701", func := "loftblock/loftblocklaw30.HouseLoads", spec := "houseLoads", inPlace := ["math/bits.Add64", "math/bits.Sub64"], unfollowed := true, recurses := true, named := ["math/bits.divideError", "math/bits.overflowError"], apart := false }
def HouseLoadsSaid : Prop := houseLoadsRow.holds Tryz.pinned (OpenSpec.ofChange houseLoadsSpec)

/-- ITS FALSE NEIGHBOUR: 'it returns false'. Refute it at one input. -/
def houseLoadsWrong : ChangeSpec := { name := "houseLoads", fn := fun _ => fun
  | [d] => { results := [.lit (.bool false)], args := [d] }
  | _ => none }
def HouseLoadsWrongFalsely : Prop := houseLoadsRow.holds Tryz.pinned (OpenSpec.ofChange houseLoadsWrong)

/-- 'loftblocklaw30.HouseOrder': WHATEVER THE INPUT: true; the input reads as it did. -/
def houseOrderSpec : ChangeSpec := { name := "houseOrder", fn := fun _ => fun
  | [d] => { results := [.lit (.bool true)], args := [d] }
  | _ => none }
def houseOrderRow : OpenClaim := { program := "ytmoiiokmfanlgaagreat", sum := "c3659ec5cfad8d080b280936cc2f36808ef782fd5468b7ad883529cc338e5701", func := "loftblock/loftblocklaw30.HouseOrder", spec := "houseOrder", inPlace := ["math/bits.Add64", "math/bits.Sub64"], unfollowed := true, recurses := true, named := ["math/bits.divideError", "math/bits.overflowError"], apart := false }
def HouseOrderSaid : Prop := houseOrderRow.holds Tryz.pinned (OpenSpec.ofChange houseOrderSpec)

/-- ITS FALSE NEIGHBOUR: 'it returns false'. Refute it at one input. -/
def houseOrderWrong : ChangeSpec := { name := "houseOrder", fn := fun _ => fun
  | [d] => { results := [.lit (.bool false)], args := [d] }
  | _ => none }
def HouseOrderWrongFalsely : Prop := houseOrderRow.holds Tryz.pinned (OpenSpec.ofChange houseOrderWrong)

/-- 'loftblocklaw30.HouseMoved': WHATEVER THE INPUT: true; the input reads as it did. -/
def houseMovedSpec : ChangeSpec := { name := "houseMoved", fn := fun _ => fun
  | [d] => { results := [.lit (.bool true)], args := [d] }
  | _ => none }
def houseMovedRow : OpenClaim := { program := "ytmoiiokmfanlgaagreat", sum := "c3659ec5cfad8d080b280936cc2f36808ef782fd5468b7ad883529cc338e5701", func := "loftblock/loftblocklaw30.HouseMoved", spec := "houseMoved", inPlace := ["math/bits.Add64", "math/bits.Sub64"], unfollowed := true, recurses := true, named := ["math/bits.divideError", "math/bits.overflowError"], apart := false }
def HouseMovedSaid : Prop := houseMovedRow.holds Tryz.pinned (OpenSpec.ofChange houseMovedSpec)

/-- ITS FALSE NEIGHBOUR: 'it returns false'. Refute it at one input. -/
def houseMovedWrong : ChangeSpec := { name := "houseMoved", fn := fun _ => fun
  | [d] => { results := [.lit (.bool false)], args := [d] }
  | _ => none }
def HouseMovedWrongFalsely : Prop := houseMovedRow.holds Tryz.pinned (OpenSpec.ofChange houseMovedWrong)

/-- 'loftblocklaw30.HouseFinds': WHATEVER THE INPUT: true; the input reads as it did. -/
def houseFindsSpec : ChangeSpec := { name := "houseFinds", fn := fun _ => fun
  | [d1, d2, d3] => { results := [.lit (.bool true)], args := [d1, d2, d3] }
  | _ => none }
def houseFindsRow : OpenClaim := { program := "ytmoiiokmfanlgaagreat", sum := "c3659ec5cfad8d080b280936cc2f36808ef782fd5468b7ad883529cc338e5701", func := "loftblock/loftblocklaw30.HouseFinds", spec := "houseFinds", inPlace := ["math/bits.Add64", "math/bits.Sub64"], unfollowed := true, recurses := true, named := ["math/bits.divideError", "math/bits.overflowError"], apart := false }
def HouseFindsSaid : Prop := houseFindsRow.holds Tryz.pinned (OpenSpec.ofChange houseFindsSpec)

/-- ITS FALSE NEIGHBOUR: 'it returns false'. Refute it at one input. -/
def houseFindsWrong : ChangeSpec := { name := "houseFinds", fn := fun _ => fun
  | [d1, d2, d3] => { results := [.lit (.bool false)], args := [d1, d2, d3] }
  | _ => none }
def HouseFindsWrongFalsely : Prop := houseFindsRow.holds Tryz.pinned (OpenSpec.ofChange houseFindsWrong)

/-- 'loftblocklaw30.HouseBears': WHATEVER THE INPUT: true; the input reads as it did. -/
def houseBearsSpec : ChangeSpec := { name := "houseBears", fn := fun _ => fun
  | [d] => { results := [.lit (.bool true)], args := [d] }
  | _ => none }
def houseBearsRow : OpenClaim := { program := "ytmoiiokmfanlgaagreat", sum := "c3659ec5cfad8d080b280936cc2f36808ef782fd5468b7ad883529cc338e5701", func := "loftblock/loftblocklaw30.HouseBears", spec := "houseBears", inPlace := ["math/bits.Add64", "math/bits.Sub64"], unfollowed := true, recurses := true, named := ["math/bits.divideError", "math/bits.overflowError"], apart := false }
def HouseBearsSaid : Prop := houseBearsRow.holds Tryz.pinned (OpenSpec.ofChange houseBearsSpec)

/-- ITS FALSE NEIGHBOUR: 'it returns false'. Refute it at one input. -/
def houseBearsWrong : ChangeSpec := { name := "houseBears", fn := fun _ => fun
  | [d] => { results := [.lit (.bool false)], args := [d] }
  | _ => none }
def HouseBearsWrongFalsely : Prop := houseBearsRow.holds Tryz.pinned (OpenSpec.ofChange houseBearsWrong)

/-- 'loftblocklaw30.HouseForms': WHATEVER THE INPUT: true; the input reads as it did. -/
def houseFormsSpec : ChangeSpec := { name := "houseForms", fn := fun _ => fun
  | [d1, d2] => { results := [.lit (.bool true)], args := [d1, d2] }
  | _ => none }
def houseFormsRow : OpenClaim := { program := "ytmoiiokmfanlgaagreat", sum := "c3659ec5cfad8d080b280936cc2f36808ef782fd5468b7ad883529cc338e5701", func := "loftblock/loftblocklaw30.HouseForms", spec := "houseForms", inPlace := ["math/bits.Add64", "math/bits.Sub64"], unfollowed := true, recurses := true, named := ["math/bits.divideError", "math/bits.overflowError"], apart := false }
def HouseFormsSaid : Prop := houseFormsRow.holds Tryz.pinned (OpenSpec.ofChange houseFormsSpec)

/-- ITS FALSE NEIGHBOUR: 'it returns false'. Refute it at one input. -/
def houseFormsWrong : ChangeSpec := { name := "houseForms", fn := fun _ => fun
  | [d1, d2] => { results := [.lit (.bool false)], args := [d1, d2] }
  | _ => none }
def HouseFormsWrongFalsely : Prop := houseFormsRow.holds Tryz.pinned (OpenSpec.ofChange houseFormsWrong)

/-- 'loftblocklaw30.HousePuts': WHATEVER THE INPUT: true; the input reads as it did. -/
def housePutsSpec : ChangeSpec := { name := "housePuts", fn := fun _ => fun
  | [d1, d2] => { results := [.lit (.bool true)], args := [d1, d2] }
  | _ => none }
def housePutsRow : OpenClaim := { program := "ytmoiiokmfanlgaagreat", sum := "c3659ec5cfad8d080b280936cc2f36808ef782fd5468b7ad883529cc338e5701", func := "loftblock/loftblocklaw30.HousePuts", spec := "housePuts", inPlace := ["math/bits.Add64", "math/bits.Sub64"], unfollowed := true, recurses := true, named := ["math/bits.divideError", "math/bits.overflowError"], apart := false }
def HousePutsSaid : Prop := housePutsRow.holds Tryz.pinned (OpenSpec.ofChange housePutsSpec)

/-- ITS FALSE NEIGHBOUR: 'it returns false'. Refute it at one input. -/
def housePutsWrong : ChangeSpec := { name := "housePuts", fn := fun _ => fun
  | [d1, d2] => { results := [.lit (.bool false)], args := [d1, d2] }
  | _ => none }
def HousePutsWrongFalsely : Prop := housePutsRow.holds Tryz.pinned (OpenSpec.ofChange housePutsWrong)

/- THE SECOND FORM. 'bulk': how many values and letters a reading holds, each counted each time it is reached (what is shared counts as often as it is met; a slice's spare places count too). A statement '..UptoSaid' is the law's where the arguments, and the package variables that the reading takes, are together of bulk at most 1048576: NARROWER than '..Said'. Prove '..Said' where nothing that the law and all that it calls make is longer than what came in: it says more and counts as full. Else prove '..UptoSaid'. A law counts once. -/
mutual
def uptoBulk {H : Type} : DataW H → Nat
  | .lit (.string bytes) => bytes.length + 1
  | .lit _ => 1
  | .nil => 1
  | .ptr d => uptoBulk d + 1
  | .slice elems spare => uptoBulkAll elems + uptoBulkAll spare + 1
  | .agg parts => uptoBulkAll parts + 1
  | .iface _ d => uptoBulk d + 1
  | .map entries => uptoBulkEntries entries + 1
  | .held _ => 1
def uptoBulkAll {H : Type} : List (DataW H) → Nat
  | [] => 0
  | d :: r => uptoBulk d + uptoBulkAll r
def uptoBulkEntries {H : Type} : List (Lit × DataW H) → Nat
  | [] => 0
  | x :: r => uptoBulkEntry x + uptoBulkEntries r
def uptoBulkEntry {H : Type} : Lit × DataW H → Nat
  | (.string bytes, d) => bytes.length + uptoBulk d + 1
  | (_, d) => uptoBulk d + 1
 end
def uptoSmall : (H : Type) → List (DataW H) → Bool := fun _ ds => decide (uptoBulkAll ds ≤ 1048576)
def OpenSpec.upto (s : _root_.Go.ChangeSpec) : _root_.Go.OpenSpec := { _root_.Go.OpenSpec.ofChange s with cond := some uptoSmall }

/-- 'loftblocklaw30.HouseLoads', WHERE WHAT IT READS IS OF BULK AT MOST 1048576: true; the input reads as it did. -/
def houseLoadsUptoRow : OpenClaim := { program := "ytmoiiokmfanlgaagreat", sum := "c3659ec5cfad8d080b280936cc2f36808ef782fd5468b7ad883529cc338e5701", func := "loftblock/loftblocklaw30.HouseLoads", spec := "houseLoads", inPlace := ["math/bits.Add64", "math/bits.Sub64"], unfollowed := true, recurses := true, named := ["math/bits.divideError", "math/bits.overflowError"], apart := false, narrowed := true }
def HouseLoadsUptoSaid : Prop := houseLoadsUptoRow.holds Tryz.pinned (OpenSpec.upto houseLoadsSpec)

/-- 'loftblocklaw30.HouseOrder', WHERE WHAT IT READS IS OF BULK AT MOST 1048576: true; the input reads as it did. -/
def houseOrderUptoRow : OpenClaim := { program := "ytmoiiokmfanlgaagreat", sum := "c3659ec5cfad8d080b280936cc2f36808ef782fd5468b7ad883529cc338e5701", func := "loftblock/loftblocklaw30.HouseOrder", spec := "houseOrder", inPlace := ["math/bits.Add64", "math/bits.Sub64"], unfollowed := true, recurses := true, named := ["math/bits.divideError", "math/bits.overflowError"], apart := false, narrowed := true }
def HouseOrderUptoSaid : Prop := houseOrderUptoRow.holds Tryz.pinned (OpenSpec.upto houseOrderSpec)

/-- 'loftblocklaw30.HouseMoved', WHERE WHAT IT READS IS OF BULK AT MOST 1048576: true; the input reads as it did. -/
def houseMovedUptoRow : OpenClaim := { program := "ytmoiiokmfanlgaagreat", sum := "c3659ec5cfad8d080b280936cc2f36808ef782fd5468b7ad883529cc338e5701", func := "loftblock/loftblocklaw30.HouseMoved", spec := "houseMoved", inPlace := ["math/bits.Add64", "math/bits.Sub64"], unfollowed := true, recurses := true, named := ["math/bits.divideError", "math/bits.overflowError"], apart := false, narrowed := true }
def HouseMovedUptoSaid : Prop := houseMovedUptoRow.holds Tryz.pinned (OpenSpec.upto houseMovedSpec)

/-- 'loftblocklaw30.HouseFinds', WHERE WHAT IT READS IS OF BULK AT MOST 1048576: true; the input reads as it did. -/
def houseFindsUptoRow : OpenClaim := { program := "ytmoiiokmfanlgaagreat", sum := "c3659ec5cfad8d080b280936cc2f36808ef782fd5468b7ad883529cc338e5701", func := "loftblock/loftblocklaw30.HouseFinds", spec := "houseFinds", inPlace := ["math/bits.Add64", "math/bits.Sub64"], unfollowed := true, recurses := true, named := ["math/bits.divideError", "math/bits.overflowError"], apart := false, narrowed := true }
def HouseFindsUptoSaid : Prop := houseFindsUptoRow.holds Tryz.pinned (OpenSpec.upto houseFindsSpec)

/-- 'loftblocklaw30.HouseBears', WHERE WHAT IT READS IS OF BULK AT MOST 1048576: true; the input reads as it did. -/
def houseBearsUptoRow : OpenClaim := { program := "ytmoiiokmfanlgaagreat", sum := "c3659ec5cfad8d080b280936cc2f36808ef782fd5468b7ad883529cc338e5701", func := "loftblock/loftblocklaw30.HouseBears", spec := "houseBears", inPlace := ["math/bits.Add64", "math/bits.Sub64"], unfollowed := true, recurses := true, named := ["math/bits.divideError", "math/bits.overflowError"], apart := false, narrowed := true }
def HouseBearsUptoSaid : Prop := houseBearsUptoRow.holds Tryz.pinned (OpenSpec.upto houseBearsSpec)

/-- 'loftblocklaw30.HouseForms', WHERE WHAT IT READS IS OF BULK AT MOST 1048576: true; the input reads as it did. -/
def houseFormsUptoRow : OpenClaim := { program := "ytmoiiokmfanlgaagreat", sum := "c3659ec5cfad8d080b280936cc2f36808ef782fd5468b7ad883529cc338e5701", func := "loftblock/loftblocklaw30.HouseForms", spec := "houseForms", inPlace := ["math/bits.Add64", "math/bits.Sub64"], unfollowed := true, recurses := true, named := ["math/bits.divideError", "math/bits.overflowError"], apart := false, narrowed := true }
def HouseFormsUptoSaid : Prop := houseFormsUptoRow.holds Tryz.pinned (OpenSpec.upto houseFormsSpec)

/-- 'loftblocklaw30.HousePuts', WHERE WHAT IT READS IS OF BULK AT MOST 1048576: true; the input reads as it did. -/
def housePutsUptoRow : OpenClaim := { program := "ytmoiiokmfanlgaagreat", sum := "c3659ec5cfad8d080b280936cc2f36808ef782fd5468b7ad883529cc338e5701", func := "loftblock/loftblocklaw30.HousePuts", spec := "housePuts", inPlace := ["math/bits.Add64", "math/bits.Sub64"], unfollowed := true, recurses := true, named := ["math/bits.divideError", "math/bits.overflowError"], apart := false, narrowed := true }
def HousePutsUptoSaid : Prop := housePutsUptoRow.holds Tryz.pinned (OpenSpec.upto housePutsSpec)

end Rows
end Go.Proofs.YtmoiiokmfanlgaaGreat
