/- r1: the shapes of its types, and the places of its loops. -/
import Derived.Test.YtkoadlblncohgaaDnL
import Derived.Test.YtkoadlblncohgaaProg
import Derived.KernelRfl
namespace Go.Proofs.Ytkoadlblncohgaa
open Try Dn Dn.Sh

abbrev i64 : Sh := .int .i64
/-- api.Point -/
abbrev T23 : Sh := .agg (.pair i64 (.pair i64 i64))
/-- api.Span -/
abbrev T29 : Sh := .agg (.pair i64 i64)
/-- points.vector -/
abbrev T58 : Sh := .agg (.pair i64 (.pair i64 i64))
/-- array 2 3  [2]int 2 16 0 8 8   agg 2 int i64 0 int i64 0 1 0 -/
abbrev T69 : Sh := .agg (.pair i64 i64)
/-- loftblockref02.U -/
abbrev T74 : Sh := .agg (.pair (.int .u64) (.int .u64))
/-- array 2 74  [2]loftblockref02.U 4 32 0 8 8   agg 4 int u64 0 -/
abbrev T75 : Sh := .agg (.pair T74 T74)
def shs : TypeId → Option Sh
  | 3 => some i64
  | 23 => some T23
  | 69 => some T69
  | 74 => some T74
  | _ => none

/-- slices.IndexFunc   loftblock api.Point loftblock api.Point  -/
def loops48 : Nat → Option Hd
  | 2 => some ⟨[(8, false, [.d i64])], [], []⟩
  | _ => none
/-- loftblock points.Root -/
def loops13 : Nat → Option Hd
  | 5 => some ⟨[(4, false, [.d i64]), (5, false, [.d i64])], [], []⟩
  | _ => none
/-- loftblock points.upright -/
def loops41 : Nat → Option Hd
  | 3 => some ⟨[(5, false, [.d i64]), (6, false, [.d i64]), (26, false, [.d i64])], [], []⟩
  | _ => none
/-- loftblock points.Flat -/
def loops22 : Nat → Option Hd
  | 6 => some ⟨[(15, false, [.d i64])], [(5, [.d T58])], []⟩
  | 9 => some ⟨[(19, false, [.d i64])], [(5, [.d T58])], []⟩
  | _ => none
/-- slices.Reverse   loftblock api.Point loftblock api.Point  -/
def loops24 : Nat → Option Hd
  | 1 => some ⟨[(2, false, [.d i64]), (3, false, [.d i64])], [], [(0, none, 23, T23)]⟩
  | _ => none
/-- loftblock loftblocklaw09.PointsFlat -/
def loops6 : Nat → Option Hd
  | 16 => some ⟨[(91, false, [.d i64])], [], [(9, none, 23, T23)]⟩
  | _ => none
/-- loftblock points.Inside -/
def loops25 : Nat → Option Hd
  | 8 => some ⟨[(33, false, [.d i64])], [], []⟩
  | 11 => some ⟨[(43, false, [.d i64])], [], []⟩
  | 16 => some ⟨[(56, false, [.d i64])], [], []⟩
  | _ => none
/-- loftblock loftblocklaw09.PointsCovered -/
def loops7 : Nat → Option Hd
  | 22 => some ⟨[(23, false, [.d i64]), (139, false, [.d i64])], [], []⟩
  | _ => none
def joins7 : Nat → Option Hd
  | 1000013 => some ⟨[], [], []⟩
  | _ => none
/-- loftblock loftblockref09.All -/
def loops26 : Nat → Option Hd
  | 2 => some ⟨[(3, false, [.d i64])], [], []⟩
  | _ => none
/-- loftblock loftblockref09.Zero -/
def loops44 : Nat → Option Hd
  | 3 => some ⟨[(8, false, [.d i64])], [(7, [.d T75])], []⟩
  | _ => none
/-- loftblock loftblockref09.Flat -/
def loops27 : Nat → Option Hd
  | 2 => some ⟨[(3, false, [.d i64])], [], []⟩
  | 5 => some ⟨[(4, false, [.d i64])], [], []⟩
  | 9 => some ⟨[(6, false, [.d i64])], [], []⟩
  | _ => none
/-- loftblock loftblockref09.Inside -/
def loops28 : Nat → Option Hd
  | 2 => some ⟨[(5, false, [.d i64])], [], []⟩
  | 5 => some ⟨[(6, false, [.d i64])], [], []⟩
  | 10 => some ⟨[(7, false, [.d i64])], [], []⟩
  | _ => none
def joins8 : Nat → Option Hd
  | 1000009 => some ⟨[(9, false, [.d i64])], [], []⟩
  | 1000011 => some ⟨[(9, false, [.d i64])], [], []⟩
  | 1000013 => some ⟨[], [], []⟩
  | 1000018 => some ⟨[(9, false, [.d i64])], [], []⟩
  | _ => none
/-- loftblock loftblocklaw09.PointsTurns -/
def loops9 : Nat → Option Hd
  | 22 => some ⟨[(24, false, [.row 23 T23]), (159, false, [.d i64])], [], []⟩
  | _ => none
def hints : FuncId → Hint
  | 48 => {loop := loops48}
  | 13 => {loop := loops13}
  | 41 => {loop := loops41}
  | 22 => {loop := loops22}
  | 24 => {loop := loops24}
  | 6 => {loop := loops6}
  | 25 => {loop := loops25}
  | 7 => {loop := loops7, join := joins7}
  | 26 => {loop := loops26}
  | 44 => {loop := loops44}
  | 27 => {loop := loops27}
  | 28 => {loop := loops28}
  | 8 => {join := joins8}
  | 9 => {loop := loops9}
  | _ => {}
def inls : List Nat := [24]
end Go.Proofs.Ytkoadlblncohgaa
