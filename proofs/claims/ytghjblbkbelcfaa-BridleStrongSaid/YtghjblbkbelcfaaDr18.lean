/- r18: the shapes of its types, and the places of its loops. -/
import Derived.Test.YtghjblbkbelcfaaDnL
import Derived.Test.YtghjblbkbelcfaaProg
import Derived.KernelRfl
namespace Go.Proofs.Ytghjblbkbelcfaa
open Try Dn Dn.Sh

abbrev i64 : Sh := .int .i64
/-- api.Point -/
abbrev T23 : Sh := .agg (.pair i64 (.pair i64 i64))
/-- api.Leg -/
abbrev T39 : Sh := .agg (.pair .str (.pair T23 i64))
/-- api.Bridle -/
abbrev T26 : Sh := .agg (.pair T23 (.pair i64 (.sl T39)))
/-- api.Span -/
abbrev T30 : Sh := .agg (.pair i64 i64)
/-- loftblockref18.Vec -/
abbrev T40 : Sh := .agg (.pair i64 (.pair i64 i64))
/-- struct 3  b 26 0 0    loftblock loftblocklaw18 0  num 3 5 0  -/
abbrev T45 : Sh := .agg (.pair T26 (.pair i64 i64))
/-- api.Frac -/
abbrev T48 : Sh := .agg (.pair i64 i64)
/-- array 3 48  [3]api.Frac 6 48 0 8 8   agg 6 int i64 0 int i64 -/
abbrev T55 : Sh := .agg (.pair T48 (.pair T48 T48))
/-- ratio.wide -/
abbrev T94 : Sh := .agg (.pair (.int .u64) (.int .u64))
/-- loftblockref02.U -/
abbrev T137 : Sh := .agg (.pair (.int .u64) (.int .u64))
/-- points.vector -/
abbrev T141 : Sh := .agg (.pair i64 (.pair i64 i64))
def shs : TypeId → Option Sh
  | 3 => some i64
  | 23 => some T23
  | 26 => some T26
  | 39 => some T39
  | 45 => some T45
  | 48 => some T48
  | _ => none

/-- slices.IndexFunc   loftblock api.Leg loftblock api.Leg  -/
def loops76 : Nat → Option Hd
  | 2 => some ⟨[(8, false, [.d i64])], [], []⟩
  | _ => none
/-- loftblock decimal.word -/
def loops79 : Nat → Option Hd
  | 2 => some ⟨[(3, false, [.d i64])], [], []⟩
  | _ => none
/-- loftblock bridle.Valid -/
def loops12 : Nat → Option Hd
  | 4 => some ⟨[(30, false, [.d i64])], [], []⟩
  | _ => none
/-- slices.IndexFunc   loftblock api.Point loftblock api.Point  -/
def loops125 : Nat → Option Hd
  | 2 => some ⟨[(8, false, [.d i64])], [], []⟩
  | _ => none
/-- loftblock points.Root -/
def loops70 : Nat → Option Hd
  | 5 => some ⟨[(4, false, [.d i64]), (5, false, [.d i64])], [], []⟩
  | _ => none
/-- loftblock ratio.gcd -/
def loops55 : Nat → Option Hd
  | 1 => some ⟨[(0, false, [.d (.int .u64)]), (1, false, [.d (.int .u64)])], [], []⟩
  | _ => none
/-- loftblock bridle.quotients -/
def loops88 : Nat → Option Hd
  | 3 => some ⟨[(6, false, [.row 48 T48]), (13, false, [.d i64])], [], []⟩
  | _ => none
/-- loftblock bridle.upright -/
def loops109 : Nat → Option Hd
  | 3 => some ⟨[(10, false, [.d i64])], [(3, [.d T23])], []⟩
  | 6 => some ⟨[(14, false, [.d i64])], [(3, [.d T23])], []⟩
  | _ => none
/-- loftblock bridle.solve -/
def loops53 : Nat → Option Hd
  | 3 => some ⟨[(4, false, [.row 23 T23]), (11, false, [.d i64])], [], []⟩
  | _ => none
/-- slices.IndexFunc   loftblock api.Frac loftblock api.Frac  -/
def loops93 : Nat → Option Hd
  | 2 => some ⟨[(8, false, [.d i64])], [], []⟩
  | _ => none
/-- loftblock bridle.Within -/
def loops24 : Nat → Option Hd
  | 8 => some ⟨[(6, false, [.d .bool]), (23, false, [.d i64])], [], []⟩
  | _ => none
/-- slices.Equal   loftblock api.Frac loftblock api.Frac  -/
def loops38 : Nat → Option Hd
  | 4 => some ⟨[(13, false, [.d i64])], [], []⟩
  | _ => none
/-- loftblock loftblockref18.Find -/
def loops16 : Nat → Option Hd
  | 2 => some ⟨[(5, false, [.d i64])], [], []⟩
  | _ => none
/-- loftblock loftblockref01.word -/
def loops82 : Nat → Option Hd
  | 1 => some ⟨[(1, false, [.d i64])], [], []⟩
  | _ => none
/-- loftblock loftblockref18.Valid -/
def loops13 : Nat → Option Hd
  | 4 => some ⟨[(3, false, [.d i64])], [], []⟩
  | _ => none
/-- loftblock loftblockref09.Root -/
def loops51 : Nat → Option Hd
  | 2 => some ⟨[(3, false, [.d i64]), (4, false, [.d i64])], [], []⟩
  | _ => none
/-- loftblock loftblocklaw18.BridleTwice -/
def loops4 : Nat → Option Hd
  | 10 => some ⟨[(44, false, [.d i64])], [], [(6, some 4, 39, T39)]⟩
  | 18 => some ⟨[(102, false, [.d i64])], [], []⟩
  | 25 => some ⟨[(128, false, [.d i64])], [], []⟩
  | _ => none
/-- loftblock bridle.Anchor -/
def loops25 : Nat → Option Hd
  | 7 => some ⟨[(40, false, [.d i64])], [(4, [.d T55]), (10, [.d T55])], []⟩
  | _ => none
/-- loftblock loftblockref02.Gcd -/
def loops116 : Nat → Option Hd
  | 4 => some ⟨[(5, false, [.d i64])], [(2, [.d T137]), (3, [.d T137])], []⟩
  | 6 => some ⟨[], [(2, [.d T137]), (3, [.d T137])], []⟩
  | 7 => some ⟨[], [(2, [.d T137])], []⟩
  | 9 => some ⟨[], [(3, [.d T137])], []⟩
  | 14 => some ⟨[(5, false, [.d i64])], [(3, [.d T137])], []⟩
  | _ => none
/-- loftblock loftblockref02.Div -/
def loops117 : Nat → Option Hd
  | 5 => some ⟨[(8, false, [.d i64])], [(2, [.d T137]), (6, [.d T137]), (7, [.d T137])], []⟩
  | _ => none
/-- loftblock loftblockref18.Within -/
def loops27 : Nat → Option Hd
  | 7 => some ⟨[(6, false, [.d i64])], [], []⟩
  | 13 => some ⟨[(7, false, [.d .bool]), (8, false, [.d i64])], [], []⟩
  | _ => none
/-- loftblock loftblockref18.Anchor -/
def loops28 : Nat → Option Hd
  | 10 => some ⟨[(11, false, [.d i64])], [(4, [.d T55]), (6, [.d T55])], []⟩
  | _ => none
/-- slices.Reverse   loftblock api.Leg loftblock api.Leg  -/
def loops31 : Nat → Option Hd
  | 1 => some ⟨[(2, false, [.d i64]), (3, false, [.d i64])], [], [(0, none, 39, T39)]⟩
  | _ => none
/-- loftblock loftblocklaw18.BridleMoved -/
def loops6 : Nat → Option Hd
  | 11 => some ⟨[(62, false, [.d i64])], [], [(9, some 4, 39, T39), (10, some 4, 39, T39)]⟩
  | 17 => some ⟨[(92, false, [.d i64])], [], []⟩
  | 22 => some ⟨[(115, false, [.d i64])], [], []⟩
  | _ => none
/-- loftblock loftblocklaw18.BridleStrong -/
def loops7 : Nat → Option Hd
  | 13 => some ⟨[(9, false, [.d .bool]), (64, false, [.d i64])], [], []⟩
  | 38 => some ⟨[(161, false, [.d i64])], [], [(19, some 4, 39, T39)]⟩
  | _ => none
def joins126 : Nat → Option Hd
  | 1000002 => some ⟨[(0, false, [.d (.int .u64)]), (2, false, [.d i64])], [], []⟩
  | 1000005 => some ⟨[(0, false, [.d (.int .u64)]), (2, false, [.d i64])], [], []⟩
  | _ => none
/-- math bits.Div64 -/
def loops106 : Nat → Option Hd
  | 17 => some ⟨[(15, false, [.d (.int .u64)]), (16, false, [.d (.int .u64)])], [], []⟩
  | 24 => some ⟨[(16, false, [.d (.int .u64)]), (18, false, [.d (.int .u64)])], [], []⟩
  | _ => none
def joins106 : Nat → Option Hd
  | 0 => some ⟨[(15, false, [.d (.int .u64)])], [], []⟩
  | 2 => some ⟨[(18, false, [.d (.int .u64)])], [], []⟩
  | 1000002 => some ⟨[], [], []⟩
  | 1000004 => some ⟨[], [], []⟩
  | _ => none
def joins35 : Nat → Option Hd
  | 1000008 => some ⟨[(9, false, [.d .bool])], [(10, [.d T94])], []⟩
  | 1000010 => some ⟨[(9, false, [.d .bool])], [(10, [.d T94])], []⟩
  | _ => none
/-- loftblock bridle.Check -/
def loops34 : Nat → Option Hd
  | 7 => some ⟨[(6, false, [.d .bool]), (33, false, [.d i64])], [], []⟩
  | 11 => some ⟨[(40, false, [.d i64])], [(9, [.d T48])], []⟩
  | _ => none
/-- loftblock loftblocklaw18.BridleHolds -/
def loops8 : Nat → Option Hd
  | 15 => some ⟨[(65, false, [.d i64])], [(11, [.d T55])], []⟩
  | 21 => some ⟨[(80, false, [.d i64])], [(11, [.d T55])], []⟩
  | _ => none
def thaws6 : Nat → List Nat
  | 17 => [9, 10, 11]
  | _ => []
def hints : FuncId → Hint
  | 76 => {loop := loops76}
  | 79 => {loop := loops79}
  | 12 => {loop := loops12}
  | 125 => {loop := loops125}
  | 70 => {loop := loops70}
  | 55 => {loop := loops55}
  | 88 => {loop := loops88}
  | 109 => {loop := loops109}
  | 53 => {loop := loops53}
  | 93 => {loop := loops93}
  | 24 => {loop := loops24}
  | 38 => {loop := loops38}
  | 16 => {loop := loops16}
  | 82 => {loop := loops82}
  | 13 => {loop := loops13}
  | 51 => {loop := loops51}
  | 4 => {loop := loops4}
  | 25 => {loop := loops25}
  | 116 => {loop := loops116}
  | 117 => {loop := loops117}
  | 27 => {loop := loops27}
  | 28 => {loop := loops28}
  | 31 => {loop := loops31}
  | 6 => {loop := loops6, thaw := thaws6}
  | 7 => {loop := loops7}
  | 126 => {join := joins126}
  | 106 => {loop := loops106, join := joins106}
  | 35 => {join := joins35}
  | 34 => {loop := loops34}
  | 8 => {loop := loops8}
  | _ => {}
def inls : List Nat := [31]
end Go.Proofs.Ytghjblbkbelcfaa
