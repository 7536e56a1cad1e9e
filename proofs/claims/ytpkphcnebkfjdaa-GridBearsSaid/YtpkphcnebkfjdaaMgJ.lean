/- r19: the shapes of its types, and the places of its loops. -/
import Derived.Test.YtpkphcnebkfjdaaProg
import Derived.KernelRfl
import Derived.Test.YtpkphcnebkfjdaaMgI

namespace Go.Proofs.Ytpkphcnebkfjdaa
open Try Dn Dn.Sh

abbrev i64 : Sh := .int .i64
/-- api.Frac -/
abbrev T27 : Sh := .agg (.pair i64 i64)
/-- api.Roof -/
abbrev T40 : Sh := .agg (.pair .str (.pair i64 (.pair i64 i64)))
/-- api.Finding -/
abbrev T56 : Sh := .agg (.pair i64 .str)
/-- api.Load -/
abbrev T60 : Sh := .agg (.pair i64 i64)
/-- loftblockref02.U -/
abbrev T97 : Sh := .agg (.pair (.int .u64) (.int .u64))
/-- ratio.wide -/
abbrev T105 : Sh := .agg (.pair (.int .u64) (.int .u64))
def shs : TypeId → Option Sh
  | 9 => some .str
  | 23 => some (.sl T60)
  | 27 => some T27
  | 40 => some T40
  | 56 => some T56
  | 60 => some T60
  | _ => none

/-- slices.Repeat   loftblock api.Frac loftblock api.Frac  -/
def loops88 : Nat → Option Hd
  | 8 => some ⟨[(8, false, [.d i64])], [], [(7, none, 27, T27)]⟩
  | _ => none
def joins88 : Nat → Option Hd
  | 1000002 => some ⟨[], [], []⟩
  | 1000005 => some ⟨[], [], []⟩
  | _ => none
/-- slices.Concat   loftblock api.Load loftblock api.Load  -/
def loops29 : Nat → Option Hd
  | 3 => some ⟨[(3, false, [.d i64]), (11, false, [.d i64])], [], []⟩
  | 11 => some ⟨[(6, false, [.row 60 T60]), (27, false, [.d i64])], [], []⟩
  | _ => none
/-- slices.IndexFunc   loftblock api.Roof loftblock api.Roof  -/
def loops85 : Nat → Option Hd
  | 2 => some ⟨[(8, false, [.d i64])], [], []⟩
  | _ => none
/-- loftblock decimal.word -/
def loops106 : Nat → Option Hd
  | 2 => some ⟨[(3, false, [.d i64])], [], []⟩
  | _ => none
/-- loftblock grid.Valid -/
def loops15 : Nat → Option Hd
  | 4 => some ⟨[(10, false, [.d i64])], [], []⟩
  | _ => none
/-- slices.IndexFunc   loftblock api.Load loftblock api.Load  -/
def loops81 : Nat → Option Hd
  | 2 => some ⟨[(8, false, [.d i64])], [], []⟩
  | _ => none
/--  loftblock grid.beams .count -/
def loops47 : Nat → Option Hd
  | 3 => some ⟨[], [(5, [.d i64])], []⟩
  | _ => none
/-- loftblock ratio.gcd -/
def loops73 : Nat → Option Hd
  | 1 => some ⟨[(0, false, [.d (.int .u64)]), (1, false, [.d (.int .u64)])], [], []⟩
  | _ => none
def joins112 : Nat → Option Hd
  | 1000002 => some ⟨[(0, false, [.d (.int .u64)]), (2, false, [.d i64])], [], []⟩
  | 1000005 => some ⟨[(0, false, [.d (.int .u64)]), (2, false, [.d i64])], [], []⟩
  | _ => none
/-- math bits.Div64 -/
def loops101 : Nat → Option Hd
  | 17 => some ⟨[(15, false, [.d (.int .u64)]), (16, false, [.d (.int .u64)])], [], []⟩
  | 24 => some ⟨[(16, false, [.d (.int .u64)]), (18, false, [.d (.int .u64)])], [], []⟩
  | _ => none
def joins101 : Nat → Option Hd
  | 0 => some ⟨[(15, false, [.d (.int .u64)])], [], []⟩
  | 2 => some ⟨[(18, false, [.d (.int .u64)])], [], []⟩
  | 1000002 => some ⟨[], [], []⟩
  | 1000004 => some ⟨[], [], []⟩
  | _ => none
def joins30 : Nat → Option Hd
  | 1000008 => some ⟨[(9, false, [.d .bool])], [(10, [.d T105])], []⟩
  | 1000010 => some ⟨[(9, false, [.d .bool])], [(10, [.d T105])], []⟩
  | _ => none
/-- loftblock grid.borne -/
def loops48 : Nat → Option Hd
  | 3 => some ⟨[(21, false, [.d i64])], [(4, [.row 27 T27]), (5, [.d i64])], []⟩
  | 9 => some ⟨[(33, false, [.d i64])], [(4, [.row 27 T27]), (5, [.d i64])], [(6, some 0, 27, T27)]⟩
  | 16 => some ⟨[], [(4, [.row 27 T27]), (5, [.d i64]), (12, [.d i64])], [(6, some 0, 27, T27)]⟩
  | _ => none
def joins53 : Nat → Option Hd
  | 1000009 => some ⟨[], [(6, [.d T105]), (7, [.d T105])], []⟩
  | _ => none
/-- loftblock grid.Spare -/
def loops11 : Nat → Option Hd
  | 16 => some ⟨[], [(6, [.d T27]), (7, [.d i64]), (12, [.d T27]), (13, [.d .bool])], []⟩
  | _ => none
/-- slices.Equal   loftblock api.Frac loftblock api.Frac  -/
def loops22 : Nat → Option Hd
  | 4 => some ⟨[(13, false, [.d i64])], [], []⟩
  | _ => none
/-- slices.IndexFunc     loftblock api.Load   loftblock api.Load  -/
def loops86 : Nat → Option Hd
  | 2 => some ⟨[(8, false, [.d i64])], [], []⟩
  | _ => none
/-- loftblock loftblockref01.word -/
def loops95 : Nat → Option Hd
  | 1 => some ⟨[(1, false, [.d i64])], [], []⟩
  | _ => none
/-- loftblock loftblockref19.Valid -/
def loops16 : Nat → Option Hd
  | 4 => some ⟨[(3, false, [.d i64])], [], []⟩
  | 10 => some ⟨[(5, false, [.d i64])], [], []⟩
  | _ => none
/-- loftblock loftblockref19.Right -/
def loops54 : Nat → Option Hd
  | 4 => some ⟨[(3, false, [.d i64])], [], []⟩
  | _ => none
/-- loftblock loftblockref19.Count -/
def loops56 : Nat → Option Hd
  | 3 => some ⟨[(5, false, [.d i64]), (6, false, [.d i64])], [], []⟩
  | _ => none
/-- loftblock loftblockref02.Gcd -/
def loops103 : Nat → Option Hd
  | 4 => some ⟨[(5, false, [.d i64])], [(2, [.d T97]), (3, [.d T97])], []⟩
  | 6 => some ⟨[], [(2, [.d T97]), (3, [.d T97])], []⟩
  | 7 => some ⟨[], [(2, [.d T97])], []⟩
  | 9 => some ⟨[], [(3, [.d T97])], []⟩
  | 14 => some ⟨[(5, false, [.d i64])], [(3, [.d T97])], []⟩
  | _ => none
/-- loftblock loftblockref02.Div -/
def loops104 : Nat → Option Hd
  | 5 => some ⟨[(8, false, [.d i64])], [(2, [.d T97]), (6, [.d T97]), (7, [.d T97])], []⟩
  | _ => none
/-- loftblock loftblockref19.Loads -/
def loops21 : Nat → Option Hd
  | 2 => some ⟨[(6, false, [.d i64])], [], []⟩
  | 8 => some ⟨[(7, false, [.row 27 T27]), (8, false, [.d i64])], [], []⟩
  | 12 => some ⟨[(10, false, [.d i64])], [(9, [.d T27])], []⟩
  | _ => none
/-- loftblock loftblockref19.Spare -/
def loops13 : Nat → Option Hd
  | 9 => some ⟨[(11, false, [.d .bool]), (12, false, [.d i64])], [(6, [.d T27]), (10, [.d T27])], []⟩
  | _ => none
/-- loftblock grid.Under -/
def loops14 : Nat → Option Hd
  | 8 => some ⟨[], [(6, [.row 9 .str])], []⟩
  | _ => none
/-- slices.Equal   string string  -/
def loops18 : Nat → Option Hd
  | 4 => some ⟨[(13, false, [.d i64])], [], []⟩
  | _ => none
/-- loftblock loftblocklaw19.GridForms -/
def loops4 : Nat → Option Hd
  | 13 => some ⟨[(8, false, [.row 9 .str]), (42, false, [.d i64])], [], []⟩
  | _ => none
/-- loftblock grid.Over -/
def loops20 : Nat → Option Hd
  | 6 => some ⟨[(8, false, [.row 56 T56]), (24, false, [.d i64])], [], []⟩
  | _ => none
/-- slices.Equal   loftblock api.Finding loftblock api.Finding  -/
def loops25 : Nat → Option Hd
  | 4 => some ⟨[(13, false, [.d i64])], [], []⟩
  | _ => none
/-- loftblock loftblocklaw19.GridLoads -/
def loops5 : Nat → Option Hd
  | 15 => some ⟨[(12, false, [.row 56 T56]), (78, false, [.d i64])], [], []⟩
  | _ => none
/-- slices.IndexFunc   loftblock api.Frac loftblock api.Frac  -/
def loops71 : Nat → Option Hd
  | 2 => some ⟨[(8, false, [.d i64])], [], []⟩
  | _ => none
/-- loftblock ratio.Sum -/
def loops26 : Nat → Option Hd
  | 7 => some ⟨[(20, false, [.d i64])], [(2, [.d T27]), (4, [.d T27])], []⟩
  | _ => none
/-- loftblock loftblocklaw19.GridSums -/
def loops6 : Nat → Option Hd
  | 10 => some ⟨[(7, false, [.d i64]), (32, false, [.d i64])], [], []⟩
  | _ => none
def joins72 : Nat → Option Hd
  | 1000002 => some ⟨[], [], []⟩
  | _ => none
/-- loftblock loftblocklaw19.GridAdds -/
def loops7 : Nat → Option Hd
  | 14 => some ⟨[(121, false, [.d i64])], [], []⟩
  | _ => none
/-- slices.IndexFunc   loftblock api.Finding loftblock api.Finding  -/
def loops83 : Nat → Option Hd
  | 2 => some ⟨[(8, false, [.d i64])], [], []⟩
  | _ => none
/-- slices.Index   string string  -/
def loops84 : Nat → Option Hd
  | 2 => some ⟨[(8, false, [.d i64])], [], []⟩
  | _ => none
def hints : FuncId → Hint
  | 88 => {loop := loops88, join := joins88}
  | 29 => {loop := loops29}
  | 85 => {loop := loops85}
  | 106 => {loop := loops106}
  | 15 => {loop := loops15}
  | 81 => {loop := loops81}
  | 47 => {loop := loops47}
  | 73 => {loop := loops73}
  | 112 => {join := joins112}
  | 101 => {loop := loops101, join := joins101}
  | 30 => {join := joins30}
  | 48 => {loop := loops48}
  | 53 => {join := joins53}
  | 11 => {loop := loops11}
  | 22 => {loop := loops22}
  | 86 => {loop := loops86}
  | 95 => {loop := loops95}
  | 16 => {loop := loops16}
  | 54 => {loop := loops54}
  | 56 => {loop := loops56}
  | 103 => {loop := loops103}
  | 104 => {loop := loops104}
  | 21 => {loop := loops21}
  | 13 => {loop := loops13}
  | 14 => {loop := loops14}
  | 18 => {loop := loops18}
  | 4 => {loop := loops4}
  | 20 => {loop := loops20}
  | 25 => {loop := loops25}
  | 5 => {loop := loops5}
  | 71 => {loop := loops71}
  | 26 => {loop := loops26}
  | 6 => {loop := loops6}
  | 72 => {join := joins72}
  | 7 => {loop := loops7}
  | 83 => {loop := loops83}
  | 84 => {loop := loops84}
  | _ => {}
def inls : List Nat := [49, 72]
end Go.Proofs.Ytpkphcnebkfjdaa
