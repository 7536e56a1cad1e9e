/- top: the shapes of its types, and the places of its loops. -/
import Derived.Test.YtlfdhaiigdllcaaGreatProg
import Derived.KernelRfl
import Derived.Test.YtlfdhaiigdllcaaGreatMgL

namespace Go.Proofs.YtlfdhaiigdllcaaGreat
open Tryz Dn Dn.Sh
abbrev i64:Sh:=.int .i64
abbrev mc:Sh:=.agg (.pair .str (.pair i64 (.pair i64 (.pair i64 (.pair i64 (.pair i64 i64))))))
abbrev T92:Sh:=.agg (.pair .str (.pair i64 i64))
abbrev T33:Sh:=.agg (.pair .str (.pair i64 (.pair i64 (.pair i64 (.pair i64 (.pair (.sl i64) (.pair i64 (.pair i64 (.pair i64 (.pair i64 (.pair i64 (.pair (.sl mc) (.sl T92)))))))))))))
abbrev T85:Sh:=.agg (.pair .str (.pair i64 (.pair i64 i64)))
abbrev T38:Sh:=.agg (.pair i64 i64)
abbrev T79:Sh:=.agg (.pair .str i64)
abbrev T66:Sh:=.agg (.pair .str (.pair i64 T38))
abbrev T63:Sh:=.agg (.pair .str (.pair (.sl T66) .bool))
abbrev T50:Sh:=.agg (.pair (.sl T79) (.sl T63))
abbrev T98:Sh:=.agg (.pair i64 i64)
abbrev Dc:Sh:=.agg (.pair (.int .u64) (.int .u64))
abbrev JL:Sh:=.agg (.pair (.sl i64) (.pair i64 i64))
abbrev xx:Sh:=.agg (.pair (.sl i64) (.sl JL))
abbrev acw:Sh:=.agg (.pair T38 (.pair (.sl T38) (.sl T38)))
abbrev ZE:Sh:=.agg (.pair (.sl i64) (.sl (.sl i64)))
abbrev se:Sh:=.agg (.pair .str (.pair i64 (.pair (.sl i64) (.pair (.sl T98) i64))))
abbrev rP:Sh:=.agg (.pair (.int .u64) (.int .u64))
abbrev af5:Sh:=.agg (.pair (.sl (.sl i64)) (.pair i64 (.pair (.sl i64) (.pair (.sl i64) .bool))))
abbrev M0:Sh:=.agg (.pair (.sl (.sl i64)) (.pair i64 (.pair (.sl i64) (.pair (.sl i64) (.pair (.sl i64) (.pair i64 i64))))))
abbrev Xl:Sh:=.agg i64
abbrev rR:Sh:=.agg (.pair .bool (.sl (.int .u32)))
abbrev iL:Sh:=.agg (.pair rR rR)
abbrev yA:Sh:=.agg (.pair .bool (.pair (.int .u64) (.int .u64)))
abbrev aa9:Sh:=.agg (.pair (.int .u64) (.int .u64))
def shs:TypeId->Option Sh
 | 3=>some i64
 | 4=>some .bool
 | 9=>some .str
 | 29=>some (.sl i64)
 | 33=>some T33
 | 38=>some T38
 | 42=>some (.sl T38)
 | 63=>some T63
 | 66=>some T66
 | 79=>some T79
 | 85=>some T85
 | 92=>some T92
 | 98=>some T98
 | 100=>some (.int .u64)
 | 142=>some mc
 | 239=>some JL
 | 267=>some rR
 | 269=>some iL
 | 282=>some (.int .u32)
 | _=>none
def Ra:Nat->Option Hd
 | 8=>some ⟨[(8,false,[.d i64])],[],[(7,none,.row 38 T38)]⟩
 | _=>none
def Sb:Nat->Option Hd
 | 1000002=>some ⟨[],[],[]⟩
 | 1000005=>some ⟨[],[],[]⟩
 | _=>none
def Ta:Nat->Option Hd
 | 8=>some ⟨[(8,false,[.d i64])],[],[(7,none,.row 3 i64)]⟩
 | _=>none
def Si:Nat->Option Hd
 | 1000002=>some ⟨[],[],[]⟩
 | 1000005=>some ⟨[],[],[]⟩
 | _=>none
def U4:Nat->Option Hd
 | 4=>some ⟨[(13,false,[.d i64])],[],[]⟩
 | _=>none
def Ue:Nat->Option Hd
 | 2=>some ⟨[(8,false,[.d i64])],[],[]⟩
 | _=>none
def Vz:Nat->Option Hd
 | 2=>some ⟨[(3,false,[.d i64])],[],[]⟩
 | _=>none
def Qc:Nat->Option Hd
 | 2=>some ⟨[(8,false,[.d i64])],[],[]⟩
 | _=>none
def Ut:Nat->Option Hd
 | 1=>some ⟨[(0,false,[.d (.int .u64)]),(1,false,[.d (.int .u64)])],[],[]⟩
 | _=>none
def Ql:Nat->Option Hd
 | 5=>some ⟨[(17,false,[.d i64])],[],[]⟩
 | _=>none
def S1:Nat->Option Hd
 | 6=>some ⟨[(27,false,[.d i64])],[],[(3,some 0,.x (.map 232 .str .bool))]⟩
 | 13=>some ⟨[(7,false,[.d i64]),(46,false,[.d i64])],[],[(3,some 0,.x (.map 232 .str .bool))]⟩
 | _=>none
def Rz:Nat->Option Hd
 | 2=>some ⟨[(8,false,[.d i64])],[],[]⟩
 | _=>none
def OH:Nat->Option Hd
 | 2=>some ⟨[(8,false,[.d i64])],[],[]⟩
 | _=>none
def Ox:Nat->Option Hd
 | 1000002=>some ⟨[(0,false,[.d (.int .u64)]),(2,false,[.d i64])],[],[]⟩
 | 1000005=>some ⟨[(0,false,[.d (.int .u64)]),(2,false,[.d i64])],[],[]⟩
 | _=>none
def Oe:Nat->Option Hd
 | 17=>some ⟨[(15,false,[.d (.int .u64)]),(16,false,[.d (.int .u64)])],[],[]⟩
 | 24=>some ⟨[(16,false,[.d (.int .u64)]),(18,false,[.d (.int .u64)])],[],[]⟩
 | _=>none
def Te:Nat->Option Hd
 | 0=>some ⟨[(15,false,[.d (.int .u64)])],[],[]⟩
 | 2=>some ⟨[(18,false,[.d (.int .u64)])],[],[]⟩
 | 1000002=>some ⟨[],[],[]⟩
 | 1000004=>some ⟨[],[],[]⟩
 | _=>none
def Pn:Nat->Option Hd
 | 1000007=>some ⟨[(12,false,[.d (.int .u64)]),(13,false,[.d (.int .u64)]),(18,false,[.d .bool])],[],[]⟩
 | 1000008=>some ⟨[(12,false,[.d (.int .u64)]),(13,false,[.d (.int .u64)]),(14,false,[.d (.int .u64)]),(15,false,[.d (.int .u64)]),(18,false,[.d .bool])],[],[]⟩
 | _=>none
def P6:Nat->Option Hd
 | 3=>some ⟨[(20,false,[.d i64])],[(5,[.x (.tab 29 .ref 3 i64),.d i64,.row 3 i64,.row 3 i64,.d .bool])],[]⟩
 | 9=>some ⟨[(40,false,[.d i64])],[(5,[.x (.tab 29 .ref 3 i64),.d i64,.row 3 i64,.row 3 i64,.d .bool])],[]⟩
 | 14=>some ⟨[(10,false,[.d i64]),(11,false,[.d i64])],[],[]⟩
 | 19=>some ⟨[(10,false,[.d i64])],[(5,[.x (.tab 29 .ref 3 i64),.d i64,.row 3 i64,.row 3 i64,.d .bool])],[]⟩
 | 26=>some ⟨[(130,false,[.d i64])],[],[(5,some 0,.x (.tab 29 .ref 3 i64))]⟩
 | 31=>some ⟨[(144,false,[.d i64])],[],[(5,some 0,.x (.tab 29 .ref 3 i64))]⟩
 | _=>none
def T8:Nat->Option Hd
 | 10=>some ⟨[(7,false,[.x (.tab 29 .ref 3 i64)]),(37,false,[.d i64])],[],[]⟩
 | 16=>some ⟨[(64,false,[.d i64])],[],[]⟩
 | 25=>some ⟨[(13,false,[.row 38 T38]),(80,false,[.d i64])],[],[]⟩
 | _=>none
def T9:Nat->Option Hd
 | 5=>some ⟨[(20,false,[.d i64])],[],[(4,none,.x (.tab 29 .ref 3 i64))]⟩
 | 10=>some ⟨[(34,false,[.d i64])],[],[(4,none,.x (.tab 29 .ref 3 i64))]⟩
 | 13=>some ⟨[(42,false,[.d i64])],[],[(4,none,.x (.tab 29 .ref 3 i64))]⟩
 | _=>none
def Vq:Nat->Option Hd
 | 6=>some ⟨[(24,false,[.d i64])],[],[(6,none,.x (.tab 29 .ref 3 i64))]⟩
 | 9=>some ⟨[(29,false,[.d i64])],[],[(6,none,.x (.tab 29 .ref 3 i64))]⟩
 | _=>none
def Sn:Nat->Option Hd
 | 2=>some ⟨[(9,false,[.d i64])],[],[]⟩
 | _=>none
def We:Nat->Option Hd
 | 5=>some ⟨[(4,false,[.row 3 i64]),(13,false,[.d i64])],[],[]⟩
 | _=>none
def U2:Nat->Option Hd
 | 4=>some ⟨[(5,false,[.d i64])],[],[]⟩
 | _=>none
def Ti:Nat->Option Hd
 | 3=>some ⟨[(11,false,[.d i64])],[],[(5,none,.x (.set 259 .str))]⟩
 | _=>none
def S8:Nat->Option Hd
 | 2=>some ⟨[(8,false,[.d i64])],[],[]⟩
 | _=>none
def V6:Nat->Option Hd
 | 4=>some ⟨[(16,false,[.d i64])],[],[]⟩
 | _=>none
def PC:Nat->Option Hd
 | 3=>some ⟨[(11,false,[.d i64])],[],[(5,none,.x (.set 259 .str))]⟩
 | _=>none
def T6:Nat->Option Hd
 | 5=>some ⟨[(3,false,[.d i64]),(15,false,[.d i64])],[],[]⟩
 | _=>none
def Qf:Nat->Option Hd
 | 2=>some ⟨[(8,false,[.d i64])],[],[]⟩
 | _=>none
def Py:Nat->Option Hd
 | 4=>some ⟨[(50,false,[.d i64])],[],[]⟩
 | _=>none
def Pf:Nat->Option Hd
 | 1=>some ⟨[(0,false,[.d (.sl (.int .u32))])],[],[]⟩
 | _=>none
def Q5:Nat->Option Hd
 | 6=>some ⟨[(6,false,[.d (.int .u64)]),(21,false,[.d i64])],[],[(5,none,.row 282 (.int .u32))]⟩
 | _=>none
def RR:Nat->Option Hd
 | 1000002=>some ⟨[(0,false,[.d (.sl (.int .u32))]),(1,false,[.d (.sl (.int .u32))])],[],[]⟩
 | 1000009=>some ⟨[(6,false,[.d (.int .u64)])],[],[]⟩
 | 1000011=>some ⟨[(6,false,[.d (.int .u64)])],[],[]⟩
 | _=>none
def OZ:Nat->Option Hd
 | 4=>some ⟨[(5,false,[.d i64])],[],[]⟩
 | _=>none
def PQ:Nat->Option Hd
 | 4=>some ⟨[(6,false,[.d i64]),(14,false,[.d i64])],[],[(5,none,.row 282 (.int .u32))]⟩
 | _=>none
def OP:Nat->Option Hd
 | 1000008=>some ⟨[(8,false,[.d i64])],[],[]⟩
 | _=>none
def PE:Nat->Option Hd
 | 3=>some ⟨[(10,false,[.d i64])],[],[(3,none,.row 282 (.int .u32))]⟩
 | _=>none
def Tn:Nat->Option Hd
 | 2=>some ⟨[(0,false,[.d (.sl (.int .u32))]),(1,false,[.d (.sl (.int .u32))]),(5,false,[.d i64])],[],[]⟩
 | 4=>some ⟨[(0,false,[.d (.sl (.int .u32))]),(1,false,[.d (.sl (.int .u32))])],[],[]⟩
 | 5=>some ⟨[(0,false,[.d (.sl (.int .u32))])],[],[]⟩
 | 7=>some ⟨[(1,false,[.d (.sl (.int .u32))])],[],[]⟩
 | 13=>some ⟨[(1,false,[.d (.sl (.int .u32))]),(51,false,[.d i64])],[],[]⟩
 | _=>none
def SF:Nat->Option Hd
 | 4=>some ⟨[(6,false,[.d (.sl (.int .u32))]),(7,false,[.d i64])],[],[(5,none,.row 282 (.int .u32))]⟩
 | _=>none
def OU:Nat->Option Hd
 | 1000008=>some ⟨[(6,false,[.d (.sl (.int .u32))])],[],[]⟩
 | _=>none
def S4:Nat->Option Hd
 | 1000004=>some ⟨[],[(2,[.d rR]),(3,[.d rR])],[]⟩
 | _=>none
def Qb:Nat->Option Hd
 | 3=>some ⟨[(22,false,[.d i64])],[],[(5,none,.row 282 (.int .u32))]⟩
 | 7=>some ⟨[(8,false,[.d (.int .u64)]),(30,false,[.d i64])],[],[(5,none,.row 282 (.int .u32))]⟩
 | _=>none
def Sv:Nat->Option Hd
 | 1=>some ⟨[(3,false,[.d i64])],[],[]⟩
 | _=>none
def Qn:Nat->Option Hd
 | 5=>some ⟨[],[(3,[.d .str,.d i64,.row 3 i64,.row 98 T98,.d i64])],[]⟩
 | 7=>some ⟨[(28,false,[.d i64])],[(3,[.d .str,.d i64,.row 3 i64,.row 98 T98,.d i64])],[]⟩
 | _=>none
def QI:Nat->Option Hd
 | 3=>some ⟨[(11,false,[.d i64])],[(5,[.d rR])],[]⟩
 | _=>none
def Tl:Nat->Option Hd
 | 4=>some ⟨[(20,false,[.d i64])],[(4,[.d iL])],[]⟩
 | _=>none
def RS:Nat->Option Hd
 | 4=>some ⟨[(27,false,[.d i64])],[(10,[.d iL])],[]⟩
 | _=>none
def QA:Nat->Option Hd
 | 1000009=>some ⟨[(13,false,[.d i64])],[],[]⟩
 | _=>none
def Pp:Nat->Option Hd
 | 9=>some ⟨[(10,false,[.d i64])],[],[(8,none,.row 269 iL),(9,none,.row 269 iL)]⟩
 | 20=>some ⟨[(14,false,[.d i64])],[],[(7,none,.row 269 iL)]⟩
 | _=>none
def O5:Nat->Option Hd
 | 3=>some ⟨[(15,false,[.d i64])],[(2,[.d T38]),(4,[.d aa9])],[]⟩
 | 8=>some ⟨[(27,false,[.d i64])],[(4,[.d aa9])],[]⟩
 | _=>none
def Ot:Nat->Option Hd
 | 3=>some ⟨[(4,false,[.row 38 T38]),(11,false,[.d i64])],[],[]⟩
 | _=>none
def PX:Nat->Option Hd
 | 3=>some ⟨[(23,false,[.d i64])],[(9,[.d iL])],[]⟩
 | _=>none
def Qm:Nat->Option Hd
 | 1000008=>some ⟨[(12,false,[.d i64])],[],[]⟩
 | _=>none
def Oc:Nat->Option Hd
 | 3=>some ⟨[(16,false,[.d i64])],[(5,[.d iL])],[]⟩
 | _=>none
def QB:Nat->Option Hd
 | 4=>some ⟨[(21,false,[.d i64])],[],[(6,none,.row 269 iL)]⟩
 | 8=>some ⟨[(33,false,[.d i64])],[],[(6,none,.row 269 iL)]⟩
 | _=>none
def Pk:Nat->Option Hd
 | 1000014=>some ⟨[],[],[(6,none,.row 269 iL)]⟩
 | 1000017=>some ⟨[],[],[(6,none,.row 269 iL)]⟩
 | 1000020=>some ⟨[],[],[(6,none,.row 269 iL)]⟩
 | _=>none
def T0:Nat->Option Hd
 | 3=>some ⟨[(19,false,[.d i64])],[(3,[.d .str,.d i64,.row 3 i64,.row 98 T98,.d i64])],[]⟩
 | _=>none
def Uu:Nat->Option Hd
 | 2=>some ⟨[(8,false,[.d i64])],[],[]⟩
 | _=>none
def Q8:Nat->Option Hd
 | 1=>some ⟨[(2,false,[.d i64]),(3,false,[.d i64])],[],[(0,none,.row 38 T38)]⟩
 | _=>none
def SS:Nat->Option Hd
 | 1000009=>some ⟨[],[(6,[.d rP]),(7,[.d rP])],[]⟩
 | _=>none
def TQ:Nat->Option Hd
 | 10=>some ⟨[(6,false,[.row 3 i64]),(25,false,[.d i64])],[],[]⟩
 | _=>none
def VZ:Nat->Option Hd
 | 4=>some ⟨[(5,false,[.d i64])],[],[]⟩
 | 9=>some ⟨[(6,false,[.d i64])],[],[]⟩
 | _=>none
def XD:Nat->Option Hd
 | 4=>some ⟨[(5,false,[.d i64])],[],[]⟩
 | 9=>some ⟨[(6,false,[.d i64])],[],[]⟩
 | _=>none
def QW:Nat->Option Hd
 | 2=>some ⟨[(8,false,[.d i64])],[],[]⟩
 | _=>none
def V5:Nat->Option Hd
 | 4=>some ⟨[(10,false,[.d i64])],[],[]⟩
 | _=>none
def Ug:Nat->Option Hd
 | 2=>some ⟨[(8,false,[.d i64])],[],[]⟩
 | _=>none
def XW:Nat->Option Hd
 | 4=>some ⟨[(34,false,[.d i64])],[],[]⟩
 | _=>none
def Vn:Nat->Option Hd
 | 3=>some ⟨[(3,false,[.d i64]),(11,false,[.d i64])],[],[]⟩
 | _=>none
def Xk:Nat->Option Hd
 | 6=>some ⟨[(4,false,[.d i64]),(23,false,[.d i64])],[],[]⟩
 | _=>none
def V0:Nat->Option Hd
 | 1000008=>some ⟨[(9,false,[.d .bool])],[(10,[.d rP])],[]⟩
 | 1000010=>some ⟨[(9,false,[.d .bool])],[(10,[.d rP])],[]⟩
 | _=>none
def UD:Nat->Option Hd
 | 7=>some ⟨[(20,false,[.d i64])],[(2,[.d T38]),(4,[.d T38])],[]⟩
 | _=>none
def Sw:Nat->Option Hd
 | 2=>some ⟨[(8,false,[.d i64])],[],[]⟩
 | _=>none
def P9:Nat->Option Hd
 | 5=>some ⟨[(3,false,[.d i64]),(11,false,[.d i64])],[],[]⟩
 | _=>none
def Uk:Nat->Option Hd
 | 7=>some ⟨[(6,false,[.d i64]),(21,false,[.d i64])],[],[]⟩
 | _=>none
def Pu:Nat->Option Hd
 | 1=>some ⟨[(8,false,[.d i64])],[],[]⟩
 | _=>none
def Tr:Nat->Option Hd
 | 3=>some ⟨[],[(5,[.d i64])],[]⟩
 | _=>none
def OI:Nat->Option Hd
 | 3=>some ⟨[(21,false,[.d i64])],[(4,[.row 38 T38]),(5,[.d i64])],[]⟩
 | 9=>some ⟨[(33,false,[.d i64])],[(4,[.row 38 T38]),(5,[.d i64])],[(6,some 0,.row 38 T38)]⟩
 | 16=>some ⟨[],[(4,[.row 38 T38]),(5,[.d i64]),(12,[.d i64])],[(6,some 0,.row 38 T38)]⟩
 | _=>none
def Vj:Nat->Option Hd
 | 5=>some ⟨[(4,false,[.row 98 T98]),(20,false,[.d i64])],[],[]⟩
 | 12=>some ⟨[(9,false,[.row 3 i64]),(35,false,[.d i64])],[],[]⟩
 | _=>none
def Qx:Nat->Option Hd
 | 4=>some ⟨[(5,false,[.d i64])],[(2,[.d Dc]),(3,[.d Dc])],[]⟩
 | 6=>some ⟨[],[(2,[.d Dc]),(3,[.d Dc])],[]⟩
 | 7=>some ⟨[],[(2,[.d Dc])],[]⟩
 | 9=>some ⟨[],[(3,[.d Dc])],[]⟩
 | 14=>some ⟨[(5,false,[.d i64])],[(3,[.d Dc])],[]⟩
 | _=>none
def O7:Nat->Option Hd
 | 5=>some ⟨[(8,false,[.d i64])],[(2,[.d Dc]),(6,[.d Dc]),(7,[.d Dc])],[]⟩
 | _=>none
def YB:Nat->Option Hd
 | 7=>some ⟨[(3,false,[.d i64]),(35,false,[.d i64])],[],[]⟩
 | 25=>some ⟨[(102,false,[.d i64])],[(17,[.d T38])],[]⟩
 | _=>none
def T7:Nat->Option Hd
 | 4=>some ⟨[(3,false,[.d i64])],[],[]⟩
 | 9=>some ⟨[(4,false,[.d i64])],[],[]⟩
 | 14=>some ⟨[(5,false,[.d i64])],[],[]⟩
 | _=>none
def RX:Nat->Option Hd
 | 9=>some ⟨[(34,false,[.d i64])],[(9,[.d (.sl i64),.row 239 JL])],[]⟩
 | _=>none
def Oz:Nat->Option Hd
 | 2=>some ⟨[(8,false,[.d i64])],[],[]⟩
 | _=>none
def Pt:Nat->Option Hd
 | 3=>some ⟨[(5,false,[.d i64]),(14,false,[.d i64])],[],[]⟩
 | _=>none
def OO:Nat->Option Hd
 | 5=>some ⟨[(3,false,[.d i64]),(4,false,[.d i64])],[],[]⟩
 | _=>none
def O0:Nat->Option Hd
 | 1000002=>some ⟨[],[],[]⟩
 | _=>none
def Og:Nat->Option Hd
 | 4=>some ⟨[(4,false,[.row 3 i64]),(18,false,[.d i64])],[],[]⟩
 | 10=>some ⟨[(7,false,[.d i64]),(34,false,[.d i64])],[],[]⟩
 | _=>none
def Qq:Nat->Option Hd
 | 4=>some ⟨[(5,false,[.d i64]),(24,false,[.d i64])],[],[]⟩
 | 12=>some ⟨[(9,false,[.d i64]),(51,false,[.d i64])],[(46,[.x (.tab 29 .ref 3 i64),.d i64,.row 3 i64,.row 3 i64,.row 3 i64,.d i64,.d i64])],[]⟩
 | 28=>some ⟨[(95,false,[.d i64])],[],[(12,none,.row 3 i64)]⟩
 | _=>none
def RL:Nat->Option Hd
 | 1000019=>some ⟨[(9,false,[.d i64])],[],[(12,none,.row 3 i64)]⟩
 | 1000022=>some ⟨[(9,false,[.d i64])],[],[(12,none,.row 3 i64)]⟩
 | 1000026=>some ⟨[(13,false,[.d i64])],[],[(12,none,.row 3 i64)]⟩
 | _=>none
def PW:Nat->Option Hd
 | 3=>some ⟨[(5,false,[.d i64]),(13,false,[.d i64])],[],[]⟩
 | _=>none
def OJ:Nat->Option Hd
 | 1000008=>some ⟨[(10,false,[.d .bool])],[(2,[.d yA]),(3,[.d yA])],[]⟩
 | _=>none
def Sd:Nat->Option Hd
 | 2=>some ⟨[(29,false,[.d i64])],[],[(0,some 0,.x (.tab 29 .ref 3 i64))]⟩
 | 7=>some ⟨[(43,false,[.d i64])],[],[(0,some 0,.x (.tab 29 .ref 3 i64))]⟩
 | 17=>some ⟨[(98,false,[.d i64])],[],[(0,some 0,.x (.tab 29 .ref 3 i64))]⟩
 | 20=>some ⟨[(104,false,[.d i64])],[],[(0,some 0,.x (.tab 29 .ref 3 i64))]⟩
 | _=>none
def PO:Nat->Option Hd
 | 3=>some ⟨[(5,false,[.d i64]),(14,false,[.d i64])],[],[]⟩
 | _=>none
def O1:Nat->Option Hd
 | 1=>some ⟨[],[(0,[.x (.tab 29 .ref 3 i64),.d i64,.row 3 i64,.row 3 i64,.row 3 i64,.d i64,.d i64])],[]⟩
 | 3=>some ⟨[(3,false,[.d i64]),(4,false,[.d i64])],[],[]⟩
 | 12=>some ⟨[(44,false,[.d i64])],[(0,[.x (.tab 29 .ref 3 i64),.d i64,.row 3 i64,.row 3 i64,.row 3 i64,.d i64,.d i64])],[]⟩
 | 15=>some ⟨[(6,false,[.d i64])],[(0,[.x (.tab 29 .ref 3 i64),.d i64,.row 3 i64,.row 3 i64,.row 3 i64,.d i64,.d i64])],[]⟩
 | _=>none
def Tq:Nat->Option Hd
 | 3=>some ⟨[(5,false,[.d i64]),(21,false,[.d i64])],[],[]⟩
 | _=>none
def OG:Nat->Option Hd
 | 1=>some ⟨[],[(0,[.x (.tab 29 .ref 3 i64),.d i64,.row 3 i64,.row 3 i64,.row 3 i64,.d i64,.d i64])],[]⟩
 | 3=>some ⟨[(3,false,[.d i64]),(4,false,[.d i64])],[],[]⟩
 | _=>none
def TX:Nat->Option Hd
 | 14=>some ⟨[(6,false,[.d i64]),(43,false,[.d i64])],[],[(7,none,.row 3 i64)]⟩
 | 22=>some ⟨[(94,false,[.d i64])],[(5,[.d T38,.row 38 T38,.row 38 T38])],[]⟩
 | 27=>some ⟨[(110,false,[.d i64])],[(5,[.d T38,.row 38 T38,.row 38 T38])],[]⟩
 | 31=>some ⟨[(13,false,[.d i64]),(118,false,[.d i64])],[],[]⟩
 | _=>none
def Wg:Nat->Option Hd
 | 10=>some ⟨[(5,false,[.row 38 T38]),(20,false,[.d i64])],[],[]⟩
 | _=>none
def PP:Nat->Option Hd
 | 3=>some ⟨[(15,false,[.d i64])],[(0,[.d Xl]),(6,[.d T38]),(7,[.d T38])],[]⟩
 | _=>none
def SN:Nat->Option Hd
 | 1000007=>some ⟨[(11,false,[.d i64])],[(10,[.d T38])],[]⟩
 | _=>none
def Qt:Nat->Option Hd
 | 3=>some ⟨[(5,false,[.row 3 i64]),(11,false,[.d i64])],[],[]⟩
 | _=>none
def Q0:Nat->Option Hd
 | 3=>some ⟨[(9,false,[.d .bool]),(14,false,[.d i64])],[(0,[.d Xl])],[]⟩
 | _=>none
def Sj:Nat->Option Hd
 | 3=>some ⟨[(3,false,[.row 3 i64]),(9,false,[.d i64])],[],[]⟩
 | _=>none
def S5:Nat->Option Hd
 | 2=>some ⟨[(10,false,[.d i64])],[],[]⟩
 | _=>none
def TG:Nat->Option Hd
 | 6=>some ⟨[(7,false,[.d .bool]),(22,false,[.d i64])],[],[(6,some 0,.row 79 T79)]⟩
 | _=>none
def VY:Nat->Option Hd
 | 2=>some ⟨[(8,false,[.d i64])],[],[]⟩
 | _=>none
def QN:Nat->Option Hd
 | 7=>some ⟨[(18,false,[.d i64])],[],[]⟩
 | _=>none
def O4:Nat->Option Hd
 | 6=>some ⟨[(7,false,[.row 38 T38]),(27,false,[.d i64])],[],[]⟩
 | _=>none
def Oj:Nat->Option Hd
 | 1000014=>some ⟨[(12,false,[.d i64])],[(11,[.d T38])],[]⟩
 | _=>none
def S3:Nat->Option Hd
 | 3=>some ⟨[(8,false,[.row 38 T38]),(21,false,[.d i64])],[],[]⟩
 | 7=>some ⟨[(29,false,[.d i64])],[(11,[.d T38])],[]⟩
 | _=>none
def Q1:Nat->Option Hd
 | 1000013=>some ⟨[(15,false,[.d i64]),(16,false,[.d i64])],[(14,[.d T38])],[]⟩
 | _=>none
def Qe:Nat->Option Hd
 | 2=>some ⟨[(8,false,[.d i64])],[],[]⟩
 | _=>none
def UL:Nat->Option Hd
 | 7=>some ⟨[(6,false,[.row 42 (.sl T38)]),(24,false,[.d i64])],[],[]⟩
 | 13=>some ⟨[(42,false,[.d i64])],[],[(8,none,.row 38 T38)]⟩
 | _=>none
def SL:Nat->Option Hd
 | 5=>some ⟨[(7,false,[.row 42 (.sl T38)]),(24,false,[.d i64])],[],[]⟩
 | 17=>some ⟨[(12,false,[.x (.tab 29 .ref 3 i64)]),(52,false,[.d i64])],[],[]⟩
 | 22=>some ⟨[(14,false,[.row 3 i64]),(59,false,[.d i64])],[],[]⟩
 | _=>none
def QS:Nat->Option Hd
 | 3=>some ⟨[(13,false,[.d i64])],[(4,[.d T38]),(6,[.d T38])],[]⟩
 | _=>none
def OQ:Nat->Option Hd
 | 12=>some ⟨[(10,false,[.d .bool]),(43,false,[.d i64])],[(4,[.d T38])],[]⟩
 | _=>none
def Qj:Nat->Option Hd
 | 16=>some ⟨[(13,false,[.row 38 T38]),(72,false,[.d i64])],[],[]⟩
 | 22=>some ⟨[(16,false,[.row 38 T38]),(17,false,[.row 38 T38]),(85,false,[.d i64])],[(4,[.d T38])],[]⟩
 | _=>none
def TM:Nat->Option Hd
 | 6=>some ⟨[(24,false,[.d i64])],[(6,[.row 3 i64,.x (.tab 29 .ref 3 i64)])],[]⟩
 | 11=>some ⟨[(9,false,[.row 3 i64]),(33,false,[.d i64])],[],[]⟩
 | _=>none
def TL:Nat->Option Hd
 | 8=>some ⟨[(33,false,[.d i64])],[],[(6,none,.row 42 (.sl T38))]⟩
 | 11=>some ⟨[(39,false,[.d i64])],[],[(6,none,.row 42 (.sl T38))]⟩
 | _=>none
def V2:Nat->Option Hd
 | 1000015=>some ⟨[],[(9,[.d T38])],[]⟩
 | _=>none
def TN:Nat->Option Hd
 | 6=>some ⟨[(6,false,[.row 9 .str]),(20,false,[.d i64])],[],[]⟩
 | _=>none
def VQ:Nat->Option Hd
 | 4=>some ⟨[(17,false,[.d i64])],[],[]⟩
 | _=>none
def XB:Nat->Option Hd
 | 1000011=>some ⟨[(62,false,[.d .bool])],[],[]⟩
 | 1000012=>some ⟨[(62,false,[.d .bool])],[],[]⟩
 | 1000015=>some ⟨[],[],[]⟩
 | 1000026=>some ⟨[],[],[]⟩
 | _=>none
def dI:FuncId->Hint
 | 137=>{loop:=Ra,join:=Sb}
 | 113=>{loop:=Ta,join:=Si}
 | 20=>{loop:=U4}
 | 68=>{loop:=Ue}
 | 79=>{loop:=Vz}
 | 131=>{loop:=Qc}
 | 96=>{loop:=Ut}
 | 175=>{loop:=Ql}
 | 105=>{loop:=S1}
 | 225=>{loop:=Rz}
 | 226=>{loop:=OH}
 | 267=>{join:=Ox}
 | 220=>{loop:=Oe,join:=Te}
 | 181=>{join:=Pn}
 | 110=>{loop:=P6}
 | 59=>{loop:=T8}
 | 57=>{loop:=T9}
 | 72=>{loop:=Vq}
 | 196=>{loop:=Sn}
 | 58=>{loop:=We}
 | 85=>{loop:=U2}
 | 147=>{loop:=Ti}
 | 207=>{loop:=S8}
 | 86=>{loop:=V6}
 | 154=>{loop:=PC}
 | 87=>{loop:=T6}
 | 222=>{loop:=Qf}
 | 208=>{loop:=Py}
 | 260=>{loop:=Pf}
 | 263=>{loop:=Q5,join:=RR}
 | 264=>{loop:=OZ}
 | 265=>{loop:=PQ,join:=OP}
 | 269=>{loop:=PE}
 | 261=>{loop:=Tn}
 | 262=>{loop:=SF,join:=OU}
 | 250=>{join:=S4}
 | 251=>{loop:=Qb}
 | 266=>{loop:=Sv}
 | 217=>{loop:=Qn}
 | 253=>{loop:=QI}
 | 245=>{loop:=Tl}
 | 247=>{loop:=RS,join:=QA}
 | 209=>{loop:=Pp}
 | 210=>{loop:=O5}
 | 157=>{loop:=Ot}
 | 213=>{loop:=PX,join:=Qm}
 | 216=>{loop:=Oc}
 | 158=>{loop:=QB,join:=Pk}
 | 92=>{loop:=T0}
 | 62=>{loop:=Uu}
 | 268=>{loop:=Q8}
 | 144=>{join:=SS}
 | 77=>{loop:=TQ}
 | 39=>{loop:=VZ}
 | 6=>{loop:=XD}
 | 146=>{loop:=QW}
 | 41=>{loop:=V5}
 | 88=>{loop:=Ug}
 | 7=>{loop:=XW}
 | 44=>{loop:=Vn}
 | 9=>{loop:=Xk}
 | 95=>{join:=V0}
 | 46=>{loop:=UD}
 | 221=>{loop:=Sw}
 | 100=>{loop:=P9}
 | 49=>{loop:=Uk}
 | 223=>{loop:=Pu}
 | 170=>{loop:=Tr}
 | 102=>{loop:=OI}
 | 13=>{loop:=Vj}
 | 103=>{loop:=Qx}
 | 104=>{loop:=O7}
 | 3=>{loop:=YB}
 | 15=>{loop:=T7}
 | 112=>{loop:=RX}
 | 229=>{loop:=Oz}
 | 187=>{loop:=Pt}
 | 189=>{loop:=OO,join:=O0}
 | 115=>{loop:=Og}
 | 116=>{loop:=Qq,join:=RL}
 | 121=>{loop:=PW}
 | 231=>{join:=OJ}
 | 190=>{loop:=Sd}
 | 191=>{loop:=PO}
 | 117=>{loop:=O1}
 | 192=>{loop:=Tq}
 | 118=>{loop:=OG}
 | 61=>{loop:=TX}
 | 63=>{loop:=Wg}
 | 125=>{loop:=PP,join:=SN}
 | 195=>{loop:=Qt}
 | 123=>{loop:=Q0}
 | 126=>{loop:=Sj}
 | 127=>{loop:=S5}
 | 65=>{loop:=TG}
 | 69=>{loop:=VY}
 | 197=>{loop:=QN}
 | 198=>{loop:=O4,join:=Oj}
 | 199=>{loop:=S3,join:=Q1}
 | 204=>{loop:=Qe}
 | 73=>{loop:=UL}
 | 200=>{loop:=SL}
 | 202=>{loop:=QS}
 | 203=>{loop:=OQ}
 | 135=>{loop:=Qj}
 | 74=>{loop:=TM}
 | 34=>{loop:=TL,join:=V2}
 | 35=>{loop:=TN}
 | 36=>{loop:=VQ}
 | 4=>{join:=XB}
 | _=>{}
def Fg (p : String) : Bool := p == "program.go:104" || p == "losses.go:27"
def FJ:TypeId->Option XP
 | 108=>some (.tab 29 .ref 3 i64)
 | 109=>some (.tab 29 .ref 3 i64)
 | _=>none
def tp:List Nat:=[174,266,255,268,259,243,206,223,171,229,185,186,116,190,117,118,123]
end Go.Proofs.YtlfdhaiigdllcaaGreat
