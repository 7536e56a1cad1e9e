/- top: the shapes of its types, and the places of its loops. -/
import Derived.Test.YtlfdhaiigdllcaaGreatProg
import Derived.KernelRfl
import Derived.Test.YtlfdhaiigdllcaaGreatMgL

namespace Go.Proofs.YtlfdhaiigdllcaaGreat
open Tryz Dn Dn.Sh
abbrev i64:Sh:=.int .i64
abbrev jM:Sh:=.agg (.pair .str (.pair i64 (.pair i64 (.pair i64 (.pair i64 (.pair i64 i64))))))
abbrev T92:Sh:=.agg (.pair .str (.pair i64 i64))
abbrev T33:Sh:=.agg (.pair .str (.pair i64 (.pair i64 (.pair i64 (.pair i64 (.pair (.sl i64) (.pair i64 (.pair i64 (.pair i64 (.pair i64 (.pair i64 (.pair (.sl jM) (.sl T92)))))))))))))
abbrev T85:Sh:=.agg (.pair .str (.pair i64 (.pair i64 i64)))
abbrev T25:Sh:=.agg (.pair .str (.pair i64 (.pair (.sl T33) (.sl T85))))
abbrev T38:Sh:=.agg (.pair i64 i64)
abbrev T79:Sh:=.agg (.pair .str i64)
abbrev T66:Sh:=.agg (.pair .str (.pair i64 T38))
abbrev T63:Sh:=.agg (.pair .str (.pair (.sl T66) .bool))
abbrev T50:Sh:=.agg (.pair (.sl T79) (.sl T63))
abbrev T98:Sh:=.agg (.pair i64 i64)
abbrev ij:Sh:=.agg (.pair (.int .u64) (.int .u64))
abbrev Ud:Sh:=.agg (.pair (.sl i64) (.pair i64 i64))
abbrev pk:Sh:=.agg (.pair .str (.pair i64 (.pair (.sl i64) (.pair (.sl T98) i64))))
abbrev pn:Sh:=.agg (.pair (.int .u64) (.int .u64))
abbrev Yg:Sh:=.agg (.pair (.sl (.sl i64)) (.pair i64 (.pair (.sl i64) (.pair (.sl i64) .bool))))
abbrev UY:Sh:=.agg i64
abbrev oP:Sh:=.agg (.pair .bool (.sl (.int .u32)))
abbrev fW:Sh:=.agg (.pair oP oP)
abbrev Vq:Sh:=.agg (.pair .bool (.pair (.int .u64) (.int .u64)))
abbrev Ui:Sh:=.agg (.pair (.int .u64) (.int .u64))
def shs:TypeId->Option Sh
 | 3=>some i64
 | 4=>some .bool
 | 9=>some .str
 | 29=>some (.sl i64)
 | 33=>some T33
 | 38=>some T38
 | 42=>some (.sl T38)
 | 63=>some T63
 | 66=>some T66
 | 79=>some T79
 | 85=>some T85
 | 92=>some T92
 | 98=>some T98
 | 100=>some (.int .u64)
 | 142=>some jM
 | 239=>some Ud
 | 267=>some oP
 | 269=>some fW
 | 282=>some (.int .u32)
 | _=>none
def Mg:Nat->Option Hd
 | 8=>some ⟨[(8,false,[.d i64])],[],[(7,none,.row 38 T38)]⟩
 | _=>none
def KZ:Nat->Option Hd
 | 1000002=>some ⟨[],[],[]⟩
 | 1000005=>some ⟨[],[],[]⟩
 | _=>none
def M2:Nat->Option Hd
 | 8=>some ⟨[(8,false,[.d i64])],[],[(7,none,.row 3 i64)]⟩
 | _=>none
def LU:Nat->Option Hd
 | 1000002=>some ⟨[],[],[]⟩
 | 1000005=>some ⟨[],[],[]⟩
 | _=>none
def PY:Nat->Option Hd
 | 4=>some ⟨[(13,false,[.d i64])],[],[]⟩
 | _=>none
def PD:Nat->Option Hd
 | 2=>some ⟨[(8,false,[.d i64])],[],[]⟩
 | _=>none
def P8:Nat->Option Hd
 | 2=>some ⟨[(3,false,[.d i64])],[],[]⟩
 | _=>none
def MD:Nat->Option Hd
 | 2=>some ⟨[(8,false,[.d i64])],[],[]⟩
 | _=>none
def P9:Nat->Option Hd
 | 1=>some ⟨[(0,false,[.d (.int .u64)]),(1,false,[.d (.int .u64)])],[],[]⟩
 | _=>none
def Oe:Nat->Option Hd
 | 5=>some ⟨[(17,false,[.d i64])],[],[]⟩
 | _=>none
def NJ:Nat->Option Hd
 | 6=>some ⟨[(27,false,[.d i64])],[],[(3,some 0,.x (.map 232 .str .bool))]⟩
 | 13=>some ⟨[(7,false,[.d i64]),(46,false,[.d i64])],[],[(3,some 0,.x (.map 232 .str .bool))]⟩
 | _=>none
def L8:Nat->Option Hd
 | 2=>some ⟨[(8,false,[.d i64])],[],[]⟩
 | _=>none
def LI:Nat->Option Hd
 | 2=>some ⟨[(8,false,[.d i64])],[],[]⟩
 | _=>none
def M9:Nat->Option Hd
 | 1000002=>some ⟨[(0,false,[.d (.int .u64)]),(2,false,[.d i64])],[],[]⟩
 | 1000005=>some ⟨[(0,false,[.d (.int .u64)]),(2,false,[.d i64])],[],[]⟩
 | _=>none
def L5:Nat->Option Hd
 | 17=>some ⟨[(15,false,[.d (.int .u64)]),(16,false,[.d (.int .u64)])],[],[]⟩
 | 24=>some ⟨[(16,false,[.d (.int .u64)]),(18,false,[.d (.int .u64)])],[],[]⟩
 | _=>none
def M8:Nat->Option Hd
 | 0=>some ⟨[(15,false,[.d (.int .u64)])],[],[]⟩
 | 2=>some ⟨[(18,false,[.d (.int .u64)])],[],[]⟩
 | 1000002=>some ⟨[],[],[]⟩
 | 1000004=>some ⟨[],[],[]⟩
 | _=>none
def Mr:Nat->Option Hd
 | 1000007=>some ⟨[(12,false,[.d (.int .u64)]),(13,false,[.d (.int .u64)]),(18,false,[.d .bool])],[],[]⟩
 | 1000008=>some ⟨[(12,false,[.d (.int .u64)]),(13,false,[.d (.int .u64)]),(14,false,[.d (.int .u64)]),(15,false,[.d (.int .u64)]),(18,false,[.d .bool])],[],[]⟩
 | _=>none
def K4:Nat->Option Hd
 | 3=>some ⟨[(20,false,[.d i64])],[(5,[.x (.tab 29 .ref 3 i64),.d i64,.row 3 i64,.row 3 i64,.d .bool])],[]⟩
 | 9=>some ⟨[(40,false,[.d i64])],[(5,[.x (.tab 29 .ref 3 i64),.d i64,.row 3 i64,.row 3 i64,.d .bool])],[]⟩
 | 14=>some ⟨[(10,false,[.d i64]),(11,false,[.d i64])],[],[]⟩
 | 19=>some ⟨[(10,false,[.d i64])],[(5,[.x (.tab 29 .ref 3 i64),.d i64,.row 3 i64,.row 3 i64,.d .bool])],[]⟩
 | 26=>some ⟨[(130,false,[.d i64])],[],[(5,some 0,.x (.tab 29 .ref 3 i64))]⟩
 | 31=>some ⟨[(144,false,[.d i64])],[],[(5,some 0,.x (.tab 29 .ref 3 i64))]⟩
 | _=>none
def OG:Nat->Option Hd
 | 10=>some ⟨[(7,false,[.x (.tab 29 .ref 3 i64)]),(37,false,[.d i64])],[],[]⟩
 | 16=>some ⟨[(64,false,[.d i64])],[],[]⟩
 | 25=>some ⟨[(13,false,[.row 38 T38]),(80,false,[.d i64])],[],[]⟩
 | _=>none
def OX:Nat->Option Hd
 | 5=>some ⟨[(20,false,[.d i64])],[],[(4,none,.x (.tab 29 .ref 3 i64))]⟩
 | 10=>some ⟨[(34,false,[.d i64])],[],[(4,none,.x (.tab 29 .ref 3 i64))]⟩
 | 13=>some ⟨[(42,false,[.d i64])],[],[(4,none,.x (.tab 29 .ref 3 i64))]⟩
 | _=>none
def P0:Nat->Option Hd
 | 6=>some ⟨[(24,false,[.d i64])],[],[(6,none,.x (.tab 29 .ref 3 i64))]⟩
 | 9=>some ⟨[(29,false,[.d i64])],[],[(6,none,.x (.tab 29 .ref 3 i64))]⟩
 | _=>none
def Lx:Nat->Option Hd
 | 2=>some ⟨[(9,false,[.d i64])],[],[]⟩
 | _=>none
def Qj:Nat->Option Hd
 | 5=>some ⟨[(4,false,[.row 3 i64]),(13,false,[.d i64])],[],[]⟩
 | _=>none
def PP:Nat->Option Hd
 | 4=>some ⟨[(5,false,[.d i64])],[],[]⟩
 | _=>none
def KP:Nat->Option Hd
 | 3=>some ⟨[(11,false,[.d i64])],[],[(5,none,.x (.set 259 .str))]⟩
 | _=>none
def KM:Nat->Option Hd
 | 2=>some ⟨[(8,false,[.d i64])],[],[]⟩
 | _=>none
def Qk:Nat->Option Hd
 | 4=>some ⟨[(16,false,[.d i64])],[],[]⟩
 | _=>none
def M0:Nat->Option Hd
 | 3=>some ⟨[(11,false,[.d i64])],[],[(5,none,.x (.set 259 .str))]⟩
 | _=>none
def QC:Nat->Option Hd
 | 5=>some ⟨[(3,false,[.d i64]),(15,false,[.d i64])],[],[]⟩
 | _=>none
def MG:Nat->Option Hd
 | 2=>some ⟨[(8,false,[.d i64])],[],[]⟩
 | _=>none
def N1:Nat->Option Hd
 | 4=>some ⟨[(50,false,[.d i64])],[],[]⟩
 | _=>none
def KF:Nat->Option Hd
 | 1=>some ⟨[(0,false,[.d (.sl (.int .u32))])],[],[]⟩
 | _=>none
def MA:Nat->Option Hd
 | 6=>some ⟨[(6,false,[.d (.int .u64)]),(21,false,[.d i64])],[],[(5,none,.row 282 (.int .u32))]⟩
 | _=>none
def NN:Nat->Option Hd
 | 1000002=>some ⟨[(0,false,[.d (.sl (.int .u32))]),(1,false,[.d (.sl (.int .u32))])],[],[]⟩
 | 1000009=>some ⟨[(6,false,[.d (.int .u64)])],[],[]⟩
 | 1000011=>some ⟨[(6,false,[.d (.int .u64)])],[],[]⟩
 | _=>none
def L2:Nat->Option Hd
 | 4=>some ⟨[(5,false,[.d i64])],[],[]⟩
 | _=>none
def Nb:Nat->Option Hd
 | 4=>some ⟨[(6,false,[.d i64]),(14,false,[.d i64])],[],[(5,none,.row 282 (.int .u32))]⟩
 | _=>none
def Lc:Nat->Option Hd
 | 1000008=>some ⟨[(8,false,[.d i64])],[],[]⟩
 | _=>none
def M6:Nat->Option Hd
 | 3=>some ⟨[(10,false,[.d i64])],[],[(3,none,.row 282 (.int .u32))]⟩
 | _=>none
def Ng:Nat->Option Hd
 | 2=>some ⟨[(0,false,[.d (.sl (.int .u32))]),(1,false,[.d (.sl (.int .u32))]),(5,false,[.d i64])],[],[]⟩
 | 4=>some ⟨[(0,false,[.d (.sl (.int .u32))]),(1,false,[.d (.sl (.int .u32))])],[],[]⟩
 | 5=>some ⟨[(0,false,[.d (.sl (.int .u32))])],[],[]⟩
 | 7=>some ⟨[(1,false,[.d (.sl (.int .u32))])],[],[]⟩
 | 13=>some ⟨[(1,false,[.d (.sl (.int .u32))]),(51,false,[.d i64])],[],[]⟩
 | _=>none
def L6:Nat->Option Hd
 | 4=>some ⟨[(6,false,[.d (.sl (.int .u32))]),(7,false,[.d i64])],[],[(5,none,.row 282 (.int .u32))]⟩
 | _=>none
def K8:Nat->Option Hd
 | 1000008=>some ⟨[(6,false,[.d (.sl (.int .u32))])],[],[]⟩
 | _=>none
def Ms:Nat->Option Hd
 | 1000004=>some ⟨[],[(2,[.d oP]),(3,[.d oP])],[]⟩
 | _=>none
def Nl:Nat->Option Hd
 | 3=>some ⟨[(22,false,[.d i64])],[],[(5,none,.row 282 (.int .u32))]⟩
 | 7=>some ⟨[(8,false,[.d (.int .u64)]),(30,false,[.d i64])],[],[(5,none,.row 282 (.int .u32))]⟩
 | _=>none
def MH:Nat->Option Hd
 | 1=>some ⟨[(3,false,[.d i64])],[],[]⟩
 | _=>none
def Ly:Nat->Option Hd
 | 5=>some ⟨[],[(3,[.d .str,.d i64,.row 3 i64,.row 98 T98,.d i64])],[]⟩
 | 7=>some ⟨[(28,false,[.d i64])],[(3,[.d .str,.d i64,.row 3 i64,.row 98 T98,.d i64])],[]⟩
 | _=>none
def ME:Nat->Option Hd
 | 3=>some ⟨[(11,false,[.d i64])],[(5,[.d oP])],[]⟩
 | _=>none
def Lu:Nat->Option Hd
 | 4=>some ⟨[(20,false,[.d i64])],[(4,[.d fW])],[]⟩
 | _=>none
def LC:Nat->Option Hd
 | 4=>some ⟨[(27,false,[.d i64])],[(10,[.d fW])],[]⟩
 | _=>none
def Ol:Nat->Option Hd
 | 1000009=>some ⟨[(13,false,[.d i64])],[],[]⟩
 | _=>none
def Lm:Nat->Option Hd
 | 9=>some ⟨[(10,false,[.d i64])],[],[(8,none,.row 269 fW),(9,none,.row 269 fW)]⟩
 | 20=>some ⟨[(14,false,[.d i64])],[],[(7,none,.row 269 fW)]⟩
 | _=>none
def Lv:Nat->Option Hd
 | 3=>some ⟨[(15,false,[.d i64])],[(2,[.d T38]),(4,[.d Ui])],[]⟩
 | 8=>some ⟨[(27,false,[.d i64])],[(4,[.d Ui])],[]⟩
 | _=>none
def Mu:Nat->Option Hd
 | 3=>some ⟨[(4,false,[.row 38 T38]),(11,false,[.d i64])],[],[]⟩
 | _=>none
def Mb:Nat->Option Hd
 | 3=>some ⟨[(23,false,[.d i64])],[(9,[.d fW])],[]⟩
 | _=>none
def Nm:Nat->Option Hd
 | 1000008=>some ⟨[(12,false,[.d i64])],[],[]⟩
 | _=>none
def MX:Nat->Option Hd
 | 3=>some ⟨[(16,false,[.d i64])],[(5,[.d fW])],[]⟩
 | _=>none
def MN:Nat->Option Hd
 | 4=>some ⟨[(21,false,[.d i64])],[],[(6,none,.row 269 fW)]⟩
 | 8=>some ⟨[(33,false,[.d i64])],[],[(6,none,.row 269 fW)]⟩
 | _=>none
def MR:Nat->Option Hd
 | 1000014=>some ⟨[],[],[(6,none,.row 269 fW)]⟩
 | 1000017=>some ⟨[],[],[(6,none,.row 269 fW)]⟩
 | 1000020=>some ⟨[],[],[(6,none,.row 269 fW)]⟩
 | _=>none
def QS:Nat->Option Hd
 | 3=>some ⟨[(19,false,[.d i64])],[(3,[.d .str,.d i64,.row 3 i64,.row 98 T98,.d i64])],[]⟩
 | _=>none
def Po:Nat->Option Hd
 | 2=>some ⟨[(8,false,[.d i64])],[],[]⟩
 | _=>none
def KY:Nat->Option Hd
 | 1=>some ⟨[(2,false,[.d i64]),(3,false,[.d i64])],[],[(0,none,.row 38 T38)]⟩
 | _=>none
def NC:Nat->Option Hd
 | 1000009=>some ⟨[],[(6,[.d pn]),(7,[.d pn])],[]⟩
 | _=>none
def QE:Nat->Option Hd
 | 10=>some ⟨[(6,false,[.row 3 i64]),(25,false,[.d i64])],[],[]⟩
 | _=>none
def QB:Nat->Option Hd
 | 4=>some ⟨[(5,false,[.d i64])],[],[]⟩
 | 9=>some ⟨[(6,false,[.d i64])],[],[]⟩
 | _=>none
def Ru:Nat->Option Hd
 | 4=>some ⟨[(5,false,[.d i64])],[],[]⟩
 | 9=>some ⟨[(6,false,[.d i64])],[],[]⟩
 | _=>none
def Om:Nat->Option Hd
 | 2=>some ⟨[(8,false,[.d i64])],[],[]⟩
 | _=>none
def P6:Nat->Option Hd
 | 4=>some ⟨[(10,false,[.d i64])],[],[]⟩
 | _=>none
def Qf:Nat->Option Hd
 | 2=>some ⟨[(8,false,[.d i64])],[],[]⟩
 | _=>none
def SB:Nat->Option Hd
 | 4=>some ⟨[(34,false,[.d i64])],[],[]⟩
 | _=>none
def PF:Nat->Option Hd
 | 3=>some ⟨[(3,false,[.d i64]),(11,false,[.d i64])],[],[]⟩
 | _=>none
def S9:Nat->Option Hd
 | 6=>some ⟨[(4,false,[.d i64]),(23,false,[.d i64])],[],[]⟩
 | _=>none
def QF:Nat->Option Hd
 | 1000008=>some ⟨[(9,false,[.d .bool])],[(10,[.d pn])],[]⟩
 | 1000010=>some ⟨[(9,false,[.d .bool])],[(10,[.d pn])],[]⟩
 | _=>none
def Px:Nat->Option Hd
 | 7=>some ⟨[(20,false,[.d i64])],[(2,[.d T38]),(4,[.d T38])],[]⟩
 | _=>none
def Ny:Nat->Option Hd
 | 2=>some ⟨[(8,false,[.d i64])],[],[]⟩
 | _=>none
def Np:Nat->Option Hd
 | 5=>some ⟨[(3,false,[.d i64]),(11,false,[.d i64])],[],[]⟩
 | _=>none
def Ow:Nat->Option Hd
 | 7=>some ⟨[(6,false,[.d i64]),(21,false,[.d i64])],[],[]⟩
 | _=>none
def NZ:Nat->Option Hd
 | 1=>some ⟨[(8,false,[.d i64])],[],[]⟩
 | _=>none
def K3:Nat->Option Hd
 | 3=>some ⟨[],[(5,[.d i64])],[]⟩
 | _=>none
def MI:Nat->Option Hd
 | 3=>some ⟨[(21,false,[.d i64])],[(4,[.row 38 T38]),(5,[.d i64])],[]⟩
 | 9=>some ⟨[(33,false,[.d i64])],[(4,[.row 38 T38]),(5,[.d i64])],[(6,some 0,.row 38 T38)]⟩
 | 16=>some ⟨[],[(4,[.row 38 T38]),(5,[.d i64]),(12,[.d i64])],[(6,some 0,.row 38 T38)]⟩
 | _=>none
def PG:Nat->Option Hd
 | 5=>some ⟨[(4,false,[.row 98 T98]),(20,false,[.d i64])],[],[]⟩
 | 12=>some ⟨[(9,false,[.row 3 i64]),(35,false,[.d i64])],[],[]⟩
 | _=>none
def LO:Nat->Option Hd
 | 4=>some ⟨[(5,false,[.d i64])],[(2,[.d ij]),(3,[.d ij])],[]⟩
 | 6=>some ⟨[],[(2,[.d ij]),(3,[.d ij])],[]⟩
 | 7=>some ⟨[],[(2,[.d ij])],[]⟩
 | 9=>some ⟨[],[(3,[.d ij])],[]⟩
 | 14=>some ⟨[(5,false,[.d i64])],[(3,[.d ij])],[]⟩
 | _=>none
def J1:Nat->Option Hd
 | 5=>some ⟨[(8,false,[.d i64])],[(2,[.d ij]),(6,[.d ij]),(7,[.d ij])],[]⟩
 | _=>none
def To:Nat->Option Hd
 | 7=>some ⟨[(3,false,[.d i64]),(35,false,[.d i64])],[],[]⟩
 | 25=>some ⟨[(102,false,[.d i64])],[(17,[.d T38])],[]⟩
 | _=>none
def Qm:Nat->Option Hd
 | 4=>some ⟨[(3,false,[.d i64])],[],[]⟩
 | 9=>some ⟨[(4,false,[.d i64])],[],[]⟩
 | 14=>some ⟨[(5,false,[.d i64])],[],[]⟩
 | _=>none
def Nh:Nat->Option Hd
 | 9=>some ⟨[(34,false,[.d i64])],[(9,[.d (.sl i64),.row 239 Ud])],[]⟩
 | _=>none
def L3:Nat->Option Hd
 | 2=>some ⟨[(8,false,[.d i64])],[],[]⟩
 | _=>none
def Lr:Nat->Option Hd
 | 3=>some ⟨[(5,false,[.d i64]),(14,false,[.d i64])],[],[]⟩
 | _=>none
def NX:Nat->Option Hd
 | 5=>some ⟨[(3,false,[.d i64]),(4,false,[.d i64])],[],[]⟩
 | _=>none
def Mn:Nat->Option Hd
 | 1000002=>some ⟨[],[],[]⟩
 | _=>none
def LM:Nat->Option Hd
 | 4=>some ⟨[(4,false,[.row 3 i64]),(18,false,[.d i64])],[],[]⟩
 | 10=>some ⟨[(7,false,[.d i64]),(34,false,[.d i64])],[],[]⟩
 | _=>none
def KV:Nat->Option Hd
 | 4=>some ⟨[(5,false,[.d i64]),(24,false,[.d i64])],[],[]⟩
 | 12=>some ⟨[(9,false,[.d i64]),(51,false,[.d i64])],[(46,[.x (.tab 29 .ref 3 i64),.d i64,.row 3 i64,.row 3 i64,.row 3 i64,.d i64,.d i64])],[]⟩
 | 28=>some ⟨[(95,false,[.d i64])],[],[(12,none,.row 3 i64)]⟩
 | _=>none
def MM:Nat->Option Hd
 | 1000019=>some ⟨[(9,false,[.d i64])],[],[(12,none,.row 3 i64)]⟩
 | 1000022=>some ⟨[(9,false,[.d i64])],[],[(12,none,.row 3 i64)]⟩
 | 1000026=>some ⟨[(13,false,[.d i64])],[],[(12,none,.row 3 i64)]⟩
 | _=>none
def LP:Nat->Option Hd
 | 3=>some ⟨[(5,false,[.d i64]),(13,false,[.d i64])],[],[]⟩
 | _=>none
def LY:Nat->Option Hd
 | 1000008=>some ⟨[(10,false,[.d .bool])],[(2,[.d Vq]),(3,[.d Vq])],[]⟩
 | _=>none
def NP:Nat->Option Hd
 | 2=>some ⟨[(29,false,[.d i64])],[],[(0,some 0,.x (.tab 29 .ref 3 i64))]⟩
 | 7=>some ⟨[(43,false,[.d i64])],[],[(0,some 0,.x (.tab 29 .ref 3 i64))]⟩
 | 17=>some ⟨[(98,false,[.d i64])],[],[(0,some 0,.x (.tab 29 .ref 3 i64))]⟩
 | 20=>some ⟨[(104,false,[.d i64])],[],[(0,some 0,.x (.tab 29 .ref 3 i64))]⟩
 | _=>none
def LQ:Nat->Option Hd
 | 3=>some ⟨[(5,false,[.d i64]),(14,false,[.d i64])],[],[]⟩
 | _=>none
def MZ:Nat->Option Hd
 | 1=>some ⟨[],[(0,[.x (.tab 29 .ref 3 i64),.d i64,.row 3 i64,.row 3 i64,.row 3 i64,.d i64,.d i64])],[]⟩
 | 3=>some ⟨[(3,false,[.d i64]),(4,false,[.d i64])],[],[]⟩
 | 12=>some ⟨[(44,false,[.d i64])],[(0,[.x (.tab 29 .ref 3 i64),.d i64,.row 3 i64,.row 3 i64,.row 3 i64,.d i64,.d i64])],[]⟩
 | 15=>some ⟨[(6,false,[.d i64])],[(0,[.x (.tab 29 .ref 3 i64),.d i64,.row 3 i64,.row 3 i64,.row 3 i64,.d i64,.d i64])],[]⟩
 | _=>none
def NW:Nat->Option Hd
 | 3=>some ⟨[(5,false,[.d i64]),(21,false,[.d i64])],[],[]⟩
 | _=>none
def Oo:Nat->Option Hd
 | 1=>some ⟨[],[(0,[.x (.tab 29 .ref 3 i64),.d i64,.row 3 i64,.row 3 i64,.row 3 i64,.d i64,.d i64])],[]⟩
 | 3=>some ⟨[(3,false,[.d i64]),(4,false,[.d i64])],[],[]⟩
 | _=>none
def O4:Nat->Option Hd
 | 14=>some ⟨[(6,false,[.d i64]),(43,false,[.d i64])],[],[(7,none,.row 3 i64)]⟩
 | 22=>some ⟨[(94,false,[.d i64])],[(5,[.d T38,.row 38 T38,.row 38 T38])],[]⟩
 | 27=>some ⟨[(110,false,[.d i64])],[(5,[.d T38,.row 38 T38,.row 38 T38])],[]⟩
 | 31=>some ⟨[(13,false,[.d i64]),(118,false,[.d i64])],[],[]⟩
 | _=>none
def Pz:Nat->Option Hd
 | 10=>some ⟨[(5,false,[.row 38 T38]),(20,false,[.d i64])],[],[]⟩
 | _=>none
def Kc:Nat->Option Hd
 | 3=>some ⟨[(15,false,[.d i64])],[(0,[.d UY]),(6,[.d T38]),(7,[.d T38])],[]⟩
 | _=>none
def Md:Nat->Option Hd
 | 1000007=>some ⟨[(11,false,[.d i64])],[(10,[.d T38])],[]⟩
 | _=>none
def Nx:Nat->Option Hd
 | 3=>some ⟨[(5,false,[.row 3 i64]),(11,false,[.d i64])],[],[]⟩
 | _=>none
def Ku:Nat->Option Hd
 | 3=>some ⟨[(9,false,[.d .bool]),(14,false,[.d i64])],[(0,[.d UY])],[]⟩
 | _=>none
def Mh:Nat->Option Hd
 | 3=>some ⟨[(3,false,[.row 3 i64]),(9,false,[.d i64])],[],[]⟩
 | _=>none
def K7:Nat->Option Hd
 | 2=>some ⟨[(10,false,[.d i64])],[],[]⟩
 | _=>none
def Qp:Nat->Option Hd
 | 6=>some ⟨[(7,false,[.d .bool]),(22,false,[.d i64])],[],[(6,some 0,.row 79 T79)]⟩
 | _=>none
def Qu:Nat->Option Hd
 | 2=>some ⟨[(8,false,[.d i64])],[],[]⟩
 | _=>none
def Nk:Nat->Option Hd
 | 7=>some ⟨[(18,false,[.d i64])],[],[]⟩
 | _=>none
def Oj:Nat->Option Hd
 | 6=>some ⟨[(7,false,[.row 38 T38]),(27,false,[.d i64])],[],[]⟩
 | _=>none
def N3:Nat->Option Hd
 | 1000014=>some ⟨[(12,false,[.d i64])],[(11,[.d T38])],[]⟩
 | _=>none
def Kx:Nat->Option Hd
 | 3=>some ⟨[(8,false,[.row 38 T38]),(21,false,[.d i64])],[],[]⟩
 | 7=>some ⟨[(29,false,[.d i64])],[(11,[.d T38])],[]⟩
 | _=>none
def Ls:Nat->Option Hd
 | 1000013=>some ⟨[(15,false,[.d i64]),(16,false,[.d i64])],[(14,[.d T38])],[]⟩
 | _=>none
def NV:Nat->Option Hd
 | 2=>some ⟨[(8,false,[.d i64])],[],[]⟩
 | _=>none
def Pj:Nat->Option Hd
 | 7=>some ⟨[(6,false,[.row 42 (.sl T38)]),(24,false,[.d i64])],[],[]⟩
 | 13=>some ⟨[(42,false,[.d i64])],[],[(8,none,.row 38 T38)]⟩
 | _=>none
def MJ:Nat->Option Hd
 | 5=>some ⟨[(7,false,[.row 42 (.sl T38)]),(24,false,[.d i64])],[],[]⟩
 | 17=>some ⟨[(12,false,[.x (.tab 29 .ref 3 i64)]),(52,false,[.d i64])],[],[]⟩
 | 22=>some ⟨[(14,false,[.row 3 i64]),(59,false,[.d i64])],[],[]⟩
 | _=>none
def K5:Nat->Option Hd
 | 3=>some ⟨[(13,false,[.d i64])],[(4,[.d T38]),(6,[.d T38])],[]⟩
 | _=>none
def NO:Nat->Option Hd
 | 12=>some ⟨[(10,false,[.d .bool]),(43,false,[.d i64])],[(4,[.d T38])],[]⟩
 | _=>none
def Lq:Nat->Option Hd
 | 16=>some ⟨[(13,false,[.row 38 T38]),(72,false,[.d i64])],[],[]⟩
 | 22=>some ⟨[(16,false,[.row 38 T38]),(17,false,[.row 38 T38]),(85,false,[.d i64])],[(4,[.d T38])],[]⟩
 | _=>none
def Oz:Nat->Option Hd
 | 6=>some ⟨[(24,false,[.d i64])],[(6,[.row 3 i64,.x (.tab 29 .ref 3 i64)])],[]⟩
 | 11=>some ⟨[(9,false,[.row 3 i64]),(33,false,[.d i64])],[],[]⟩
 | _=>none
def QN:Nat->Option Hd
 | 8=>some ⟨[(33,false,[.d i64])],[],[(6,none,.row 42 (.sl T38))]⟩
 | 11=>some ⟨[(39,false,[.d i64])],[],[(6,none,.row 42 (.sl T38))]⟩
 | _=>none
def OI:Nat->Option Hd
 | 1000015=>some ⟨[],[(9,[.d T38])],[]⟩
 | _=>none
def PE:Nat->Option Hd
 | 6=>some ⟨[(6,false,[.row 9 .str]),(20,false,[.d i64])],[],[]⟩
 | _=>none
def Ou:Nat->Option Hd
 | 4=>some ⟨[(17,false,[.d i64])],[],[]⟩
 | _=>none
def TD:Nat->Option Hd
 | 1000011=>some ⟨[(62,false,[.d .bool])],[],[]⟩
 | 1000012=>some ⟨[(62,false,[.d .bool])],[],[]⟩
 | 1000015=>some ⟨[],[],[]⟩
 | 1000026=>some ⟨[],[],[]⟩
 | _=>none
def gR:FuncId->Hint
 | 137=>{loop:=Mg,join:=KZ}
 | 113=>{loop:=M2,join:=LU}
 | 20=>{loop:=PY}
 | 68=>{loop:=PD}
 | 79=>{loop:=P8}
 | 131=>{loop:=MD}
 | 96=>{loop:=P9}
 | 175=>{loop:=Oe}
 | 105=>{loop:=NJ}
 | 225=>{loop:=L8}
 | 226=>{loop:=LI}
 | 267=>{join:=M9}
 | 220=>{loop:=L5,join:=M8}
 | 181=>{join:=Mr}
 | 110=>{loop:=K4}
 | 59=>{loop:=OG}
 | 57=>{loop:=OX}
 | 72=>{loop:=P0}
 | 196=>{loop:=Lx}
 | 58=>{loop:=Qj}
 | 85=>{loop:=PP}
 | 147=>{loop:=KP}
 | 207=>{loop:=KM}
 | 86=>{loop:=Qk}
 | 154=>{loop:=M0}
 | 87=>{loop:=QC}
 | 222=>{loop:=MG}
 | 208=>{loop:=N1}
 | 260=>{loop:=KF}
 | 263=>{loop:=MA,join:=NN}
 | 264=>{loop:=L2}
 | 265=>{loop:=Nb,join:=Lc}
 | 269=>{loop:=M6}
 | 261=>{loop:=Ng}
 | 262=>{loop:=L6,join:=K8}
 | 250=>{join:=Ms}
 | 251=>{loop:=Nl}
 | 266=>{loop:=MH}
 | 217=>{loop:=Ly}
 | 253=>{loop:=ME}
 | 245=>{loop:=Lu}
 | 247=>{loop:=LC,join:=Ol}
 | 209=>{loop:=Lm}
 | 210=>{loop:=Lv}
 | 157=>{loop:=Mu}
 | 213=>{loop:=Mb,join:=Nm}
 | 216=>{loop:=MX}
 | 158=>{loop:=MN,join:=MR}
 | 92=>{loop:=QS}
 | 62=>{loop:=Po}
 | 268=>{loop:=KY}
 | 144=>{join:=NC}
 | 77=>{loop:=QE}
 | 39=>{loop:=QB}
 | 6=>{loop:=Ru}
 | 146=>{loop:=Om}
 | 41=>{loop:=P6}
 | 88=>{loop:=Qf}
 | 7=>{loop:=SB}
 | 44=>{loop:=PF}
 | 9=>{loop:=S9}
 | 95=>{join:=QF}
 | 46=>{loop:=Px}
 | 221=>{loop:=Ny}
 | 100=>{loop:=Np}
 | 49=>{loop:=Ow}
 | 223=>{loop:=NZ}
 | 170=>{loop:=K3}
 | 102=>{loop:=MI}
 | 13=>{loop:=PG}
 | 103=>{loop:=LO}
 | 104=>{loop:=J1}
 | 3=>{loop:=To}
 | 15=>{loop:=Qm}
 | 112=>{loop:=Nh}
 | 229=>{loop:=L3}
 | 187=>{loop:=Lr}
 | 189=>{loop:=NX,join:=Mn}
 | 115=>{loop:=LM}
 | 116=>{loop:=KV,join:=MM}
 | 121=>{loop:=LP}
 | 231=>{join:=LY}
 | 190=>{loop:=NP}
 | 191=>{loop:=LQ}
 | 117=>{loop:=MZ}
 | 192=>{loop:=NW}
 | 118=>{loop:=Oo}
 | 61=>{loop:=O4}
 | 63=>{loop:=Pz}
 | 125=>{loop:=Kc,join:=Md}
 | 195=>{loop:=Nx}
 | 123=>{loop:=Ku}
 | 126=>{loop:=Mh}
 | 127=>{loop:=K7}
 | 65=>{loop:=Qp}
 | 69=>{loop:=Qu}
 | 197=>{loop:=Nk}
 | 198=>{loop:=Oj,join:=N3}
 | 199=>{loop:=Kx,join:=Ls}
 | 204=>{loop:=NV}
 | 73=>{loop:=Pj}
 | 200=>{loop:=MJ}
 | 202=>{loop:=K5}
 | 203=>{loop:=NO}
 | 135=>{loop:=Lq}
 | 74=>{loop:=Oz}
 | 34=>{loop:=QN,join:=OI}
 | 35=>{loop:=PE}
 | 36=>{loop:=Ou}
 | 4=>{join:=TD}
 | _=>{}
def YM (p : String) : Bool := p == "program.go:104" || p == "losses.go:27"
def ZP:TypeId->Option XP
 | 108=>some (.tab 29 .ref 3 i64)
 | 109=>some (.tab 29 .ref 3 i64)
 | _=>none
def zS:List Nat:=[174,266,255,268,259,243,206,223,171,229,185,186,116,190,117,118,123]
end Go.Proofs.YtlfdhaiigdllcaaGreat
