/- r15: the shapes of its types, and the places of its loops. r15: what its functions answer (printed by a program), and that they do. r15: what its functions answer (printed by a program), and that they do; part 2. -/
import Derived.Test.YtfknoaclabfdlaaGreatProg
import Derived.KernelRfl
import Derived.Test.YtfknoaclabfdlaaGreatMgL

namespace Go.Proofs.YtfknoaclabfdlaaGreat
open Tryz Dn Dn.Sh
abbrev i64:Sh:=.int .i64
abbrev T66:Sh:=.agg (.pair .str i64)
abbrev T49:Sh:=.agg (.pair i64 i64)
abbrev Oy:Sh:=.agg (.pair .str (.pair i64 T49))
abbrev T75:Sh:=.agg (.pair .str (.pair (.sl Oy) .bool))
abbrev T25:Sh:=.agg (.pair (.sl T66) (.sl T75))
abbrev T86:Sh:=.agg (.pair (.sl i64) (.pair i64 i64))
abbrev T32:Sh:=.agg (.pair (.sl i64) (.sl T86))
abbrev T96:Sh:=.agg (.pair T49 (.pair (.sl T49) (.sl T49)))
abbrev nk:Sh:=.agg (.pair (.int .u64) (.int .u64))
abbrev Qz:Sh:=.agg i64
abbrev iJ:Sh:=.agg (.pair (.int .u64) (.int .u64))
abbrev HR:Sh:=.agg (.pair (.sl (.sl i64)) (.pair i64 (.pair (.sl i64) (.pair (.sl i64) (.pair (.sl i64) (.pair i64 i64))))))
abbrev tP:Sh:=.agg (.pair .bool (.pair (.int .u64) (.int .u64)))
def shs:TypeId->Option Sh
 | 3=>some i64
 | 4=>some .bool
 | 5=>some (.int .u8)
 | 9=>some .str
 | 29=>some (.sl i64)
 | 49=>some T49
 | 66=>some T66
 | 75=>some T75
 | 86=>some T86
 | 134=>some Oy
 | _=>none
def Jo:Nat->Option Hd
 | 2=>some ⟨[(3,false,[.d i64])],[],[]⟩
 | _=>none
def HU:Nat->Option Hd
 | 2=>some ⟨[(8,false,[.d i64])],[],[]⟩
 | _=>none
def N0:Nat->Option Hd
 | 1=>some ⟨[(0,false,[.d (.int .u64)]),(1,false,[.d (.int .u64)])],[],[]⟩
 | _=>none
def KX:Nat->Option Hd
 | 5=>some ⟨[(17,false,[.d i64])],[],[]⟩
 | _=>none
def OM:Nat->Option Hd
 | 6=>some ⟨[(27,false,[.d i64])],[],[(3,some 0,.x (.map 158 .str .bool))]⟩
 | 13=>some ⟨[(7,false,[.d i64]),(46,false,[.d i64])],[],[(3,some 0,.x (.map 158 .str .bool))]⟩
 | _=>none
def OL:Nat->Option Hd
 | 5=>some ⟨[(20,false,[.d i64])],[],[(4,none,.x (.tab 29 .ref 3 i64))]⟩
 | 10=>some ⟨[(34,false,[.d i64])],[],[(4,none,.x (.tab 29 .ref 3 i64))]⟩
 | 13=>some ⟨[(42,false,[.d i64])],[],[(4,none,.x (.tab 29 .ref 3 i64))]⟩
 | _=>none
def OB:Nat->Option Hd
 | 5=>some ⟨[(4,false,[.row 3 i64]),(13,false,[.d i64])],[],[]⟩
 | _=>none
def MG:Nat->Option Hd
 | 9=>some ⟨[(34,false,[.d i64])],[(9,[.d (.sl i64),.row 86 T86])],[]⟩
 | _=>none
def Nq:Nat->Option Hd
 | 8=>some ⟨[(8,false,[.d i64])],[],[(7,none,.row 3 i64)]⟩
 | _=>none
def MO:Nat->Option Hd
 | 1000002=>some ⟨[],[],[]⟩
 | 1000005=>some ⟨[],[],[]⟩
 | _=>none
def Ln:Nat->Option Hd
 | 2=>some ⟨[(8,false,[.d i64])],[],[]⟩
 | _=>none
def Jq:Nat->Option Hd
 | 2=>some ⟨[(8,false,[.d i64])],[],[]⟩
 | _=>none
def Nh:Nat->Option Hd
 | 2=>some ⟨[(8,false,[.d i64])],[],[]⟩
 | _=>none
def Kn:Nat->Option Hd
 | 1000002=>some ⟨[(0,false,[.d (.int .u64)]),(2,false,[.d i64])],[],[]⟩
 | 1000005=>some ⟨[(0,false,[.d (.int .u64)]),(2,false,[.d i64])],[],[]⟩
 | _=>none
def JZ:Nat->Option Hd
 | 17=>some ⟨[(15,false,[.d (.int .u64)]),(16,false,[.d (.int .u64)])],[],[]⟩
 | 24=>some ⟨[(16,false,[.d (.int .u64)]),(18,false,[.d (.int .u64)])],[],[]⟩
 | _=>none
def H5:Nat->Option Hd
 | 0=>some ⟨[(15,false,[.d (.int .u64)])],[],[]⟩
 | 2=>some ⟨[(18,false,[.d (.int .u64)])],[],[]⟩
 | 1000002=>some ⟨[],[],[]⟩
 | 1000004=>some ⟨[],[],[]⟩
 | _=>none
def NZ:Nat->Option Hd
 | 1000008=>some ⟨[(9,false,[.d .bool])],[(10,[.d nk])],[]⟩
 | 1000010=>some ⟨[(9,false,[.d .bool])],[(10,[.d nk])],[]⟩
 | _=>none
def ML:Nat->Option Hd
 | 3=>some ⟨[(15,false,[.d i64])],[(0,[.d Qz]),(6,[.d T49]),(7,[.d T49])],[]⟩
 | _=>none
def Ng:Nat->Option Hd
 | 1000007=>some ⟨[(11,false,[.d i64])],[(10,[.d T49])],[]⟩
 | _=>none
def MN:Nat->Option Hd
 | 1000009=>some ⟨[],[(6,[.d nk]),(7,[.d nk])],[]⟩
 | _=>none
def HW:Nat->Option Hd
 | 3=>some ⟨[(5,false,[.row 3 i64]),(11,false,[.d i64])],[],[]⟩
 | _=>none
def O2:Nat->Option Hd
 | 3=>some ⟨[(9,false,[.d .bool]),(14,false,[.d i64])],[(0,[.d Qz])],[]⟩
 | _=>none
def MY:Nat->Option Hd
 | 3=>some ⟨[(3,false,[.row 3 i64]),(9,false,[.d i64])],[],[]⟩
 | _=>none
def O9:Nat->Option Hd
 | 2=>some ⟨[(10,false,[.d i64])],[],[]⟩
 | _=>none
def Lx:Nat->Option Hd
 | 3=>some ⟨[(5,false,[.d i64]),(14,false,[.d i64])],[],[]⟩
 | _=>none
def HV:Nat->Option Hd
 | 5=>some ⟨[(3,false,[.d i64]),(4,false,[.d i64])],[],[]⟩
 | _=>none
def Ms:Nat->Option Hd
 | 1000002=>some ⟨[],[],[]⟩
 | _=>none
def Iw:Nat->Option Hd
 | 4=>some ⟨[(4,false,[.row 3 i64]),(18,false,[.d i64])],[],[]⟩
 | 10=>some ⟨[(7,false,[.d i64]),(34,false,[.d i64])],[],[]⟩
 | _=>none
def Jg:Nat->Option Hd
 | 4=>some ⟨[(5,false,[.d i64]),(24,false,[.d i64])],[],[]⟩
 | 12=>some ⟨[(9,false,[.d i64]),(51,false,[.d i64])],[(46,[.x (.tab 29 .ref 3 i64),.d i64,.row 3 i64,.row 3 i64,.row 3 i64,.d i64,.d i64])],[]⟩
 | 28=>some ⟨[(95,false,[.d i64])],[],[(12,none,.row 3 i64)]⟩
 | _=>none
def Kt:Nat->Option Hd
 | 1000019=>some ⟨[(9,false,[.d i64])],[],[(12,none,.row 3 i64)]⟩
 | 1000022=>some ⟨[(9,false,[.d i64])],[],[(12,none,.row 3 i64)]⟩
 | 1000026=>some ⟨[(13,false,[.d i64])],[],[(12,none,.row 3 i64)]⟩
 | _=>none
def KR:Nat->Option Hd
 | 3=>some ⟨[(5,false,[.d i64]),(13,false,[.d i64])],[],[]⟩
 | _=>none
def Mq:Nat->Option Hd
 | 1000008=>some ⟨[(10,false,[.d .bool])],[(2,[.d tP]),(3,[.d tP])],[]⟩
 | _=>none
def Kz:Nat->Option Hd
 | 2=>some ⟨[(29,false,[.d i64])],[],[(0,some 0,.x (.tab 29 .ref 3 i64))]⟩
 | 7=>some ⟨[(43,false,[.d i64])],[],[(0,some 0,.x (.tab 29 .ref 3 i64))]⟩
 | 17=>some ⟨[(98,false,[.d i64])],[],[(0,some 0,.x (.tab 29 .ref 3 i64))]⟩
 | 20=>some ⟨[(104,false,[.d i64])],[],[(0,some 0,.x (.tab 29 .ref 3 i64))]⟩
 | _=>none
def L5:Nat->Option Hd
 | 3=>some ⟨[(5,false,[.d i64]),(14,false,[.d i64])],[],[]⟩
 | _=>none
def L8:Nat->Option Hd
 | 1=>some ⟨[],[(0,[.x (.tab 29 .ref 3 i64),.d i64,.row 3 i64,.row 3 i64,.row 3 i64,.d i64,.d i64])],[]⟩
 | 3=>some ⟨[(3,false,[.d i64]),(4,false,[.d i64])],[],[]⟩
 | 12=>some ⟨[(44,false,[.d i64])],[(0,[.x (.tab 29 .ref 3 i64),.d i64,.row 3 i64,.row 3 i64,.row 3 i64,.d i64,.d i64])],[]⟩
 | 15=>some ⟨[(6,false,[.d i64])],[(0,[.x (.tab 29 .ref 3 i64),.d i64,.row 3 i64,.row 3 i64,.row 3 i64,.d i64,.d i64])],[]⟩
 | _=>none
def KC:Nat->Option Hd
 | 3=>some ⟨[(5,false,[.d i64]),(21,false,[.d i64])],[],[]⟩
 | _=>none
def Ka:Nat->Option Hd
 | 1=>some ⟨[],[(0,[.x (.tab 29 .ref 3 i64),.d i64,.row 3 i64,.row 3 i64,.row 3 i64,.d i64,.d i64])],[]⟩
 | 3=>some ⟨[(3,false,[.d i64]),(4,false,[.d i64])],[],[]⟩
 | _=>none
def M1:Nat->Option Hd
 | 14=>some ⟨[(6,false,[.d i64]),(43,false,[.d i64])],[],[(7,none,.row 3 i64)]⟩
 | 22=>some ⟨[(94,false,[.d i64])],[(5,[.d T49,.row 49 T49,.row 49 T49])],[]⟩
 | 27=>some ⟨[(110,false,[.d i64])],[(5,[.d T49,.row 49 T49,.row 49 T49])],[]⟩
 | 31=>some ⟨[(13,false,[.d i64]),(118,false,[.d i64])],[],[]⟩
 | _=>none
def Ow:Nat->Option Hd
 | 2=>some ⟨[(8,false,[.d i64])],[],[]⟩
 | _=>none
def Nc:Nat->Option Hd
 | 5=>some ⟨[(4,false,[.row 9 .str]),(16,false,[.d i64])],[],[]⟩
 | _=>none
def MU:Nat->Option Hd
 | 3=>some ⟨[(11,false,[.d i64])],[(3,[.d (.sl T66),.row 75 T75])],[]⟩
 | _=>none
def MB:Nat->Option Hd
 | 4=>some ⟨[(3,false,[.d i64])],[],[]⟩
 | 9=>some ⟨[(4,false,[.d i64])],[],[]⟩
 | 14=>some ⟨[(5,false,[.d i64])],[],[]⟩
 | _=>none
def M7:Nat->Option Hd
 | 2=>some ⟨[(5,false,[.d i64])],[],[]⟩
 | _=>none
def M0:Nat->Option Hd
 | 1=>some ⟨[(1,false,[.d i64])],[],[]⟩
 | _=>none
def ME:Nat->Option Hd
 | 2=>some ⟨[(5,false,[.d i64])],[],[]⟩
 | _=>none
def Lh:Nat->Option Hd
 | 4=>some ⟨[(5,false,[.d i64])],[(2,[.d iJ]),(3,[.d iJ])],[]⟩
 | 6=>some ⟨[],[(2,[.d iJ]),(3,[.d iJ])],[]⟩
 | 7=>some ⟨[],[(2,[.d iJ])],[]⟩
 | 9=>some ⟨[],[(3,[.d iJ])],[]⟩
 | 14=>some ⟨[(5,false,[.d i64])],[(3,[.d iJ])],[]⟩
 | _=>none
def MP:Nat->Option Hd
 | 4=>some ⟨[(5,false,[.d i64])],[],[]⟩
 | _=>none
def NJ:Nat->Option Hd
 | 4=>some ⟨[(3,false,[.d i64])],[],[]⟩
 | 11=>some ⟨[(5,false,[.d i64]),(6,false,[.d i64])],[],[]⟩
 | _=>none
def O1:Nat->Option Hd
 | 4=>some ⟨[(5,false,[.d i64])],[],[]⟩
 | 9=>some ⟨[(6,false,[.d i64])],[],[]⟩
 | 15=>some ⟨[(9,false,[.d i64])],[],[]⟩
 | _=>none
def K7:Nat->Option Hd
 | 3=>some ⟨[(5,false,[.d i64]),(6,false,[.d i64])],[],[]⟩
 | _=>none
def Nv:Nat->Option Hd
 | 3=>some ⟨[(3,false,[.x (.tab 29 .ref 3 i64)]),(4,false,[.d i64])],[],[]⟩
 | 7=>some ⟨[(5,false,[.row 3 i64]),(6,false,[.d i64])],[],[]⟩
 | _=>none
def MH:Nat->Option Hd
 | 4=>some ⟨[(7,false,[.d i64])],[(5,[.d (.sl i64),.row 86 T86])],[]⟩
 | _=>none
def Pb:Nat->Option Hd
 | 3=>some ⟨[(3,false,[.row 3 i64]),(4,false,[.d i64])],[],[]⟩
 | _=>none
def Nm:Nat->Option Hd
 | 2=>some ⟨[(3,false,[.d i64])],[],[]⟩
 | _=>none
def KS:Nat->Option Hd
 | 5=>some ⟨[(8,false,[.d i64])],[(2,[.d iJ]),(6,[.d iJ]),(7,[.d iJ])],[]⟩
 | _=>none
def M3:Nat->Option Hd
 | 3=>some ⟨[(7,false,[.d i64])],[(4,[.d T49]),(6,[.d T49])],[]⟩
 | _=>none
def Iv:Nat->Option Hd
 | 3=>some ⟨[(5,false,[.row 3 i64]),(6,false,[.d i64])],[],[]⟩
 | _=>none
def O8:Nat->Option Hd
 | 3=>some ⟨[(8,false,[.d .bool]),(9,false,[.d i64])],[],[]⟩
 | _=>none
def Nt:Nat->Option Hd
 | 3=>some ⟨[(3,false,[.row 3 i64]),(4,false,[.d i64])],[],[]⟩
 | _=>none
def OT:Nat->Option Hd
 | 2=>some ⟨[(5,false,[.d i64])],[],[]⟩
 | _=>none
def H2:Nat->Option Hd
 | 3=>some ⟨[(3,false,[.d i64]),(4,false,[.d i64])],[],[]⟩
 | 8=>some ⟨[(5,false,[.row 3 i64]),(6,false,[.d i64])],[],[]⟩
 | 12=>some ⟨[(7,false,[.d i64]),(8,false,[.d i64])],[],[]⟩
 | _=>none
def IW:Nat->Option Hd
 | 3=>some ⟨[(6,false,[.d i64]),(7,false,[.d i64])],[],[]⟩
 | _=>none
def NS:Nat->Option Hd
 | 5=>some ⟨[(6,false,[.d i64]),(7,false,[.d i64])],[],[]⟩
 | _=>none
def Ih:Nat->Option Hd
 | 3=>some ⟨[(8,false,[.d i64])],[],[(3,some 0,.x (.tab 29 .ref 3 i64))]⟩
 | 8=>some ⟨[(10,false,[.d i64])],[],[(3,some 0,.x (.tab 29 .ref 3 i64))]⟩
 | _=>none
def Og:Nat->Option Hd
 | 2=>some ⟨[],[(1,[.x (.tab 29 .ref 3 i64),.row 3 i64,.d i64,.d i64]),(2,[.x (.tab 29 .ref 3 i64),.row 3 i64,.d i64,.d i64])],[]⟩
 | 3=>some ⟨[(5,false,[.d i64])],[],[]⟩
 | 9=>some ⟨[(6,false,[.d i64]),(8,false,[.d i64])],[],[]⟩
 | _=>none
def Nn:Nat->Option Hd
 | 1=>some ⟨[(4,false,[.d i64])],[],[(0,none,.row 3 i64)]⟩
 | _=>none
def MI:Nat->Option Hd
 | 5=>some ⟨[(7,false,[.d i64])],[(5,[.x (.tab 29 .ref 3 i64),.row 3 i64,.d i64,.d i64])],[(6,none,.row 3 i64)]⟩
 | 16=>some ⟨[(9,false,[.d i64])],[],[(8,none,.row 3 i64)]⟩
 | 20=>some ⟨[(10,false,[.d i64])],[],[(6,none,.row 3 i64)]⟩
 | _=>none
def OO:Nat->Option Hd
 | 1000010=>some ⟨[],[],[(8,none,.row 3 i64)]⟩
 | 1000012=>some ⟨[],[],[(8,none,.row 3 i64)]⟩
 | 1000015=>some ⟨[],[],[(8,none,.row 3 i64)]⟩
 | _=>none
def Ns:Nat->Option Hd
 | 2=>some ⟨[(3,false,[.d i64])],[(1,[.x (.tab 29 .ref 3 i64),.row 3 i64,.d i64,.d i64])],[]⟩
 | 6=>some ⟨[(4,false,[.d i64])],[],[]⟩
 | 11=>some ⟨[(5,false,[.d i64])],[],[(1,some 0,.x (.tab 29 .ref 3 i64))]⟩
 | _=>none
def Oh:Nat->Option Hd
 | 9=>some ⟨[(9,false,[.d i64])],[],[(4,some 0,.x (.tab 29 .ref 3 i64))]⟩
 | 13=>some ⟨[(10,false,[.d i64]),(11,false,[.d i64])],[],[]⟩
 | _=>none
def M5:Nat->Option Hd
 | 7=>some ⟨[(20,false,[.d i64])],[(2,[.d T49]),(4,[.d T49])],[]⟩
 | _=>none
def NX:Nat->Option Hd
 | 3=>some ⟨[(4,false,[.row 9 .str]),(5,false,[.d i64])],[],[]⟩
 | _=>none
def Na:Nat->Option Hd
 | 4=>some ⟨[(13,false,[.d i64])],[],[]⟩
 | _=>none
def QS:Nat->Option Hd
 | 1000023=>some ⟨[],[],[]⟩
 | _=>none
def NB:Nat->Option Hd
 | 3=>some ⟨[(4,false,[.d i64])],[(3,[.row 66 T66,.row 75 T75])],[]⟩
 | _=>none
def Ra:Nat->Option Hd
 | 7=>some ⟨[(39,false,[.d i64])],[],[]⟩
 | _=>none
def P9:Nat->Option Hd
 | 1000014=>some ⟨[],[],[]⟩
 | _=>none
def Ou:Nat->Option Hd
 | 10=>some ⟨[(5,false,[.row 49 T49]),(20,false,[.d i64])],[],[]⟩
 | _=>none
def Nf:Nat->Option Hd
 | 7=>some ⟨[(8,false,[.row 49 T49]),(9,false,[.d i64]),(25,false,[.d i64])],[],[]⟩
 | 11=>some ⟨[(31,false,[.d i64])],[(11,[.d T49])],[]⟩
 | _=>none
def Nz:Nat->Option Hd
 | 2=>some ⟨[(3,false,[.d i64])],[],[]⟩
 | _=>none
def Nk:Nat->Option Hd
 | 2=>some ⟨[(8,false,[.d i64])],[],[]⟩
 | _=>none
def Rn:Nat->Option Hd
 | 25=>some ⟨[(123,false,[.d i64])],[],[]⟩
 | _=>none
def Qt:Nat->Option Hd
 | 1000020=>some ⟨[],[],[]⟩
 | _=>none
def Lv:Nat->Option Hd
 | 2=>some ⟨[(8,false,[.d i64])],[],[]⟩
 | _=>none
def Lw:Nat->Option Hd
 | 1000007=>some ⟨[(12,false,[.d (.int .u64)]),(13,false,[.d (.int .u64)]),(18,false,[.d .bool])],[],[]⟩
 | 1000008=>some ⟨[(12,false,[.d (.int .u64)]),(13,false,[.d (.int .u64)]),(14,false,[.d (.int .u64)]),(15,false,[.d (.int .u64)]),(18,false,[.d .bool])],[],[]⟩
 | _=>none
def Je:Nat->Option Hd
 | 3=>some ⟨[(20,false,[.d i64])],[(5,[.x (.tab 29 .ref 3 i64),.d i64,.row 3 i64,.row 3 i64,.d .bool])],[]⟩
 | 9=>some ⟨[(40,false,[.d i64])],[(5,[.x (.tab 29 .ref 3 i64),.d i64,.row 3 i64,.row 3 i64,.d .bool])],[]⟩
 | 14=>some ⟨[(10,false,[.d i64]),(11,false,[.d i64])],[],[]⟩
 | 19=>some ⟨[(10,false,[.d i64])],[(5,[.x (.tab 29 .ref 3 i64),.d i64,.row 3 i64,.row 3 i64,.d .bool])],[]⟩
 | 26=>some ⟨[(130,false,[.d i64])],[],[(5,some 0,.x (.tab 29 .ref 3 i64))]⟩
 | 31=>some ⟨[(144,false,[.d i64])],[],[(5,some 0,.x (.tab 29 .ref 3 i64))]⟩
 | _=>none
def OQ:Nat->Option Hd
 | 10=>some ⟨[(7,false,[.x (.tab 29 .ref 3 i64)]),(37,false,[.d i64])],[],[]⟩
 | 16=>some ⟨[(64,false,[.d i64])],[],[]⟩
 | 25=>some ⟨[(13,false,[.row 49 T49]),(80,false,[.d i64])],[],[]⟩
 | _=>none
def Oz:Nat->Option Hd
 | 4=>some ⟨[(13,false,[.d i64])],[],[]⟩
 | _=>none
def Qf:Nat->Option Hd
 | 16=>some ⟨[(9,false,[.row 9 .str]),(59,false,[.d i64])],[],[]⟩
 | _=>none
def Qy:Nat->Option Hd
 | 1000019=>some ⟨[(9,false,[.row 9 .str])],[],[]⟩
 | _=>none
def ak:FuncId->Hint
 | 161=>{loop:=Jo}
 | 167=>{loop:=HU}
 | 75=>{loop:=N0}
 | 117=>{loop:=KX}
 | 59=>{loop:=OM}
 | 87=>{loop:=OL}
 | 88=>{loop:=OB}
 | 45=>{loop:=MG}
 | 46=>{loop:=Nq,join:=MO}
 | 173=>{loop:=Ln}
 | 174=>{loop:=Jq}
 | 74=>{loop:=Nh}
 | 181=>{join:=Kn}
 | 125=>{loop:=JZ,join:=H5}
 | 35=>{join:=NZ}
 | 95=>{loop:=ML,join:=Ng}
 | 39=>{join:=MN}
 | 145=>{loop:=HW}
 | 93=>{loop:=O2}
 | 96=>{loop:=MY}
 | 97=>{loop:=O9}
 | 154=>{loop:=Lx}
 | 156=>{loop:=HV,join:=Ms}
 | 108=>{loop:=Iw}
 | 109=>{loop:=Jg,join:=Kt}
 | 126=>{loop:=KR}
 | 176=>{join:=Mq}
 | 157=>{loop:=Kz}
 | 158=>{loop:=L5}
 | 110=>{loop:=L8}
 | 159=>{loop:=KC}
 | 111=>{loop:=Ka}
 | 58=>{loop:=M1}
 | 60=>{loop:=Ow}
 | 21=>{loop:=Nc}
 | 43=>{loop:=MU}
 | 44=>{loop:=MB}
 | 22=>{loop:=M7}
 | 99=>{loop:=M0}
 | 49=>{loop:=ME}
 | 102=>{loop:=Lh}
 | 50=>{loop:=MP}
 | 13=>{loop:=NJ}
 | 14=>{loop:=O1}
 | 101=>{loop:=K7}
 | 51=>{loop:=Nv}
 | 15=>{loop:=MH}
 | 16=>{loop:=Pb}
 | 17=>{loop:=Nm}
 | 164=>{loop:=KS}
 | 54=>{loop:=M3}
 | 104=>{loop:=Iv}
 | 53=>{loop:=O8}
 | 55=>{loop:=Nt}
 | 57=>{loop:=OT}
 | 118=>{loop:=H2}
 | 119=>{loop:=IW}
 | 63=>{loop:=NS}
 | 120=>{loop:=Ih}
 | 66=>{loop:=Og}
 | 69=>{loop:=Nn}
 | 67=>{loop:=MI,join:=OO}
 | 68=>{loop:=Ns}
 | 26=>{loop:=Oh}
 | 27=>{loop:=M5}
 | 28=>{loop:=NX}
 | 29=>{loop:=Na}
 | 4=>{join:=QS}
 | 31=>{loop:=NB}
 | 5=>{loop:=Ra,join:=P9}
 | 83=>{loop:=Ou}
 | 84=>{loop:=Nf}
 | 38=>{loop:=Nz}
 | 86=>{loop:=Nk}
 | 7=>{loop:=Rn,join:=Qt}
 | 182=>{loop:=Lv}
 | 172=>{join:=Lw}
 | 135=>{loop:=Je}
 | 89=>{loop:=OQ}
 | 42=>{loop:=Oz}
 | 8=>{loop:=Qf,join:=Qy}
 | _=>{}
def En (p : String) : Bool := p == "program.go:104" || p == "ref.go:45"
def DT:TypeId->Option XP
 | 87=>some (.tab 29 .ref 3 i64)
 | 88=>some (.tab 29 .ref 3 i64)
 | _=>none
def xX:List Nat:=[115,174,141,142,93,109,157,110,111,120,66,69,67,68]
def its:List (Nat×ICtr):=[]
theorem To:IR prog its:=Gj
end Go.Proofs.YtfknoaclabfdlaaGreat

namespace Go.Proofs.YtfknoaclabfdlaaGreat
noncomputable section
open Tryz Dn Dn.Sh
set_option maxRecDepth 100000
theorem aJ:prog.follows .mixedOrders=true:=by kernel_rfl
theorem P5:BE prog xX=true:=by kernel_rfl
theorem q0:(lu prog shs xX its [] []).ok:=Hr P5 To
abbrev cx (l) (r):=BB DT En (lu prog shs xX its l r)
def js (_:Lp) (_:Jn) (x0:List Int):Option (List Int) :=
 bif eh (0+List.length x0) 8 then some x0 else none
def cf (x0:List Int):Option (List Int):=js lpK jnK x0
abbrev MJ:=(List Int)->Option (List Int)
def SK (cf:MJ):RCtr:=⟨[(.sl i64)],3,i64,fun x=>cf x.1⟩
def a7:RCtr:=SK cf
theorem TZ (lp:Lp) (jn:Jn):∀x:TsS a7.as,js lp jn x.1=HO lp jn (cx [] []) ak 4 134 f134 a7.t a7.e (BA a7.as x true):=fun x=>by kernel_rfl
theorem Qa:a7.ok prog 134:=RCtr.of_den_nil (c:=a7) (an (q0)) aJ (hl:=ak) (d:=4) rfl func134 rfl (by decide) (TZ lpK jnK) fun x h=>by
 obtain ⟨l,u⟩:=x
 simp only at h
 subst h
 kernel_rfl
theorem ba:(lu prog shs xX its [] [(134,a7)]).ok:=GQ q0 (by kernel_rfl) Qa
def ki (_:Lp) (_:Jn) (x0:Int) (x1:Int) (x2:Int):Option Bool :=
 
 let v5:Bool:=decide (x0>=x1);
 let v6:Bool:=!v5||v5;bif v6&&v6 then bif v6 then some (bif v5 then decide (x0<=x2) else false) else none else none
def bu (x0:Int) (x1:Int) (x2:Int):Option Bool:=ki lpK jnK x0 x1 x2
abbrev H6:=(Int)->(Int)->(Int)->Option (Bool)
def Q3 (bu:H6):Ctr:=⟨[i64,i64,i64],[],[],.one .bool,fun x _ _=>bu x.1 x.2.1 x.2.2.1⟩
def Io:Ctr:=Q3 bu
theorem Ve (lp:Lp) (jn:Jn):∀(x:TsS Io.as) (F:TsF Io.fs) (y:TsS Io.cs),ki lp jn x.1 x.2.1 x.2.2.1=bv lp jn (cx [] [(134,a7)]) ak 4 114 f114 Io x F y:=fun x F y=>by kernel_rfl
theorem PE:Io.ok prog 114:=Ctr.of_den (an (ba)) aJ (hl:=ak) (d:=4) func114 rfl (by decide) (Ve lpK jnK)
def kc (_:Lp) (_:Jn) (x0:Int):Option Bool :=
 
 let v3:Bool:=decide (x0>=97);
 let v4:Bool:=decide (x0>=65);
 let v5:Bool:=!v3||v3;
 let v6:Bool:=bif v3 then decide (x0<=122) else false;
 let v7:Bool:=!v6;
 let v8:Bool:=!v7;
 let v9:Bool:=v7&&v4;
 let v10:Bool:=v8||v7;bif v5 then bif v5 then bif v10 then bif v10 then bif !v9||v9 then bif (v8||v10)&&(v8||(!v4||(v8||v9))) then bif v6||v7 then some (bif v6 then true else bif v4 then decide (x0<=90) else false) else none else none else none else none else none else none else none
def bw (x0:Int):Option Bool:=kc lpK jnK x0
abbrev Ib:=(Int)->Option (Bool)
def Qi (bw:Ib):Ctr:=⟨[(.int .u8)],[],[],.one .bool,fun x _ _=>bw x.1⟩
def K3:Ctr:=Qi bw
theorem Vz (lp:Lp) (jn:Jn):∀(x:TsS K3.as) (F:TsF K3.fs) (y:TsS K3.cs),kc lp jn x.1=bv lp jn (cx [] [(134,a7)]) ak 4 160 f160 K3 x F y:=fun x F y=>by kernel_rfl
theorem Pu:K3.ok prog 160:=Ctr.of_den (an (ba)) aJ (hl:=ak) (d:=4) func160 rfl (by decide) (Vz lpK jnK)
def lc (_:Lp) (_:Jn) (x0:Int):Option Bool :=
 
 let v3:Bool:=decide (x0>=48);
 let v4:Bool:=!v3||v3;bif v4 then bif v4 then some (bif v3 then decide (x0<=57) else false) else none else none
def dR (x0:Int):Option Bool:=lc lpK jnK x0
abbrev Tt:=(Int)->Option (Bool)
def J6:Ctr:=⟨[(.int .u8)],[],[],.one .bool,fun x _ _=>dR x.1⟩
theorem Vb (lp:Lp) (jn:Jn):∀(x:TsS J6.as) (F:TsF J6.fs) (y:TsS J6.cs),lc lp jn x.1=bv lp jn (cx [] [(134,a7)]) ak 4 179 f179 J6 x F y:=fun x F y=>by kernel_rfl
theorem TE:J6.ok prog 179:=Ctr.of_den (an (ba)) aJ (hl:=ak) (d:=4) func179 rfl (by decide) (Vb lpK jnK)
def jL (lp:Lp) (_:Jn) (bw:Ib) (dR:Tt) (x0:ByteArray):Option Int :=
 lp (Int×PUnit) Int (fun (again:Int×PUnit->Option Int) (x:Int×PUnit) =>
 let v5:Bool:=inB x.1 (ByteArray.size x0);
 let v6:Int:=fA x0 x.1.toNat;
 let v7:Bool:=decide (x.1<(↑(ByteArray.size x0):Int));
 let v8:Bool:=!v7;
 let v9:Bool:=v8||v7;
 let v10:Bool:=v8||v9;bif v9&&(v9&&(v8||v5)) then bif v9 then ah (bif v7 then bw v6 else some false) fun (t:Bool) =>
 let v12:Bool:=v7&&!t;
 let v13:Bool:=!v12;
 let v14:Bool:=v13||v12;bif v9 then bif v14&&(v14&&(v13||v5)) then bif v14 then ah (bif v12 then dR v6 else some false) fun (t_1:Bool) =>
 let v16:Bool:=bif t then true else t_1;
 let v17:Bool:=v7&&!v16;
 let v18:Bool:=!v17;
 let v19:Bool:=v18||v17;bif v10&&(v8||(t||(v8||v12))) then bif v9 then bif v19&&(v19&&(v18||v5)) then bif v19 then bif v10&&(v8||(v16||(v8||v17))) then bif v9 then bif bif v7 then bif v16 then true else decide (v6=95) else false then again (IntKind.wrap .i64 (x.1+1),PUnit.unit) else some x.1 else none else none else none else none else none else none else none else none else none else none else none) (0,PUnit.unit)
def dH (x0:ByteArray):Option Int:=jL lpK jnK bw dR x0
abbrev R3:=(ByteArray)->Option (Int)
def Kd:Ctr:=⟨[.str],[],[],.one i64,fun x _ _=>dH x.1⟩
theorem Uy (lp:Lp) (jn:Jn) (bw:Ib) (dR:Tt):∀(x:TsS Kd.as) (F:TsF Kd.fs) (y:TsS Kd.cs),jL lp jn bw dR x.1=bv lp jn (cx [(179,⟨[(.int .u8)],[],[],.one .bool,fun x _ _=>dR x.1⟩),(160,Qi bw)] [(134,a7)]) ak 4 161 f161 Kd x F y:=fun x F y=>by kernel_rfl
theorem RN:Kd.ok prog 161:=Ctr.of_den (an (aa (aa (ba) (by kernel_rfl) Pu) (by kernel_rfl) TE)) aJ (hl:=ak) (d:=4) func161 rfl (by decide) (Uy lpK jnK bw dR)
def kl (_:Lp) (_:Jn) (bw:Ib) (dH:R3) (x0:ByteArray):Option Bool :=
 
 let v3:Bool:=!List.beq (ByteArray.toList x0) (ByteArray.toList { data:=#[] });
 let v4:Bool:=!v3||v3;
 let v5:Bool:=bif v3 then decide ((↑(ByteArray.size x0):Int)<=20) else false;
 let v6:Bool:=!v5;
 let v7:Bool:=v6||v5;bif v4 then bif v4 then bif v4 then bif v7&&(v6||inB 0 (ByteArray.size x0)) then bif v7 then ah (bif v5 then bw (fA x0 0) else some false) fun (t:Bool) =>
 let v9:Bool:=bif v5 then t else false;
 let v10:Bool:=!v9||v9;bif v7 then bif v10 then ah (bif v9 then dH x0 else some 0) fun (t:Int)=>bif v10 then bif v10&&v10 then bif v10 then some (bif v9 then decide (t=(↑(ByteArray.size x0):Int)) else false) else none else none else none else none else none else none else none else none else none else none
def du (x0:ByteArray):Option Bool:=kl lpK jnK bw dH x0
abbrev SD:=(ByteArray)->Option (Bool)
def JF:Ctr:=⟨[.str],[],[],.one .bool,fun x _ _=>du x.1⟩
theorem Ul (lp:Lp) (jn:Jn) (bw:Ib) (dH:R3):∀(x:TsS JF.as) (F:TsF JF.fs) (y:TsS JF.cs),kl lp jn bw dH x.1=bv lp jn (cx [(161,⟨[.str],[],[],.one i64,fun x _ _=>dH x.1⟩),(160,Qi bw)] [(134,a7)]) ak 4 116 f116 JF x F y:=fun x F y=>by kernel_rfl
theorem TG:JF.ok prog 116:=Ctr.of_den (an (aa (aa (ba) (by kernel_rfl) Pu) (by kernel_rfl) RN)) aJ (hl:=ak) (d:=4) func116 rfl (by decide) (Ul lpK jnK bw dH)
def ic (lp:Lp) (_:Jn) (x0:List (ByteArray×Int)) (f0:(((ByteArray×Int)×Unit)->Option Bool)):Option Int :=
 lp (Int×PUnit) Int (fun (again:Int×PUnit->Option Int) (x:Int×PUnit)=>bif decide (x.1<(↑x0.length:Int)) then bif inB x.1 x0.length then ah (f0 (x0.getD x.1.toNat ({ data:={ toList:=[] } },0),PUnit.unit)) fun (t:Bool)=>bif t then some x.1 else again (IntKind.wrap .i64 (x.1+1), PUnit.unit) else none else some (-1)) (0,PUnit.unit)
def ca (x0:List (ByteArray×Int)) (f0:(((ByteArray×Int)×Unit)->Option Bool)):Option Int:=ic lpK jnK x0 f0
abbrev QF:=(List (ByteArray×Int))->((((ByteArray×Int)×Unit)->Option Bool))->Option (Int)
def TR (ca:QF):Ctr:=⟨[(.sl T66)],[([T66],.bool)],[],.one i64,fun x F _=>ca x.1 F.1⟩
def KT:Ctr:=TR ca
theorem Ud (lp:Lp) (jn:Jn):∀(x:TsS KT.as) (F:TsF KT.fs) (y:TsS KT.cs),ic lp jn x.1 F.1=bv lp jn (cx [] [(134,a7)]) ak 4 167 f167 KT x F y:=fun x F y=>by kernel_rfl
theorem Tx:KT.ok prog 167:=Ctr.of_den (an (ba)) aJ (hl:=ak) (d:=4) func167 rfl (by decide) (Ud lpK jnK)
def ke (_:Lp) (_:Jn) (x0:ByteArray×Int) (y0:ByteArray):Option Bool :=
 some (List.beq (ByteArray.toList x0.1) (ByteArray.toList y0))
def eF (x0:ByteArray×Int) (y0:ByteArray):Option Bool:=ke lpK jnK x0 y0
abbrev SP:=(ByteArray×Int)->(ByteArray)->Option (Bool)
def H3:Ctr:=⟨[T66],[],[.str],.one .bool,fun x _ y=>eF x.1 y.1⟩
theorem U8 (lp:Lp) (jn:Jn):∀(x:TsS H3.as) (F:TsF H3.fs) (y:TsS H3.cs),ke lp jn x.1 y.1=bv lp jn (cx [] [(134,a7)]) ak 4 168 f168 H3 x F y:=fun x F y=>by kernel_rfl
theorem SC:H3.ok prog 168:=Ctr.of_den (an (ba)) aJ (hl:=ak) (d:=4) func168 rfl (by decide) (U8 lpK jnK)
def l9 (_:Lp) (_:Jn) (ca:QF) (eF:SP) (x0:(List (ByteArray×Int))×List (ByteArray×(List (ByteArray×Int×Int×Int))×Bool)) (x1:ByteArray):Option Int :=
 ah (ca x0.1 fun (x:(ByteArray×Int)×PUnit)=>eF x.1 x1) fun (t:Int)=>some t
def ci (x0:(List (ByteArray×Int))×List (ByteArray×(List (ByteArray×Int×Int×Int))×Bool)) (x1:ByteArray):Option Int:=l9 lpK jnK ca eF x0 x1
abbrev JV:=((List (ByteArray×Int))×List (ByteArray×(List (ByteArray×Int×Int×Int))×Bool))->(ByteArray)->Option (Int)
def Qh (ci:JV):Ctr:=⟨[T25,.str],[],[],.one i64,fun x _ _=>ci x.1 x.2.1⟩
def Ix:Ctr:=Qh ci
theorem VN (lp:Lp) (jn:Jn) (ca:QF) (eF:SP):∀(x:TsS Ix.as) (F:TsF Ix.fs) (y:TsS Ix.cs),l9 lp jn ca eF x.1 x.2.1=bv lp jn (cx [(168,⟨[T66],[],[.str],.one .bool,fun x _ y=>eF x.1 y.1⟩),(167,TR ca)] [(134,a7)]) ak 4 131 f131 Ix x F y:=fun x F y=>by kernel_rfl
theorem Ps:Ix.ok prog 131:=Ctr.of_den (an (aa (aa (ba) (by kernel_rfl) Tx) (by kernel_rfl) SC)) aJ (hl:=ak) (d:=4) func131 rfl (by decide) (VN lpK jnK ca eF)
def qu (lp:Lp) (_:Jn) (x0:Int) (x1:Int):Option Int :=
 lp (Int×Int×PUnit) Int (fun (again:Int×Int×PUnit->Option Int) (x:Int×Int×PUnit)=>bif !decide (x.2.1=0) then bif nzB x.2.1 then again (x.2.1, Int.tmod x.1 x.2.1,PUnit.unit) else none else some x.1) (x0,x1,PUnit.unit)
def bA (x0:Int) (x1:Int):Option Int:=qu lpK jnK x0 x1
abbrev t75:=(Int)->(Int)->Option (Int)
def k75 (bA:t75):Ctr:=⟨[(.int .u64),(.int .u64)],[],[],.one (.int .u64),fun x _ _=>bA x.1 x.2.1⟩
def c75:Ctr:=k75 bA
theorem e75 (lp:Lp) (jn:Jn):∀(x:TsS c75.as) (F:TsF c75.fs) (y:TsS c75.cs),qu lp jn x.1 x.2.1=bv lp jn (cx [] [(134,a7)]) ak 4 75 f75 c75 x F y:=fun x F y=>by kernel_rfl
theorem O0:c75.ok prog 75:=Ctr.of_den (an (ba)) aJ (hl:=ak) (d:=4) func75 rfl (by decide) (e75 lpK jnK)
def oG (_:Lp) (_:Jn) (x0:Int):Option Int :=
 
 let v3:Int:=IntKind.wrap .u64 x0;bif decide (x0<0) then some (IntKind.wrap .u64 (0 - v3)) else some v3
def aM (x0:Int):Option Int:=oG lpK jnK x0
abbrev t77:=(Int)->Option (Int)
def k77 (aM:t77):Ctr:=⟨[i64],[],[],.one (.int .u64),fun x _ _=>aM x.1⟩
def c77:Ctr:=k77 aM
theorem e77 (lp:Lp) (jn:Jn):∀(x:TsS c77.as) (F:TsF c77.fs) (y:TsS c77.cs),oG lp jn x.1=bv lp jn (cx [] [(134,a7)]) ak 4 77 f77 c77 x F y:=fun x F y=>by kernel_rfl
theorem It:c77.ok prog 77:=Ctr.of_den (an (ba)) aJ (hl:=ak) (d:=4) func77 rfl (by decide) (e77 lpK jnK)
def nc (_:Lp) (_:Jn) (bA:t75) (aM:t77) (x0:Int×Int):Option Bool :=
 
 let v3:Bool:=decide (x0.2>=1);
 let v4:Bool:=!v3||v3;
 let v5:Bool:=bif v3 then decide (x0.2<=1152921504606846976) else false;
 let v6:Bool:=bif v5 then decide (x0.1>=(-1152921504606846976)) else false;
 let v7:Bool:=!v5||v5;
 let v8:Bool:=bif v6 then decide (x0.1<=1152921504606846976) else false;
 let v9:Bool:=!v6||v6;
 let v10:Bool:=!v8||v8;bif v4 then bif v4 then bif v4 then bif v7 then bif v7 then bif v7 then bif v9 then bif v9 then bif v9 then bif v10 then bif v10 then ah (bif v8 then aM x0.1 else some 0) fun (t:Int)=>bif v10 then bif v10 then bif v10&&v10 then ah (bif v8 then bA t (IntKind.wrap .u64 x0.2) else some (0 : Int)) fun (t:Int)=>bif v10 then bif v10 then some (bif v8 then decide (t=1) else false) else none else none else none else none else none else none else none else none else none else none else none else none else none else none else none else none
def aw (x0:Int×Int):Option Bool:=nc lpK jnK bA aM x0
abbrev t72:=(Int×Int)->Option (Bool)
def k72 (aw:t72):Ctr:=⟨[T49],[],[],.one .bool,fun x _ _=>aw x.1⟩
def c72:Ctr:=k72 aw
theorem e72 (lp:Lp) (jn:Jn) (bA:t75) (aM:t77):∀(x:TsS c72.as) (F:TsF c72.fs) (y:TsS c72.cs),nc lp jn bA aM x.1=bv lp jn (cx [(77,k77 aM),(75,k75 bA)] [(134,a7)]) ak 4 72 f72 c72 x F y:=fun x F y=>by kernel_rfl
theorem GB:c72.ok prog 72:=Ctr.of_den (an (aa (aa (ba) (by kernel_rfl) O0) (by kernel_rfl) It)) aJ (hl:=ak) (d:=4) func72 rfl (by decide) (e72 lpK jnK bA aM)
def lf (_:Lp) (_:Jn) (aw:t72) (x0:Int×Int):Option Bool :=
 ah (aw x0) fun (t:Bool) =>
 let v4:Bool:=!t||t;
 let v5:Bool:=bif t then decide (x0.1>=x0.2) else false;
 let v6:Bool:=!v5||v5;bif v4 then bif v4 then bif v4&&v4 then bif v4 then bif v6 then bif v6 then bif v6 then some (bif v5 then decide (x0.1<=100) else false) else none else none else none else none else none else none else none
def eB (x0:Int×Int):Option Bool:=lf lpK jnK aw x0
abbrev R1:=(Int×Int)->Option (Bool)
def I0:Ctr:=⟨[T49],[],[],.one .bool,fun x _ _=>eB x.1⟩
theorem T7 (lp:Lp) (jn:Jn) (aw:t72):∀(x:TsS I0.as) (F:TsF I0.fs) (y:TsS I0.cs),lf lp jn aw x.1=bv lp jn (cx [(72,k72 aw)] [(134,a7)]) ak 4 180 f180 I0 x F y:=fun x F y=>by kernel_rfl
theorem TJ:I0.ok prog 180:=Ctr.of_den (an (aa (ba) (by kernel_rfl) GB)) aJ (hl:=ak) (d:=4) func180 rfl (by decide) (T7 lpK jnK aw)
def mo (_:Lp) (_:Jn) (ci:JV) (eB:R1) (x0:(List (ByteArray×Int))×List (ByteArray×(List (ByteArray×Int×Int×Int))×Bool)) (x1:ByteArray×Int×Int×Int) (x2:Bool):Option Bool :=
 
 let v5:Bool:=!x2;
 let v6:Bool:=v5||x2;
 let v7:Bool:=decide (x1.2.1=0);
 let v8:Bool:=decide (x1.2.1=1);
 let v9:Bool:=decide (x1.2.1=2);
 let v10:Bool:=!v8;
 let v11:Bool:=!v9;
 let v12:Bool:=bif v9 then true else v7;
 let v13:Bool:=!v10||v10;
 let v14:Bool:=!v11||v11;
 let v15:Bool:=!v12;
 let v16:Bool:=bif x2 then !(decide (x1.2.2.1=1)&&(decide (x1.2.2.2=1)&&true)) else false;
 let v17:Bool:=!v16;
 let v18:Bool:=!v17;
 let v19:Bool:=v17&&v5;
 let v20:Bool:=!v15||v15;
 let v21:Bool:=v18||v17;
 let v22:Bool:=!v19||v19;bif v6 then bif v6&&v6 then bif v6 then bif v21 then bif v21 then bif v22 then bif v22 then ah (bif v19 then eB x1.2.2 else some false) fun (t:Bool)=>bif v22 then bif (v18||v21)&&(v18||(!v5||(v18||v19))) then bif v16||v17 then bif bif v16 then true else bif v5 then !t else false then some false else bif List.beq (ByteArray.toList x1.1) (ByteArray.toList { data:=#[] }) then some v7 else ah (ci x0 x1.1) fun (t:Int)=>bif decide (t<0) then some false else bif x2 then bif v13 then bif v13 then bif v8||v10 then some (bif v8 then true else decide (x1.2.1=(-1))) else none else none else none else bif v14 then bif v14 then bif v9||v11 then bif v20 then bif v20 then bif v12||v15 then some (bif v12 then true else decide (x1.2.1=(-2))) else none else none else none else none else none else none else none else none else none else none else none else none else none else none else none else none
def dY (x0:(List (ByteArray×Int))×List (ByteArray×(List (ByteArray×Int×Int×Int))×Bool)) (x1:ByteArray×Int×Int×Int) (x2:Bool):Option Bool:=mo lpK jnK ci eB x0 x1 x2
abbrev PX:=((List (ByteArray×Int))×List (ByteArray×(List (ByteArray×Int×Int×Int))×Bool))->(ByteArray×Int×Int×Int)->(Bool)->Option (Bool)
def TB (dY:PX):Ctr:=⟨[T25,Oy,.bool],[],[],.one .bool,fun x _ _=>dY x.1 x.2.1 x.2.2.1⟩
def KE:Ctr:=TB dY
theorem Vf (lp:Lp) (jn:Jn) (ci:JV) (eB:R1):∀(x:TsS KE.as) (F:TsF KE.fs) (y:TsS KE.cs),mo lp jn ci eB x.1 x.2.1 x.2.2.1=bv lp jn (cx [(180,⟨[T49],[],[],.one .bool,fun x _ _=>eB x.1⟩),(131,Qh ci)] [(134,a7)]) ak 4 162 f162 KE x F y:=fun x F y=>by kernel_rfl
theorem Tz:KE.ok prog 162:=Ctr.of_den (an (aa (aa (ba) (by kernel_rfl) Ps) (by kernel_rfl) TJ)) aJ (hl:=ak) (d:=4) func162 rfl (by decide) (Vf lpK jnK ci eB)
def me (lp:Lp) (_:Jn) (bu:H6) (dY:PX) (x0:(List (ByteArray×Int))×List (ByteArray×(List (ByteArray×Int×Int×Int))×Bool)) (x1:ByteArray×(List (ByteArray×Int×Int×Int))×Bool):Option Bool :=
 
 let v4:Bool:=!x1.2.2;
 let v5:Bool:=!v4;
 let v6:Bool:=!v5;
 let v7:Int:=IntKind.wrap .i64 ((↑x1.2.1.length:Int) - 1);
 let v8:Bool:=v6||v5;ah (bu (↑x1.2.1.length:Int) 2 10) fun (t:Bool)=>bif !t then some false else lp (Int×PUnit) Bool (fun (again : Int×PUnit->Option Bool) (x:Int×PUnit) =>
 let v12:Bool:=decide (x.1=0);
 let v13:Bool:=!v12;
 let v14:Bool:=!v13||v13;bif decide (x.1<(↑x1.2.1.length:Int)) then bif inB x.1 x1.2.1.length then bif v14 then bif v14&&v14 then bif v12||v13 then ah (dY x0 (x1.2.1.getD x.1.toNat ({ data:={ toList:=[] } },0,0,0)) (bif v12 then true else decide (x.1=v7))) fun (t : Bool)=>bif !t then some false else again (IntKind.wrap .i64 (x.1+1),PUnit.unit) else none else none else none else none else bif v8 then bif v8 then bif v8&&(v8 && (v6||inB v7 x1.2.1.length)) then bif v8 then bif v8 then bif v8 then bif v4||v5 then some (bif v4 then true else List.beq (ByteArray.toList (x1.2.1.getD v7.toNat ({ data:={ toList:=[] } },0,0,0)).1) (ByteArray.toList { data:=#[] })) else none else none else none else none else none else none else none) (0,PUnit.unit)
def fa (x0:(List (ByteArray×Int))×List (ByteArray×(List (ByteArray×Int×Int×Int))×Bool)) (x1:ByteArray×(List (ByteArray×Int×Int×Int))×Bool):Option Bool:=me lpK jnK bu dY x0 x1
abbrev SR:=((List (ByteArray×Int))×List (ByteArray×(List (ByteArray×Int×Int×Int))×Bool))->(ByteArray×(List (ByteArray×Int×Int×Int))×Bool)->Option (Bool)
def K4:Ctr:=⟨[T25,T75],[],[],.one .bool,fun x _ _=>fa x.1 x.2.1⟩
theorem Uk (lp:Lp) (jn:Jn) (bu:H6) (dY:PX):∀(x:TsS K4.as) (F:TsF K4.fs) (y:TsS K4.cs),me lp jn bu dY x.1 x.2.1=bv lp jn (cx [(162,TB dY),(114,Q3 bu)] [(134,a7)]) ak 4 117 f117 K4 x F y:=fun x F y=>by kernel_rfl
theorem Se:K4.ok prog 117:=Ctr.of_den (an (aa (aa (ba) (by kernel_rfl) PE) (by kernel_rfl) Tz)) aJ (hl:=ak) (d:=4) func117 rfl (by decide) (Uk lpK jnK bu dY)
def lq (lp:Lp) (_:Jn) (bu:H6) (du:SD) (fa:SR) (x0:(List (ByteArray×Int))×List (ByteArray×(List (ByteArray×Int×Int×Int))×Bool)):Option Bool :=
 ah (bu (↑x0.1.length:Int) 1 6) fun (t:Bool) =>
 let v4:Bool:=!t;
 let v5:Bool:=!v4;
 let v6:Bool:=!v5||v5;bif v6 then bif v6 then bif v6 then ah (bif v5 then bu (↑x0.2.length:Int) 1 6 else some false) fun (t:Bool)=>bif v6 then bif v4||v5 then bif bif v4 then true else !t then some false else lp (Int×List (ByteArray×Bool)×PUnit) Bool (fun (again:Int×List (ByteArray×Bool)×PUnit->Option Bool) (x:Int×List (ByteArray×Bool)×PUnit) =>
 let v10:ByteArray×Int:=x0.1.getD x.1.toNat ({ data:={ toList:=[] } },0);bif decide (x.1<(↑x0.1.length:Int)) then bif inB x.1 x0.1.length then ah (du v10.1) fun (t:Bool) =>
 let v12:Bool:=!t||t;bif v12&&v12 then bif v12 then bif v12 then bif (!!!bif t then !i8 str Sh.bool v10.1 false x.2.1 else false)||!!bif t then !i8 str Sh.bool v10.1 false x.2.1 else false then bif (!!!bif t then !i8 str Sh.bool v10.1 false x.2.1 else false)||!!bif t then !i8 str Sh.bool v10.1 false x.2.1 else false then ah (bif !!bif t then !i8 str Sh.bool v10.1 false x.2.1 else false then bu v10.2 0 16777216 else some false) fun (t_1:Bool)=>bif (!!!bif t then !i8 str Sh.bool v10.1 false x.2.1 else false)||!!bif t then !i8 str Sh.bool v10.1 false x.2.1 else false then bif (!bif t then !i8 str Sh.bool v10.1 false x.2.1 else false)||!!bif t then !i8 str Sh.bool v10.1 false x.2.1 else false then bif bif !bif t then !i8 str Sh.bool v10.1 false x.2.1 else false then true else !t_1 then some false else again (IntKind.wrap .i64 (x.1+1),pG str Sh.bool v10.1 true x.2.1,PUnit.unit) else none else none else none else none else none else none else none else none else lp (Int×Int×List (ByteArray×Bool)×PUnit) Bool (fun (again:Int×Int×List (ByteArray×Bool)×PUnit->Option Bool) (x:Int×Int×List (ByteArray×Bool)×PUnit) =>
 let v13:ByteArray×List (ByteArray×Int×Int×Int)×Bool:=x0.2.getD x.2.1.toNat ({ data:={ toList:=[] } },[],false);bif decide (x.2.1<(↑x0.2.length:Int)) then bif inB x.2.1 x0.2.length then ah (du v13.1) fun (t:Bool) =>
 let v15:Bool:=!t||t;bif v15&&v15 then bif v15 then bif v15 then bif ((!!!bif t then !i8 str Sh.bool v13.1 false x.2.2.1 else false)||!!bif t then !i8 str Sh.bool v13.1 false x.2.2.1 else false)&&((!!!bif t then !i8 str Sh.bool v13.1 false x.2.2.1 else false)||!!bif t then !i8 str Sh.bool v13.1 false x.2.2.1 else false) then ah (bif !!bif t then !i8 str Sh.bool v13.1 false x.2.2.1 else false then fa x0 v13 else some false) fun (t_1:Bool)=>bif (!!!bif t then !i8 str Sh.bool v13.1 false x.2.2.1 else false)||!!bif t then !i8 str Sh.bool v13.1 false x.2.2.1 else false then bif (!bif t then !i8 str Sh.bool v13.1 false x.2.2.1 else false)||!!bif t then !i8 str Sh.bool v13.1 false x.2.2.1 else false then bif bif !bif t then !i8 str Sh.bool v13.1 false x.2.2.1 else false then true else !t_1 then some false else bif v13.2.2 then again (IntKind.wrap .i64 (x.1+1),IntKind.wrap .i64 (x.2.1+1),pG str Sh.bool v13.1 true x.2.2.1,PUnit.unit) else again (x.1,IntKind.wrap .i64 (x.2.1+1),pG str Sh.bool v13.1 true x.2.2.1,PUnit.unit) else none else none else none else none else none else none else none else some (decide (x.1<=1))) (0,0,x.2.1,PUnit.unit)) (0,[],PUnit.unit) else none else none else none else none else none
def aK (x0:(List (ByteArray×Int))×List (ByteArray×(List (ByteArray×Int×Int×Int))×Bool)):Option Bool:=lq lpK jnK bu du fa x0
abbrev t59:=((List (ByteArray×Int))×List (ByteArray×(List (ByteArray×Int×Int×Int))×Bool))->Option (Bool)
def k59 (aK:t59):Ctr:=⟨[T25],[],[],.one .bool,fun x _ _=>aK x.1⟩
def c59:Ctr:=k59 aK
theorem e59 (lp:Lp) (jn:Jn) (bu:H6) (du:SD) (fa:SR):∀(x:TsS c59.as) (F:TsF c59.fs) (y:TsS c59.cs),lq lp jn bu du fa x.1=bv lp jn (cx [(117,⟨[T25,T75],[],[],.one .bool,fun x _ _=>fa x.1 x.2.1⟩),(116,⟨[.str],[],[],.one .bool,fun x _ _=>du x.1⟩),(114,Q3 bu)] [(134,a7)]) ak 4 59 f59 c59 x F y:=fun x F y=>by kernel_rfl
theorem NN:c59.ok prog 59:=Ctr.of_den (an (aa (aa (aa (ba) (by kernel_rfl) PE) (by kernel_rfl) TG) (by kernel_rfl) Se)) aJ (hl:=ak) (d:=4) func59 rfl (by decide) (e59 lpK jnK bu du fa)
def nY (lp:Lp) (_:Jn) (ci:JV) (aK:t59) (x0:(List (ByteArray×Int))×List (ByteArray×(List (ByteArray×Int×Int×Int))×Bool)):Option ((List (List Int))×Int×Unit) :=
 ah (aK x0) fun (t:Bool)=>bif !t then some ([],1,PUnit.unit) else bif decide (0<=(↑x0.1.length:Int))&&eh (Int.toNat (↑x0.1.length : Int)) 24 then lp (Int×(List Nat×List (Option (List Int)))×PUnit) (List (List Int)×Int×PUnit) (fun (again:Int×(List Nat×List (Option (List Int)))×PUnit -> Option (List (List Int)×Int×PUnit)) (x:Int×(List Nat×List (Option (List Int)))×PUnit)=>bif decide (x.1<(↑(List.length (Nat.brecOn (motive:=fun (x:Nat)=>Nat->List Nat) (Int.toNat (↑x0.1.length:Int)) (fun (x:Nat) (f:Nat.below (motive:=fun (x:Nat)=>Nat->List (T ref)) x) (x_1:Nat)=>(match (motive:=(x:Nat)->Nat->Nat.below (motive:=fun (x:Nat)=>Nat->List (T ref)) x->List Nat) x,x_1 with | 0,x=>fun (_:PUnit)=>[] | Nat.succ n,k=>fun (x:(Nat->List Nat) ×' Nat.rec PUnit (fun (n:Nat) (n_ih:Type)=>(fun (x:Nat)=>Nat->List (T ref)) n ×' n_ih) n)=>(k+0) ::x.1 (k+1)) f) 0)):Int)) then bif decide (0 <= (↑x0.2.length:Int))&&eh (Int.toNat (↑x0.2.length:Int)) 8 then bif inB x.1 x.2.1.1.length then bif Nat.ble (Nat.succ x.1.toNat) x.2.1.1.length then again (IntKind.wrap .i64 (x.1+1),(x.2.1.1.set x.1.toNat x.2.1.2.length,x.2.1.2++[some (List.replicate (Int.toNat (↑x0.2.length:Int)) 0)]),PUnit.unit) else none else none else none else lp (Int×(List Nat×List (Option (List Int)))×PUnit) (List (List Int)×Int×PUnit) (fun (again:Int×(List Nat×List (Option (List Int)))×PUnit->Option (List (List Int)×Int×PUnit)) (x:Int×(List Nat×List (Option (List Int))) × PUnit)=>bif decide (x.1<(↑x0.2.length:Int)) then bif inB x.1 x0.2.length then lp (Int×(List Nat×List (Option (List Int)))×PUnit) (List (List Int)×Int × PUnit) (fun (again_1:Int×(List Nat×List (Option (List Int)))×PUnit->Option (List (List Int)×Int×PUnit)) (x_1:Int×(List Nat×List (Option (List Int)))×PUnit) =>
 let v10:Int:=IntKind.wrap .i64 (x_1.1+1);
 let v11:(List Nat×List (Option (List Int)))×PUnit:=(x_1.2.1,PUnit.unit);
 let v12:ByteArray×Int×Int×Int:=List.getD (x0.2.getD x.1.toNat ({ data:={ toList:=[] } },[],false)).2.1 x_1.1.toNat ({ data:={ toList:=[] } },0,0,0);bif decide (x_1.1<(↑(List.length (x0.2.getD x.1.toNat ({ data:={ toList:=[] } },[],false)).2.1):Int)) then bif inB x_1.1 (List.length (x0.2.getD x.1.toNat ({ data:={ toList:=[] } },[],false)).2.1) then ah (ci x0 v12.1) fun (t:Int)=>bif decide (t>=(0 : Int)) then bif inB t x_1.2.1.1.length then bif Nat.ble (Nat.succ t.toNat) x_1.2.1.1.length then bif inB x.1 (List.length (ai x_1.2.1.2 (x_1.2.1.1.getD t.toNat 0))) then bif Nat.ble (Nat.succ x.1.toNat) (List.length (ai x_1.2.1.2 (x_1.2.1.1.getD t.toNat (0 : Nat)))) then bif inB x.1 (List.length (ai x_1.2.1.2 (x_1.2.1.1.getD t.toNat 0))) then bif Nat.ble (Nat.succ x.1.toNat) (List.length (ai x_1.2.1.2 (x_1.2.1.1.getD t.toNat 0))) then again_1 (v10,(x_1.2.1.1,x_1.2.1.2.set (x_1.2.1.1.getD t.toNat 0) (some (List.set (ai x_1.2.1.2 (x_1.2.1.1.getD t.toNat 0)) x.1.toNat (IntKind.wrap .i64 (List.getD (ai x_1.2.1.2 (x_1.2.1.1.getD t.toNat 0)) x.1.toNat 0+v12.2.1))))),PUnit.unit) else none else none else none else none else none else none else again_1 (v10,v11) else none else again (IntKind.wrap .i64 (x.1+1),v11)) (0,x.2.1,PUnit.unit) else none else bif List.all x.2.1.1 fun (x_1:Nat)=>fG x.2.1.2 x_1 then some (List.map (fun (x_1:Nat)=>ai x.2.1.2 x_1) x.2.1.1,0,PUnit.unit) else none) (0,x.2.1,PUnit.unit)) (0, (Nat.brecOn (motive:=fun (x:Nat)=>Nat->List Nat) (Int.toNat (↑x0.1.length:Int)) (fun (x:Nat) (f:Nat.below (motive:=fun (x:Nat)=>Nat->List (T ref)) x) (x_1:Nat)=>(match (motive:=(x:Nat)->Nat->Nat.below (motive:=fun (x:Nat)=>Nat->List (T ref)) x->List Nat) x,x_1 with | 0,x=>fun (_:PUnit)=>[] | Nat.succ n,k=>fun (x:(Nat->List Nat) ×' Nat.rec PUnit (fun (n:Nat) (n_ih:Type)=>(fun (x:Nat)=>Nat->List (T ref)) n ×' n_ih) n)=>(k+0) ::x.1 (k+1)) f) 0,List.replicate (Int.toNat (↑x0.1.length:Int)) (some [])),PUnit.unit) else none
def ct (x0:(List (ByteArray×Int))×List (ByteArray×(List (ByteArray×Int×Int×Int))×Bool)):Option ((List (List Int))×Int×Unit):=nY lpK jnK ci aK x0
abbrev t87:=((List (ByteArray×Int))×List (ByteArray×(List (ByteArray×Int×Int×Int))×Bool))->Option ((List (List Int))×Int×Unit)
def k87 (ct:t87):Ctr:=⟨[T25],[],[],.tup [(.sl (.sl i64)),i64],fun x _ _=>ct x.1⟩
def c87:Ctr:=k87 ct
theorem e87 (lp:Lp) (jn:Jn) (ci:JV) (aK:t59):∀(x:TsS c87.as) (F:TsF c87.fs) (y:TsS c87.cs),nY lp jn ci aK x.1=bv lp jn (cx [(59,k59 aK),(131,Qh ci)] [(134,a7)]) ak 4 87 f87 c87 x F y:=fun x F y=>by kernel_rfl
theorem UB:c87.ok prog 87:=Ctr.of_den (an (aa (aa (ba) (by kernel_rfl) Ps) (by kernel_rfl) NN)) aJ (hl:=ak) (d:=4) func87 rfl (by decide) (e87 lpK jnK ci aK)
def jT (lp:Lp) (_:Jn) (aK:t59) (x0:(List (ByteArray×Int))×List (ByteArray×(List (ByteArray×Int×Int×Int))×Bool)):Option ((List Int)×Int×Unit) :=
 ah (aK x0) fun (t:Bool)=>bif !t then some ([],1,PUnit.unit) else lp (List Int×Int×PUnit) (List Int×Int×PUnit) (fun (again:List Int×Int×PUnit -> Option (List Int×Int×PUnit)) (x:List Int×Int×PUnit)=>bif decide (x.2.1<(↑x0.1.length:Int)) then bif inB x.2.1 x0.1.length then bif eh (List.length x.1+1) 8 then again (x.1++[(x0.1.getD x.2.1.toNat ({ data:={ toList:=[] } },0)).2],IntKind.wrap .i64 (x.2.1+1),PUnit.unit) else none else none else some (x.1,0,PUnit.unit)) ([],0,PUnit.unit)
def cR (x0:(List (ByteArray×Int))×List (ByteArray×(List (ByteArray×Int×Int×Int))×Bool)):Option ((List Int)×Int×Unit):=jT lpK jnK aK x0
abbrev t88:=((List (ByteArray×Int))×List (ByteArray×(List (ByteArray×Int×Int×Int))×Bool))->Option ((List Int)×Int×Unit)
def k88 (cR:t88):Ctr:=⟨[T25],[],[],.tup [(.sl i64),i64],fun x _ _=>cR x.1⟩
def c88:Ctr:=k88 cR
theorem e88 (lp:Lp) (jn:Jn) (aK:t59):∀(x:TsS c88.as) (F:TsF c88.fs) (y:TsS c88.cs),jT lp jn aK x.1=bv lp jn (cx [(59,k59 aK)] [(134,a7)]) ak 4 88 f88 c88 x F y:=fun x F y=>by kernel_rfl
theorem VQ:c88.ok prog 88:=Ctr.of_den (an (aa (ba) (by kernel_rfl) NN)) aJ (hl:=ak) (d:=4) func88 rfl (by decide) (e88 lpK jnK aK)
def lM (lp:Lp) (_:Jn) (ct:t87) (cR:t88) (x0:(List (ByteArray×Int))×List (ByteArray×(List (ByteArray×Int×Int×Int))×Bool)) (x1:List Int):Option (((List Int)×List ((List Int)×Int×Int))×Int×Unit) :=
 ah (ct x0) fun (t:List (List Int)×Int×PUnit)=>bif !decide (t.2.1=0) then some (([],[]),t.2.1,PUnit.unit) else ah (cR x0) fun (t_1 : List Int×Int×PUnit)=>bif !decide (t_1.2.1=0) then some (([],[]),t_1.2.1,PUnit.unit) else lp (Int×List Int×List (List Int×Int×Int)×PUnit) ((List Int×List (List Int×Int×Int))×Int×PUnit) (fun (again:Int×List Int×List (List Int×Int×Int)×PUnit->Option ((List Int×List (List Int×Int×Int))×Int×PUnit)) (x:Int×List Int×List (List Int×Int×Int)×PUnit)=>bif decide (x.1<(↑t.1.length:Int)) then bif inB x.1 t.1.length then bif inB x.1 t_1.1.length then bif eh (List.length x.2.2.1+1) 40 then again (IntKind.wrap .i64 (x.1+1),x.2.1,x.2.2.1++[(t.1.getD x.1.toNat [],3,t_1.1.getD x.1.toNat 0)],PUnit.unit) else none else none else none else some ((x.2.1,x.2.2.1),0, PUnit.unit)) (0,x1,[],PUnit.unit)
def cO (x0:(List (ByteArray×Int))×List (ByteArray×(List (ByteArray×Int×Int×Int))×Bool)) (x1:List Int):Option (((List Int)×List ((List Int)×Int×Int))×Int×Unit):=lM lpK jnK ct cR x0 x1
abbrev t45:=((List (ByteArray×Int))×List (ByteArray×(List (ByteArray×Int×Int×Int))×Bool))->(List Int)->Option (((List Int)×List ((List Int)×Int×Int))×Int×Unit)
def k45 (cO:t45):Ctr:=⟨[T25,(.sl i64)],[],[],.tup [T32,i64],fun x _ _=>cO x.1 x.2.1⟩
def c45:Ctr:=k45 cO
theorem e45 (lp:Lp) (jn:Jn) (ct:t87) (cR:t88):∀(x:TsS c45.as) (F:TsF c45.fs) (y:TsS c45.cs),lM lp jn ct cR x.1 x.2.1=bv lp jn (cx [(88,k88 cR),(87,k87 ct)] [(134,a7)]) ak 4 45 f45 c45 x F y:=fun x F y=>by kernel_rfl
theorem R7:c45.ok prog 45:=Ctr.of_den (an (aa (aa (ba) (by kernel_rfl) UB) (by kernel_rfl) VQ)) aJ (hl:=ak) (d:=4) func45 rfl (by decide) (e45 lpK jnK ct cR)
def oE (_:Lp) (_:Jn) (x0:Int) (x1:Int):Option (Int×Int×Unit) :=
 
 let v4:Int:=2 ^ 32;
 let v5:Int:=Int.fdiv x0 v4;
 let v6:Int:=Int.fdiv x1 v4;
 let v7:Bool:=decide ((0:Int)<=32);
 let v8:Int:=IntKind.wrap .u64 (↑(Nat.land (Int.toNat (x1 % Int.ofNat 18446744073709551616)) (Int.toNat (4294967295 % Int.ofNat 18446744073709551616))) : Int);
 let v9:Int:=IntKind.wrap .u64 (↑(Nat.land (Int.toNat (x0 % Int.ofNat 18446744073709551616)) (Int.toNat (4294967295 % Int.ofNat 18446744073709551616))) : Int);
 let v10:Int:=IntKind.wrap .u64 (IntKind.wrap .u64 (v5*v8)+Int.fdiv (IntKind.wrap .u64 (v9*v8)) v4);bif v7 then bif v7 then bif v7 then bif v7 then bif v7 then some (IntKind.wrap .u64 (IntKind.wrap .u64 (IntKind.wrap .u64 (v5*v6)+Int.fdiv v10 v4)+Int.fdiv (IntKind.wrap .u64 (IntKind.wrap .u64 (↑(Nat.land (Int.toNat (v10 % Int.ofNat 18446744073709551616)) (Int.toNat (4294967295 % Int.ofNat 18446744073709551616))):Int)+IntKind.wrap .u64 (v9 * v6))) v4),IntKind.wrap .u64 (x0*x1),PUnit.unit) else none else none else none else none else none
def b9 (x0:Int) (x1:Int):Option (Int×Int×Unit):=oE lpK jnK x0 x1
abbrev Fb:=(Int)->(Int)->Option (Int×Int×Unit)
def NL (b9:Fb):Ctr:=⟨[(.int .u64),(.int .u64)],[],[],.tup [(.int .u64),(.int .u64)],fun x _ _=>b9 x.1 x.2.1⟩
def Jt:Ctr:=NL b9
theorem Uu (lp:Lp) (jn:Jn):∀(x:TsS Jt.as) (F:TsF Jt.fs) (y:TsS Jt.cs),oE lp jn x.1 x.2.1=bv lp jn (cx [] [(134,a7)]) ak 4 122 f122 Jt x F y:=fun x F y=>by kernel_rfl
theorem L6:Jt.ok prog 122:=Ctr.of_den (an (ba)) aJ (hl:=ak) (d:=4) func122 rfl (by decide) (Uu lpK jnK)
def sT (_:Lp) (_:Jn) (x0:Int) (x1:Int):Option (Int×Int×Unit) :=
 
 let v4:Int:=IntKind.wrap .u64 (IntKind.wrap .u64 x0*IntKind.wrap .u64 x1);bif decide ((0:Int)<=32) then some (IntKind.wrap IntKind.u32 (Int.fdiv v4 (2 ^ 32)),IntKind.wrap IntKind.u32 v4,PUnit.unit) else none
def iP (x0:Int) (x1:Int):Option (Int×Int×Unit):=sT lpK jnK x0 x1
def Tn (iP:(Int)->(Int)->Option (Int×Int×Unit)):Ctr:=⟨[(.int .u32),(.int .u32)],[],[],.tup [(.int .u32),(.int .u32)],fun x _ _=>iP x.1 x.2.1⟩
def IC:Ctr:=Tn iP
theorem VI (lp:Lp) (jn:Jn):∀(x:TsS IC.as) (F:TsF IC.fs) (y:TsS IC.cs),sT lp jn x.1 x.2.1=bv lp jn (cx [] [(134,a7)]) ak 4 137 f137 IC x F y:=fun x F y=>by kernel_rfl
theorem SU:IC.ok prog 137:=Ctr.of_den (an (ba)) aJ (hl:=ak) (d:=4) func137 rfl (by decide) (VI lpK jnK)
def sy (_:Lp) (_:Jn) (b9:Fb) (_:(Int)->(Int)->Option (Int×Int×Unit)) (x0:Int) (x1:Int):Option (Int×Int×Unit) :=
 ah (b9 x0 x1) fun (t:Int×Int×PUnit)=>some (t.1,t.2.1,PUnit.unit)
def ip (x0:Int) (x1:Int):Option (Int×Int×Unit):=sy lpK jnK b9 iP x0 x1
abbrev t90:=(Int)->(Int)->Option (Int×Int×Unit)
def k90 (ip:t90):Ctr:=⟨[(.int .u64),(.int .u64)],[],[],.tup [(.int .u64),(.int .u64)],fun x _ _=>ip x.1 x.2.1⟩
def c90:Ctr:=k90 ip
theorem e90 (lp:Lp) (jn:Jn) (b9:Fb) (iP:(Int)->(Int)->Option (Int×Int×Unit)):∀(x:TsS c90.as) (F:TsF c90.fs) (y:TsS c90.cs),sy lp jn b9 iP x.1 x.2.1=bv lp jn (cx [(137,Tn iP),(122,NL b9)] [(134,a7)]) ak 4 90 f90 c90 x F y:=fun x F y=>by kernel_rfl
theorem VJ:c90.ok prog 90:=Ctr.of_den (an (aa (aa (ba) (by kernel_rfl) L6) (by kernel_rfl) SU)) aJ (hl:=ak) (d:=4) func90 rfl (by decide) (e90 lpK jnK b9 iP)
def jx (lp:Lp) (jn:Jn) (ip:t90) (x0:List Int) (x1:Int):Option (List Int) :=
 jn PUnit (List Int) (fun (_:PUnit)=>ah (ip (IntKind.wrap .u64 (↑x0.length:Int)) (IntKind.wrap .u64 x1)) fun (t:Int×Int×PUnit) =>
 let v6:List Int:=List.take (Int.toNat (IntKind.wrap .i64 t.2.1)) x0;
 let v7:List Int:=List.replicate (Int.toNat (IntKind.wrap .i64 t.2.1)) 0;
 let v8:Bool:=decide (t.1>0);
 let v9:Bool:=!v8;bif !v9||v9 then bif v8||v9 then jn PUnit (List Int) (fun (_:PUnit)=>bif decide (0<=IntKind.wrap .i64 t.2.1)&&eh (Int.toNat (IntKind.wrap .i64 t.2.1)) 8 then lp (Int×List Int×PUnit) (List Int) (fun (again:Int×List Int×PUnit->Option (List Int)) (x:Int×List Int×PUnit) =>
 let v13:List Int:=List.take x.1.toNat x.2.1;
 let v14:List Int:=List.take (Int.toNat (↑x.2.1.length:Int) - Int.toNat x.1) (List.drop 0 v13);bif decide (x.1<(↑x.2.1.length:Int)) then bif slB x.1 (↑x.2.1.length:Int) x.2.1.length then bif slB 0 x.1 x.2.1.length then bif Nat.ble x.1.toNat (Int.toNat (↑x.2.1.length:Int))&&(Nat.ble (Int.toNat (↑x.2.1.length:Int)) x.2.1.length&&Nat.ble x.1.toNat x.2.1.length) then again (IntKind.wrap IntKind.i64 (x.1+(↑v14.length:Int)),v13++v14++List.drop (Int.toNat x.1+List.length v14) x.2.1,PUnit.unit) else none else none else none else some x.2.1) ((↑v6.length:Int),List.take 0 v7++v6++List.drop (0+List.length v6) v7,PUnit.unit) else none) fun (j:PUnit->Option (List Int))=>bif bif v8 then true else decide (t.2.1>9223372036854775807) then none else j PUnit.unit else none else none) fun (j:PUnit->Option (List Int))=>bif decide (x1<0) then none else j PUnit.unit
def cJ (x0:List Int) (x1:Int):Option (List Int):=jx lpK jnK ip x0 x1
abbrev t46:=(List Int)->(Int)->Option (List Int)
def k46 (cJ:t46):Ctr:=⟨[(.sl i64),i64],[],[],.one (.sl i64),fun x _ _=>cJ x.1 x.2.1⟩
def c46:Ctr:=k46 cJ
theorem e46 (lp:Lp) (jn:Jn) (ip:t90):∀(x:TsS c46.as) (F:TsF c46.fs) (y:TsS c46.cs),jx lp jn ip x.1 x.2.1=bv lp jn (cx [(90,k90 ip)] [(134,a7)]) ak 4 46 f46 c46 x F y:=fun x F y=>by kernel_rfl
theorem UA:c46.ok prog 46:=Ctr.of_den (an (aa (ba) (by kernel_rfl) VJ)) aJ (hl:=ak) (d:=4) func46 rfl (by decide) (e46 lpK jnK ip)
def jo (_:Lp) (_:Jn) (cO:t45) (cJ:t46) (x0:(List (ByteArray×Int))×List (ByteArray×(List (ByteArray×Int×Int×Int))×Bool)):Option (((List Int)×List ((List Int)×Int×Int))×Int×Unit) :=
 ah (cJ [1] (↑x0.2.length:Int)) fun (t:List Int)=>ah (cO x0 t) fun (t:(List Int×List (List Int×Int×Int))×Int×PUnit)=>some (t.1,t.2.1,PUnit.unit)
def aR (x0:(List (ByteArray×Int))×List (ByteArray×(List (ByteArray×Int×Int×Int))×Bool)):Option (((List Int)×List ((List Int)×Int×Int))×Int×Unit):=jo lpK jnK cO cJ x0
abbrev t11:=((List (ByteArray×Int))×List (ByteArray×(List (ByteArray×Int×Int×Int))×Bool))->Option (((List Int)×List ((List Int)×Int×Int))×Int×Unit)
def k11 (aR:t11):Ctr:=⟨[T25],[],[],.tup [T32,i64],fun x _ _=>aR x.1⟩
def c11:Ctr:=k11 aR
theorem e11 (lp:Lp) (jn:Jn) (cO:t45) (cJ:t46):∀(x:TsS c11.as) (F:TsF c11.fs) (y:TsS c11.cs),jo lp jn cO cJ x.1=bv lp jn (cx [(46,k46 cJ),(45,k45 cO)] [(134,a7)]) ak 4 11 f11 c11 x F y:=fun x F y=>by kernel_rfl
theorem Qw:c11.ok prog 11:=Ctr.of_den (an (aa (aa (ba) (by kernel_rfl) R7) (by kernel_rfl) UA)) aJ (hl:=ak) (d:=4) func11 rfl (by decide) (e11 lpK jnK cO cJ)
def je (_:Lp) (_:Jn) (x0:Int) (y0:Int):Option Bool :=
 
 let v4:Bool:=decide (x0<IntKind.wrap .i64 (0 - y0));
 let v5:Bool:=!v4;
 let v6:Bool:=!v5||v5;bif v6&&v6 then bif v4||v5 then some (bif v4 then true else decide (x0>y0)) else none else none
def cj (x0:Int) (y0:Int):Option Bool:=je lpK jnK x0 y0
abbrev RI:=(Int)->(Int)->Option (Bool)
def K2:Ctr:=⟨[i64],[],[i64],.one .bool,fun x _ y=>cj x.1 y.1⟩
theorem Ue (lp:Lp) (jn:Jn):∀(x:TsS K2.as) (F:TsF K2.fs) (y:TsS K2.cs),je lp jn x.1 y.1=bv lp jn (cx [] [(134,a7)]) ak 4 139 f139 K2 x F y:=fun x F y=>by kernel_rfl
theorem Rz:K2.ok prog 139:=Ctr.of_den (an (ba)) aJ (hl:=ak) (d:=4) func139 rfl (by decide) (Ue lpK jnK)
def jP (_:Lp) (_:Jn) (cj:RI) (x0:Int):Option ((Int×Unit)->Option Bool) :=
 some fun (x:Int×PUnit)=>cj x.1 x0
def df (x0:Int):Option ((Int×Unit)->Option Bool):=jP lpK jnK cj x0
abbrev Tv:=(Int)->Option ((Int×Unit)->Option Bool)
def QH:FCtr:=⟨[i64],[i64],.bool,fun x=>df x.1⟩
theorem Uo (lp:Lp) (jn:Jn) (cj:RI):∀x:TsS QH.as,jP lp jn cj x.1=QT lp jn (cx [(139,⟨[i64],[],[i64],.one .bool,fun x _ y=>cj x.1 y.1⟩)] [(134,a7)]) ak 4 138 f138 QH x:=fun x=>by kernel_rfl
theorem Ql:QH.ok prog 138:=FCtr.of_den (an (aa (ba) (by kernel_rfl) Rz)) aJ (hl:=ak) (d:=4) func138 rfl (by decide) (Uo lpK jnK cj)
def ib (lp:Lp) (_:Jn) (x0:List Int) (f0:((Int×Unit)->Option Bool)):Option Int :=
 lp (Int×PUnit) Int (fun (again:Int×PUnit->Option Int) (x:Int×PUnit)=>bif decide (x.1<(↑x0.length:Int)) then bif inB x.1 x0.length then ah (f0 (x0.getD x.1.toNat 0,PUnit.unit)) fun (t:Bool)=>bif t then some x.1 else again (IntKind.wrap .i64 (x.1+1),PUnit.unit) else none else some (-1)) (0,PUnit.unit)
def bL (x0:List Int) (f0:((Int×Unit)->Option Bool)):Option Int:=ib lpK jnK x0 f0
abbrev QZ:=(List Int)->(((Int×Unit)->Option Bool))->Option (Int)
def SY (bL:QZ):Ctr:=⟨[(.sl i64)],[([i64],.bool)],[],.one i64,fun x F _=>bL x.1 F.1⟩
def JU:Ctr:=SY bL
theorem VK (lp:Lp) (jn:Jn):∀(x:TsS JU.as) (F:TsF JU.fs) (y:TsS JU.cs),ib lp jn x.1 F.1=bv lp jn (cx [] [(134,a7)]) ak 4 173 f173 JU x F y:=fun x F y=>by kernel_rfl
theorem Sc:JU.ok prog 173:=Ctr.of_den (an (ba)) aJ (hl:=ak) (d:=4) func173 rfl (by decide) (VK lpK jnK)
def gb (_:Lp) (_:Jn) (bL:QZ) (x0:List Int) (f0:((Int×Unit)->Option Bool)):Option Bool :=
 ah (bL x0 f0) fun (t:Int)=>some (decide (t>=0))
def a6 (x0:List Int) (f0:((Int×Unit)->Option Bool)):Option Bool:=gb lpK jnK bL x0 f0
abbrev Q1:=(List Int)->(((Int×Unit)->Option Bool))->Option (Bool)
def TL (a6:Q1):Ctr:=⟨[(.sl i64)],[([i64],.bool)],[],.one .bool,fun x F _=>a6 x.1 F.1⟩
def Km:Ctr:=TL a6
theorem UC (lp:Lp) (jn:Jn) (bL:QZ):∀(x:TsS Km.as) (F:TsF Km.fs) (y:TsS Km.cs),gb lp jn bL x.1 F.1=bv lp jn (cx [(173,SY bL)] [(134,a7)]) ak 4 140 f140 Km x F y:=fun x F y=>by kernel_rfl
theorem RY:Km.ok prog 140:=Ctr.of_den (an (aa (ba) (by kernel_rfl) Sc)) aJ (hl:=ak) (d:=4) func140 rfl (by decide) (UC lpK jnK bL)
def jO (lp:Lp) (_:Jn) (x0:List ((List Int)×Int×Int)) (f0:((((List Int)×Int×Int)×Unit)->Option Bool)):Option Int :=
 lp (Int×PUnit) Int (fun (again:Int×PUnit->Option Int) (x:Int×PUnit)=>bif decide (x.1<(↑x0.length:Int)) then bif inB x.1 x0.length then ah (f0 (x0.getD x.1.toNat ([],0,0),PUnit.unit)) fun (t:Bool)=>bif t then some x.1 else again (IntKind.wrap .i64 (x.1+1),PUnit.unit) else none else some (-1)) (0,PUnit.unit)
def cz (x0:List ((List Int)×Int×Int)) (f0:((((List Int)×Int×Int)×Unit)->Option Bool)):Option Int:=jO lpK jnK x0 f0
abbrev P6:=(List ((List Int)×Int×Int))->(((((List Int)×Int×Int)×Unit)->Option Bool))->Option (Int)
def Ti (cz:P6):Ctr:=⟨[(.sl T86)],[([T86],.bool)],[],.one i64,fun x F _=>cz x.1 F.1⟩
def JO:Ctr:=Ti cz
theorem US (lp:Lp) (jn:Jn):∀(x:TsS JO.as) (F:TsF JO.fs) (y:TsS JO.cs),jO lp jn x.1 F.1=bv lp jn (cx [] [(134,a7)]) ak 4 174 f174 JO x F y:=fun x F y=>by kernel_rfl
theorem RX:JO.ok prog 174:=Ctr.of_den (an (ba)) aJ (hl:=ak) (d:=4) func174 rfl (by decide) (US lpK jnK)
def jb (_:Lp) (_:Jn) (cz:P6) (x0:List ((List Int)×Int×Int)) (f0:((((List Int)×Int×Int)×Unit)->Option Bool)):Option Bool :=
 ah (cz x0 f0) fun (t:Int)=>some (decide (t>=0))
def cG (x0:List ((List Int)×Int×Int)) (f0:((((List Int)×Int×Int)×Unit)->Option Bool)):Option Bool:=jb lpK jnK cz x0 f0
def Rv (cG:(List ((List Int)×Int×Int))->(((((List Int)×Int×Int)×Unit)->Option Bool))->Option (Bool)):Ctr:=⟨[(.sl T86)],[([T86],.bool)],[],.one .bool,fun x F _=>cG x.1 F.1⟩
def Jf:Ctr:=Rv cG
theorem Vg (lp:Lp) (jn:Jn) (cz:P6):∀(x:TsS Jf.as) (F:TsF Jf.fs) (y:TsS Jf.cs),jb lp jn cz x.1 F.1=bv lp jn (cx [(174,Ti cz)] [(134,a7)]) ak 4 141 f141 Jf x F y:=fun x F y=>by kernel_rfl
theorem S0:Jf.ok prog 141:=Ctr.of_den (an (aa (ba) (by kernel_rfl) RX)) aJ (hl:=ak) (d:=4) func141 rfl (by decide) (Vg lpK jnK cz)
def lm (lp:Lp) (_:Jn) (a6:Q1) (_:(List ((List Int)×Int×Int))->(((((List Int)×Int×Int)×Unit)->Option Bool))->Option (Bool)) (df:Tv) (x0:(List Int)×List ((List Int)×Int×Int)):Option Bool :=
 
 let v3:Bool:=decide ((↑x0.1.length:Int)<1);
 let v4:Bool:=!v3;
 let v5:Bool:=bif v3 then true else decide ((↑x0.1.length:Int)>12);
 let v6:Bool:=!v4||v4;
 let v7:Bool:=!v5;
 let v8:Bool:=bif v5 then true else decide ((↑x0.2.length:Int)>6);
 let v9:Bool:=!v8;
 let v10:Bool:=!v7||v7;
 let v11:Bool:=!v9||v9;bif v6 then bif v6 then bif v6 then bif v3||v4 then bif v10 then bif v10 then bif v10 then bif v5||v7 then bif v11 then bif v11 then ah (bif v9 then df 1048576 else some fun (_:Int×PUnit)=>none) fun (t:Int×PUnit->Option Bool)=>bif v11&&v11 then ah (bif v9 then a6 x0.1 t else some false) fun (t:Bool)=>bif v8||v9 then bif bif v8 then true else t then some false else lp (Int×PUnit) Bool (fun (again:Int×PUnit->Option Bool) (x:Int×PUnit) =>
 let v16:List Int×Int×Int:=x0.2.getD x.1.toNat ([],0,0);
 let v17:Bool:=decide (v16.2.1<1);
 let v18:Bool:=decide (v16.2.1>3);
 let v19:Bool:=!decide ((↑v16.1.length:Int)=(↑x0.1.length:Int));
 let v20:Bool:=!v19;
 let v21:Bool:=!v20||v20;bif decide (x.1<(↑x0.2.length:Int)) then bif inB x.1 x0.2.length then bif v21 then bif v21 then ah (bif v20 then df 1048576 else some fun (_:Int×PUnit)=>none) fun (t:Int×PUnit->Option Bool)=>bif v21&&v21 then ah (bif v20 then a6 v16.1 t else some false) fun (t:Bool) =>
 let v24:Bool:=bif v19 then true else t;
 let v25:Bool:=!v24;
 let v26:Bool:=bif v24 then true else v17;
 let v27:Bool:=!v26;
 let v28:Bool:=bif v26 then true else v18;
 let v29:Bool:=!v25||v25;
 let v30:Bool:=!v28;
 let v31:Bool:=!v27||v27;
 let v32:Bool:=!v30||v30;bif v19||v20 then bif v29 then bif v29 then bif v24||v25 then bif v31 then bif v31 then bif v26||v27 then bif v32 then ah (bif v30 then df 1073741824 else some fun (_:Int×PUnit)=>none) fun (t:Int×PUnit->Option Bool)=>bif v32 then bif v32&&v32 then ah (bif v30 then t (v16.2.2, PUnit.unit) else some false) fun (t:Bool)=>bif v28||v30 then bif bif v28 then true else t then some !decide (x.1>=0) else again (IntKind.wrap .i64 (x.1+(1 : Int)),PUnit.unit) else none else none else none else none else none else none else none else none else none else none else none else none else none else none else none else some !decide ((-1:Int)>=0)) (0,PUnit.unit) else none else none else none else none else none else none else none else none else none else none else none else none
def bC (x0:(List Int)×List ((List Int)×Int×Int)):Option Bool:=lm lpK jnK a6 cG df x0
abbrev t91:=((List Int)×List ((List Int)×Int×Int))->Option (Bool)
def k91 (bC:t91):Ctr:=⟨[T32],[],[],.one .bool,fun x _ _=>bC x.1⟩
def c91:Ctr:=k91 bC
theorem e91 (lp:Lp) (jn:Jn) (a6:Q1) (cG:(List ((List Int)×Int×Int))->(((((List Int)×Int×Int)×Unit)->Option Bool))->Option (Bool)) (df:Tv):∀(x:TsS c91.as) (F:TsF c91.fs) (y:TsS c91.cs),lm lp jn a6 cG df x.1=bv lp jn (BB DT En (Ru [(138,⟨[i64],[i64],.bool,fun x=>df x.1⟩)] (lu prog shs xX its [(141,Rv cG),(140,TL a6)] [(134,a7)]))) ak 4 91 f91 c91 x F y:=fun x F y=>by kernel_rfl
theorem SA:c91.ok prog 91:=Ctr.of_den (an (MX (aa (aa (ba) (by kernel_rfl) RY) (by kernel_rfl) S0) (Gr (by kernel_rfl) Ql (IL)))) aJ (hl:=ak) (d:=4) func91 rfl (by decide) (e91 lpK jnK a6 cG df)
def iH (lp:Lp) (_:Jn) (x0:List (Int×Int)) (f0:(((Int×Int)×Unit)->Option Bool)):Option Int :=
 lp (Int×PUnit) Int (fun (again:Int×PUnit->Option Int) (x:Int×PUnit)=>bif decide (x.1<(↑x0.length:Int)) then bif inB x.1 x0.length then ah (f0 (x0.getD x.1.toNat (0,0),PUnit.unit)) fun (t:Bool)=>bif t then some x.1 else again (IntKind.wrap .i64 (x.1+1),PUnit.unit) else none else some (-1)) (0,PUnit.unit)
def bZ (x0:List (Int×Int)) (f0:(((Int×Int)×Unit)->Option Bool)):Option Int:=iH lpK jnK x0 f0
abbrev t74:=(List (Int×Int))->((((Int×Int)×Unit)->Option Bool))->Option (Int)
def k74 (bZ:t74):Ctr:=⟨[(.sl T49)],[([T49],.bool)],[],.one i64,fun x F _=>bZ x.1 F.1⟩
def c74:Ctr:=k74 bZ
theorem e74 (lp:Lp) (jn:Jn):∀(x:TsS c74.as) (F:TsF c74.fs) (y:TsS c74.cs),iH lp jn x.1 F.1=bv lp jn (cx [] [(134,a7)]) ak 4 74 f74 c74 x F y:=fun x F y=>by kernel_rfl
theorem VH:c74.ok prog 74:=Ctr.of_den (an (ba)) aJ (hl:=ak) (d:=4) func74 rfl (by decide) (e74 lpK jnK)
def gD (_:Lp) (_:Jn) (bZ:t74) (x0:List (Int×Int)) (f0:(((Int×Int)×Unit)->Option Bool)):Option Bool :=
 ah (bZ x0 f0) fun (t:Int)=>some (decide (t>=0))
def ap (x0:List (Int×Int)) (f0:(((Int×Int)×Unit)->Option Bool)):Option Bool:=gD lpK jnK bZ x0 f0
abbrev t32:=(List (Int×Int))->((((Int×Int)×Unit)->Option Bool))->Option (Bool)
def k32 (ap:t32):Ctr:=⟨[(.sl T49)],[([T49],.bool)],[],.one .bool,fun x F _=>ap x.1 F.1⟩
def c32:Ctr:=k32 ap
theorem e32 (lp:Lp) (jn:Jn) (bZ:t74):∀(x:TsS c32.as) (F:TsF c32.fs) (y:TsS c32.cs),gD lp jn bZ x.1 F.1=bv lp jn (cx [(74,k74 bZ)] [(134,a7)]) ak 4 32 f32 c32 x F y:=fun x F y=>by kernel_rfl
theorem Sk:c32.ok prog 32:=Ctr.of_den (an (aa (ba) (by kernel_rfl) VH)) aJ (hl:=ak) (d:=4) func32 rfl (by decide) (e32 lpK jnK bZ)
def mE (_:Lp) (_:Jn) (aw:t72) (x0:Int×Int):Option Bool :=
 ah (aw x0) fun (t:Bool)=>some !t
def eN (x0:Int×Int):Option Bool:=mE lpK jnK aw x0
abbrev S4:=(Int×Int)->Option (Bool)
def I9:Ctr:=⟨[T49],[],[],.one .bool,fun x _ _=>eN x.1⟩
theorem Vx (lp:Lp) (jn:Jn) (aw:t72):∀(x:TsS I9.as) (F:TsF I9.fs) (y:TsS I9.cs),mE lp jn aw x.1=bv lp jn (cx [(72,k72 aw)] [(134,a7)]) ak 4 143 f143 I9 x F y:=fun x F y=>by kernel_rfl
theorem R9:I9.ok prog 143:=Ctr.of_den (an (aa (ba) (by kernel_rfl) GB)) aJ (hl:=ak) (d:=4) func143 rfl (by decide) (Vx lpK jnK aw)
def pD (_:Lp) (_:Jn) (ap:t32) (eN:S4) (x0:List (Int×Int)):Option Bool :=
 ah (ap x0 fun (x:(Int×Int)×PUnit)=>eN x.1) fun (t:Bool)=>some !t
def fL (x0:List (Int×Int)):Option Bool:=pD lpK jnK ap eN x0
abbrev t92:=(List (Int×Int))->Option (Bool)
def c92:Ctr:=⟨[(.sl T49)],[],[],.one .bool,fun x _ _=>fL x.1⟩
theorem e92 (lp:Lp) (jn:Jn) (ap:t32) (eN:S4):∀(x:TsS c92.as) (F:TsF c92.fs) (y:TsS c92.cs),pD lp jn ap eN x.1=bv lp jn (cx [(143,⟨[T49],[],[],.one .bool,fun x _ _=>eN x.1⟩),(32,k32 ap)] [(134,a7)]) ak 4 92 f92 c92 x F y:=fun x F y=>by kernel_rfl
theorem VM:c92.ok prog 92:=Ctr.of_den (an (aa (aa (ba) (by kernel_rfl) Sk) (by kernel_rfl) R9)) aJ (hl:=ak) (d:=4) func92 rfl (by decide) (e92 lpK jnK ap eN)
def k0 (_:Lp) (_:Jn) (b9:Fb) (x0:Int) (x1:Int):Option (Int×Int) :=
 ah (b9 x0 x1) fun (t:Int×Int×PUnit)=>some (t.1,t.2.1)
def aU (x0:Int) (x1:Int):Option (Int×Int):=k0 lpK jnK b9 x0 x1
abbrev t76:=(Int)->(Int)->Option (Int×Int)
def k76 (aU:t76):Ctr:=⟨[(.int .u64),(.int .u64)],[],[],.one nk,fun x _ _=>aU x.1 x.2.1⟩
def c76:Ctr:=k76 aU
theorem e76 (lp:Lp) (jn:Jn) (b9:Fb):∀(x:TsS c76.as) (F:TsF c76.fs) (y:TsS c76.cs),k0 lp jn b9 x.1 x.2.1=bv lp jn (cx [(122,NL b9)] [(134,a7)]) ak 4 76 f76 c76 x F y:=fun x F y=>by kernel_rfl
theorem Qm:c76.ok prog 76:=Ctr.of_den (an (aa (ba) (by kernel_rfl) L6)) aJ (hl:=ak) (d:=4) func76 rfl (by decide) (e76 lpK jnK b9)
def lJ (_:Lp) (_:Jn) (x0:Int×Int) (x1:Int×Int):Option (Int×Int) :=
 bif decide ((0:Int)<=0)&&decide ((0:Int)<=1) then bif decide (0<=pF x0.2 x1.2 0)&&decide (pF x0.2 x1.2 0<=1) then some (xY x0.1 x1.1 (pF x0.2 x1.2 0),xY x0.2 x1.2 0) else none else none
def fT (x0:Int×Int) (x1:Int×Int):Option (Int×Int):=lJ lpK jnK x0 x1
abbrev t78:=(Int×Int)->(Int×Int)->Option (Int×Int)
def c78:Ctr:=⟨[nk,nk],[],[],.one nk,fun x _ _=>fT x.1 x.2.1⟩
theorem e78 (lp:Lp) (jn:Jn):∀(x:TsS c78.as) (F:TsF c78.fs) (y:TsS c78.cs),lJ lp jn x.1 x.2.1=bv lp jn (cx [] [(134,a7)]) ak 4 78 f78 c78 x F y:=fun x F y=>by kernel_rfl
theorem VP:c78.ok prog 78:=Ctr.of_den (an (ba)) aJ (hl:=ak) (d:=4) func78 rfl (by decide) (e78 lpK jnK)
def oD (_:Lp) (_:Jn) (x0:Int×Int) (x1:Int×Int):Option Bool :=
 
 let v4:Bool:=decide (x0.1=x1.1);
 let v5:Bool:=decide (x0.1<x1.1);
 let v6:Bool:=!v5;
 let v7:Bool:=!v6;
 let v8:Bool:=v6&&v4;
 let v9:Bool:=v7||v6;
 let v10:Bool:=!v8||v8;bif v9 then bif v9 then bif v9&&v9 then bif v9 then bif v10 then bif v10 then bif v10&&v10 then bif (v7||v9)&&(v7||(!v4||(v7||v8))) then bif v5 || v6 then some (bif v5 then true else bif v4 then decide (x0.2<x1.2) else false) else none else none else none else none else none else none else none else none else none
def cU (x0:Int×Int) (x1:Int×Int):Option Bool:=oD lpK jnK x0 x1
abbrev t79:=(Int×Int)->(Int×Int)->Option (Bool)
def k79 (cU:t79):Ctr:=⟨[nk,nk],[],[],.one .bool,fun x _ _=>cU x.1 x.2.1⟩
def c79:Ctr:=k79 cU
theorem e79 (lp:Lp) (jn:Jn):∀(x:TsS c79.as) (F:TsF c79.fs) (y:TsS c79.cs),oD lp jn x.1 x.2.1=bv lp jn (cx [] [(134,a7)]) ak 4 79 f79 c79 x F y:=fun x F y=>by kernel_rfl
theorem RQ:c79.ok prog 79:=Ctr.of_den (an (ba)) aJ (hl:=ak) (d:=4) func79 rfl (by decide) (e79 lpK jnK)
def kH (_:Lp) (_:Jn) (x0:Int×Int) (x1:Int×Int):Option (Int×Int) :=
 bif decide ((0:Int)<=0)&&decide ((0:Int)<=1) then bif decide (0<=nL x0.2 x1.2 0)&&decide (nL x0.2 x1.2 0<=1) then some (ud x0.1 x1.1 (nL x0.2 x1.2 0),ud x0.2 x1.2 0) else none else none
def eO (x0:Int×Int) (x1:Int×Int):Option (Int×Int):=kH lpK jnK x0 x1
abbrev t80:=(Int×Int)->(Int×Int)->Option (Int×Int)
def c80:Ctr:=⟨[nk,nk],[],[],.one nk,fun x _ _=>eO x.1 x.2.1⟩
theorem e80 (lp:Lp) (jn:Jn):∀(x:TsS c80.as) (F:TsF c80.fs) (y:TsS c80.cs),kH lp jn x.1 x.2.1=bv lp jn (cx [] [(134,a7)]) ak 4 80 f80 c80 x F y:=fun x F y=>by kernel_rfl
theorem VL:c80.ok prog 80:=Ctr.of_den (an (ba)) aJ (hl:=ak) (d:=4) func80 rfl (by decide) (e80 lpK jnK)
def tS (_:Lp) (jn:Jn) (x0:Int):Option Int :=
 jn (Int×Int×PUnit) Int (fun (x:Int×Int×PUnit)=>jn (Int×Int×PUnit) Int (fun (x:Int×Int×PUnit) =>
 let v5:Int:=IntKind.wrap IntKind.u8 x.1;
 let v6:Int:=IntKind.wrap IntKind.u8 (Int.fdiv x.1 (2 ^ 8));bif decide (x.1>=256) then bif decide ((0:Int)<=8) then bif inB v6 256 then some (IntKind.wrap .i64 (IntKind.wrap .i64 (x.2.1+8)+IntKind.wrap .i64 (fA { data:=List.toArray (List.append (List.append [(0:UInt8),(1 : UInt8),(2:UInt8),(2:UInt8),(3:UInt8),(3:UInt8),(3:UInt8),(3:UInt8),(4:UInt8),(4:UInt8),(4:UInt8),(4:UInt8),(4:UInt8),(4:UInt8),(4:UInt8),(4 : UInt8),(5:UInt8),(5:UInt8),(5:UInt8),(5:UInt8),(5:UInt8),(5:UInt8),(5:UInt8),(5:UInt8),(5:UInt8),(5:UInt8),(5:UInt8),(5:UInt8),(5:UInt8),(5 : UInt8),(5:UInt8),(5:UInt8),(6:UInt8),(6:UInt8),(6:UInt8),(6:UInt8),(6:UInt8),(6:UInt8),(6:UInt8),(6:UInt8),(6:UInt8),(6:UInt8),(6:UInt8),(6 : UInt8),(6:UInt8),(6:UInt8),(6:UInt8),(6:UInt8),(6:UInt8),(6:UInt8),(6:UInt8),(6:UInt8),(6:UInt8),(6:UInt8),(6:UInt8),(6:UInt8),(6:UInt8),(6 : UInt8),(6:UInt8),(6:UInt8),(6:UInt8),(6:UInt8),(6:UInt8),(6:UInt8)] [(7:UInt8),(7:UInt8),(7:UInt8),(7:UInt8),(7:UInt8),(7:UInt8),(7:UInt8),(7 : UInt8),(7:UInt8),(7:UInt8),(7:UInt8),(7:UInt8),(7:UInt8),(7:UInt8),(7:UInt8),(7:UInt8),(7:UInt8),(7:UInt8),(7:UInt8),(7:UInt8),(7:UInt8),(7 : UInt8),(7:UInt8),(7:UInt8),(7:UInt8),(7:UInt8),(7:UInt8),(7:UInt8),(7:UInt8),(7:UInt8),(7:UInt8),(7:UInt8),(7:UInt8),(7:UInt8),(7:UInt8),(7 : UInt8),(7:UInt8),(7:UInt8),(7:UInt8),(7:UInt8),(7:UInt8),(7:UInt8),(7:UInt8),(7:UInt8),(7:UInt8),(7:UInt8),(7:UInt8),(7:UInt8),(7:UInt8),(7 : UInt8),(7:UInt8),(7:UInt8),(7:UInt8),(7:UInt8),(7:UInt8),(7:UInt8),(7:UInt8),(7:UInt8),(7:UInt8),(7:UInt8),(7:UInt8),(7:UInt8),(7:UInt8),(7 : UInt8)]) (List.append [(8:UInt8),(8:UInt8),(8:UInt8),(8:UInt8),(8:UInt8),(8:UInt8),(8:UInt8),(8:UInt8),(8:UInt8),(8:UInt8),(8:UInt8),(8:UInt8),(8 : UInt8),(8:UInt8),(8:UInt8),(8:UInt8),(8:UInt8),(8:UInt8),(8:UInt8),(8:UInt8),(8:UInt8),(8:UInt8),(8:UInt8),(8:UInt8),(8:UInt8),(8:UInt8),(8 : UInt8),(8:UInt8),(8:UInt8),(8:UInt8),(8:UInt8),(8:UInt8),(8:UInt8),(8:UInt8),(8:UInt8),(8:UInt8),(8:UInt8),(8:UInt8),(8:UInt8),(8:UInt8),(8 : UInt8),(8:UInt8),(8:UInt8),(8:UInt8),(8:UInt8),(8:UInt8),(8:UInt8),(8:UInt8),(8:UInt8),(8:UInt8),(8:UInt8),(8:UInt8),(8:UInt8),(8:UInt8),(8 : UInt8),(8:UInt8),(8:UInt8),(8:UInt8),(8:UInt8),(8:UInt8),(8:UInt8),(8:UInt8),(8:UInt8),(8:UInt8)] [(8:UInt8),(8:UInt8),(8:UInt8),(8:UInt8),(8 : UInt8),(8:UInt8),(8:UInt8),(8:UInt8),(8:UInt8),(8:UInt8),(8:UInt8),(8:UInt8),(8:UInt8),(8:UInt8),(8:UInt8),(8:UInt8),(8:UInt8),(8:UInt8),(8 : UInt8),(8:UInt8),(8:UInt8),(8:UInt8),(8:UInt8),(8:UInt8),(8:UInt8),(8:UInt8),(8:UInt8),(8:UInt8),(8:UInt8),(8:UInt8),(8:UInt8),(8:UInt8),(8 : UInt8),(8:UInt8),(8:UInt8),(8:UInt8),(8:UInt8),(8:UInt8),(8:UInt8),(8:UInt8),(8:UInt8),(8:UInt8),(8:UInt8),(8:UInt8),(8:UInt8),(8:UInt8),(8 : UInt8),(8:UInt8),(8:UInt8),(8:UInt8),(8:UInt8),(8:UInt8),(8:UInt8),(8:UInt8),(8:UInt8),(8:UInt8),(8:UInt8),(8:UInt8),(8:UInt8),(8:UInt8),(8 : UInt8),(8:UInt8),(8:UInt8),(8:UInt8)])) } v6.toNat))) else none else none else bif inB v5 256 then some (IntKind.wrap .i64 (x.2.1+IntKind.wrap IntKind.i64 (fA { data:=List.toArray (List.append (List.append [(0:UInt8),(1:UInt8),(2:UInt8),(2:UInt8),(3:UInt8),(3:UInt8),(3:UInt8),(3:UInt8),(4 : UInt8),(4:UInt8),(4:UInt8),(4:UInt8),(4:UInt8),(4:UInt8),(4:UInt8),(4:UInt8),(5:UInt8),(5:UInt8),(5:UInt8),(5:UInt8),(5:UInt8),(5:UInt8),(5 : UInt8),(5:UInt8),(5:UInt8),(5:UInt8),(5:UInt8),(5:UInt8),(5:UInt8),(5:UInt8),(5:UInt8),(5:UInt8),(6:UInt8),(6:UInt8),(6:UInt8),(6:UInt8),(6 : UInt8),(6:UInt8),(6:UInt8),(6:UInt8),(6:UInt8),(6:UInt8),(6:UInt8),(6:UInt8),(6:UInt8),(6:UInt8),(6:UInt8),(6:UInt8),(6:UInt8),(6:UInt8),(6 : UInt8),(6:UInt8),(6:UInt8),(6:UInt8),(6:UInt8),(6:UInt8),(6:UInt8),(6:UInt8),(6:UInt8),(6:UInt8),(6:UInt8),(6:UInt8),(6:UInt8),(6:UInt8)] [(7 : UInt8),(7:UInt8),(7:UInt8),(7:UInt8),(7:UInt8),(7:UInt8),(7:UInt8),(7:UInt8),(7:UInt8),(7:UInt8),(7:UInt8),(7:UInt8),(7:UInt8),(7:UInt8),(7 : UInt8),(7:UInt8),(7:UInt8),(7:UInt8),(7:UInt8),(7:UInt8),(7:UInt8),(7:UInt8),(7:UInt8),(7:UInt8),(7:UInt8),(7:UInt8),(7:UInt8),(7:UInt8),(7 : UInt8),(7:UInt8),(7:UInt8),(7:UInt8),(7:UInt8),(7:UInt8),(7:UInt8),(7:UInt8),(7:UInt8),(7:UInt8),(7:UInt8),(7:UInt8),(7:UInt8),(7:UInt8),(7 : UInt8),(7:UInt8),(7:UInt8),(7:UInt8),(7:UInt8),(7:UInt8),(7:UInt8),(7:UInt8),(7:UInt8),(7:UInt8),(7:UInt8),(7:UInt8),(7:UInt8),(7:UInt8),(7 : UInt8),(7:UInt8),(7:UInt8),(7:UInt8),(7:UInt8),(7:UInt8),(7:UInt8),(7:UInt8)]) (List.append [(8:UInt8),(8:UInt8),(8:UInt8),(8:UInt8),(8:UInt8),(8 : UInt8),(8:UInt8),(8:UInt8),(8:UInt8),(8:UInt8),(8:UInt8),(8:UInt8),(8:UInt8),(8:UInt8),(8:UInt8),(8:UInt8),(8:UInt8),(8:UInt8),(8:UInt8),(8 : UInt8),(8:UInt8),(8:UInt8),(8:UInt8),(8:UInt8),(8:UInt8),(8:UInt8),(8:UInt8),(8:UInt8),(8:UInt8),(8:UInt8),(8:UInt8),(8:UInt8),(8:UInt8),(8 : UInt8),(8:UInt8),(8:UInt8),(8:UInt8),(8:UInt8),(8:UInt8),(8:UInt8),(8:UInt8),(8:UInt8),(8:UInt8),(8:UInt8),(8:UInt8),(8:UInt8),(8:UInt8),(8 : UInt8),(8:UInt8),(8:UInt8),(8:UInt8),(8:UInt8),(8:UInt8),(8:UInt8),(8:UInt8),(8:UInt8),(8:UInt8),(8:UInt8),(8:UInt8),(8:UInt8),(8:UInt8),(8 : UInt8),(8:UInt8),(8:UInt8)] [(8:UInt8),(8:UInt8),(8:UInt8),(8:UInt8),(8:UInt8),(8:UInt8),(8:UInt8),(8:UInt8),(8:UInt8),(8:UInt8),(8:UInt8),(8 : UInt8),(8:UInt8),(8:UInt8),(8:UInt8),(8:UInt8),(8:UInt8),(8:UInt8),(8:UInt8),(8:UInt8),(8:UInt8),(8:UInt8),(8:UInt8),(8:UInt8),(8:UInt8),(8 : UInt8),(8:UInt8),(8:UInt8),(8:UInt8),(8:UInt8),(8:UInt8),(8:UInt8),(8:UInt8),(8:UInt8),(8:UInt8),(8:UInt8),(8:UInt8),(8:UInt8),(8:UInt8),(8 : UInt8),(8:UInt8),(8:UInt8),(8:UInt8),(8:UInt8),(8:UInt8),(8:UInt8),(8:UInt8),(8:UInt8),(8:UInt8),(8:UInt8),(8:UInt8),(8:UInt8),(8:UInt8),(8 : UInt8),(8:UInt8),(8:UInt8),(8:UInt8),(8:UInt8),(8:UInt8),(8:UInt8),(8:UInt8),(8:UInt8),(8:UInt8),(8:UInt8)])) } v5.toNat))) else none) fun (j:Int × Int×PUnit->Option Int)=>bif decide (x.1>=65536) then bif decide ((0:Int)<=16) then j (Int.fdiv x.1 (2 ^ 16),IntKind.wrap .i64 (x.2.1+16),PUnit.unit) else none else j (x.1,x.2.1,PUnit.unit)) fun (j:Int×Int×PUnit->Option Int)=>bif decide (x0>=4294967296) then bif decide (0<=32) then j (Int.fdiv x0 (2 ^ 32),32,PUnit.unit) else none else j (x0,0,PUnit.unit)
def gB (x0:Int):Option Int:=tS lpK jnK x0
abbrev Ry:=(Int)->Option (Int)
def KD:Ctr:=⟨[(.int .u64)],[],[],.one i64,fun x _ _=>gB x.1⟩
theorem Ua (lp:Lp) (jn:Jn):∀(x:TsS KD.as) (F:TsF KD.fs) (y:TsS KD.cs),tS lp jn x.1=bv lp jn (cx [] [(134,a7)]) ak 4 181 f181 KD x F y:=fun x F y=>by kernel_rfl
theorem SS:KD.ok prog 181:=Ctr.of_den (an (ba)) aJ (hl:=ak) (d:=4) func181 rfl (by decide) (Ua lpK jnK)
def iG (_:Lp) (_:Jn) (gB:Ry) (x0:Int):Option Int :=
 ah (gB x0) fun (t:Int)=>some (IntKind.wrap .i64 (64 - t))
def cQ (x0:Int):Option Int:=iG lpK jnK gB x0
abbrev Sl:=(Int)->Option (Int)
def Mn:Ctr:=⟨[(.int .u64)],[],[],.one i64,fun x _ _=>cQ x.1⟩
theorem T9 (lp:Lp) (jn:Jn) (gB:Ry):∀(x:TsS Mn.as) (F:TsF Mn.fs) (y:TsS Mn.cs),iG lp jn gB x.1=bv lp jn (cx [(181,⟨[(.int .u64)],[],[],.one i64,fun x _ _=>gB x.1⟩)] [(134,a7)]) ak 4 165 f165 Mn x F y:=fun x F y=>by kernel_rfl
theorem TO:Mn.ok prog 165:=Ctr.of_den (an (aa (ba) (by kernel_rfl) SS)) aJ (hl:=ak) (d:=4) func165 rfl (by decide) (T9 lpK jnK gB)
def pb (lp:Lp) (jn:Jn) (cQ:Sl) (x0:Int) (x1:Int) (x2:Int):Option (Int×Int×Unit) :=
 
 let v5:Bool:=nzB x2;
 let v6:Int:=2 ^ 32;
 let v7:Bool:=decide ((0:Int)<=32);jn PUnit (Int×Int×PUnit) (fun (_:PUnit)=>jn PUnit (Int×Int×PUnit) (fun (_:PUnit)=>bif decide (x0=0) then bif v5 then bif v5 then some (IntKind.wrap .u64 (Int.tdiv x1 x2),Int.tmod x1 x2,PUnit.unit) else none else none else ah (cQ x2) fun (t:Int) =>
 let v11:Int:=IntKind.wrap .u64 t;
 let v12:Bool:=decide (0<=v11);
 let v13:Int:=2 ^ min v11.toNat 64;
 let v14:Int:=IntKind.wrap .u64 (x2*v13);
 let v15:Int:=IntKind.wrap .u64 (x1*v13);
 let v16:Int:=Int.fdiv v14 v6;
 let v17:Int:=Int.fdiv v15 v6;
 let v18:Bool:=nzB v16;
 let v19:Int:=IntKind.wrap .u64 (↑(Nat.land (Int.toNat (v15 % Int.ofNat 18446744073709551616)) (Int.toNat (4294967295 % Int.ofNat 18446744073709551616))) : Int);
 let v20:Int:=IntKind.wrap .u64 (↑(Nat.land (Int.toNat (v14 % Int.ofNat 18446744073709551616)) (Int.toNat (4294967295 % Int.ofNat 18446744073709551616))) : Int);
 let v21:Int:=IntKind.wrap .u64 (↑(Nat.lor (Int.toNat (IntKind.wrap .u64 (x0*v13) % Int.ofNat 18446744073709551616)) (Int.toNat (Int.fdiv x1 (2 ^ min (Int.toNat (IntKind.wrap .u64 (64 - v11))) 64) % Int.ofNat 18446744073709551616))):Int);
 let v22:Int:=IntKind.wrap .u64 (Int.tdiv v21 v16);bif v12 then bif v7 then bif v12 then bif decide (0<=IntKind.wrap .u64 (64 - v11)) then bif v12 then bif v7 then bif v18 then jn (Int×PUnit) (Int×Int×PUnit) (fun (x:Int×PUnit) =>
 let v24:Int:=IntKind.wrap .u64 (IntKind.wrap .u64 (IntKind.wrap .u64 (v21*4294967296)+v17) - IntKind.wrap .u64 (x.1*v14));
 let v25:Int:=IntKind.wrap .u64 (Int.tdiv v24 v16);bif v18 then jn (Int×PUnit) (Int×Int×PUnit) (fun (x_1:Int×PUnit)=>bif v12 then some (IntKind.wrap .u64 (IntKind.wrap .u64 (x.1*4294967296)+x_1.1),Int.fdiv (IntKind.wrap .u64 (IntKind.wrap .u64 (IntKind.wrap .u64 (v24*4294967296) + v19) - IntKind.wrap .u64 (x_1.1*v14))) v13,PUnit.unit) else none) fun (j:Int×PUnit->Option (Int×Int×PUnit))=>lp (Int×Int×PUnit) (Int×Int×PUnit) (fun (again:Int×Int×PUnit->Option (Int×Int×PUnit)) (x:Int×Int×PUnit) =>
 let v29:Int×PUnit:=(IntKind.wrap .u64 (x.2.1 - 1),PUnit.unit);
 let v30:Bool:=decide (x.2.1>=4294967296);
 let v31:Bool:=!v30;
 let v32:Bool:=!v31||v31;
 let v33:Bool:=v32&&v32;bif v33 then bif v32 then bif v33 then bif v33 then bif v30||v31 then bif bif v30 then true else decide (IntKind.wrap .u64 (x.2.1*v20) > IntKind.wrap .u64 (IntKind.wrap .u64 (4294967296*x.1)+v19)) then bif decide (IntKind.wrap .u64 (x.1+v16)>=4294967296) then j v29 else again (IntKind.wrap .u64 (x.1+v16),v29) else j (x.2.1,PUnit.unit) else none else none else none else none else none) (IntKind.wrap .u64 (v24 - IntKind.wrap IntKind.u64 (v25*v16)),v25,PUnit.unit) else none) fun (j:Int×PUnit->Option (Int×Int×PUnit))=>lp (Int×Int×PUnit) (Int×Int×PUnit) (fun (again:Int×Int×PUnit -> Option (Int×Int×PUnit)) (x:Int×Int×PUnit) =>
 let v26:Int:=IntKind.wrap .u64 (x.1 - 1);
 let v27:Bool:=decide (x.1>=4294967296);
 let v28:Bool:=!v27;
 let v29:Bool:=!v28||v28;
 let v30:Bool:=v29&&v29;bif v30 then bif v29 then bif v30 then bif v30 then bif v27||v28 then bif bif v27 then true else decide (IntKind.wrap .u64 (x.1*v20) > IntKind.wrap .u64 (IntKind.wrap .u64 (4294967296*x.2.1)+v17)) then bif decide (IntKind.wrap .u64 (x.2.1+v16)>=4294967296) then j (v26,PUnit.unit) else again (v26,IntKind.wrap .u64 (x.2.1+v16),PUnit.unit) else j (x.1,PUnit.unit) else none else none else none else none else none) (v22, IntKind.wrap .u64 (v21 - IntKind.wrap .u64 (v22*v16)),PUnit.unit) else none else none else none else none else none else none else none) fun (j:PUnit->Option (Int × Int×PUnit))=>bif decide (x2<=x0) then none else j PUnit.unit) fun (j:PUnit->Option (Int×Int×PUnit))=>bif decide (x2=0) then none else j PUnit.unit
def de (x0:Int) (x1:Int) (x2:Int):Option (Int×Int×Unit):=pb lpK jnK cQ x0 x1 x2
abbrev IJ:=(Int)->(Int)->(Int)->Option (Int×Int×Unit)
def Qg (de:IJ):Ctr:=⟨[(.int .u64),(.int .u64),(.int .u64)],[],[],.tup [(.int .u64),(.int .u64)],fun x _ _=>de x.1 x.2.1 x.2.2.1⟩
def Kk:Ctr:=Qg de
theorem Vt (lp:Lp) (jn:Jn) (cQ:Sl):∀(x:TsS Kk.as) (F:TsF Kk.fs) (y:TsS Kk.cs),pb lp jn cQ x.1 x.2.1 x.2.2.1=bv lp jn (cx [(165,⟨[(.int .u64)],[],[],.one i64,fun x _ _=>cQ x.1⟩)] [(134,a7)]) ak 4 125 f125 Kk x F y:=fun x F y=>by kernel_rfl
theorem Pt:Kk.ok prog 125:=Ctr.of_den (an (aa (ba) (by kernel_rfl) TO)) aJ (hl:=ak) (d:=4) func125 rfl (by decide) (Vt lpK jnK cQ)
def oO (_:Lp) (_:Jn) (de:IJ) (x0:Int×Int) (x1:Int):Option ((Int×Int)×Int×Unit) :=
 
 let v4:Bool:=nzB x1;bif v4 then ah (de (Int.tmod x0.1 x1) x0.2 x1) fun (t:Int×Int×PUnit)=>bif v4 then some ((IntKind.wrap .u64 (Int.tdiv x0.1 x1), t.1),t.2.1,PUnit.unit) else none else none
def eg (x0:Int×Int) (x1:Int):Option ((Int×Int)×Int×Unit):=oO lpK jnK de x0 x1
abbrev t81:=(Int×Int)->(Int)->Option ((Int×Int)×Int×Unit)
def k81 (eg:t81):Ctr:=⟨[nk,(.int .u64)],[],[],.tup [nk,(.int .u64)],fun x _ _=>eg x.1 x.2.1⟩
def c81:Ctr:=k81 eg
theorem e81 (lp:Lp) (jn:Jn) (de:IJ):∀(x:TsS c81.as) (F:TsF c81.fs) (y:TsS c81.cs),oO lp jn de x.1 x.2.1=bv lp jn (cx [(125,Qg de)] [(134,a7)]) ak 4 81 f81 c81 x F y:=fun x F y=>by kernel_rfl
theorem Uj:c81.ok prog 81:=Ctr.of_den (an (aa (ba) (by kernel_rfl) Pt)) aJ (hl:=ak) (d:=4) func81 rfl (by decide) (e81 lpK jnK de)
def mf (_:Lp) (_:Jn) (x0:Bool) (x1:Int) (x2:Int):Option ((Int×Int)×Int×Unit) :=
 
 let v5:Int:=IntKind.wrap .i64 x1;
 let v6:Int:=IntKind.wrap .i64 x2;
 let v7:Bool:=decide (x1>1152921504606846976);
 let v8:Bool:=!v7;bif !v8||v8 then bif v7||v8 then bif bif v7 then true else decide (x2>1152921504606846976) then some ((0,0),5,PUnit.unit) else bif x0 then some ((IntKind.wrap .i64 (0 - v5),v6),0,PUnit.unit) else some ((v5,v6),0,PUnit.unit) else none else none
def bh (x0:Bool) (x1:Int) (x2:Int):Option ((Int×Int)×Int×Unit):=mf lpK jnK x0 x1 x2
abbrev t82:=(Bool)->(Int)->(Int)->Option ((Int×Int)×Int×Unit)
def k82 (bh:t82):Ctr:=⟨[.bool,(.int .u64),(.int .u64)],[],[],.tup [T49,i64],fun x _ _=>bh x.1 x.2.1 x.2.2.1⟩
def c82:Ctr:=k82 bh
theorem e82 (lp:Lp) (jn:Jn):∀(x:TsS c82.as) (F:TsF c82.fs) (y:TsS c82.cs),mf lp jn x.1 x.2.1 x.2.2.1=bv lp jn (cx [] [(134,a7)]) ak 4 82 f82 c82 x F y:=fun x F y=>by kernel_rfl
theorem P8:c82.ok prog 82:=Ctr.of_den (an (ba)) aJ (hl:=ak) (d:=4) func82 rfl (by decide) (e82 lpK jnK)
def pU (_:Lp) (jn:Jn) (bA:t75) (aM:t77) (aw:t72) (aU:t76) (fT:t78) (cU:t79) (eO:t80) (eg:t81) (bh:t82) (x0:Int×Int) (x1:Int×Int):Option ((Int×Int)×Int×Unit) :=
 
 let v4:Int:=IntKind.wrap .u64 x0.2;
 let v5:Int:=IntKind.wrap .u64 x1.2;
 let v6:Bool:=decide (x0.1<0);ah (aw x0) fun (t:Bool) =>
 let v8:Bool:=!t;
 let v9:Bool:=!v8;
 let v10:Bool:=!v9||v9;bif v10 then ah (bif v9 then aw x1 else some false) fun (t:Bool)=>bif v10 then bif v8||v9 then bif bif v8 then true else !t then some (((0 : Int),0),1,PUnit.unit) else ah (bA v4 v5) fun (t:Int) =>
 let v13:Bool:=nzB t;
 let v14:Int:=IntKind.wrap .u64 (Int.tdiv v4 t);ah (aM x0.1) fun (t_1:Int)=>bif v13 then ah (aU t_1 (IntKind.wrap .u64 (Int.tdiv v5 t))) fun (t_2:Int×Int)=>ah (aM x1.1) fun (t_3:Int)=>bif v13 then ah (aU t_3 v14) fun (t_4:Int×Int)=>jn (Bool×(Int×Int)×PUnit) ((Int×Int) × Int×PUnit) (fun (x:Bool×(Int×Int)×PUnit)=>bif decide (x.2.1.1=0)&&(decide (x.2.1.2=0)&&true) then some ((0,1),(0 : Int),PUnit.unit) else ah (eg x.2.1 t) fun (t_5:(Int×Int)×Int×PUnit)=>ah (bA t t_5.2.1) fun (t:Int)=>ah (eg x.2.1 t) fun (t_6 : (Int×Int)×Int×PUnit) =>
 let v23:Bool:=decide (t_6.1.1>0);
 let v24:Bool:=!v23;
 let v25:Bool:=!v24||v24;bif v13 then bif nzB t then ah (aU v14 (IntKind.wrap .u64 (Int.tdiv v5 t))) fun (t:Int×Int)=>bif v25 then bif v25 then bif v23 || v24 then bif bif v23 then true else decide (t.1>0) then some ((0,0),5,PUnit.unit) else ah (bh x.1 t_6.1.2 t.2) fun (t:(Int × Int)×Int×PUnit)=>some (t.1,t.2.1,PUnit.unit) else none else none else none else none else none) fun (j:Bool×(Int×Int)×PUnit->Option ((Int×Int)×Int×PUnit)) =>bif decide (v6=decide (x1.1<0)) then ah (fT t_2 t_4) fun (t:Int×Int)=>j (v6,t,PUnit.unit) else ah (cU t_2 t_4) fun (t:Bool)=>jn (Bool × (Int×Int)×PUnit) ((Int×Int)×Int×PUnit) (fun (x:Bool×(Int×Int)×PUnit)=>j (x.1,x.2.1,PUnit.unit)) fun (j:Bool×(Int×Int)×PUnit->Option ((Int×Int) × Int×PUnit))=>bif t then ah (eO t_4 t_2) fun (t:Int×Int)=>j (!v6,t,PUnit.unit) else ah (eO t_2 t_4) fun (t:Int×Int)=>j (v6,t,PUnit.unit) else none else none else none else none else none
def bU (x0:Int×Int) (x1:Int×Int):Option ((Int×Int)×Int×Unit):=pU lpK jnK bA aM aw aU fT cU eO eg bh x0 x1
abbrev t35:=(Int×Int)->(Int×Int)->Option ((Int×Int)×Int×Unit)
def k35 (bU:t35):Ctr:=⟨[T49,T49],[],[],.tup [T49,i64],fun x _ _=>bU x.1 x.2.1⟩
def c35:Ctr:=k35 bU
theorem e35 (lp:Lp) (jn:Jn) (bA:t75) (aM:t77) (aw:t72) (aU:t76) (fT:t78) (cU:t79) (eO:t80) (eg:t81) (bh:t82):∀(x:TsS c35.as) (F:TsF c35.fs) (y:TsS c35.cs),pU lp jn bA aM aw aU fT cU eO eg bh x.1 x.2.1=bv lp jn (cx [(82,k82 bh),(81,k81 eg),(80,⟨[nk,nk],[],[],.one nk,fun x _ _=>eO x.1 x.2.1⟩),(79,k79 cU),(78,⟨[nk,nk],[],[],.one nk,fun x _ _=>fT x.1 x.2.1⟩),(76,k76 aU),(72,k72 aw),(77,k77 aM),(75,k75 bA)] [(134,a7)]) ak 4 35 f35 c35 x F y:=fun x F y=>by kernel_rfl
theorem Te:c35.ok prog 35:=Ctr.of_den (an (aa (aa (aa (aa (aa (aa (aa (aa (aa (ba) (by kernel_rfl) O0) (by kernel_rfl) It) (by kernel_rfl) GB) (by kernel_rfl) Qm) (by kernel_rfl) VP) (by kernel_rfl) RQ) (by kernel_rfl) VL) (by kernel_rfl) Uj) (by kernel_rfl) P8)) aJ (hl:=ak) (d:=4) func35 rfl (by decide) (e35 lpK jnK bA aM aw aU fT cU eO eg bh)
def vt (_:Lp) (_:Jn) (bA:t75) (aM:t77) (aw:t72) (aU:t76) (bh:t82) (x0:Int×Int) (x1:Int×Int):Option ((Int×Int)×Int×Unit) :=
 
 let v4:Int:=IntKind.wrap .u64 x1.2;
 let v5:Int:=IntKind.wrap .u64 x0.2;ah (aw x0) fun (t:Bool) =>
 let v7:Bool:=!t;
 let v8:Bool:=!v7;
 let v9:Bool:=!v8||v8;bif v9 then ah (bif v8 then aw x1 else some false) fun (t:Bool)=>bif v9 then bif v7||v8 then bif bif v7 then true else !t then some (((0 : Int),0),1,PUnit.unit) else ah (aM x0.1) fun (t:Int)=>ah (bA t v4) fun (t:Int) =>
 let v13:Bool:=nzB t;ah (aM x1.1) fun (t_1:Int)=>ah (bA t_1 v5) fun (t_2:Int) =>
 let v16:Bool:=nzB t_2;ah (aM x0.1) fun (t_3:Int)=>bif v13 then ah (aM x1.1) fun (t_4:Int)=>bif v16 then ah (aU (IntKind.wrap IntKind.u64 (Int.tdiv t_3 t)) (IntKind.wrap .u64 (Int.tdiv t_4 t_2))) fun (t_5:Int×Int) =>
 let v20:Bool:=decide (t_5.1>0);
 let v21:Bool:=decide (t_5.2>0);
 let v22:Bool:=!v20;
 let v23:Bool:=!v21||v21;
 let v24:Bool:=!v22||v22;bif v16 then bif v13 then ah (aU (IntKind.wrap .u64 (Int.tdiv v5 t_2)) (IntKind.wrap .u64 (Int.tdiv v4 t))) fun (t:Int×Int) =>bif v24 then bif v24 then bif v20||v22 then bif bif v20 then true else decide (t.1>0) then some ((0,0),5,PUnit.unit) else bif v23 then bif v23 then bif v23 then bif v23 then bif v23&&v23 then bif v23 then ah (bh (bif v21 then !decide (decide (x0.1<0)=decide (x1.1<0)) else false) t_5.2 t.2) fun (t:(Int×Int)×Int×PUnit)=>some (t.1,t.2.1,PUnit.unit) else none else none else none else none else none else none else none else none else none else none else none else none else none else none else none else none
def fP (x0:Int×Int) (x1:Int×Int):Option ((Int×Int)×Int×Unit):=vt lpK jnK bA aM aw aU bh x0 x1
abbrev Oe:=(Int×Int)->(Int×Int)->Option ((Int×Int)×Int×Unit)
def SB (fP:Oe):Ctr:=⟨[T49,T49],[],[],.tup [T49,i64],fun x _ _=>fP x.1 x.2.1⟩
def LC:Ctr:=SB fP
theorem VS (lp:Lp) (jn:Jn) (bA:t75) (aM:t77) (aw:t72) (aU:t76) (bh:t82):∀(x:TsS LC.as) (F:TsF LC.fs) (y:TsS LC.cs),vt lp jn bA aM aw aU bh x.1 x.2.1=bv lp jn (cx [(82,k82 bh),(76,k76 aU),(72,k72 aw),(77,k77 aM),(75,k75 bA)] [(134,a7)]) ak 4 146 f146 LC x F y:=fun x F y=>by kernel_rfl
theorem TP:LC.ok prog 146:=Ctr.of_den (an (aa (aa (aa (aa (aa (ba) (by kernel_rfl) O0) (by kernel_rfl) It) (by kernel_rfl) GB) (by kernel_rfl) Qm) (by kernel_rfl) P8)) aJ (hl:=ak) (d:=4) func146 rfl (by decide) (VS lpK jnK bA aM aw aU bh)
def mQ (lp:Lp) (jn:Jn) (bU:t35) (fP:Oe) (x0:Int) (x1:List Int) (x2:List (Int×Int)):Option (Int×(Int×Int)) :=
 lp (Int×Int×(Int×Int)×(Int×Int)×PUnit) (Int×Int×Int) (fun (again:Int×Int×(Int×Int)×(Int×Int)×PUnit->Option (Int×Int×Int)) (x:Int×Int×(Int×Int) × (Int×Int)×PUnit)=>bif decide (x.1<(↑x1.length:Int)) then bif inB x.1 x1.length then bif inB x.1 x2.length then ah (fP (x1.getD x.1.toNat 0,1) (x2.getD x.1.toNat (0,0))) fun (t:(Int×Int)×Int×PUnit)=>jn (Int×(Int×Int)×PUnit) (Int×Int×Int) (fun (x_1:Int×(Int×Int)×PUnit)=>bif !decide (x_1.1=0) then some (x_1.1,0,1) else again (IntKind.wrap .i64 (x.1+1), x.2.1,x.2.2.1,x_1.2.1,PUnit.unit)) fun (j:Int×(Int×Int)×PUnit->Option (Int×Int×Int))=>bif decide (t.2.1=0) then ah (bU x.2.2.2.1 t.1) fun (t:(Int×Int)×Int×PUnit)=>j (t.2.1,t.1,PUnit.unit) else j (t.2.1,t.1,PUnit.unit) else none else none else some (x.2.1, x.2.2.2.1)) (0,x0,(0,0),(0,1),PUnit.unit)
def di (x0:Int) (x1:List Int) (x2:List (Int×Int)):Option (Int×(Int×Int)):=mQ lpK jnK bU fP x0 x1 x2
abbrev t95:=(Int)->(List Int)->(List (Int×Int))->Option (Int×(Int×Int))
def k95 (di:t95):MCtr:=⟨Qz,[(.sl i64),(.sl T49)],.one T49,fun x y=>di x y.1 y.2.1⟩
def m95:MCtr:=k95 di
theorem e95 (lp:Lp) (jn:Jn) (bU:t35) (fP:Oe):∀(x:m95.s.T) (y:TsS m95.as),mQ lp jn bU fP x y.1 y.2.1=Qj lp jn (cx [(146,SB fP),(35,k35 bU)] [(134,a7)]) ak 4 95 f95 m95 x y:=fun x y=>by kernel_rfl
theorem UW:m95.ok prog 95:=MCtr.of_den (an (aa (aa (ba) (by kernel_rfl) Te) (by kernel_rfl) TP)) aJ (hl:=ak) (d:=4) func95 rfl (by decide) rfl (e95 lpK jnK bU fP)
def vA (_:Lp) (jn:Jn) (aM:t77) (aw:t72) (aU:t76) (cU:t79) (x0:Int×Int) (x1:Int×Int):Option (Int×Int×Unit) :=
 
 let v4:Bool:=decide (x0.1<0);ah (aw x0) fun (t:Bool) =>
 let v6:Bool:=!t;
 let v7:Bool:=!v6;
 let v8:Bool:=!v7||v7;bif v8 then ah (bif v7 then aw x1 else some false) fun (t:Bool)=>bif v8 then bif v6||v7 then bif bif v6 then true else !t then some ((0 : Int),1,PUnit.unit) else ah (aM x0.1) fun (t:Int)=>ah (aU t (IntKind.wrap .u64 x1.2)) fun (t:Int×Int)=>ah (aM x1.1) fun (t_1:Int)=>ah (aU t_1 (IntKind.wrap .u64 x0.2)) fun (t_2:Int×Int)=>bif !decide (v4=decide (x1.1<0)) then bif v4 then some ((-1), 0,PUnit.unit) else some (1,0,PUnit.unit) else jn ((Int×Int)×(Int×Int)×PUnit) (Int×Int×PUnit) (fun (x:(Int×Int)×(Int×Int)×PUnit)=>ah (cU x.1 x.2.1) fun (t:Bool)=>bif t then some ((-1),0,PUnit.unit) else ah (cU x.2.1 x.1) fun (t:Bool)=>bif t then some (1, 0,PUnit.unit) else some (0,0,PUnit.unit)) fun (j:(Int×Int)×(Int×Int)×PUnit->Option (Int×Int×PUnit))=>bif v4 then j (t_2,t,PUnit.unit) else j (t,t_2,PUnit.unit) else none else none else none
def eu (x0:Int×Int) (x1:Int×Int):Option (Int×Int×Unit):=vA lpK jnK aM aw aU cU x0 x1
abbrev t39:=(Int×Int)->(Int×Int)->Option (Int×Int×Unit)
def k39 (eu:t39):Ctr:=⟨[T49,T49],[],[],.tup [i64,i64],fun x _ _=>eu x.1 x.2.1⟩
def c39:Ctr:=k39 eu
theorem e39 (lp:Lp) (jn:Jn) (aM:t77) (aw:t72) (aU:t76) (cU:t79):∀(x:TsS c39.as) (F:TsF c39.fs) (y:TsS c39.cs),vA lp jn aM aw aU cU x.1 x.2.1=bv lp jn (cx [(79,k79 cU),(76,k76 aU),(72,k72 aw),(77,k77 aM)] [(134,a7)]) ak 4 39 f39 c39 x F y:=fun x F y=>by kernel_rfl
theorem Vy:c39.ok prog 39:=Ctr.of_den (an (aa (aa (aa (aa (ba) (by kernel_rfl) It) (by kernel_rfl) GB) (by kernel_rfl) Qm) (by kernel_rfl) RQ)) aJ (hl:=ak) (d:=4) func39 rfl (by decide) (e39 lpK jnK aM aw aU cU)
def rU (_:Lp) (_:Jn) (eu:t39) (x0:Int×Int) (x1:Int):Option Int :=
 ah (eu x0 (x1,1)) fun (t:Int×Int×PUnit)=>some t.1
def gW (x0:Int×Int) (x1:Int):Option Int:=rU lpK jnK eu x0 x1
abbrev Td:=(Int×Int)->(Int)->Option (Int)
def JE:Ctr:=⟨[T49,i64],[],[],.one i64,fun x _ _=>gW x.1 x.2.1⟩
theorem UT (lp:Lp) (jn:Jn) (eu:t39):∀(x:TsS JE.as) (F:TsF JE.fs) (y:TsS JE.cs),rU lp jn eu x.1 x.2.1=bv lp jn (cx [(39,k39 eu)] [(134,a7)]) ak 4 144 f144 JE x F y:=fun x F y=>by kernel_rfl
theorem SG:JE.ok prog 144:=Ctr.of_den (an (aa (ba) (by kernel_rfl) Vy)) aJ (hl:=ak) (d:=4) func144 rfl (by decide) (UT lpK jnK eu)
def nG (lp:Lp) (_:Jn) (x0:(List Int)×List ((List Int)×Int×Int)) (x1:Int):Option (List Int) :=
 lp (List Int×Int×PUnit) (List Int) (fun (again:List Int×Int×PUnit->Option (List Int)) (x:List Int×Int×PUnit)=>bif decide (x.2.1<(↑x0.2.length:Int)) then bif inB x.2.1 x0.2.length then bif inB x1 (List.length (x0.2.getD x.2.1.toNat ([],0,0)).1) then bif eh (List.length x.1+(1 : Nat)) 8 then again (x.1++[List.getD (x0.2.getD x.2.1.toNat ([],0,0)).1 x1.toNat 0],IntKind.wrap .i64 (x.2.1 + 1),PUnit.unit) else none else none else none else some x.1) ([],0,PUnit.unit)
def fi (x0:(List Int)×List ((List Int)×Int×Int)) (x1:Int):Option (List Int):=nG lpK jnK x0 x1
abbrev Ts:=((List Int)×List ((List Int)×Int×Int))->(Int)->Option (List Int)
def IK:Ctr:=⟨[T32,i64],[],[],.one (.sl i64),fun x _ _=>fi x.1 x.2.1⟩
theorem U9 (lp:Lp) (jn:Jn):∀(x:TsS IK.as) (F:TsF IK.fs) (y:TsS IK.cs),nG lp jn x.1 x.2.1=bv lp jn (cx [] [(134,a7)]) ak 4 145 f145 IK x F y:=fun x F y=>by kernel_rfl
theorem Rx:IK.ok prog 145:=Ctr.of_den (an (ba)) aJ (hl:=ak) (d:=4) func145 rfl (by decide) (U9 lpK jnK)
def ls (_:Lp) (_:Jn) (_:Int):Option Int :=
 some 0
def dN (x0:Int):Option Int:=ls lpK jnK x0
abbrev t94:=(Int)->Option (Int)
def c94:Ctr:=⟨[i64],[],[],.one i64,fun x _ _=>dN x.1⟩
theorem e94 (lp:Lp) (jn:Jn):∀(x:TsS c94.as) (F:TsF c94.fs) (y:TsS c94.cs),ls lp jn x.1=bv lp jn (cx [] [(134,a7)]) ak 4 94 f94 c94 x F y:=fun x F y=>by kernel_rfl
theorem T5:c94.ok prog 94:=Ctr.of_den (an (ba)) aJ (hl:=ak) (d:=4) func94 rfl (by decide) (e94 lpK jnK)
def nN (lp:Lp) (_:Jn) (x0:(List Int)×List ((List Int)×Int×Int)):Option (List Int) :=
 lp (List Int×Int×PUnit) (List Int) (fun (again:List Int×Int×PUnit->Option (List Int)) (x:List Int×Int×PUnit)=>bif decide (x.2.1<(↑x0.2.length:Int)) then bif inB x.2.1 x0.2.length then bif eh (List.length x.1+1) 8 then again (x.1++[(x0.2.getD x.2.1.toNat ([],0,(0 : Int))).2.2],IntKind.wrap .i64 (x.2.1+1),PUnit.unit) else none else none else some x.1) ([],0,PUnit.unit)
def fe (x0:(List Int)×List ((List Int)×Int×Int)):Option (List Int):=nN lpK jnK x0
abbrev t96:=((List Int)×List ((List Int)×Int×Int))->Option (List Int)
def c96:Ctr:=⟨[T32],[],[],.one (.sl i64),fun x _ _=>fe x.1⟩
theorem e96 (lp:Lp) (jn:Jn):∀(x:TsS c96.as) (F:TsF c96.fs) (y:TsS c96.cs),nN lp jn x.1=bv lp jn (cx [] [(134,a7)]) ak 4 96 f96 c96 x F y:=fun x F y=>by kernel_rfl
theorem UD:c96.ok prog 96:=Ctr.of_den (an (ba)) aJ (hl:=ak) (d:=4) func96 rfl (by decide) (e96 lpK jnK)
def nX (lp:Lp) (_:Jn) (x0:(List Int)×List ((List Int)×Int×Int)) (x1:List (Int×Int)):Option Bool :=
 lp (Int×PUnit) Bool (fun (again:Int×PUnit->Option Bool) (x:Int×PUnit) =>
 let v6:Bool:=inB x.1 x1.length;
 let v7:Bool:=decide ((x0.2.getD x.1.toNat ([],0,0)).2.1=1);
 let v8:Bool:=decide ((x0.2.getD x.1.toNat ([],0,0)).2.1=2);
 let v9:Bool:=!v7;
 let v10:Bool:=bif v7 then decide ((x1.getD x.1.toNat (0,0)).1>0) else false;
 let v11:Bool:=!v10;
 let v12:Bool:=!v11;
 let v13:Bool:=v9||v7;
 let v14:Bool:=v11&&v8;
 let v15:Bool:=!v14;
 let v16:Bool:=v12||v11;
 let v17:Bool:=v15||v14;bif decide (x.1<(↑x0.2.length:Int)) then bif inB x.1 x0.2.length then bif v13&&(v13&&(v9||v6)) then bif v13 then bif v13 then bif v13 then bif v13 then bif v16 then bif v16 then bif v16 then bif v17&&(v17&&(v15||v6)) then bif v17 then bif v17 then bif v17 then bif (v12||v16)&&(v12||(!v8||(v12 || v14))) then bif v10||v11 then bif bif v10 then true else bif v8 then decide ((x1.getD x.1.toNat (0,0)).1<0) else false then some false else again (IntKind.wrap .i64 (x.1+1),PUnit.unit) else none else none else none else none else none else none else none else none else none else none else none else none else none else none else none else some true) (0,PUnit.unit)
def fj (x0:(List Int)×List ((List Int)×Int×Int)) (x1:List (Int×Int)):Option Bool:=nX lpK jnK x0 x1
abbrev t97:=((List Int)×List ((List Int)×Int×Int))->(List (Int×Int))->Option (Bool)
def c97:Ctr:=⟨[T32,(.sl T49)],[],[],.one .bool,fun x _ _=>fj x.1 x.2.1⟩
theorem e97 (lp:Lp) (jn:Jn):∀(x:TsS c97.as) (F:TsF c97.fs) (y:TsS c97.cs),nX lp jn x.1 x.2.1=bv lp jn (cx [] [(134,a7)]) ak 4 97 f97 c97 x F y:=fun x F y=>by kernel_rfl
theorem Uh:c97.ok prog 97:=Ctr.of_den (an (ba)) aJ (hl:=ak) (d:=4) func97 rfl (by decide) (e97 lpK jnK)
def mO (lp:Lp) (_:Jn) (bC:t91) (fL:t92) (gW:Td) (fi:Ts) (dN:t94) (fe:t96) (fj:t97) (di:t95) (x0:(List Int)×List ((List Int)×Int×Int)) (x1:List (Int×Int)):Option (Bool×Int×Unit) :=
 ah (bC x0) fun (t:Bool) =>
 let v5:Bool:=!t;
 let v6:Bool:=!v5;
 let v7:Bool:=!v6||v6;bif v7 then ah (bif v6 then fL x1 else some false) fun (t:Bool)=>bif v7 then bif v5||v6 then bif bif v5 then true else !t then some (false, 1,PUnit.unit) else bif !decide ((↑x1.length:Int)=(↑x0.2.length:Int)) then some (false,3,PUnit.unit) else lp (Bool×Int×Int×PUnit) (Bool × Int×PUnit) (fun (again:Bool×Int×Int×PUnit->Option (Bool×Int×PUnit)) (x:Bool×Int×Int×PUnit)=>bif decide (x.2.1<(↑x0.1.length:Int)) then ah (fi x0 x.2.1) fun (t:List Int)=>ah (di x.2.2.1 t x1) fun (t:Int×Int×Int)=>ah (dN x.2.1) fun (t_1:Int)=>ah (gW t.2 t_1) fun (t_2:Int) =>
 let v15:Bool:=decide (t_2<=0);bif !v15||v15 then again (bif v15 then x.1 else false,IntKind.wrap .i64 (x.2.1+1),t.1,PUnit.unit) else none else ah (fe x0) fun (t:List Int)=>ah (di x.2.2.1 t x1) fun (t:Int×Int×Int) =>
 let v13:Bool:=decide (t.2.1>0);
 let v14:Bool:=!v13||v13;bif v14&&v14 then ah (bif v13 then fj x0 x1 else some false) fun (t_1:Bool) =>
 let v16:Bool:=bif v13 then t_1 else false;
 let v17:Bool:=bif v16 then x.1 else false;
 let v18:Bool:=!v17||v17;bif v14 then bif !v16||v16 then bif v18 then bif v18 then bif v18 then some (bif v17 then decide (t.1=0) else false,t.1,PUnit.unit) else none else none else none else none else none else none) (true,0,0,PUnit.unit) else none else none else none
def dz (x0:(List Int)×List ((List Int)×Int×Int)) (x1:List (Int×Int)):Option (Bool×Int×Unit):=mO lpK jnK bC fL gW fi dN fe fj di x0 x1
abbrev t47:=((List Int)×List ((List Int)×Int×Int))->(List (Int×Int))->Option (Bool×Int×Unit)
def k47 (dz:t47):Ctr:=⟨[T32,(.sl T49)],[],[],.tup [.bool,i64],fun x _ _=>dz x.1 x.2.1⟩
def c47:Ctr:=k47 dz
theorem e47 (lp:Lp) (jn:Jn) (bC:t91) (fL:t92) (gW:Td) (fi:Ts) (dN:t94) (fe:t96) (fj:t97) (di:t95):∀(x:TsS c47.as) (F:TsF c47.fs) (y:TsS c47.cs),mO lp jn bC fL gW fi dN fe fj di x.1 x.2.1=bv lp jn (BB DT En (HS [] [(95,k95 di)] (lu prog shs xX its [(97,⟨[T32,(.sl T49)],[],[],.one .bool,fun x _ _=>fj x.1 x.2.1⟩),(96,⟨[T32],[],[],.one (.sl i64),fun x _ _=>fe x.1⟩),(94,⟨[i64],[],[],.one i64,fun x _ _=>dN x.1⟩),(145,⟨[T32,i64],[],[],.one (.sl i64),fun x _ _=>fi x.1 x.2.1⟩),(144,⟨[T49,i64],[],[],.one i64,fun x _ _=>gW x.1 x.2.1⟩),(92,⟨[(.sl T49)],[],[],.one .bool,fun x _ _=>fL x.1⟩),(91,k91 bC)] [(134,a7)]))) ak 4 47 f47 c47 x F y:=fun x F y=>by kernel_rfl
theorem VD:c47.ok prog 47:=Ctr.of_den (an (tB (aa (aa (aa (aa (aa (aa (aa (ba) (by kernel_rfl) SA) (by kernel_rfl) VM) (by kernel_rfl) SG) (by kernel_rfl) Rx) (by kernel_rfl) T5) (by kernel_rfl) UD) (by kernel_rfl) Uh) (pM) (GP (by kernel_rfl) UW (p9)))) aJ (hl:=ak) (d:=4) func47 rfl (by decide) (e47 lpK jnK bC fL gW fi dN fe fj di)
def qz (_:Lp) (_:Jn) (aR:t11) (dz:t47) (x0:(List (ByteArray×Int))×List (ByteArray×(List (ByteArray×Int×Int×Int))×Bool)) (x1:List (Int×Int)):Option (Bool×Int×Unit) :=
 ah (aR x0) fun (t:(List Int×List (List Int×Int×Int))×Int×PUnit)=>bif !decide (t.2.1=0) then some (false,t.2.1,PUnit.unit) else ah (dz t.1 x1) fun (t:Bool×Int×PUnit)=>some (t.1,t.2.1,PUnit.unit)
def a9 (x0:(List (ByteArray×Int))×List (ByteArray×(List (ByteArray×Int×Int×Int))×Bool)) (x1:List (Int×Int)):Option (Bool×Int×Unit):=qz lpK jnK aR dz x0 x1
abbrev t12:=((List (ByteArray×Int))×List (ByteArray×(List (ByteArray×Int×Int×Int))×Bool))->(List (Int×Int))->Option (Bool×Int×Unit)
def k12 (a9:t12):Ctr:=⟨[T25,(.sl T49)],[],[],.tup [.bool,i64],fun x _ _=>a9 x.1 x.2.1⟩
def c12:Ctr:=k12 a9
theorem e12 (lp:Lp) (jn:Jn) (aR:t11) (dz:t47):∀(x:TsS c12.as) (F:TsF c12.fs) (y:TsS c12.cs),qz lp jn aR dz x.1 x.2.1=bv lp jn (cx [(47,k47 dz),(11,k11 aR)] [(134,a7)]) ak 4 12 f12 c12 x F y:=fun x F y=>by kernel_rfl
theorem TS:c12.ok prog 12:=Ctr.of_den (an (aa (aa (ba) (by kernel_rfl) Qw) (by kernel_rfl) VD)) aJ (hl:=ak) (d:=4) func12 rfl (by decide) (e12 lpK jnK aR dz)
def qj (_:Lp) (_:Jn) (x0:Int):Option Int :=
 
 let v3:Int:=IntKind.wrap .u64 x0;bif decide (x0<0) then some (IntKind.wrap .u64 (0 - v3)) else some v3
def cg (x0:Int):Option Int:=qj lpK jnK x0
abbrev Kw:=(Int)->Option (Int)
def QG (cg:Kw):Ctr:=⟨[i64],[],[],.one (.int .u64),fun x _ _=>cg x.1⟩
def I6:Ctr:=QG cg
theorem Vw (lp:Lp) (jn:Jn):∀(x:TsS I6.as) (F:TsF I6.fs) (y:TsS I6.cs),qj lp jn x.1=bv lp jn (cx [] [(134,a7)]) ak 4 155 f155 I6 x F y:=fun x F y=>by kernel_rfl
theorem PS:I6.ok prog 155:=Ctr.of_den (an (ba)) aJ (hl:=ak) (d:=4) func155 rfl (by decide) (Vw lpK jnK)
def kp (lp:Lp) (_:Jn) (cg:Kw) (x0:List Int) (x1:Int):Option Int :=
 ah (cg x1) fun (t:Int)=>lp (Int×Int×PUnit) Int (fun (again:Int×Int×PUnit->Option Int) (x:Int×Int×PUnit)=>bif decide (x.2.1<(↑x0.length : Int)) then bif inB x.2.1 x0.length then ah (cg (x0.getD x.2.1.toNat 0)) fun (t:Int)=>again (IntKind.wrap .i64 (x.1 + IntKind.wrap .i64 t),IntKind.wrap .i64 (x.2.1+1),PUnit.unit) else none else some x.1) (IntKind.wrap .i64 (1+IntKind.wrap .i64 t), 0,PUnit.unit)
def dw (x0:List Int) (x1:Int):Option Int:=kp lpK jnK cg x0 x1
abbrev SL:=(List Int)->(Int)->Option (Int)
def I8:Ctr:=⟨[(.sl i64),i64],[],[],.one i64,fun x _ _=>dw x.1 x.2.1⟩
theorem Uc (lp:Lp) (jn:Jn) (cg:Kw):∀(x:TsS I8.as) (F:TsF I8.fs) (y:TsS I8.cs),kp lp jn cg x.1 x.2.1=bv lp jn (cx [(155,QG cg)] [(134,a7)]) ak 4 154 f154 I8 x F y:=fun x F y=>by kernel_rfl
theorem Sw:I8.ok prog 154:=Ctr.of_den (an (aa (ba) (by kernel_rfl) PS)) aJ (hl:=ak) (d:=4) func154 rfl (by decide) (Uc lpK jnK cg)
def kA (lp:Lp) (jn:Jn) (x0:List Int):Option Int :=
 jn PUnit Int (fun (_:PUnit)=>bif inB 0 x0.length then lp (Int×Int×PUnit) Int (fun (again:Int×Int×PUnit->Option Int) (x:Int×Int×PUnit)=>bif decide (x.2.1<(↑x0.length:Int)) then bif inB x.2.1 x0.length then again (if x0.getD x.2.1.toNat 0>x.1 then x0.getD x.2.1.toNat 0 else x.1,IntKind.wrap .i64 (x.2.1+1),PUnit.unit) else none else some x.1) (x0.getD 0 0,1,PUnit.unit) else none) fun (j:PUnit->Option Int)=>bif decide ((↑x0.length:Int)<1) then none else j PUnit.unit
def dU (x0:List Int):Option Int:=kA lpK jnK x0
abbrev Ss:=(List Int)->Option (Int)
def Jh:Ctr:=⟨[(.sl i64)],[],[],.one i64,fun x _ _=>dU x.1⟩
theorem Ut (lp:Lp) (jn:Jn):∀(x:TsS Jh.as) (F:TsF Jh.fs) (y:TsS Jh.cs),kA lp jn x.1=bv lp jn (cx [] [(134,a7)]) ak 4 156 f156 Jh x F y:=fun x F y=>by kernel_rfl
theorem R2:Jh.ok prog 156:=Ctr.of_den (an (ba)) aJ (hl:=ak) (d:=4) func156 rfl (by decide) (Ut lpK jnK)
def l8 (lp:Lp) (_:Jn) (dw:SL) (dU:Ss) (x0:(List Int)×List ((List Int)×Int×Int)):Option Bool :=
 ah (dw x0.1 0) fun (t:Int)=>lp (List Int×Int×PUnit) Bool (fun (again:List Int×Int×PUnit->Option Bool) (x:List Int×Int×PUnit) =>
 let v6:List Int×Int×Int:=x0.2.getD x.2.1.toNat ([],0,0);bif decide (x.2.1<(↑x0.2.length:Int)) then bif inB x.2.1 x0.2.length then ah (dw v6.1 v6.2.2) fun (t:Int)=>bif eh (List.length x.1+1) 8 then again (x.1++[t],IntKind.wrap .i64 (x.2.1+1),PUnit.unit) else none else none else lp (Int×Int×PUnit) Bool (fun (again:Int×Int×PUnit->Option Bool) (x_1:Int×Int×PUnit) =>
 let v9:Int:=x.1.getD x_1.2.1.toNat 0;bif decide (x_1.2.1<(↑x.1.length:Int)) then bif inB x_1.2.1 x.1.length then bif Nat.ble (Nat.succ x_1.2.1.toNat) x.1.length then bif nzB v9 then bif decide (x_1.1>IntKind.wrap .i64 (Int.tdiv 17592186044416 v9)) then some false else again (IntKind.wrap .i64 (x_1.1*v9),IntKind.wrap .i64 (x_1.2.1+1),PUnit.unit) else none else none else none else ah (dU x.1) fun (t : Int)=>bif nzB t then some (decide (x_1.1<=IntKind.wrap .i64 (Int.tdiv 144115188075855872 t))) else none) (1,0,PUnit.unit)) ([t],0, PUnit.unit)
def cY (x0:(List Int)×List ((List Int)×Int×Int)):Option Bool:=l8 lpK jnK dw dU x0
abbrev M8:=((List Int)×List ((List Int)×Int×Int))->Option (Bool)
def SJ (cY:M8):Ctr:=⟨[T32],[],[],.one .bool,fun x _ _=>cY x.1⟩
def LG:Ctr:=SJ cY
theorem UU (lp:Lp) (jn:Jn) (dw:SL) (dU:Ss):∀(x:TsS LG.as) (F:TsF LG.fs) (y:TsS LG.cs),l8 lp jn dw dU x.1=bv lp jn (cx [(156,⟨[(.sl i64)],[],[],.one i64,fun x _ _=>dU x.1⟩),(154,⟨[(.sl i64),i64],[],[],.one i64,fun x _ _=>dw x.1 x.2.1⟩)] [(134,a7)]) ak 4 108 f108 LG x F y:=fun x F y=>by kernel_rfl
theorem Tp:LG.ok prog 108:=Ctr.of_den (an (aa (aa (ba) (by kernel_rfl) Sw) (by kernel_rfl) R2)) aJ (hl:=ak) (d:=4) func108 rfl (by decide) (UU lpK jnK dw dU)
def fS (lp:Lp) (_:Jn) (x0:(List (List Int))×Int×(List Int)×(List Int)×(List Int)×Int×Int) (x1:Int):Option Int :=
 lp (Int×Int×PUnit) Int (fun (again:Int×Int×PUnit->Option Int) (x:Int×Int×PUnit) =>
 let v6:Int×PUnit:=(IntKind.wrap .i64 (x.2.1+1),PUnit.unit);
 let v7:List Int:=x0.1.getD x.2.1.toNat [];bif decide (x.2.1<(↑x0.1.length:Int)) then bif inB x.2.1 x0.1.length then bif inB x.2.1 x0.2.2.1.length then bif decide (x0.2.2.1.getD x.2.1.toNat 0>=x0.2.2.2.2.2.1) then bif inB x1 v7.length then again (IntKind.wrap .i64 (x.1+v7.getD x1.toNat 0),v6) else none else again (x.1,v6) else none else none else some x.1) (0,0,PUnit.unit)
def aI (x0:(List (List Int))×Int×(List Int)×(List Int)×(List Int)×Int×Int) (x1:Int):Option Int:=fS lpK jnK x0 x1
abbrev O6:=((List (List Int))×Int×(List Int)×(List Int)×(List Int)×Int×Int)->(Int)->Option (Int)
def R8 (aI:O6):PCtr:=⟨HR,[i64],.one i64,fun x y=>aI x y.1⟩
def NH:PCtr:=R8 aI
theorem Vk (lp:Lp) (jn:Jn):∀(x:NH.s.T) (y:TsS NH.as),fS lp jn x y.1=EU lp jn (cx [] [(134,a7)]) ak 4 126 f126 NH x y:=fun x y=>by kernel_rfl
theorem RS:NH.ok prog 126:=PCtr.of_den (an (ba)) aJ (hl:=ak) (d:=4) func126 rfl (by decide) (Vk lpK jnK)
def lg (_:Lp) (_:Jn) (b9:Fb) (cg:Kw) (x0:Int) (x1:Int):Option (Bool×Int×Int) :=
 
 let v4:Bool:=!decide (decide (x0<0)=decide (x1<0));
 let v5:Bool:=!v4;
 let v6:Bool:=v5||v4;ah (cg x0) fun (t:Int)=>ah (cg x1) fun (t_1:Int)=>ah (b9 t t_1) fun (t:Int×Int×PUnit) =>
 let v10:Bool:=!decide (t.1=0);
 let v11:Bool:=v4&&!v10;bif v6 then bif v6 then bif !v11||v11 then bif (v5||v6)&&(v5||(v10||(v5||v11))) then bif v6 then some (bif v4 then bif v10 then true else !decide (t.2.1=0) else false,t.1,t.2.1) else none else none else none else none else none
def bJ (x0:Int) (x1:Int):Option (Bool×Int×Int):=lg lpK jnK b9 cg x0 x1
abbrev Lb:=(Int)->(Int)->Option (Bool×Int×Int)
def P0 (bJ:Lb):Ctr:=⟨[i64,i64],[],[],.one tP,fun x _ _=>bJ x.1 x.2.1⟩
def LW:Ctr:=P0 bJ
theorem TY (lp:Lp) (jn:Jn) (b9:Fb) (cg:Kw):∀(x:TsS LW.as) (F:TsF LW.fs) (y:TsS LW.cs),lg lp jn b9 cg x.1 x.2.1=bv lp jn (cx [(155,QG cg),(122,NL b9)] [(134,a7)]) ak 4 175 f175 LW x F y:=fun x F y=>by kernel_rfl
theorem PQ:LW.ok prog 175:=Ctr.of_den (an (aa (aa (ba) (by kernel_rfl) L6) (by kernel_rfl) PS)) aJ (hl:=ak) (d:=4) func175 rfl (by decide) (TY lpK jnK b9 cg)
def gd (_:Lp) (_:Jn) (x0:Bool×Int×Int) (x1:Bool×Int×Int):Option Int :=
 
 let v4:Bool:=decide (x0.2.1=x1.2.1);
 let v5:Bool:=!v4;
 let v6:Bool:=v5||v4;
 let v7:Bool:=!v5||v5;
 let v8:Bool:=bif v5 then decide (x0.2.1<x1.2.1) else false;
 let v9:Bool:=!v8;
 let v10:Bool:=!v9;
 let v11:Bool:=v9&&v4;
 let v12:Bool:=v10||v9;
 let v13:Bool:=!v11||v11;bif v7 then bif v7 then bif v7&&v7 then bif v7 then bif v12 then bif v12 then bif v12&&v12 then bif v12 then bif v13 then bif v13 then bif v13&&v13 then bif (v10||v12)&&(v10||(v5||(v10||v11))) then bif v8||v9 then bif bif v8 then true else bif v4 then decide (x0.2.2<x1.2.2) else false then some (-1) else bif v6 then bif v6 then bif v6&&v6 then bif v6 then bif bif v4 then decide (x0.2.2=x1.2.2) else false then some 0 else some 1 else none else none else none else none else none else none else none else none else none else none else none else none else none else none else none else none else none
def aE (x0:Bool×Int×Int) (x1:Bool×Int×Int):Option Int:=gd lpK jnK x0 x1
abbrev IM:=(Bool×Int×Int)->(Bool×Int×Int)->Option (Int)
def QJ (aE:IM):Ctr:=⟨[tP,tP],[],[],.one i64,fun x _ _=>aE x.1 x.2.1⟩
def LZ:Ctr:=QJ aE
theorem Uf (lp:Lp) (jn:Jn):∀(x:TsS LZ.as) (F:TsF LZ.fs) (y:TsS LZ.cs),gd lp jn x.1 x.2.1=bv lp jn (cx [] [(134,a7)]) ak 4 184 f184 LZ x F y:=fun x F y=>by kernel_rfl
theorem Pr:LZ.ok prog 184:=Ctr.of_den (an (ba)) aJ (hl:=ak) (d:=4) func184 rfl (by decide) (Uf lpK jnK)
def gP (_:Lp) (jn:Jn) (aE:IM) (x0:Bool×Int×Int) (x1:Bool×Int×Int):Option (Bool×Int×Int) :=
 
 let v4:Bool:=!x0.1;
 let v5:Bool:=!x1.1;
 let v6:Bool:=!v4;
 let v7:Bool:=v4&&v5;
 let v8:Bool:=v6||v4;
 let v9:Bool:=!v7;
 let v10:Bool:=v9||v7;
 let v11:Bool:=!decide (x1.2.1=0);
 let v12:Bool:=v7&&!v11;
 let v13:Bool:=decide ((0:Int)<=0)&&decide ((0:Int)<=1);
 let v14:Bool:=!v12||v12;bif !decide (x0.1=x1.1) then bif v13 then bif decide (0<=pF x0.2.2 x1.2.2 0)&&decide (pF x0.2.2 x1.2.2 (0 : Int)<=1) then bif v8 then bif v8 then bif v8 then bif v10 then bif v10 then bif v10 then bif v14 then bif v14 then bif (v9||v10)&&(v9||(v11||(v9||v12))) then bif (v6 || v8)&&(v6||(!v5||(v6||v7))) then bif x0.1||v4 then some (bif x0.1 then true else bif v5 then bif v11 then true else !decide (x1.2.2=0) else false,xY x0.2.1 x1.2.1 (pF x0.2.2 x1.2.2 0),xY x0.2.2 x1.2.2 0) else none else none else none else none else none else none else none else none else none else none else none else none else none else ah (aE x0 x1) fun (t:Int)=>jn (Bool×(Bool×Int×Int)×(Bool×Int×Int)×PUnit) (Bool×Int×Int) (fun (x:Bool×(Bool×Int×Int)×(Bool×Int×Int)×PUnit) =>
 let v17:Bool:=!x.1;
 let v18:Bool:=v17||x.1;
 let v19:Bool:=!decide (ud x.2.1.2.1 x.2.2.1.2.1 (nL x.2.1.2.2 x.2.2.1.2.2 0)=0);
 let v20:Bool:=x.1&&!v19;bif v13 then bif decide (0<=nL x.2.1.2.2 x.2.2.1.2.2 0)&&decide (nL x.2.1.2.2 x.2.2.1.2.2 (0 : Int)<=1) then bif v18 then bif v18 then bif !v20||v20 then bif (v17||v18)&&(v17||(v19||(v17||v20))) then bif v18 then some (bif x.1 then bif v19 then true else !decide (ud x.2.1.2.2 x.2.2.1.2.2 0=0) else false,ud x.2.1.2.1 x.2.2.1.2.1 (nL x.2.1.2.2 x.2.2.1.2.2 (0 : Int)),ud x.2.1.2.2 x.2.2.1.2.2 0) else none else none else none else none else none else none else none) fun (j:Bool×(Bool×Int×Int)×(Bool×Int × Int)×PUnit->Option (Bool×Int×Int))=>bif decide (t<0) then j (v4,x1,x0,PUnit.unit) else j (x0.1,x0,x1,PUnit.unit)
def bF (x0:Bool×Int×Int) (x1:Bool×Int×Int):Option (Bool×Int×Int):=gP lpK jnK aE x0 x1
abbrev PW:=(Bool×Int×Int)->(Bool×Int×Int)->Option (Bool×Int×Int)
def Tg (bF:PW):Ctr:=⟨[tP,tP],[],[],.one tP,fun x _ _=>bF x.1 x.2.1⟩
def Ky:Ctr:=Tg bF
theorem T2 (lp:Lp) (jn:Jn) (aE:IM):∀(x:TsS Ky.as) (F:TsF Ky.fs) (y:TsS Ky.cs),gP lp jn aE x.1 x.2.1=bv lp jn (cx [(184,QJ aE)] [(134,a7)]) ak 4 176 f176 Ky x F y:=fun x F y=>by kernel_rfl
theorem RR:Ky.ok prog 176:=Ctr.of_den (an (aa (ba) (by kernel_rfl) Pr)) aJ (hl:=ak) (d:=4) func176 rfl (by decide) (T2 lpK jnK aE)
def ig (_:Lp) (_:Jn) (de:IJ) (x0:Bool×Int×Int) (x1:Int):Option Int :=
 ah (de x0.2.1 x0.2.2 (IntKind.wrap .u64 x1)) fun (t:Int×Int×PUnit) =>
 let v5:Int:=IntKind.wrap .i64 t.1;bif x0.1 then some (IntKind.wrap .i64 (0 - v5)) else some v5
def cb (x0:Bool×Int×Int) (x1:Int):Option Int:=ig lpK jnK de x0 x1
abbrev SO:=(Bool×Int×Int)->(Int)->Option (Int)
def J0:Ctr:=⟨[tP,i64],[],[],.one i64,fun x _ _=>cb x.1 x.2.1⟩
theorem Ux (lp:Lp) (jn:Jn) (de:IJ):∀(x:TsS J0.as) (F:TsF J0.fs) (y:TsS J0.cs),ig lp jn de x.1 x.2.1=bv lp jn (cx [(125,Qg de)] [(134,a7)]) ak 4 177 f177 J0 x F y:=fun x F y=>by kernel_rfl
theorem TD:J0.ok prog 177:=Ctr.of_den (an (aa (ba) (by kernel_rfl) Pt)) aJ (hl:=ak) (d:=4) func177 rfl (by decide) (Ux lpK jnK de)
def iE (lp:Lp) (_:Jn) (bJ:Lb) (bF:PW) (cb:SO) (x0:List Nat×List (Option (List Int))) (x1:Int) (x2:List Int) (x3:List Int) (x4:List Int) (x5:Int) (x6:Int) (x7:Int) (x8:Int):Option ((List Nat×List (Option (List Int)))×Int×(List Int)×(List Int)×(List Int)×Int×Int×Unit) :=
 
 let v11:List Int×List Int×List Int×Int×Int×PUnit:=(x2.set x7.toNat x8,x3,x4,x5,x6,PUnit.unit);bif inB x7 x0.1.length then bif Nat.ble (Nat.succ x7.toNat) x0.1.length then bif inB x8 (List.length (ai x0.2 (x0.1.getD x7.toNat 0))) then bif Nat.ble (Nat.succ x8.toNat) (List.length (ai x0.2 (x0.1.getD x7.toNat 0))) then lp (Int×(List Nat×List (Option (List Int)))×PUnit) ((List Nat×List (Option (List Int)))×Int×List Int×List Int×List Int×Int×Int×PUnit) (fun (again:Int×(List Nat×List (Option (List Int)))×PUnit->Option ((List Nat×List (Option (List Int)))×Int×List Int×List Int×List Int×Int×Int×PUnit)) (x:Int×(List Nat×List (Option (List Int)))×PUnit) =>
 let v14:Int:=IntKind.wrap .i64 (x.1+1);
 let v15:(List Nat×List (Option (List Int)))×PUnit:=(x.2.1,PUnit.unit);
 let v16:Int×(List Nat×List (Option (List Int)))×PUnit:=(0,v15);bif decide (x.1<(↑x0.1.length:Int)) then bif inB x.1 x.2.1.1.length then bif Nat.ble (Nat.succ x.1.toNat) x.2.1.1.length then bif decide (x.1=x7) then again (v14,v15) else bif inB x8 (List.length (ai x.2.1.2 (x.2.1.1.getD x.1.toNat 0))) then bif Nat.ble (Nat.succ x8.toNat) (List.length (ai x.2.1.2 (x.2.1.1.getD x.1.toNat 0))) then bif fG x.2.1.2 (x.2.1.1.getD x.1.toNat 0) then lp (Int×(List Nat×List (Option (List Int)))×PUnit) ((List Nat×List (Option (List Int)))×Int × List Int×List Int×List Int×Int×Int×PUnit) (fun (again_1:Int×(List Nat×List (Option (List Int)))×PUnit->Option ((List Nat×List (Option (List Int)))×Int×List Int × List Int×List Int×Int×Int×PUnit)) (x_1:Int×(List Nat×List (Option (List Int)))×PUnit)=>bif decide (x_1.1<(↑(List.length (ai x.2.1.2 (x.2.1.1.getD x.1.toNat 0))):Int)) then bif inB x_1.1 (List.length (ai x_1.2.1.2 (x.2.1.1.getD x.1.toNat 0))) then bif Nat.ble (Nat.succ x_1.1.toNat) (List.length (ai x_1.2.1.2 (x.2.1.1.getD x.1.toNat 0))) then ah (bJ (List.getD (ai x_1.2.1.2 (x.2.1.1.getD x.1.toNat 0)) x_1.1.toNat 0) (List.getD (ai x0.2 (x0.1.getD x7.toNat 0)) x8.toNat 0)) fun (t:Bool×Int×Int)=>bif inB x7 x_1.2.1.1.length then bif Nat.ble (Nat.succ x7.toNat) x_1.2.1.1.length then bif inB x_1.1 (List.length (ai x_1.2.1.2 (x_1.2.1.1.getD x7.toNat 0))) then bif Nat.ble (Nat.succ x_1.1.toNat) (List.length (ai x_1.2.1.2 (x_1.2.1.1.getD x7.toNat 0))) then ah (bJ (List.getD (ai x.2.1.2 (x.2.1.1.getD x.1.toNat 0)) x8.toNat 0) (List.getD (ai x_1.2.1.2 (x_1.2.1.1.getD x7.toNat 0)) x_1.1.toNat 0)) fun (t_1:Bool×Int×Int)=>ah (bF t t_1) fun (t:Bool × Int×Int)=>ah (cb t x1) fun (t:Int)=>bif inB x_1.1 (List.length (ai x_1.2.1.2 (x.2.1.1.getD x.1.toNat 0))) then bif Nat.ble (Nat.succ x_1.1.toNat) (List.length (ai x_1.2.1.2 (x.2.1.1.getD x.1.toNat 0))) then again_1 (IntKind.wrap .i64 (x_1.1+(1 : Int)),(x_1.2.1.1,x_1.2.1.2.set (x.2.1.1.getD x.1.toNat 0) (some (List.set (ai x_1.2.1.2 (x.2.1.1.getD x.1.toNat 0)) x_1.1.toNat t))),PUnit.unit) else none else none else none else none else none else none else none else none else again (v14,x_1.2.1,PUnit.unit)) v16 else none else none else none else none else none else bif inB x7 x2.length then bif Nat.ble (Nat.succ x7.toNat) x2.length then bif decide (List.getD (ai x0.2 (x0.1.getD x7.toNat 0)) x8.toNat 0<0) then lp (Int×(List Nat×List (Option (List Int)))×PUnit) ((List Nat×List (Option (List Int))) × Int×List Int×List Int×List Int×Int×Int×PUnit) (fun (again:Int×(List Nat×List (Option (List Int)))×PUnit->Option ((List Nat×List (Option (List Int)))×Int×List Int×List Int×List Int×Int×Int×PUnit)) (x_1:Int×(List Nat×List (Option (List Int)))×PUnit)=>bif decide (x_1.1<(↑x.2.1.1.length:Int)) then bif inB x_1.1 x_1.2.1.1.length then bif Nat.ble (Nat.succ x_1.1.toNat) x_1.2.1.1.length then bif fG x_1.2.1.2 (x_1.2.1.1.getD x_1.1.toNat 0) then lp (Int×(List Nat×List (Option (List Int)))×PUnit) ((List Nat×List (Option (List Int)))×Int×List Int×List Int×List Int×Int×Int×PUnit) (fun (again_1:Int×(List Nat×List (Option (List Int)))×PUnit->Option ((List Nat×List (Option (List Int)))×Int×List Int×List Int×List Int×Int×Int×PUnit)) (x:Int × (List Nat×List (Option (List Int)))×PUnit)=>bif decide (x.1<(↑(List.length (ai x_1.2.1.2 (x_1.2.1.1.getD x_1.1.toNat 0))):Int)) then bif inB x.1 (List.length (ai x.2.1.2 (x_1.2.1.1.getD x_1.1.toNat 0))) then bif Nat.ble (Nat.succ x.1.toNat) (List.length (ai x.2.1.2 (x_1.2.1.1.getD x_1.1.toNat 0))) then bif inB x.1 (List.length (ai x.2.1.2 (x_1.2.1.1.getD x_1.1.toNat 0))) then bif Nat.ble (Nat.succ x.1.toNat) (List.length (ai x.2.1.2 (x_1.2.1.1.getD x_1.1.toNat 0))) then again_1 (IntKind.wrap .i64 (x.1+(1 : Int)),(x.2.1.1,x.2.1.2.set (x_1.2.1.1.getD x_1.1.toNat 0) (some (List.set (ai x.2.1.2 (x_1.2.1.1.getD x_1.1.toNat 0)) x.1.toNat (IntKind.wrap .i64 (0 - List.getD (ai x.2.1.2 (x_1.2.1.1.getD x_1.1.toNat 0)) x.1.toNat 0))))),PUnit.unit) else none else none else none else none else again (IntKind.wrap .i64 (x_1.1+1),x.2.1,PUnit.unit)) (0,x_1.2.1, PUnit.unit) else none else none else none else some (x_1.2.1,IntKind.wrap .i64 (0 - List.getD (ai x0.2 (x0.1.getD x7.toNat 0)) x8.toNat 0),v11)) v16 else some (x.2.1,List.getD (ai x0.2 (x0.1.getD x7.toNat 0)) x8.toNat 0,v11) else none else none) (0,x0, PUnit.unit) else none else none else none else none
def aO (x0:List Nat×List (Option (List Int))) (x1:Int) (x2:List Int) (x3:List Int) (x4:List Int) (x5:Int) (x6:Int) (x7:Int) (x8:Int):Option ((List Nat×List (Option (List Int)))×Int×(List Int)×(List Int)×(List Int)×Int×Int×Unit):=iE lpK jnK bJ bF cb x0 x1 x2 x3 x4 x5 x6 x7 x8
abbrev Lq:=(List Nat×List (Option (List Int)))->(Int)->(List Int)->(List Int)->(List Int)->(Int)->(Int)->(Int)->(Int)->Option ((List Nat×List (Option (List Int)))×Int×(List Int)×(List Int)×(List Int)×Int×Int×Unit)
def QB (aO:Lq):SCtr:=⟨[.b [.x (.tab 29 .ref 3 i64),.d i64,.row 3 i64,.row 3 i64,.row 3 i64,.d i64,.d i64],.d i64,.d i64],[],fun x=>aO x.1 x.2.1 x.2.2.1 x.2.2.2.1 x.2.2.2.2.1 x.2.2.2.2.2.1 x.2.2.2.2.2.2.1 x.2.2.2.2.2.2.2.1 x.2.2.2.2.2.2.2.2.1⟩
def Q8:SCtr:=QB aO
theorem T6 (lp:Lp) (jn:Jn) (bJ:Lb) (bF:PW) (cb:SO):∀x:TsR (rhI 0 Q8.ks),iE lp jn bJ bF cb x.1 x.2.1 x.2.2.1 x.2.2.2.1 x.2.2.2.2.1 x.2.2.2.2.2.1 x.2.2.2.2.2.2.1 x.2.2.2.2.2.2.2.1 x.2.2.2.2.2.2.2.2.1=zJ lp jn (Dn.look []) (cx [(177,⟨[tP,i64],[],[],.one i64,fun x _ _=>cb x.1 x.2.1⟩),(176,Tg bF),(175,P0 bJ)] [(134,a7)]) ak 4 157 f157 Q8 x:=fun x=>by kernel_rfl
theorem PM:Q8.ok prog 157:=SCtr.of_den (an (aa (aa (aa (ba) (by kernel_rfl) PQ) (by kernel_rfl) RR) (by kernel_rfl) TD)) aJ (jR) (hl:=ak) (d:=4) func157 rfl (by decide) (T6 lpK jnK bJ bF cb)
set_option maxRecDepth 100000
def iy (_:Lp) (_:Jn) (aE:IM) (x0:Bool×Int×Int) (x1:Bool×Int×Int):Option Int :=
 
 let v4:Bool:=!decide (x0.1=x1.1);
 let v5:Bool:=!v4||v4;bif v5 then bif v5 then bif bif v4 then x0.1 else false then some (-1) else bif v4 then some 1 else bif x0.1 then ah (aE x1 x0) fun (t:Int)=>some t else ah (aE x0 x1) fun (t:Int)=>some t else none else none
def cI (x0:Bool×Int×Int) (x1:Bool×Int×Int):Option Int:=iy lpK jnK aE x0 x1
abbrev SX:=(Bool×Int×Int)->(Bool×Int×Int)->Option (Int)
def Jz:Ctr:=⟨[tP,tP],[],[],.one i64,fun x _ _=>cI x.1 x.2.1⟩
theorem UV (lp:Lp) (jn:Jn) (aE:IM):∀(x:TsS Jz.as) (F:TsF Jz.fs) (y:TsS Jz.cs),iy lp jn aE x.1 x.2.1=bv lp jn (cx [(184,QJ aE)] [(134,a7)]) ak 4 178 f178 Jz x F y:=fun x F y=>by kernel_rfl
theorem TN:Jz.ok prog 178:=Ctr.of_den (an (aa (ba) (by kernel_rfl) Pr)) aJ (hl:=ak) (d:=4) func178 rfl (by decide) (UV lpK jnK aE)
def gM (lp:Lp) (_:Jn) (bJ:Lb) (cI:SX) (x0:(List (List Int))×Int×(List Int)×(List Int)×(List Int)×Int×Int) (x1:Int):Option Int :=
 lp (Int×Int×PUnit) Int (fun (again:Int×Int×PUnit->Option Int) (x:Int×Int×PUnit) =>
 let v6:Int×PUnit:=(IntKind.wrap .i64 (x.2.1+1),PUnit.unit);
 let v7:Bool:=inB x.1 x0.1.length;
 let v8:List Int:=x0.1.getD x.1.toNat [];
 let v9:List Int:=x0.1.getD x.2.1.toNat [];
 let v10:Bool:=inB x1 v9.length;bif decide (x.2.1<(↑x0.1.length:Int)) then bif inB x.2.1 x0.1.length then bif v10 then bif decide (v9.getD x1.toNat 0<=0) then again (x.1,v6) else bif decide (x.1<0) then again (x.2.1,v6) else bif inB x0.2.2.2.2.2.2 v9.length then bif v7 then bif inB x1 v8.length then ah (bJ (v9.getD x0.2.2.2.2.2.2.toNat 0) (v8.getD x1.toNat 0)) fun (t:Bool × Int×Int)=>bif v7 then bif inB x0.2.2.2.2.2.2 v8.length then bif v10 then ah (bJ (v8.getD x0.2.2.2.2.2.2.toNat 0) (v9.getD x1.toNat 0)) fun (t_1:Bool×Int×Int)=>ah (cI t t_1) fun (t:Int) =>
 let v14:Bool:=decide (t=0);
 let v15:Bool:=decide (t<0);
 let v16:Bool:=!v15;
 let v17:Bool:=!v16;
 let v18:Bool:=v16&&v14;
 let v19:Bool:=!v18;
 let v20:Bool:=v17||v16;
 let v21:Bool:=v19||v18;bif v20 then bif v20 then bif v21 then bif v21 then bif v21 then bif v21&&(v21&&(v19||inB x.2.1 x0.2.2.1.length)) then bif v21 then bif v21 then bif v21 then bif v21 then bif v21&&(v21&&(v19||inB x.1 x0.2.2.1.length)) then bif v21 then bif v21&&v21 then bif (v17||v20)&&(v17||(!v14 || (v17||v18))) then bif v15||v16 then bif bif v15 then true else bif v14 then decide (x0.2.2.1.getD x.2.1.toNat 0<x0.2.2.1.getD x.1.toNat 0) else false then again (x.2.1,v6) else again (x.1,v6) else none else none else none else none else none else none else none else none else none else none else none else none else none else none else none else none else none else none else none else none else none else none else none else some x.1) ((-1),0,PUnit.unit)
def aL (x0:(List (List Int))×Int×(List Int)×(List Int)×(List Int)×Int×Int) (x1:Int):Option Int:=gM lpK jnK bJ cI x0 x1
abbrev Mo:=((List (List Int))×Int×(List Int)×(List Int)×(List Int)×Int×Int)->(Int)->Option (Int)
def P7 (aL:Mo):PCtr:=⟨HR,[i64],.one i64,fun x y=>aL x y.1⟩
def NP:PCtr:=P7 aL
theorem U6 (lp:Lp) (jn:Jn) (bJ:Lb) (cI:SX):∀(x:NP.s.T) (y:TsS NP.as),gM lp jn bJ cI x y.1=EU lp jn (cx [(178,⟨[tP,tP],[],[],.one i64,fun x _ _=>cI x.1 x.2.1⟩),(175,P0 bJ)] [(134,a7)]) ak 4 158 f158 NP x y:=fun x y=>by kernel_rfl
theorem PG:NP.ok prog 158:=PCtr.of_den (an (aa (aa (ba) (by kernel_rfl) PQ) (by kernel_rfl) TN)) aJ (hl:=ak) (d:=4) func158 rfl (by decide) (U6 lpK jnK bJ cI)
def iz (lp:Lp) (_:Jn) (aO:Lq) (aI:O6) (aL:Mo) (x0:List Nat×List (Option (List Int))) (x1:Int) (x2:List Int) (x3:List Int) (x4:List Int) (x5:Int) (x6:Int):Option ((List Nat×List (Option (List Int)))×Int×(List Int)×(List Int)×(List Int)×Int×Int×Bool×Unit) :=
 lp ((List Nat×List (Option (List Int)))×Int×List Int×List Int×List Int×Int×Int×PUnit) ((List Nat×List (Option (List Int)))×Int×List Int×List Int×List Int×Int × Int×Bool×PUnit) (fun (again:(List Nat×List (Option (List Int)))×Int×List Int×List Int×List Int×Int×Int×PUnit->Option ((List Nat×List (Option (List Int)))×Int × List Int×List Int×List Int×Int×Int×Bool×PUnit)) (x:(List Nat×List (Option (List Int)))×Int×List Int×List Int×List Int×Int×Int×PUnit)=>lp (Int×Int × PUnit) ((List Nat×List (Option (List Int)))×Int×List Int×List Int×List Int×Int×Int×Bool×PUnit) (fun (again_1:Int×Int×PUnit->Option ((List Nat×List (Option (List Int)))×Int×List Int×List Int×List Int×Int×Int×Bool×PUnit)) (x_1:Int×Int×PUnit) =>
 let v13:Bool:=decide (x_1.1<0);
 let v14:Int×PUnit:=(IntKind.wrap .i64 (x_1.2.1+1),PUnit.unit);
 let v15:Bool:=decide (x_1.2.1<x.2.2.2.2.2.1);
 let v16:Bool:=!v15||v15;bif v16 then bif v16 then bif bif v15 then v13 else false then ah (bif List.all x.1.1 fun (x_2:Nat)=>fG x.1.2 x_2 then aI (List.map (fun (x_2:Nat)=>ai x.1.2 x_2) x.1.1,x.2.1,x.2.2.1,x.2.2.2.1,x.2.2.2.2.1,x.2.2.2.2.2.1, x.2.2.2.2.2.2.1) x_1.2.1 else none) fun (t:Int)=>bif decide (t>0) then again_1 (x_1.2.1,v14) else again_1 (x_1.1,v14) else bif v13 then ah (bif List.all x.1.1 fun (x_2:Nat)=>fG x.1.2 x_2 then aI (List.map (fun (x_2:Nat)=>ai x.1.2 x_2) x.1.1,x.2.1,x.2.2.1, x.2.2.2.1,x.2.2.2.2.1,x.2.2.2.2.2.1,x.2.2.2.2.2.2.1) x.2.2.2.2.2.2.1 else none) fun (t:Int)=>bif decide (t>0) then some (x.1,x.2.1,x.2.2.1,x.2.2.2.1,x.2.2.2.2.1,x.2.2.2.2.2.1,x.2.2.2.2.2.2.1,false,PUnit.unit) else lp (Int×(List Nat×List (Option (List Int)))×Int×List Int×List Int×List Int×Int×Int×PUnit) ((List Nat×List (Option (List Int)))×Int×List Int×List Int×List Int×Int×Int × Bool×PUnit) (fun (again:Int×(List Nat×List (Option (List Int)))×Int×List Int×List Int×List Int×Int×Int×PUnit->Option ((List Nat×List (Option (List Int)))×Int × List Int×List Int×List Int×Int×Int×Bool×PUnit)) (x_2:Int×(List Nat×List (Option (List Int)))×Int×List Int×List Int×List Int×Int×Int×PUnit)=>bif decide (x_2.1<(↑x.1.1.length:Int)) then lp (Int×(List Nat×List (Option (List Int)))×Int×List Int×List Int×List Int×Int×Int×PUnit) ((List Nat×List (Option (List Int)))×Int×List Int×List Int×List Int×Int×Int×Bool×PUnit) (fun (again_2:Int×(List Nat×List (Option (List Int)))×Int×List Int×List Int×List Int×Int×Int×PUnit->Option ((List Nat×List (Option (List Int)))×Int×List Int×List Int×List Int×Int×Int×Bool×PUnit)) (x:Int×(List Nat×List (Option (List Int)))×Int×List Int×List Int×List Int×Int×Int×PUnit) =>
 let v22:Int:=IntKind.wrap .i64 (x.1+1);
 let v23:Bool:=decide (x.1<x.2.2.2.2.2.2.1);
 let v24:Bool:=!v23;
 let v25:Bool:=v24||v23;
 let v26:(List Nat×List (Option (List Int)))×Int×List Int×List Int×List Int×Int×Int×PUnit:=(x.2.1,x.2.2.1,x.2.2.2.1,x.2.2.2.2.1, x.2.2.2.2.2.1,x.2.2.2.2.2.2.1,x.2.2.2.2.2.2.2.1,PUnit.unit);bif v25 then bif v25 then bif v25 then bif v25&&(v25&&(v24||inB x_2.1 x.2.2.2.1.length)) then bif v25&&(v24||Nat.ble (Nat.succ x_2.1.toNat) x.2.2.2.1.length) then bif v25 then bif v25 then bif v25 then bif v25 && v25 then bif v25 then bif bif v23 then decide (x.2.2.2.1.getD x_2.1.toNat 0>=x.2.2.2.2.2.2.1) else false then bif inB x_2.1 x.2.1.1.length then bif Nat.ble (Nat.succ x_2.1.toNat) x.2.1.1.length then bif inB x.1 (List.length (ai x.2.1.2 (x.2.1.1.getD x_2.1.toNat 0))) then bif Nat.ble (Nat.succ x.1.toNat) (List.length (ai x.2.1.2 (x.2.1.1.getD x_2.1.toNat 0))) then bif !decide (List.getD (ai x.2.1.2 (x.2.1.1.getD x_2.1.toNat 0)) x.1.toNat 0=0) then ah (aO x.2.1 x.2.2.1 x.2.2.2.1 x.2.2.2.2.1 x.2.2.2.2.2.1 x.2.2.2.2.2.2.1 x.2.2.2.2.2.2.2.1 x_2.1 x.1) fun (y:(List Nat×List (Option (List Int)))×Int×List Int×List Int×List Int×Int×Int×PUnit)=>again_2 (v22,y.1,y.2.1,y.2.2.1,y.2.2.2.1,y.2.2.2.2.1,y.2.2.2.2.2.1, y.2.2.2.2.2.2.1,PUnit.unit) else again_2 (v22,v26) else none else none else none else none else again (IntKind.wrap .i64 (x_2.1+1),v26) else none else none else none else none else none else none else none else none else none else none) (0,x_2.2.1,x_2.2.2.1,x_2.2.2.2.1,x_2.2.2.2.2.1, x_2.2.2.2.2.2.1,x_2.2.2.2.2.2.2.1,x_2.2.2.2.2.2.2.2.1,PUnit.unit) else some (x_2.2.1,x_2.2.2.1,x_2.2.2.2.1, x_2.2.2.2.2.1,x_2.2.2.2.2.2.1,x_2.2.2.2.2.2.2.1,x_2.2.2.2.2.2.2.2.1,true,PUnit.unit)) (0,x.1,x.2.1, x.2.2.1,x.2.2.2.1,x.2.2.2.2.1,x.2.2.2.2.2.1,x.2.2.2.2.2.2.1,PUnit.unit) else ah (bif List.all x.1.1 fun (x_2:Nat) => fG x.1.2 x_2 then aL (List.map (fun (x_2:Nat)=>ai x.1.2 x_2) x.1.1,x.2.1,x.2.2.1,x.2.2.2.1,x.2.2.2.2.1, x.2.2.2.2.2.1,x.2.2.2.2.2.2.1) x_1.1 else none) fun (t:Int)=>ah (aO x.1 x.2.1 x.2.2.1 x.2.2.2.1 x.2.2.2.2.1 x.2.2.2.2.2.1 x.2.2.2.2.2.2.1 t x_1.1) fun (y:(List Nat×List (Option (List Int)))×Int×List Int×List Int×List Int×Int × Int×PUnit)=>again (y.1,y.2.1,y.2.2.1,y.2.2.2.1,y.2.2.2.2.1,y.2.2.2.2.2.1,y.2.2.2.2.2.2.1,PUnit.unit) else none else none) ((-1),0,PUnit.unit)) (x0,x1,x2,x3,x4,x5,x6,PUnit.unit)
def bq (x0:List Nat×List (Option (List Int))) (x1:Int) (x2:List Int) (x3:List Int) (x4:List Int) (x5:Int) (x6:Int):Option ((List Nat×List (Option (List Int)))×Int×(List Int)×(List Int)×(List Int)×Int×Int×Bool×Unit):=iz lpK jnK aO aI aL x0 x1 x2 x3 x4 x5 x6
abbrev NW:=(List Nat×List (Option (List Int)))->(Int)->(List Int)->(List Int)->(List Int)->(Int)->(Int)->Option ((List Nat×List (Option (List Int)))×Int×(List Int)×(List Int)×(List Int)×Int×Int×Bool×Unit)
def SF (bq:NW):SCtr:=⟨[.b [.x (.tab 29 .ref 3 i64),.d i64,.row 3 i64,.row 3 i64,.row 3 i64,.d i64,.d i64]],[(false,[.d .bool])],fun x=>bq x.1 x.2.1 x.2.2.1 x.2.2.2.1 x.2.2.2.2.1 x.2.2.2.2.2.1 x.2.2.2.2.2.2.1⟩
def Q9:SCtr:=SF bq
theorem VA (lp:Lp) (jn:Jn) (aO:Lq) (aI:O6) (aL:Mo):∀x:TsR (rhI 0 Q9.ks),iz lp jn aO aI aL x.1 x.2.1 x.2.2.1 x.2.2.2.1 x.2.2.2.2.1 x.2.2.2.2.2.1 x.2.2.2.2.2.2.1=zJ lp jn (Dn.look [(157,QB aO)]) (BB DT En (HS [(158,P7 aL),(126,R8 aI)] [] (lu prog shs xX its [] [(134,a7)]))) ak 4 110 f110 Q9 x:=fun x=>by kernel_rfl
theorem RB:Q9.ok prog 110:=SCtr.of_den (an (tB (ba) (km (by kernel_rfl) PG (km (by kernel_rfl) RS (pM))) (p9))) aJ (iY PM (jR)) (hl:=ak) (d:=4) func110 rfl (by decide) (VA lpK jnK aO aI aL)
def iV (_:Lp) (_:Jn) (x0:(List (List Int))×Int×(List Int)×(List Int)×(List Int)×Int×Int) (x1:Int):Option Int :=
 bif decide (x1<(↑x0.2.2.2.2.1.length:Int)) then bif inB x1 x0.2.2.2.2.1.length then some (x0.2.2.2.2.1.getD x1.toNat 0) else none else some 0
def aP (x0:(List (List Int))×Int×(List Int)×(List Int)×(List Int)×Int×Int) (x1:Int):Option Int:=iV lpK jnK x0 x1
abbrev JH:=((List (List Int))×Int×(List Int)×(List Int)×(List Int)×Int×Int)->(Int)->Option (Int)
def Q2 (aP:JH):PCtr:=⟨HR,[i64],.one i64,fun x y=>aP x y.1⟩
def Ni:PCtr:=Q2 aP
theorem Vl (lp:Lp) (jn:Jn):∀(x:Ni.s.T) (y:TsS Ni.as),iV lp jn x y.1=EU lp jn (cx [] [(134,a7)]) ak 4 112 f112 Ni x y:=fun x y=>by kernel_rfl
theorem PO:Ni.ok prog 112:=PCtr.of_den (an (ba)) aJ (hl:=ak) (d:=4) func112 rfl (by decide) (Vl lpK jnK)
def gQ (lp:Lp) (_:Jn) (aP:JH) (x0:(List (List Int))×Int×(List Int)×(List Int)×(List Int)×Int×Int) (x1:Int):Option Int :=
 ah (aP x0 x1) fun (t:Int)=>lp (Int×Int×PUnit) Int (fun (again:Int×Int×PUnit->Option Int) (x:Int×Int×PUnit) =>
 let v7:List Int:=x0.1.getD x.2.1.toNat [];bif decide (x.2.1<(↑x0.1.length:Int)) then bif inB x.2.1 x0.1.length then bif inB x.2.1 x0.2.2.1.length then ah (aP x0 (x0.2.2.1.getD x.2.1.toNat 0)) fun (t:Int)=>bif inB x1 v7.length then again (IntKind.wrap .i64 (x.1 - IntKind.wrap .i64 (t*v7.getD x1.toNat 0)),IntKind.wrap .i64 (x.2.1+1),PUnit.unit) else none else none else none else some x.1) (IntKind.wrap .i64 (t*x0.2.1),0,PUnit.unit)
def bQ (x0:(List (List Int))×Int×(List Int)×(List Int)×(List Int)×Int×Int) (x1:Int):Option Int:=gQ lpK jnK aP x0 x1
abbrev R0:=((List (List Int))×Int×(List Int)×(List Int)×(List Int)×Int×Int)->(Int)->Option (Int)
def Ny:PCtr:=⟨HR,[i64],.one i64,fun x y=>bQ x y.1⟩
theorem UO (lp:Lp) (jn:Jn) (aP:JH):∀(x:Ny.s.T) (y:TsS Ny.as),gQ lp jn aP x y.1=EU lp jn (BB DT En (HS [(112,Q2 aP)] [] (lu prog shs xX its [] [(134,a7)]))) ak 4 159 f159 Ny x y:=fun x y=>by kernel_rfl
theorem Sj:Ny.ok prog 159:=PCtr.of_den (an (tB (ba) (km (by kernel_rfl) PO (pM)) (p9))) aJ (hl:=ak) (d:=4) func159 rfl (by decide) (UO lpK jnK aP)
def gT (lp:Lp) (_:Jn) (aO:Lq) (aL:Mo) (bQ:R0) (x0:List Nat×List (Option (List Int))) (x1:Int) (x2:List Int) (x3:List Int) (x4:List Int) (x5:Int) (x6:Int):Option ((List Nat×List (Option (List Int)))×Int×(List Int)×(List Int)×(List Int)×Int×Int×Bool×Unit) :=
 lp ((List Nat×List (Option (List Int)))×Int×List Int×List Int×List Int×Int×Int×PUnit) ((List Nat×List (Option (List Int)))×Int×List Int×List Int×List Int×Int × Int×Bool×PUnit) (fun (again:(List Nat×List (Option (List Int)))×Int×List Int×List Int×List Int×Int×Int×PUnit->Option ((List Nat×List (Option (List Int)))×Int × List Int×List Int×List Int×Int×Int×Bool×PUnit)) (x:(List Nat×List (Option (List Int)))×Int×List Int×List Int×List Int×Int×Int×PUnit)=>lp (Int×Int × PUnit) ((List Nat×List (Option (List Int)))×Int×List Int×List Int×List Int×Int×Int×Bool×PUnit) (fun (again_1:Int×Int×PUnit->Option ((List Nat×List (Option (List Int)))×Int×List Int×List Int×List Int×Int×Int×Bool×PUnit)) (x_1:Int×Int×PUnit) =>
 let v13:Bool:=decide (x_1.1<0);
 let v14:Int×PUnit:=(IntKind.wrap .i64 (x_1.2.1+1),PUnit.unit);
 let v15:Bool:=decide (x_1.2.1<x.2.2.2.2.2.1);
 let v16:Bool:=!v15||v15;bif v16 then bif v16 then bif bif v15 then v13 else false then ah (bif List.all x.1.1 fun (x_2:Nat)=>fG x.1.2 x_2 then bQ (List.map (fun (x_2:Nat)=>ai x.1.2 x_2) x.1.1,x.2.1,x.2.2.1,x.2.2.2.1,x.2.2.2.2.1,x.2.2.2.2.2.1, x.2.2.2.2.2.2.1) x_1.2.1 else none) fun (t:Int)=>bif decide (t<0) then again_1 (x_1.2.1,v14) else again_1 (x_1.1,v14) else bif v13 then some (x.1,x.2.1,x.2.2.1,x.2.2.2.1,x.2.2.2.2.1,x.2.2.2.2.2.1,x.2.2.2.2.2.2.1,true,PUnit.unit) else ah (bif List.all x.1.1 fun (x_2:Nat)=>fG x.1.2 x_2 then aL (List.map (fun (x_2:Nat)=>ai x.1.2 x_2) x.1.1,x.2.1,x.2.2.1,x.2.2.2.1, x.2.2.2.2.1,x.2.2.2.2.2.1,x.2.2.2.2.2.2.1) x_1.1 else none) fun (t:Int)=>bif decide (t<0) then some (x.1,x.2.1, x.2.2.1,x.2.2.2.1,x.2.2.2.2.1,x.2.2.2.2.2.1,x.2.2.2.2.2.2.1,false,PUnit.unit) else ah (aO x.1 x.2.1 x.2.2.1 x.2.2.2.1 x.2.2.2.2.1 x.2.2.2.2.2.1 x.2.2.2.2.2.2.1 t x_1.1) fun (y:(List Nat×List (Option (List Int)))×Int×List Int × List Int×List Int×Int×Int×PUnit)=>again (y.1,y.2.1,y.2.2.1,y.2.2.2.1,y.2.2.2.2.1,y.2.2.2.2.2.1,y.2.2.2.2.2.2.1, PUnit.unit) else none else none) ((-1),0,PUnit.unit)) (x0,x1,x2,x3,x4,x5,x6,PUnit.unit)
def bH (x0:List Nat×List (Option (List Int))) (x1:Int) (x2:List Int) (x3:List Int) (x4:List Int) (x5:Int) (x6:Int):Option ((List Nat×List (Option (List Int)))×Int×(List Int)×(List Int)×(List Int)×Int×Int×Bool×Unit):=gT lpK jnK aO aL bQ x0 x1 x2 x3 x4 x5 x6
abbrev QL:=(List Nat×List (Option (List Int)))->(Int)->(List Int)->(List Int)->(List Int)->(Int)->(Int)->Option ((List Nat×List (Option (List Int)))×Int×(List Int)×(List Int)×(List Int)×Int×Int×Bool×Unit)
def Tk (bH:QL):SCtr:=⟨[.b [.x (.tab 29 .ref 3 i64),.d i64,.row 3 i64,.row 3 i64,.row 3 i64,.d i64,.d i64]],[(false,[.d .bool])],fun x=>bH x.1 x.2.1 x.2.2.1 x.2.2.2.1 x.2.2.2.2.1 x.2.2.2.2.2.1 x.2.2.2.2.2.2.1⟩
def Qc:SCtr:=Tk bH
theorem UY (lp:Lp) (jn:Jn) (aO:Lq) (aL:Mo) (bQ:R0):∀x:TsR (rhI 0 Qc.ks),gT lp jn aO aL bQ x.1 x.2.1 x.2.2.1 x.2.2.2.1 x.2.2.2.2.1 x.2.2.2.2.2.1 x.2.2.2.2.2.2.1=zJ lp jn (Dn.look [(157,QB aO)]) (BB DT En (HS [(159,⟨HR,[i64],.one i64,fun x y=>bQ x y.1⟩),(158,P7 aL)] [] (lu prog shs xX its [] [(134,a7)]))) ak 4 111 f111 Qc x:=fun x=>by kernel_rfl
theorem S7:Qc.ok prog 111:=SCtr.of_den (an (tB (ba) (km (by kernel_rfl) Sj (km (by kernel_rfl) PG (pM))) (p9))) aJ (iY PM (jR)) (hl:=ak) (d:=4) func111 rfl (by decide) (UY lpK jnK aO aL bQ)
def od (_:Lp) (_:Jn) (bA:t75) (aM:t77) (bh:t82) (x0:Int) (x1:Int):Option ((Int×Int)×Int×Unit) :=
 
 let v4:Bool:=!decide (x0=0);
 let v5:Bool:=!v4||v4;bif decide (x1=0) then some ((0,0),16,PUnit.unit) else ah (aM x0) fun (t:Int)=>ah (aM x1) fun (t_1:Int)=>ah (bA t t_1) fun (t_2:Int) =>
 let v9:Bool:=nzB t_2;bif v5 then bif v5 then bif v5&&v5 then bif v5 then bif v9 then bif v9 then ah (bh (bif v4 then !decide (decide (x0<0)=decide (x1<(0 : Int))) else false) (IntKind.wrap .u64 (Int.tdiv t t_2)) (IntKind.wrap .u64 (Int.tdiv t_1 t_2))) fun (t:(Int×Int)×Int×PUnit)=>some (t.1,t.2.1, PUnit.unit) else none else none else none else none else none else none
def fC (x0:Int) (x1:Int):Option ((Int×Int)×Int×Unit):=od lpK jnK bA aM bh x0 x1
abbrev QO:=(Int)->(Int)->Option ((Int×Int)×Int×Unit)
def Tu (fC:QO):Ctr:=⟨[i64,i64],[],[],.tup [T49,i64],fun x _ _=>fC x.1 x.2.1⟩
def IG:Ctr:=Tu fC
theorem Ui (lp:Lp) (jn:Jn) (bA:t75) (aM:t77) (bh:t82):∀(x:TsS IG.as) (F:TsF IG.fs) (y:TsS IG.cs),od lp jn bA aM bh x.1 x.2.1=bv lp jn (cx [(82,k82 bh),(77,k77 aM),(75,k75 bA)] [(134,a7)]) ak 4 136 f136 IG x F y:=fun x F y=>by kernel_rfl
theorem Sr:IG.ok prog 136:=Ctr.of_den (an (aa (aa (aa (ba) (by kernel_rfl) O0) (by kernel_rfl) It) (by kernel_rfl) P8)) aJ (hl:=ak) (d:=4) func136 rfl (by decide) (Ui lpK jnK bA aM bh)
def iU (_:Lp) (_:Jn) (fC:QO) (x0:(List (List Int))×Int×(List Int)×(List Int)×(List Int)×Int×Int) (x1:Int):Option (Int×Int) :=
 ah (fC x1 x0.2.1) fun (t:(Int×Int)×Int×PUnit)=>some t.1
def be (x0:(List (List Int))×Int×(List Int)×(List Int)×(List Int)×Int×Int) (x1:Int):Option (Int×Int):=iU lpK jnK fC x0 x1
abbrev Ox:=((List (List Int))×Int×(List Int)×(List Int)×(List Int)×Int×Int)->(Int)->Option (Int×Int)
def TV (be:Ox):PCtr:=⟨HR,[i64],.one T49,fun x y=>be x y.1⟩
def MF:PCtr:=TV be
theorem UI (lp:Lp) (jn:Jn) (fC:QO):∀(x:MF.s.T) (y:TsS MF.as),iU lp jn fC x y.1=EU lp jn (cx [(136,Tu fC)] [(134,a7)]) ak 4 113 f113 MF x y:=fun x y=>by kernel_rfl
theorem RE:MF.ok prog 113:=PCtr.of_den (an (aa (ba) (by kernel_rfl) Sr)) aJ (hl:=ak) (d:=4) func113 rfl (by decide) (UI lpK jnK fC)
def jq (lp:Lp) (jn:Jn) (bC:t91) (cY:M8) (cf:MJ) (bq:NW) (bH:QL) (aP:JH) (be:Ox) (x0:(List Int)×List ((List Int)×Int×Int)):Option (((Int×Int)×(List (Int×Int))×List (Int×Int))×Int×Unit) :=
 ah (bC x0) fun (t:Bool)=>bif !t then some (((0,0),[],[]),1,PUnit.unit) else ah (cY x0) fun (t:Bool)=>bif !t then some ((((0 : Int),0),[],[]),5,PUnit.unit) else lp (Int×Int×PUnit) (((Int×Int)×List (Int×Int)×List (Int×Int))×Int×PUnit) (fun (again:Int×Int×PUnit -> Option (((Int×Int)×List (Int×Int)×List (Int×Int))×Int×PUnit)) (x:Int×Int×PUnit) =>
 let v7:Int×PUnit:=(IntKind.wrap .i64 (x.2.1+1),PUnit.unit);
 let v8:Int:=IntKind.wrap .i64 ((↑x0.1.length:Int)+x.1);bif decide (x.2.1<(↑x0.2.length:Int)) then bif inB x.2.1 x0.2.length then bif !decide ((x0.2.getD x.2.1.toNat ([],0,0)).2.1=3) then again (IntKind.wrap .i64 (x.1+1),v7) else again (x.1, v7) else none else ah (cf x0.1) fun (t:List Int)=>lp (Int×Int×(List Nat×List (Option (List Int)))×Int×List Int×List Int×List Int×Int×Int × PUnit) (((Int×Int)×List (Int×Int)×List (Int×Int))×Int×PUnit) (fun (again:Int×Int×(List Nat×List (Option (List Int)))×Int×List Int×List Int×List Int×Int × Int×PUnit->Option (((Int×Int)×List (Int×Int)×List (Int×Int))×Int×PUnit)) (x:Int×Int×(List Nat×List (Option (List Int)))×Int×List Int×List Int×List Int × Int×Int×PUnit) =>
 let v12:Int:=IntKind.wrap .i64 (x.1+1);
 let v13:List Int×Int×Int:=x0.2.getD x.2.1.toNat ([],0,0);
 let v14:List Int:=List.replicate (Int.toNat (IntKind.wrap .i64 (x.2.2.2.2.2.2.2.2.1+1))) 0;
 let v15:Bool:=inB x.1 (Int.toNat (IntKind.wrap .i64 (x.2.2.2.2.2.2.2.2.1+1)));
 let v16:Bool:=Nat.ble (Nat.succ x.1.toNat) (Int.toNat (IntKind.wrap .i64 (x.2.2.2.2.2.2.2.2.1+1)));
 let v17:Int:=IntKind.wrap .i64 (x.2.2.2.2.2.2.2.1+x.2.1);
 let v18:List Int:=List.take (Int.toNat (IntKind.wrap .i64 (x.2.2.2.2.2.2.2.2.1+1))) v13.1;
 let v19:List Int:=List.set (List.take 0 v14++v18++List.drop (0+List.length v18) v14) x.2.2.2.2.2.2.2.2.1.toNat v13.2.2;bif decide (x.2.1<(↑x0.2.length:Int)) then bif inB x.2.1 x0.2.length then bif decide (0<=IntKind.wrap .i64 (x.2.2.2.2.2.2.2.2.1+(1 : Int)))&&eh (Int.toNat (IntKind.wrap .i64 (x.2.2.2.2.2.2.2.2.1+1))) 8 then bif inB x.2.2.2.2.2.2.2.2.1 (Int.toNat (IntKind.wrap .i64 (x.2.2.2.2.2.2.2.2.1+1))) then bif Nat.ble (Nat.succ x.2.2.2.2.2.2.2.2.1.toNat) (Int.toNat (IntKind.wrap IntKind.i64 (x.2.2.2.2.2.2.2.2.1+1))) then jn (Int×List Int×PUnit) (((Int×Int)×List (Int×Int)×List (Int×Int))×Int×PUnit) (fun (x_1:Int × List Int×PUnit) =>
 let v21:List Int×PUnit:=(x_1.2.1,PUnit.unit);jn (Int×List Int×PUnit) (((Int×Int)×List (Int×Int)×List (Int×Int))×Int×PUnit) (fun (x_2:Int×List Int × PUnit)=>bif inB v17 x_2.2.1.length then bif Nat.ble (Nat.succ v17.toNat) x_2.2.1.length then bif eh (List.length x.2.2.1.1+1) (24 : Nat) then bif eh (List.length x.2.2.2.2.2.1+1) 8 then bif eh (List.length x.2.2.2.2.1+1) 8 then again (x_1.1, IntKind.wrap .i64 (x.2.1+1),(x.2.2.1.1++[List.length x.2.2.1.2+0],x.2.2.1.2++[some (x_2.2.1.set v17.toNat (1 : Int))]),x.2.2.2.1,x.2.2.2.2.1++[v17],x.2.2.2.2.2.1++[x_2.1],x.2.2.2.2.2.2.1,x.2.2.2.2.2.2.2.1, x.2.2.2.2.2.2.2.2.1,PUnit.unit) else none else none else none else none else none) fun (j:Int×List Int×PUnit->Option (((Int×Int)×List (Int×Int)×List (Int×Int))×Int×PUnit))=>bif decide (v13.2.2<0) then lp (Int×List Int×PUnit) (((Int×Int)×List (Int×Int)×List (Int×Int))×Int×PUnit) (fun (again : Int×List Int×PUnit->Option (((Int×Int)×List (Int×Int)×List (Int×Int))×Int×PUnit)) (x:Int×List Int×PUnit) =>
 let v25:Bool:=inB x.1 x.2.1.length;
 let v26:Bool:=Nat.ble (Nat.succ x.1.toNat) x.2.1.length;bif decide (x.1<(↑x_1.2.1.length:Int)) then bif v25 then bif v26 then bif v25 then bif v26 then again (IntKind.wrap .i64 (x.1+1),x.2.1.set x.1.toNat (IntKind.wrap .i64 (0 - x.2.1.getD x.1.toNat 0)), PUnit.unit) else none else none else none else none else j ((-1),x.2.1,PUnit.unit)) (0,v21) else j (1,v21)) fun (j:Int×List Int×PUnit->Option (((Int × Int)×List (Int×Int)×List (Int×Int))×Int×PUnit))=>bif decide (v13.2.1=1) then bif v15 then bif v16 then j (v12,v19.set x.1.toNat 1, PUnit.unit) else none else none else jn (Int×List Int×PUnit) (((Int×Int)×List (Int×Int)×List (Int×Int))×Int×PUnit) (fun (x:Int×List Int×PUnit)=>j (x.1, x.2.1,PUnit.unit)) fun (j:Int×List Int×PUnit->Option (((Int×Int)×List (Int×Int)×List (Int×Int))×Int×PUnit))=>bif decide (v13.2.1=2) then bif v15 then bif v16 then j (v12,v19.set x.1.toNat (-1),PUnit.unit) else none else none else j (x.1,v19,PUnit.unit) else none else none else none else none else ah (bq x.2.2.1 x.2.2.2.1 x.2.2.2.2.1 x.2.2.2.2.2.1 x.2.2.2.2.2.2.1 x.2.2.2.2.2.2.2.1 x.2.2.2.2.2.2.2.2.1) fun (y:(List Nat×List (Option (List Int)))×Int×List Int×List Int×List Int×Int×Int×Bool×PUnit)=>bif !y.2.2.2.2.2.2.2.1 then some (((0,0),[],[]),22,PUnit.unit) else ah (bH y.1 y.2.1 y.2.2.1 y.2.2.2.1 y.2.2.2.2.1 y.2.2.2.2.2.1 y.2.2.2.2.2.2.1) fun (y:(List Nat×List (Option (List Int)))×Int×List Int×List Int×List Int×Int×Int×Bool × PUnit)=>bif !y.2.2.2.2.2.2.2.1 then some (((0,0),[],[]),21,PUnit.unit) else bif decide (0<=(↑x0.1.length:Int))&&eh (Int.toNat (↑x0.1.length:Int)) 8 then lp (Int×Int×List Int×PUnit) (((Int×Int)×List (Int×Int)×List (Int×Int))×Int×PUnit) (fun (again:Int×Int × List Int×PUnit->Option (((Int×Int)×List (Int×Int)×List (Int×Int))×Int×PUnit)) (x:Int×Int×List Int×PUnit) =>
 let v24:Int:=IntKind.wrap .i64 (x.2.1+1);
 let v25:Bool:=inB x.2.1 y.1.1.length;
 let v26:Bool:=Nat.ble (Nat.succ x.2.1.toNat) y.1.1.length;
 let v27:Int:=y.2.2.1.getD x.2.1.toNat 0;bif decide (x.2.1<(↑y.2.2.1.length:Int)) then bif inB x.2.1 y.2.2.1.length then bif Nat.ble (Nat.succ x.2.1.toNat) y.2.2.1.length then ah (bif List.all y.1.1 fun (x:Nat)=>fG y.1.2 x then aP (List.map (fun (x:Nat)=>ai y.1.2 x) y.1.1,y.2.1,y.2.2.1,y.2.2.2.1,y.2.2.2.2.1,y.2.2.2.2.2.1,y.2.2.2.2.2.2.1) v27 else none) fun (t:Int)=>bif v25 then bif v26 then bif inB y.2.2.2.2.2.2.1 (List.length (ai y.1.2 (y.1.1.getD x.2.1.toNat 0))) then bif Nat.ble (Nat.succ y.2.2.2.2.2.2.1.toNat) (List.length (ai y.1.2 (y.1.1.getD x.2.1.toNat 0))) then bif decide (v27<(↑x.2.2.1.length:Int)) then bif v25 then bif v26 then bif inB y.2.2.2.2.2.2.1 (List.length (ai y.1.2 (y.1.1.getD x.2.1.toNat 0))) then bif Nat.ble (Nat.succ y.2.2.2.2.2.2.1.toNat) (List.length (ai y.1.2 (y.1.1.getD x.2.1.toNat 0))) then bif inB v27 x.2.2.1.length then bif Nat.ble (Nat.succ v27.toNat) x.2.2.1.length then again (IntKind.wrap .i64 (x.1+IntKind.wrap .i64 (t*List.getD (ai y.1.2 (y.1.1.getD x.2.1.toNat 0)) y.2.2.2.2.2.2.1.toNat 0)),v24,x.2.2.1.set v27.toNat (List.getD (ai y.1.2 (y.1.1.getD x.2.1.toNat 0)) y.2.2.2.2.2.2.1.toNat 0),PUnit.unit) else none else none else none else none else none else none else again (IntKind.wrap .i64 (x.1+IntKind.wrap .i64 (t*List.getD (ai y.1.2 (y.1.1.getD x.2.1.toNat 0)) y.2.2.2.2.2.2.1.toNat 0)),v24,x.2.2.1,PUnit.unit) else none else none else none else none else none else none else ah (bif List.all y.1.1 fun (x:Nat) =>fG y.1.2 x then be (List.map (fun (x:Nat)=>ai y.1.2 x) y.1.1,y.2.1,y.2.2.1,y.2.2.2.1,y.2.2.2.2.1, y.2.2.2.2.2.1,y.2.2.2.2.2.2.1) x.1 else none) fun (t:Int×Int)=>lp (Int×(Int×Int)×List (Int×Int)×List (Int×Int)×PUnit) (((Int×Int) × List (Int×Int)×List (Int×Int))×Int×PUnit) (fun (again:Int×(Int×Int)×List (Int×Int)×List (Int×Int)×PUnit->Option (((Int×Int)×List (Int×Int)×List (Int × Int))×Int×PUnit)) (x_1:Int×(Int×Int)×List (Int×Int)×List (Int×Int)×PUnit) =>
 let v31:List (Int×Int)×PUnit:=(x_1.2.2.2.1,PUnit.unit);bif decide (x_1.1<(↑x.2.2.1.length:Int)) then bif inB x_1.1 x.2.2.1.length then bif Nat.ble (Nat.succ x_1.1.toNat) x.2.2.1.length then ah (bif List.all y.1.1 fun (x:Nat)=>fG y.1.2 x then be (List.map (fun (x : Nat)=>ai y.1.2 x) y.1.1,y.2.1,y.2.2.1,y.2.2.2.1,y.2.2.2.2.1,y.2.2.2.2.2.1,y.2.2.2.2.2.2.1) (x.2.2.1.getD x_1.1.toNat 0) else none) fun (t:Int×Int)=>bif eh (List.length x_1.2.2.1+1) 16 then again (IntKind.wrap .i64 (x_1.1+1),x_1.2.1,x_1.2.2.1++[t],v31) else none else none else none else lp (Int×(Int×Int)×List (Int×Int)×List (Int×Int)×PUnit) (((Int×Int) × List (Int×Int)×List (Int×Int))×Int×PUnit) (fun (again:Int×(Int×Int)×List (Int×Int)×List (Int×Int)×PUnit->Option (((Int×Int)×List (Int×Int)×List (Int × Int))×Int×PUnit)) (x:Int×(Int×Int)×List (Int×Int)×List (Int×Int)×PUnit) =>
 let v34:Int:=IntKind.wrap .i64 (y.2.2.2.2.2.1+x.1);bif decide (x.1<(↑x0.2.length:Int)) then lp (Int×Int×PUnit) (((Int×Int)×List (Int × Int)×List (Int×Int))×Int×PUnit) (fun (again_1:Int×Int×PUnit->Option (((Int×Int)×List (Int×Int)×List (Int×Int))×Int×PUnit)) (x_2:Int×Int×PUnit)=>bif decide (x_2.2.1<(↑y.2.2.1.length:Int)) then bif inB x_2.2.1 y.2.2.1.length then bif Nat.ble (Nat.succ x_2.2.1.toNat) y.2.2.1.length then ah (bif List.all y.1.1 fun (x:Nat)=>fG y.1.2 x then aP (List.map (fun (x:Nat)=>ai y.1.2 x) y.1.1,y.2.1, y.2.2.1,y.2.2.2.1,y.2.2.2.2.1,y.2.2.2.2.2.1,y.2.2.2.2.2.2.1) (y.2.2.1.getD x_2.2.1.toNat 0) else none) fun (t:Int)=>bif inB x_2.2.1 y.1.1.length then bif Nat.ble (Nat.succ x_2.2.1.toNat) y.1.1.length then bif inB v34 (List.length (ai y.1.2 (y.1.1.getD x_2.2.1.toNat 0))) then bif Nat.ble (Nat.succ v34.toNat) (List.length (ai y.1.2 (y.1.1.getD x_2.2.1.toNat (0 : Nat)))) then again_1 (IntKind.wrap .i64 (x_2.1+IntKind.wrap .i64 (t*List.getD (ai y.1.2 (y.1.1.getD x_2.2.1.toNat 0)) v34.toNat 0)),IntKind.wrap .i64 (x_2.2.1+1),PUnit.unit) else none else none else none else none else none else none else bif inB x.1 y.2.2.2.1.length then bif Nat.ble (Nat.succ x.1.toNat) y.2.2.2.1.length then ah (bif List.all y.1.1 fun (x:Nat)=>fG y.1.2 x then be (List.map (fun (x:Nat)=>ai y.1.2 x) y.1.1,y.2.1,y.2.2.1,y.2.2.2.1,y.2.2.2.2.1,y.2.2.2.2.2.1, y.2.2.2.2.2.2.1) (IntKind.wrap .i64 (y.2.2.2.1.getD x.1.toNat 0*x_2.1)) else none) fun (t:Int×Int)=>bif eh (List.length x.2.2.2.1+1) 16 then again (IntKind.wrap .i64 (x.1+1),x.2.1,x.2.2.1,x.2.2.2.1++[t],PUnit.unit) else none else none else none) (0,0,PUnit.unit) else some ((x.2.1,x.2.2.1,x.2.2.2.1),0,PUnit.unit)) (0,x_1.2.1,x_1.2.2.1,v31)) ((0 : Int),t,[],[],PUnit.unit)) (0,0,List.replicate (Int.toNat (↑x0.1.length:Int)) 0,PUnit.unit) else none) ((↑x0.1.length:Int),(0 : Int),([],[]),1,[],[],t,v8,IntKind.wrap .i64 (v8+(↑x0.2.length:Int)),PUnit.unit)) (0,0,PUnit.unit)
def aA (x0:(List Int)×List ((List Int)×Int×Int)):Option (((Int×Int)×(List (Int×Int))×List (Int×Int))×Int×Unit):=jq lpK jnK bC cY cf bq bH aP be x0
abbrev t58:=((List Int)×List ((List Int)×Int×Int))->Option (((Int×Int)×(List (Int×Int))×List (Int×Int))×Int×Unit)
def k58 (aA:t58):Ctr:=⟨[T32],[],[],.tup [T96,i64],fun x _ _=>aA x.1⟩
def c58:Ctr:=k58 aA
theorem e58 (lp:Lp) (jn:Jn) (bC:t91) (cY:M8) (cf:MJ) (bq:NW) (bH:QL) (aP:JH) (be:Ox):∀(x:TsS c58.as) (F:TsF c58.fs) (y:TsS c58.cs),jq lp jn bC cY cf bq bH aP be x.1=Jk lp jn (Dn.look [(111,Tk bH),(110,SF bq)]) (BB DT En (HS [(113,TV be),(112,Q2 aP)] [] (lu prog shs xX its [(108,SJ cY),(91,k91 bC)] [(134,SK cf)]))) ak 4 58 f58 c58 x F y:=fun x F y=>by kernel_rfl
theorem Rm:c58.ok prog 58:=Ctr.of_denS (an (tB (aa (aa (ba) (by kernel_rfl) SA) (by kernel_rfl) Tp) (km (by kernel_rfl) RE (km (by kernel_rfl) PO (pM))) (p9))) aJ (iY S7 (iY RB (jR))) (hl:=ak) (d:=4) func58 rfl (by decide) (e58 lpK jnK bC cY cf bq bH aP be)
def lF (_:Lp) (_:Jn) (aR:t11) (aA:t58) (x0:(List (ByteArray×Int))×List (ByteArray×(List (ByteArray×Int×Int×Int))×Bool)):Option ((List (Int×Int))×Int×Unit) :=
 ah (aR x0) fun (t:(List Int×List (List Int×Int×Int))×Int×PUnit)=>bif !decide (t.2.1=0) then some ([],t.2.1,PUnit.unit) else ah (aA t.1) fun (t:((Int×Int)×List (Int×Int)×List (Int×Int))×Int×PUnit)=>bif !decide (t.2.1=0) then some ([],t.2.1,PUnit.unit) else some (t.1.2.1,0,PUnit.unit)
def aW (x0:(List (ByteArray×Int))×List (ByteArray×(List (ByteArray×Int×Int×Int))×Bool)):Option ((List (Int×Int))×Int×Unit):=lF lpK jnK aR aA x0
abbrev t19:=((List (ByteArray×Int))×List (ByteArray×(List (ByteArray×Int×Int×Int))×Bool))->Option ((List (Int×Int))×Int×Unit)
def k19 (aW:t19):Ctr:=⟨[T25],[],[],.tup [(.sl T49),i64],fun x _ _=>aW x.1⟩
def c19:Ctr:=k19 aW
theorem e19 (lp:Lp) (jn:Jn) (aR:t11) (aA:t58):∀(x:TsS c19.as) (F:TsF c19.fs) (y:TsS c19.cs),lF lp jn aR aA x.1=bv lp jn (cx [(58,k58 aA),(11,k11 aR)] [(134,a7)]) ak 4 19 f19 c19 x F y:=fun x F y=>by kernel_rfl
theorem TK:c19.ok prog 19:=Ctr.of_den (an (aa (aa (ba) (by kernel_rfl) Qw) (by kernel_rfl) Rm)) aJ (hl:=ak) (d:=4) func19 rfl (by decide) (e19 lpK jnK aR aA)
def iA (lp:Lp) (_:Jn) (x0:List (ByteArray×(List (ByteArray×Int×Int×Int))×Bool)) (f0:(((ByteArray×(List (ByteArray×Int×Int×Int))×Bool)×Unit)->Option Bool)):Option Int :=
 lp (Int×PUnit) Int (fun (again:Int×PUnit->Option Int) (x:Int×PUnit)=>bif decide (x.1<(↑x0.length:Int)) then bif inB x.1 x0.length then ah (f0 (x0.getD x.1.toNat ({ data:={ toList:=[] } },[],false),PUnit.unit)) fun (t:Bool)=>bif t then some x.1 else again (IntKind.wrap .i64 (x.1+1), PUnit.unit) else none else some (-1)) (0,PUnit.unit)
def bW (x0:List (ByteArray×(List (ByteArray×Int×Int×Int))×Bool)) (f0:(((ByteArray×(List (ByteArray×Int×Int×Int))×Bool)×Unit)->Option Bool)):Option Int:=iA lpK jnK x0 f0
abbrev t60:=(List (ByteArray×(List (ByteArray×Int×Int×Int))×Bool))->((((ByteArray×(List (ByteArray×Int×Int×Int))×Bool)×Unit)->Option Bool))->Option (Int)
def k60 (bW:t60):Ctr:=⟨[(.sl T75)],[([T75],.bool)],[],.one i64,fun x F _=>bW x.1 F.1⟩
def c60:Ctr:=k60 bW
theorem e60 (lp:Lp) (jn:Jn):∀(x:TsS c60.as) (F:TsF c60.fs) (y:TsS c60.cs),iA lp jn x.1 F.1=bv lp jn (cx [] [(134,a7)]) ak 4 60 f60 c60 x F y:=fun x F y=>by kernel_rfl
theorem T3:c60.ok prog 60:=Ctr.of_den (an (ba)) aJ (hl:=ak) (d:=4) func60 rfl (by decide) (e60 lpK jnK)
def lk (_:Lp) (_:Jn) (x0:ByteArray×(List (ByteArray×Int×Int×Int))×Bool) (y0:ByteArray):Option Bool :=
 some (List.beq (ByteArray.toList x0.1) (ByteArray.toList y0))
def eD (x0:ByteArray×(List (ByteArray×Int×Int×Int))×Bool) (y0:ByteArray):Option Bool:=lk lpK jnK x0 y0
abbrev t61:=(ByteArray×(List (ByteArray×Int×Int×Int))×Bool)->(ByteArray)->Option (Bool)
def c61:Ctr:=⟨[T75],[],[.str],.one .bool,fun x _ y=>eD x.1 y.1⟩
theorem e61 (lp:Lp) (jn:Jn):∀(x:TsS c61.as) (F:TsF c61.fs) (y:TsS c61.cs),lk lp jn x.1 y.1=bv lp jn (cx [] [(134,a7)]) ak 4 61 f61 c61 x F y:=fun x F y=>by kernel_rfl
theorem Va:c61.ok prog 61:=Ctr.of_den (an (ba)) aJ (hl:=ak) (d:=4) func61 rfl (by decide) (e61 lpK jnK)
def qx (_:Lp) (_:Jn) (cO:t45) (x0:(List (ByteArray×Int))×List (ByteArray×(List (ByteArray×Int×Int×Int))×Bool)) (x1:Int) (x2:Int):Option (((List Int)×List ((List Int)×Int×Int))×Int×Unit) :=
 bif decide (0<=(↑x0.2.length:Int))&&eh (Int.toNat (↑x0.2.length:Int)) 8 then bif inB x1 (Int.toNat (↑x0.2.length:Int)) then bif Nat.ble (Nat.succ x1.toNat) (Int.toNat (↑x0.2.length:Int)) then ah (cO x0 (List.set (List.replicate (Int.toNat (↑x0.2.length:Int)) 0) x1.toNat x2)) fun (t:(List Int×List (List Int×Int×Int))×Int×PUnit)=>some (t.1,t.2.1,PUnit.unit) else none else none else none
def dE (x0:(List (ByteArray×Int))×List (ByteArray×(List (ByteArray×Int×Int×Int))×Bool)) (x1:Int) (x2:Int):Option (((List Int)×List ((List Int)×Int×Int))×Int×Unit):=qx lpK jnK cO x0 x1 x2
abbrev t62:=((List (ByteArray×Int))×List (ByteArray×(List (ByteArray×Int×Int×Int))×Bool))->(Int)->(Int)->Option (((List Int)×List ((List Int)×Int×Int))×Int×Unit)
def k62 (dE:t62):Ctr:=⟨[T25,i64,i64],[],[],.tup [T32,i64],fun x _ _=>dE x.1 x.2.1 x.2.2.1⟩
def c62:Ctr:=k62 dE
theorem e62 (lp:Lp) (jn:Jn) (cO:t45):∀(x:TsS c62.as) (F:TsF c62.fs) (y:TsS c62.cs),qx lp jn cO x.1 x.2.1 x.2.2.1=bv lp jn (cx [(45,k45 cO)] [(134,a7)]) ak 4 62 f62 c62 x F y:=fun x F y=>by kernel_rfl
theorem S8:c62.ok prog 62:=Ctr.of_den (an (aa (ba) (by kernel_rfl) R7)) aJ (hl:=ak) (d:=4) func62 rfl (by decide) (e62 lpK jnK cO)
def jl (_:Lp) (_:Jn) (aK:t59) (aA:t58) (bW:t60) (eD:t61) (dE:t62) (x0:(List (ByteArray×Int))×List (ByteArray×(List (ByteArray×Int×Int×Int))×Bool)) (x1:ByteArray):Option ((Int×Int)×Int×Unit) :=
 ah (aK x0) fun (t:Bool)=>bif !t then some ((0,0),1,PUnit.unit) else ah (bW x0.2 fun (x:(ByteArray×List (ByteArray × Int×Int×Int)×Bool)×PUnit)=>eD x.1 x1) fun (t:Int)=>bif decide (t<0) then some ((0,0),9,PUnit.unit) else ah (dE x0 t 1) fun (t:(List Int×List (List Int×Int×Int))×Int×PUnit)=>bif !decide (t.2.1=0) then some ((0,0),t.2.1,PUnit.unit) else ah (aA t.1) fun (t:((Int×Int)×List (Int×Int)×List (Int×Int))×Int×PUnit)=>bif !decide (t.2.1=0) then some ((0,0), t.2.1,PUnit.unit) else some (t.1.1,0,PUnit.unit)
def bi (x0:(List (ByteArray×Int))×List (ByteArray×(List (ByteArray×Int×Int×Int))×Bool)) (x1:ByteArray):Option ((Int×Int)×Int×Unit):=jl lpK jnK aK aA bW eD dE x0 x1
abbrev t20:=((List (ByteArray×Int))×List (ByteArray×(List (ByteArray×Int×Int×Int))×Bool))->(ByteArray)->Option ((Int×Int)×Int×Unit)
def k20 (bi:t20):Ctr:=⟨[T25,.str],[],[],.tup [T49,i64],fun x _ _=>bi x.1 x.2.1⟩
def c20:Ctr:=k20 bi
theorem e20 (lp:Lp) (jn:Jn) (aK:t59) (aA:t58) (bW:t60) (eD:t61) (dE:t62):∀(x:TsS c20.as) (F:TsF c20.fs) (y:TsS c20.cs),jl lp jn aK aA bW eD dE x.1 x.2.1=bv lp jn (cx [(62,k62 dE),(61,⟨[T75],[],[.str],.one .bool,fun x _ y=>eD x.1 y.1⟩),(60,k60 bW),(58,k58 aA),(59,k59 aK)] [(134,a7)]) ak 4 20 f20 c20 x F y:=fun x F y=>by kernel_rfl
theorem So:c20.ok prog 20:=Ctr.of_den (an (aa (aa (aa (aa (aa (ba) (by kernel_rfl) NN) (by kernel_rfl) Rm) (by kernel_rfl) T3) (by kernel_rfl) Va) (by kernel_rfl) S8)) aJ (hl:=ak) (d:=4) func20 rfl (by decide) (e20 lpK jnK aK aA bW eD dE)
def jm (lp:Lp) (_:Jn) (aK:t59) (aA:t58) (dE:t62) (x0:(List (ByteArray×Int))×List (ByteArray×(List (ByteArray×Int×Int×Int))×Bool)):Option ((List ByteArray)×Int×Unit) :=
 ah (aK x0) fun (t:Bool)=>bif !t then some ([],1,PUnit.unit) else lp (List ByteArray×Int×PUnit) (List ByteArray×Int×PUnit) (fun (again:List ByteArray × Int×PUnit->Option (List ByteArray×Int×PUnit)) (x:List ByteArray×Int×PUnit) =>
 let v6:Int×PUnit:=(IntKind.wrap .i64 (x.2.1+1),PUnit.unit);bif decide (x.2.1<(↑x0.2.length:Int)) then bif inB x.2.1 x0.2.length then ah (dE x0 x.2.1 (-1)) fun (t:(List Int×List (List Int×Int×Int))×Int×PUnit)=>bif !decide (t.2.1=0) then some ([],t.2.1, PUnit.unit) else ah (aA t.1) fun (t:((Int×Int)×List (Int×Int)×List (Int×Int))×Int×PUnit)=>bif decide (t.2.1=21) then again (x.1,v6) else bif !decide (t.2.1=0) then some ([],t.2.1,PUnit.unit) else bif decide (t.1.1.1=0) then bif eh (List.length x.1+1) 16 then again (x.1++[(x0.2.getD x.2.1.toNat ({ data:={ toList:=[] } },[],false)).1],v6) else none else again (x.1,v6) else none else some (x.1,0, PUnit.unit)) ([],0,PUnit.unit)
def aV (x0:(List (ByteArray×Int))×List (ByteArray×(List (ByteArray×Int×Int×Int))×Bool)):Option ((List ByteArray)×Int×Unit):=jm lpK jnK aK aA dE x0
abbrev t21:=((List (ByteArray×Int))×List (ByteArray×(List (ByteArray×Int×Int×Int))×Bool))->Option ((List ByteArray)×Int×Unit)
def k21 (aV:t21):Ctr:=⟨[T25],[],[],.tup [(.sl .str),i64],fun x _ _=>aV x.1⟩
def c21:Ctr:=k21 aV
theorem e21 (lp:Lp) (jn:Jn) (aK:t59) (aA:t58) (dE:t62):∀(x:TsS c21.as) (F:TsF c21.fs) (y:TsS c21.cs),jm lp jn aK aA dE x.1=bv lp jn (cx [(62,k62 dE),(58,k58 aA),(59,k59 aK)] [(134,a7)]) ak 4 21 f21 c21 x F y:=fun x F y=>by kernel_rfl
theorem R5:c21.ok prog 21:=Ctr.of_den (an (aa (aa (aa (ba) (by kernel_rfl) NN) (by kernel_rfl) Rm) (by kernel_rfl) S8)) aJ (hl:=ak) (d:=4) func21 rfl (by decide) (e21 lpK jnK aK aA dE)
def r6 (_:Lp) (_:Jn) (x0:Int):Option (Int×Int) :=
 some (x0,1)
def cm (x0:Int):Option (Int×Int):=r6 lpK jnK x0
abbrev t34:=(Int)->Option (Int×Int)
def k34 (cm:t34):Ctr:=⟨[i64],[],[],.one T49,fun x _ _=>cm x.1⟩
def c34:Ctr:=k34 cm
theorem e34 (lp:Lp) (jn:Jn):∀(x:TsS c34.as) (F:TsF c34.fs) (y:TsS c34.cs),r6 lp jn x.1=bv lp jn (cx [] [(134,a7)]) ak 4 34 f34 c34 x F y:=fun x F y=>by kernel_rfl
theorem Sd:c34.ok prog 34:=Ctr.of_den (an (ba)) aJ (hl:=ak) (d:=4) func34 rfl (by decide) (e34 lpK jnK)
def rZ (lp:Lp) (_:Jn) (cm:t34) (x0:List Int):Option ((List (ByteArray×Int))×List (ByteArray×(List (ByteArray×Int×Int×Int))×Bool)) :=
 lp (Int×List (ByteArray×Int)×List (ByteArray×List (ByteArray×Int×Int×Int)×Bool)×PUnit) (List (ByteArray×Int)×List (ByteArray×List (ByteArray×Int×Int×Int)×Bool)) (fun (again:Int×List (ByteArray×Int)×List (ByteArray×List (ByteArray×Int×Int×Int)×Bool)×PUnit->Option (List (ByteArray×Int)×List (ByteArray×List (ByteArray×Int×Int×Int)×Bool))) (x:Int×List (ByteArray×Int)×List (ByteArray×List (ByteArray×Int×Int×Int)×Bool)×PUnit) => bif decide (x.1<(↑x0.length:Int)) then bif inB x.1 x0.length then ah (cm 1) fun (t:Int×Int)=>ah (cm 1) fun (t_1:Int×Int)=>bif eh (List.length x.2.2.1+1) 48 then again (IntKind.wrap .i64 (x.1+1),x.2.1,x.2.2.1++[({ data:=#[114] }++wj [IntKind.wrap IntKind.u8 (IntKind.wrap .i64 (49+x.1))],[({ data:=#[98] },x0.getD x.1.toNat 0,t),({ data:={ toList:=[] } },0,t_1)],false)],PUnit.unit) else none else none else some (x.2.1,x.2.2.1)) (0,[({ data:=#[98] },10)],[],PUnit.unit)
def eL (x0:List Int):Option ((List (ByteArray×Int))×List (ByteArray×(List (ByteArray×Int×Int×Int))×Bool)):=rZ lpK jnK cm x0
abbrev t43:=(List Int)->Option ((List (ByteArray×Int))×List (ByteArray×(List (ByteArray×Int×Int×Int))×Bool))
def c43:Ctr:=⟨[(.sl i64)],[],[],.one T25,fun x _ _=>eL x.1⟩
theorem e43 (lp:Lp) (jn:Jn) (cm:t34):∀(x:TsS c43.as) (F:TsF c43.fs) (y:TsS c43.cs),rZ lp jn cm x.1=bv lp jn (cx [(34,k34 cm)] [(134,a7)]) ak 4 43 f43 c43 x F y:=fun x F y=>by kernel_rfl
theorem Vi:c43.ok prog 43:=Ctr.of_den (an (aa (ba) (by kernel_rfl) Sd)) aJ (hl:=ak) (d:=4) func43 rfl (by decide) (e43 lpK jnK cm)
def rY (_:Lp) (_:Jn) (a9:t12) (aW:t19) (bi:t20) (aV:t21) (cm:t34) (eL:t43):Option Bool :=
 ah (eL [1,1,(-1)]) fun (t:List (ByteArray×Int)×List (ByteArray×List (ByteArray×Int×Int×Int)×Bool))=>ah (aW t) fun (t:List (Int×Int)×Int×PUnit) =>
 let v4:Bool:=decide (t.2.1=0);
 let v5:Bool:=!v4||v4;
 let v6:Bool:=bif v4 then decide ((↑t.1.length:Int)=3) else false;
 let v7:Bool:=!v6||v6;ah (eL [1,1,(-1)]) fun (t:List (ByteArray×Int)×List (ByteArray×List (ByteArray×Int×Int×Int)×Bool))=>ah (aV t) fun (t:List ByteArray×Int×PUnit) =>
 let v10:Bool:=bif v6 then decide (t.2.1=0) else false;
 let v11:Bool:=!v10||v10;
 let v12:Bool:=bif v10 then decide ((↑t.1.length:Int)=0) else false;
 let v13:Bool:=!v12||v12;ah (eL [1,1,(-1)]) fun (t:List (ByteArray×Int)×List (ByteArray×List (ByteArray×Int×Int×Int)×Bool)) => ah (bi t { data:={ toList:=[{ toBitVec:={ toFin:=⟨114,Nat.mod_lt 114 (BitVec.ofNat._proof_1 8)⟩ } },{ toBitVec:={ toFin:=⟨49, Nat.mod_lt 49 (BitVec.ofNat._proof_1 8)⟩ } }] } }) fun (t:(Int×Int)×Int×PUnit) =>
 let v16:Bool:=bif v12 then decide (t.2.1=0) else false;
 let v17:Bool:=!v16||v16;ah (eL [(-1)]) fun (t_1:List (ByteArray×Int)×List (ByteArray×List (ByteArray×Int×Int×Int)×Bool))=>ah (cm (1 : Int)) fun (t_2:Int×Int)=>ah (a9 t_1 [t_2]) fun (t_3:Bool×Int×PUnit)=>ah (eL [(-1)]) fun (t_4:List (ByteArray×Int)×List (ByteArray × List (ByteArray×Int×Int×Int)×Bool))=>ah (aW t_4) fun (t_5:List (Int×Int)×Int×PUnit)=>bif v5 then bif v5 then bif v5 then bif v7 then bif v7 then bif v11 then bif v11 then bif v11 then bif v13 then bif v13 then ah (bif v16 then cm 0 else some (0,0)) fun (t_6:Int×Int) =>
 let v24:Bool:=bif v16 then decide (t.1.1=t_6.1)&&(decide (t.1.2=t_6.2)&&true) else false;
 let v25:Bool:=bif v24 then decide (t_3.2.1=0) else false;
 let v26:Bool:=bif v25 then t_3.1 else false;
 let v27:Bool:=!v24||v24;
 let v28:Bool:=!v26||v26;bif v17&&v17 then bif v17 then bif v27 then bif v27 then bif !v25||v25 then bif v28 then bif v28 then some (bif v26 then decide (t_5.2.1=(22 : Int)) else false) else none else none else none else none else none else none else none else none else none else none else none else none else none else none else none else none else none
def aY:Option Bool:=rY lpK jnK a9 aW bi aV cm eL
abbrev t9:=Option (Bool)
def k9 (aY:t9):Ctr:=⟨[],[],[],.one .bool,fun _ _ _=>aY⟩
def c9:Ctr:=k9 aY
theorem e9 (lp:Lp) (jn:Jn) (a9:t12) (aW:t19) (bi:t20) (aV:t21) (cm:t34) (eL:t43):∀(x:TsS c9.as) (F:TsF c9.fs) (y:TsS c9.cs),rY lp jn a9 aW bi aV cm eL=bv lp jn (cx [(43,⟨[(.sl i64)],[],[],.one T25,fun x _ _=>eL x.1⟩),(34,k34 cm),(21,k21 aV),(20,k20 bi),(19,k19 aW),(12,k12 a9)] [(134,a7)]) ak 4 9 f9 c9 x F y:=fun x F y=>by kernel_rfl
theorem ok9:c9.ok prog 9:=Ctr.of_den (an (aa (aa (aa (aa (aa (aa (ba) (by kernel_rfl) TS) (by kernel_rfl) TK) (by kernel_rfl) So) (by kernel_rfl) R5) (by kernel_rfl) Sd) (by kernel_rfl) Vi)) aJ (hl:=ak) (d:=4) func9 rfl (by decide) (e9 lpK jnK a9 aW bi aV cm eL)
def nv (lp:Lp) (_:Jn) (x0:(List (ByteArray×Int))×List (ByteArray×(List (ByteArray×Int×Int×Int))×Bool)):Option Bool :=
 
 let v3:Bool:=decide ((↑x0.1.length:Int)>9);
 let v4:Bool:=!v3;
 let v5:Bool:=!v4||v4;bif v5 then bif v5 then bif v5 then bif v3||v4 then bif bif v3 then true else decide ((↑x0.2.length:Int)>9) then some false else lp (Int × PUnit) Bool (fun (again:Int×PUnit->Option Bool) (x:Int×PUnit)=>bif decide (x.1<(↑x0.1.length:Int)) then bif inB x.1 x0.1.length then bif decide ((↑(ByteArray.size (x0.1.getD x.1.toNat ({ data:={ toList:=[] } },0)).1):Int)>60) then some false else again (IntKind.wrap .i64 (x.1 + 1),PUnit.unit) else none else lp (Int×PUnit) Bool (fun (again:Int×PUnit->Option Bool) (x:Int×PUnit) =>
 let v10:Bool:=inB x.1 x0.2.length;
 let v11:Bool:=decide ((↑(ByteArray.size (x0.2.getD x.1.toNat ({ data:={ toList:=[] } },[],false)).1):Int)>60);
 let v12:Bool:=!v11;
 let v13:Bool:=!v12;
 let v14:Bool:=v13||v12;bif decide (x.1<(↑x0.2.length:Int)) then bif v10 then bif v14 then bif v14&&(v14&&(v13||v10)) then bif v14 then bif v14 then bif v14 then bif v14 then bif v11||v12 then bif bif v11 then true else decide ((↑(List.length (x0.2.getD x.1.toNat ({ data:={ toList:=[] } },[],false)).2.1):Int) > 13) then some false else lp (Int×PUnit) Bool (fun (again_1:Int×PUnit->Option Bool) (x_1:Int×PUnit)=>bif v10 then bif decide (x_1.1<(↑(List.length (x0.2.getD x.1.toNat ({ data:={ toList:=[] } },[],false)).2.1):Int)) then bif v10 then bif inB x_1.1 (List.length (x0.2.getD x.1.toNat ({ data:={ toList:=[] } },[],false)).2.1) then bif decide ((↑(ByteArray.size (List.getD (x0.2.getD x.1.toNat ({ data:={ toList:=[] } },[],false)).2.1 x_1.1.toNat ({ data:={ toList:=[] } },0,0,0)).1):Int)>60) then some false else again_1 (IntKind.wrap .i64 (x_1.1+1), PUnit.unit) else none else none else again (IntKind.wrap .i64 (x.1+1),PUnit.unit) else none) (0,PUnit.unit) else none else none else none else none else none else none else none else none else some true) (0,PUnit.unit)) (0,PUnit.unit) else none else none else none else none
def fN (x0:(List (ByteArray×Int))×List (ByteArray×(List (ByteArray×Int×Int×Int))×Bool)):Option Bool:=nv lpK jnK x0
abbrev t44:=((List (ByteArray×Int))×List (ByteArray×(List (ByteArray×Int×Int×Int))×Bool))->Option (Bool)
def c44:Ctr:=⟨[T25],[],[],.one .bool,fun x _ _=>fN x.1⟩
theorem e44 (lp:Lp) (jn:Jn):∀(x:TsS c44.as) (F:TsF c44.fs) (y:TsS c44.cs),nv lp jn x.1=bv lp jn (cx [] [(134,a7)]) ak 4 44 f44 c44 x F y:=fun x F y=>by kernel_rfl
theorem UN:c44.ok prog 44:=Ctr.of_den (an (ba)) aJ (hl:=ak) (d:=4) func44 rfl (by decide) (e44 lpK jnK)
def qo (_:Lp) (_:Jn) (fN:t44) (x0:(List (ByteArray×Int))×List (ByteArray×(List (ByteArray×Int×Int×Int))×Bool)) (x1:List (Int×Int)):Option Bool :=
 ah (fN x0) fun (t:Bool) =>
 let v5:Bool:=!t||t;bif v5 then bif v5 then bif v5 then some (bif t then decide ((↑x1.length:Int)<=10) else false) else none else none else none
def br (x0:(List (ByteArray×Int))×List (ByteArray×(List (ByteArray×Int×Int×Int))×Bool)) (x1:List (Int×Int)):Option Bool:=qo lpK jnK fN x0 x1
abbrev t10:=((List (ByteArray×Int))×List (ByteArray×(List (ByteArray×Int×Int×Int))×Bool))->(List (Int×Int))->Option (Bool)
def k10 (br:t10):Ctr:=⟨[T25,(.sl T49)],[],[],.one .bool,fun x _ _=>br x.1 x.2.1⟩
def c10:Ctr:=k10 br
theorem e10 (lp:Lp) (jn:Jn) (fN:t44):∀(x:TsS c10.as) (F:TsF c10.fs) (y:TsS c10.cs),qo lp jn fN x.1 x.2.1=bv lp jn (cx [(44,⟨[T25],[],[],.one .bool,fun x _ _=>fN x.1⟩)] [(134,a7)]) ak 4 10 f10 c10 x F y:=fun x F y=>by kernel_rfl
theorem Si:c10.ok prog 10:=Ctr.of_den (an (aa (ba) (by kernel_rfl) UN)) aJ (hl:=ak) (d:=4) func10 rfl (by decide) (e10 lpK jnK fN)
def kF (lp:Lp) (_:Jn) (x0:(List (ByteArray×Int))×List (ByteArray×(List (ByteArray×Int×Int×Int))×Bool)) (x1:ByteArray):Option Int :=
 lp (Int×PUnit) Int (fun (again:Int×PUnit->Option Int) (x:Int×PUnit)=>bif decide (x.1<(↑x0.2.length:Int)) then bif inB x.1 x0.2.length then bif List.beq (ByteArray.toList (x0.2.getD x.1.toNat ({ data:={ toList:=[] } },[],false)).1) (ByteArray.toList x1) then some x.1 else again (IntKind.wrap .i64 (x.1+1),PUnit.unit) else none else some (-1)) (0,PUnit.unit)
def bK (x0:(List (ByteArray×Int))×List (ByteArray×(List (ByteArray×Int×Int×Int))×Bool)) (x1:ByteArray):Option Int:=kF lpK jnK x0 x1
abbrev t22:=((List (ByteArray×Int))×List (ByteArray×(List (ByteArray×Int×Int×Int))×Bool))->(ByteArray)->Option (Int)
def k22 (bK:t22):Ctr:=⟨[T25,.str],[],[],.one i64,fun x _ _=>bK x.1 x.2.1⟩
def c22:Ctr:=k22 bK
theorem e22 (lp:Lp) (jn:Jn):∀(x:TsS c22.as) (F:TsF c22.fs) (y:TsS c22.cs),kF lp jn x.1 x.2.1=bv lp jn (cx [] [(134,a7)]) ak 4 22 f22 c22 x F y:=fun x F y=>by kernel_rfl
theorem TI:c22.ok prog 22:=Ctr.of_den (an (ba)) aJ (hl:=ak) (d:=4) func22 rfl (by decide) (e22 lpK jnK)
def qe (_:Lp) (_:Jn) (x0:Int):Option Bool :=
 
 let v3:Bool:=decide (x0>=97);
 let v4:Bool:=decide (x0>=65);
 let v5:Bool:=!v3||v3;
 let v6:Bool:=bif v3 then decide (x0<=122) else false;
 let v7:Bool:=!v6;
 let v8:Bool:=!v7;
 let v9:Bool:=v7&&v4;
 let v10:Bool:=v8||v7;bif v5 then bif v5 then bif v10 then bif v10 then bif !v9||v9 then bif (v8||v10)&&(v8||(!v4||(v8||v9))) then bif v6||v7 then some (bif v6 then true else bif v4 then decide (x0<=90) else false) else none else none else none else none else none else none else none
def cE (x0:Int):Option Bool:=qe lpK jnK x0
abbrev t98:=(Int)->Option (Bool)
def k98 (cE:t98):Ctr:=⟨[(.int .u8)],[],[],.one .bool,fun x _ _=>cE x.1⟩
def c98:Ctr:=k98 cE
theorem e98 (lp:Lp) (jn:Jn):∀(x:TsS c98.as) (F:TsF c98.fs) (y:TsS c98.cs),qe lp jn x.1=bv lp jn (cx [] [(134,a7)]) ak 4 98 f98 c98 x F y:=fun x F y=>by kernel_rfl
theorem Sb:c98.ok prog 98:=Ctr.of_den (an (ba)) aJ (hl:=ak) (d:=4) func98 rfl (by decide) (e98 lpK jnK)
def rJ (_:Lp) (_:Jn) (x0:Int):Option Bool :=
 
 let v3:Bool:=decide (x0>=48);
 let v4:Bool:=!v3||v3;bif v4 then bif v4 then some (bif v3 then decide (x0<=57) else false) else none else none
def gi (x0:Int):Option Bool:=rJ lpK jnK x0
abbrev Ta:=(Int)->Option (Bool)
def L4:Ctr:=⟨[(.int .u8)],[],[],.one .bool,fun x _ _=>gi x.1⟩
theorem Uq (lp:Lp) (jn:Jn):∀(x:TsS L4.as) (F:TsF L4.fs) (y:TsS L4.cs),rJ lp jn x.1=bv lp jn (cx [] [(134,a7)]) ak 4 147 f147 L4 x F y:=fun x F y=>by kernel_rfl
theorem TA:L4.ok prog 147:=Ctr.of_den (an (ba)) aJ (hl:=ak) (d:=4) func147 rfl (by decide) (Uq lpK jnK)
def pj (lp:Lp) (_:Jn) (cE:t98) (gi:Ta) (x0:ByteArray) (x1:Int):Option Int :=
 lp (Int×PUnit) Int (fun (again:Int×PUnit->Option Int) (x:Int×PUnit) =>
 let v6:Bool:=inB x.1 (ByteArray.size x0);
 let v7:Int:=fA x0 x.1.toNat;
 let v8:Bool:=decide (x.1<(↑(ByteArray.size x0):Int));
 let v9:Bool:=!v8;
 let v10:Bool:=v9||v8;
 let v11:Bool:=v9||v10;bif v10&&(v10&&(v9||v6)) then bif v10 then ah (bif v8 then cE v7 else some false) fun (t:Bool) =>
 let v13:Bool:=v8&&!t;
 let v14:Bool:=!v13;
 let v15:Bool:=v14||v13;bif v10 then bif v15&&(v15&&(v14||v6)) then bif v15 then ah (bif v13 then gi v7 else some false) fun (t_1:Bool) =>
 let v17:Bool:=bif t then true else t_1;
 let v18:Bool:=v8&&!v17;
 let v19:Bool:=!v18;
 let v20:Bool:=v19||v18;bif v11&&(v9||(t||(v9||v13))) then bif v10 then bif v20&&(v20&&(v19||v6)) then bif v20 then bif v11&&(v9||(v17||(v9||v18))) then bif v10 then bif bif v8 then bif v17 then true else decide (v7=95) else false then again (IntKind.wrap .i64 (x.1+1),PUnit.unit) else some x.1 else none else none else none else none else none else none else none else none else none else none else none) (x1,PUnit.unit)
def gA (x0:ByteArray) (x1:Int):Option Int:=pj lpK jnK cE gi x0 x1
abbrev t99:=(ByteArray)->(Int)->Option (Int)
def c99:Ctr:=⟨[.str,i64],[],[],.one i64,fun x _ _=>gA x.1 x.2.1⟩
theorem e99 (lp:Lp) (jn:Jn) (cE:t98) (gi:Ta):∀(x:TsS c99.as) (F:TsF c99.fs) (y:TsS c99.cs),pj lp jn cE gi x.1 x.2.1=bv lp jn (cx [(147,⟨[(.int .u8)],[],[],.one .bool,fun x _ _=>gi x.1⟩),(98,k98 cE)] [(134,a7)]) ak 4 99 f99 c99 x F y:=fun x F y=>by kernel_rfl
theorem U5:c99.ok prog 99:=Ctr.of_den (an (aa (aa (ba) (by kernel_rfl) Sb) (by kernel_rfl) TA)) aJ (hl:=ak) (d:=4) func99 rfl (by decide) (e99 lpK jnK cE gi)
def mr (_:Lp) (_:Jn) (cE:t98) (gA:t99) (x0:ByteArray):Option Bool :=
 
 let v3:Bool:=decide ((↑(ByteArray.size x0):Int)=0);
 let v4:Bool:=!v3;
 let v5:Bool:=!v4||v4;
 let v6:Bool:=bif v3 then true else decide ((↑(ByteArray.size x0):Int)>20);
 let v7:Bool:=!v6;
 let v8:Bool:=!v7;
 let v9:Bool:=v8||v7;bif v5 then bif v5 then bif v3||v4 then bif v9&&(v8||inB 0 (ByteArray.size x0)) then bif v9 then ah (bif v7 then cE (fA x0 (0 : Nat)) else some false) fun (t:Bool)=>bif v9 then bif v6||v7 then bif bif v6 then true else !t then some false else ah (gA x0 0) fun (t:Int)=>some (decide (t = (↑(ByteArray.size x0):Int))) else none else none else none else none else none else none else none
def eK (x0:ByteArray):Option Bool:=mr lpK jnK cE gA x0
abbrev t48:=(ByteArray)->Option (Bool)
def c48:Ctr:=⟨[.str],[],[],.one .bool,fun x _ _=>eK x.1⟩
theorem e48 (lp:Lp) (jn:Jn) (cE:t98) (gA:t99):∀(x:TsS c48.as) (F:TsF c48.fs) (y:TsS c48.cs),mr lp jn cE gA x.1=bv lp jn (cx [(99,⟨[.str,i64],[],[],.one i64,fun x _ _=>gA x.1 x.2.1⟩),(98,k98 cE)] [(134,a7)]) ak 4 48 f48 c48 x F y:=fun x F y=>by kernel_rfl
theorem Uv:c48.ok prog 48:=Ctr.of_den (an (aa (aa (ba) (by kernel_rfl) Sb) (by kernel_rfl) U5)) aJ (hl:=ak) (d:=4) func48 rfl (by decide) (e48 lpK jnK cE gA)
def jS (lp:Lp) (_:Jn) (x0:(List (ByteArray×Int))×List (ByteArray×(List (ByteArray×Int×Int×Int))×Bool)) (x1:ByteArray):Option Int :=
 lp (Int×PUnit) Int (fun (again:Int×PUnit->Option Int) (x:Int×PUnit)=>bif decide (x.1<(↑x0.1.length:Int)) then bif inB x.1 x0.1.length then bif List.beq (ByteArray.toList (x0.1.getD x.1.toNat ({ data:={ toList:=[] } },0)).1) (ByteArray.toList x1) then some x.1 else again (IntKind.wrap .i64 (x.1+1),PUnit.unit) else none else some (-1)) (0,PUnit.unit)
def bn (x0:(List (ByteArray×Int))×List (ByteArray×(List (ByteArray×Int×Int×Int))×Bool)) (x1:ByteArray):Option Int:=jS lpK jnK x0 x1
abbrev t49:=((List (ByteArray×Int))×List (ByteArray×(List (ByteArray×Int×Int×Int))×Bool))->(ByteArray)->Option (Int)
def k49 (bn:t49):Ctr:=⟨[T25,.str],[],[],.one i64,fun x _ _=>bn x.1 x.2.1⟩
def c49:Ctr:=k49 bn
theorem e49 (lp:Lp) (jn:Jn):∀(x:TsS c49.as) (F:TsF c49.fs) (y:TsS c49.cs),jS lp jn x.1 x.2.1=bv lp jn (cx [] [(134,a7)]) ak 4 49 f49 c49 x F y:=fun x F y=>by kernel_rfl
theorem SI:c49.ok prog 49:=Ctr.of_den (an (ba)) aJ (hl:=ak) (d:=4) func49 rfl (by decide) (e49 lpK jnK)
def wu (_:Lp) (_:Jn) (x0:Int):Option (Int×Int) :=
 some (x0,1)
def bI (x0:Int):Option (Int×Int):=wu lpK jnK x0
abbrev t73:=(Int)->Option (Int×Int)
def k73 (bI:t73):Ctr:=⟨[i64],[],[],.one T49,fun x _ _=>bI x.1⟩
def c73:Ctr:=k73 bI
theorem e73 (lp:Lp) (jn:Jn):∀(x:TsS c73.as) (F:TsF c73.fs) (y:TsS c73.cs),wu lp jn x.1=bv lp jn (cx [] [(134,a7)]) ak 4 73 f73 c73 x F y:=fun x F y=>by kernel_rfl
theorem Lf:c73.ok prog 73:=Ctr.of_den (an (ba)) aJ (hl:=ak) (d:=4) func73 rfl (by decide) (e73 lpK jnK)
def oc (_:Lp) (_:Jn) (x0:Int×Int):Option (Int×Int) :=
 
 let v3:Int:=2 ^ 1;
 let v4:Bool:=decide ((0:Int)<=1);bif v4 then bif v4 then bif decide ((0:Int)<=63) then some (Int.fdiv x0.1 v3,IntKind.wrap .u64 (Int.fdiv x0.2 v3 + IntKind.wrap .u64 (x0.1*2 ^ 63))) else none else none else none
def eV (x0:Int×Int):Option (Int×Int):=oc lpK jnK x0
abbrev SH:=(Int×Int)->Option (Int×Int)
def I3:Ctr:=⟨[iJ],[],[],.one iJ,fun x _ _=>eV x.1⟩
theorem UM (lp:Lp) (jn:Jn):∀(x:TsS I3.as) (F:TsF I3.fs) (y:TsS I3.cs),oc lp jn x.1=bv lp jn (cx [] [(134,a7)]) ak 4 149 f149 I3 x F y:=fun x F y=>by kernel_rfl
theorem TF:I3.ok prog 149:=Ctr.of_den (an (ba)) aJ (hl:=ak) (d:=4) func149 rfl (by decide) (UM lpK jnK)
def ot (_:Lp) (_:Jn) (x0:Int×Int) (x1:Int×Int):Option Bool :=
 
 let v4:Bool:=decide (x0.1=x1.1);
 let v5:Bool:=decide (x0.1<x1.1);
 let v6:Bool:=!v5;
 let v7:Bool:=!v6;
 let v8:Bool:=v6&&v4;
 let v9:Bool:=v7||v6;
 let v10:Bool:=!v8||v8;bif v9 then bif v9 then bif v9&&v9 then bif v9 then bif v10 then bif v10 then bif v10&&v10 then bif (v7||v9)&&(v7||(!v4||(v7||v8))) then bif v5 || v6 then some (bif v5 then true else bif v4 then decide (x0.2<x1.2) else false) else none else none else none else none else none else none else none else none else none
def bp (x0:Int×Int) (x1:Int×Int):Option Bool:=ot lpK jnK x0 x1
abbrev zW:=(Int×Int)->(Int×Int)->Option (Bool)
def JI (bp:zW):Ctr:=⟨[iJ,iJ],[],[],.one .bool,fun x _ _=>bp x.1 x.2.1⟩
def LU:Ctr:=JI bp
theorem VG (lp:Lp) (jn:Jn):∀(x:TsS LU.as) (F:TsF LU.fs) (y:TsS LU.cs),ot lp jn x.1 x.2.1=bv lp jn (cx [] [(134,a7)]) ak 4 150 f150 LU x F y:=fun x F y=>by kernel_rfl
theorem FH:LU.ok prog 150:=Ctr.of_den (an (ba)) aJ (hl:=ak) (d:=4) func150 rfl (by decide) (VG lpK jnK)
def kI (_:Lp) (_:Jn) (x0:Int×Int) (x1:Int×Int):Option (Int×Int) :=
 
 let v4:Int:=IntKind.wrap .u64 (x0.1 - x1.1);
 let v5:Int:=IntKind.wrap .u64 (x0.2 - x1.2);bif decide (x0.2<x1.2) then some (IntKind.wrap .u64 (v4 - 1),v5) else some (v4,v5)
def bj (x0:Int×Int) (x1:Int×Int):Option (Int×Int):=kI lpK jnK x0 x1
abbrev EI:=(Int×Int)->(Int×Int)->Option (Int×Int)
def MC (bj:EI):Ctr:=⟨[iJ,iJ],[],[],.one iJ,fun x _ _=>bj x.1 x.2.1⟩
def K1:Ctr:=MC bj
theorem UZ (lp:Lp) (jn:Jn):∀(x:TsS K1.as) (F:TsF K1.fs) (y:TsS K1.cs),kI lp jn x.1 x.2.1=bv lp jn (cx [] [(134,a7)]) ak 4 151 f151 K1 x F y:=fun x F y=>by kernel_rfl
theorem IY:K1.ok prog 151:=Ctr.of_den (an (ba)) aJ (hl:=ak) (d:=4) func151 rfl (by decide) (UZ lpK jnK)
def pn (_:Lp) (_:Jn) (x0:Int×Int) (x1:Int×Int):Option (Int×Int) :=
 
 let v4:Int:=IntKind.wrap .u64 (x0.1+x1.1);
 let v5:Int:=IntKind.wrap .u64 (x0.2+x1.2);bif decide (v5<x0.2) then some (IntKind.wrap .u64 (v4+1),v5) else some (v4,v5)
def cZ (x0:Int×Int) (x1:Int×Int):Option (Int×Int):=pn lpK jnK x0 x1
abbrev JS:=(Int×Int)->(Int×Int)->Option (Int×Int)
def QV (cZ:JS):Ctr:=⟨[iJ,iJ],[],[],.one iJ,fun x _ _=>cZ x.1 x.2.1⟩
def HZ:Ctr:=QV cZ
theorem T8 (lp:Lp) (jn:Jn):∀(x:TsS HZ.as) (F:TsF HZ.fs) (y:TsS HZ.cs),pn lp jn x.1 x.2.1=bv lp jn (cx [] [(134,a7)]) ak 4 152 f152 HZ x F y:=fun x F y=>by kernel_rfl
theorem PV:HZ.ok prog 152:=Ctr.of_den (an (ba)) aJ (hl:=ak) (d:=4) func152 rfl (by decide) (T8 lpK jnK)
def pQ (lp:Lp) (_:Jn) (eV:SH) (bp:zW) (bj:EI) (cZ:JS) (x0:Int×Int) (x1:Int×Int):Option (Int×Int) :=
 bif decide (x0.1=0)&&(decide (x0.2=0)&&true) then some x1 else lp (Int×(Int×Int)×(Int×Int)×PUnit) (Int×Int) (fun (again:Int×(Int×Int)×(Int × Int)×PUnit->Option (Int×Int)) (x:Int×(Int×Int)×(Int×Int)×PUnit) =>
 let v6:Bool:=decide (IntKind.wrap .u64 (↑(Nat.land (Int.toNat (x.2.1.2 % Int.ofNat 18446744073709551616)) (Int.toNat (1 % Int.ofNat (18446744073709551616 : Nat)))):Int)=0);
 let v7:Bool:=!v6||v6;bif v7 then bif v7 then bif v7 then bif v7 then bif bif v6 then decide (IntKind.wrap .u64 (↑(Nat.land (Int.toNat (x.2.2.1.2 % Int.ofNat 18446744073709551616)) (Int.toNat (1 % Int.ofNat 18446744073709551616))):Int)=0) else false then ah (eV x.2.1) fun (t:Int×Int) => ah (eV x.2.2.1) fun (t_1:Int×Int)=>again (IntKind.wrap .i64 (x.1+1),t,t_1,PUnit.unit) else lp ((Int×Int)×(Int×Int)×PUnit) (Int × Int) (fun (again:(Int×Int)×(Int×Int)×PUnit->Option (Int×Int)) (x_1:(Int×Int)×(Int×Int)×PUnit) =>
 let v10:(Int×Int)×PUnit:=(x_1.2.1,PUnit.unit);bif !(decide (x_1.1.1=0)&&(decide (x_1.1.2=0)&&true)) then lp ((Int×Int)×PUnit) (Int×Int) (fun (again_1:(Int×Int)×PUnit->Option (Int×Int)) (x:(Int×Int)×PUnit)=>bif decide (IntKind.wrap .u64 (↑(Nat.land (Int.toNat (x.1.2 % Int.ofNat 18446744073709551616)) (Int.toNat (1 % Int.ofNat 18446744073709551616))):Int)=0) then ah (eV x.1) fun (t:Int×Int)=>again_1 (t, PUnit.unit) else lp ((Int×Int)×PUnit) (Int×Int) (fun (again_2:(Int×Int)×PUnit->Option (Int×Int)) (x_2:(Int×Int)×PUnit)=>bif decide (IntKind.wrap .u64 (↑(Nat.land (Int.toNat (x_2.1.2 % Int.ofNat 18446744073709551616)) (Int.toNat (1 % Int.ofNat 18446744073709551616))):Int)=0) then ah (eV x_2.1) fun (t:Int×Int)=>again_2 (t,PUnit.unit) else ah (bp x.1 x_2.1) fun (t:Bool)=>bif t then ah (bj x_2.1 x.1) fun (t:Int × Int)=>again (t,x.1,PUnit.unit) else ah (bj x.1 x_2.1) fun (t:Int×Int)=>again (t,x_2.1,PUnit.unit)) v10) (x_1.1,PUnit.unit) else lp (Int×(Int×Int) × PUnit) (Int×Int) (fun (again:Int×(Int×Int)×PUnit->Option (Int×Int)) (x:Int×(Int×Int)×PUnit)=>bif decide (x.1>0) then ah (cZ x.2.1 x.2.1) fun (t:Int×Int)=>again (IntKind.wrap .i64 (x.1 - 1),t,PUnit.unit) else some x.2.1) (x.1,v10)) (x.2.1,x.2.2.1,PUnit.unit) else none else none else none else none) (0,x0,x1,PUnit.unit)
def dF (x0:Int×Int) (x1:Int×Int):Option (Int×Int):=pQ lpK jnK eV bp bj cZ x0 x1
abbrev J5:=(Int×Int)->(Int×Int)->Option (Int×Int)
def QA (dF:J5):Ctr:=⟨[iJ,iJ],[],[],.one iJ,fun x _ _=>dF x.1 x.2.1⟩
def LP:Ctr:=QA dF
theorem Um (lp:Lp) (jn:Jn) (eV:SH) (bp:zW) (bj:EI) (cZ:JS):∀(x:TsS LP.as) (F:TsF LP.fs) (y:TsS LP.cs),pQ lp jn eV bp bj cZ x.1 x.2.1=bv lp jn (cx [(152,QV cZ),(151,MC bj),(150,JI bp),(149,⟨[iJ],[],[],.one iJ,fun x _ _=>eV x.1⟩)] [(134,a7)]) ak 4 102 f102 LP x F y:=fun x F y=>by kernel_rfl
theorem Pk:LP.ok prog 102:=Ctr.of_den (an (aa (aa (aa (aa (ba) (by kernel_rfl) TF) (by kernel_rfl) FH) (by kernel_rfl) IY) (by kernel_rfl) PV)) aJ (hl:=ak) (d:=4) func102 rfl (by decide) (Um lpK jnK eV bp bj cZ)
def ou (_:Lp) (_:Jn) (x0:Int):Option Int :=
 
 let v3:Int:=IntKind.wrap .u64 x0;bif decide (x0<0) then some (IntKind.wrap .u64 (0 - v3)) else some v3
def aF (x0:Int):Option Int:=ou lpK jnK x0
abbrev wG:=(Int)->Option (Int)
def Hz (aF:wG):Ctr:=⟨[i64],[],[],.one (.int .u64),fun x _ _=>aF x.1⟩
def IP:Ctr:=Hz aF
theorem Vh (lp:Lp) (jn:Jn):∀(x:TsS IP.as) (F:TsF IP.fs) (y:TsS IP.cs),ou lp jn x.1=bv lp jn (cx [] [(134,a7)]) ak 4 103 f103 IP x F y:=fun x F y=>by kernel_rfl
theorem BF:IP.ok prog 103:=Ctr.of_den (an (ba)) aJ (hl:=ak) (d:=4) func103 rfl (by decide) (Vh lpK jnK)
def nl (_:Lp) (_:Jn) (dF:J5) (aF:wG) (x0:Int×Int):Option Bool :=
 
 let v3:Bool:=decide (x0.2<1);
 let v4:Bool:=!v3;
 let v5:Bool:=bif v3 then true else decide (x0.2>1152921504606846976);
 let v6:Bool:=!v4||v4;
 let v7:Bool:=!v5;
 let v8:Bool:=bif v5 then true else decide (x0.1<(-1152921504606846976));
 let v9:Bool:=!v8;
 let v10:Bool:=!v7||v7;
 let v11:Bool:=!v9||v9;bif v6 then bif v6 then bif v3||v4 then bif v10 then bif v10 then bif v5||v7 then bif v11 then bif v11 then bif v8||v9 then bif bif v8 then true else decide (x0.1>1152921504606846976) then some false else ah (aF x0.1) fun (t:Int)=>ah (aF x0.2) fun (t_1:Int)=>ah (dF (0, t) (0,t_1)) fun (t:Int×Int)=>some (decide (t.1=0)&&(decide (t.2=1)&&true)) else none else none else none else none else none else none else none else none else none
def cM (x0:Int×Int):Option Bool:=nl lpK jnK dF aF x0
abbrev t52:=(Int×Int)->Option (Bool)
def k52 (cM:t52):Ctr:=⟨[T49],[],[],.one .bool,fun x _ _=>cM x.1⟩
def c52:Ctr:=k52 cM
theorem e52 (lp:Lp) (jn:Jn) (dF:J5) (aF:wG):∀(x:TsS c52.as) (F:TsF c52.fs) (y:TsS c52.cs),nl lp jn dF aF x.1=bv lp jn (cx [(103,Hz aF),(102,QA dF)] [(134,a7)]) ak 4 52 f52 c52 x F y:=fun x F y=>by kernel_rfl
theorem Tr:c52.ok prog 52:=Ctr.of_den (an (aa (aa (ba) (by kernel_rfl) Pk) (by kernel_rfl) BF)) aJ (hl:=ak) (d:=4) func52 rfl (by decide) (e52 lpK jnK dF aF)
def jJ (_:Lp) (_:Jn) (cM:t52) (x0:Int×Int):Option Bool :=
 ah (cM x0) fun (t:Bool) =>
 let v4:Bool:=!t||t;
 let v5:Bool:=bif t then decide (x0.1>=x0.2) else false;
 let v6:Bool:=!v5||v5;bif v4 then bif v4 then bif v4&&v4 then bif v4 then bif v6 then bif v6 then bif v6 then some (bif v5 then decide (x0.1<=100) else false) else none else none else none else none else none else none else none
def dC (x0:Int×Int):Option Bool:=jJ lpK jnK cM x0
abbrev SQ:=(Int×Int)->Option (Bool)
def J8:Ctr:=⟨[T49],[],[],.one .bool,fun x _ _=>dC x.1⟩
theorem Us (lp:Lp) (jn:Jn) (cM:t52):∀(x:TsS J8.as) (F:TsF J8.fs) (y:TsS J8.cs),jJ lp jn cM x.1=bv lp jn (cx [(52,k52 cM)] [(134,a7)]) ak 4 148 f148 J8 x F y:=fun x F y=>by kernel_rfl
theorem Sq:J8.ok prog 148:=Ctr.of_den (an (aa (ba) (by kernel_rfl) Tr)) aJ (hl:=ak) (d:=4) func148 rfl (by decide) (Us lpK jnK cM)
def o4 (_:Lp) (_:Jn) (bn:t49) (bI:t73) (dC:SQ) (x0:(List (ByteArray×Int))×List (ByteArray×(List (ByteArray×Int×Int×Int))×Bool)) (x1:ByteArray×Int×Int×Int) (x2:Bool):Option Bool :=
 
 let v5:Bool:=!x2||x2;
 let v6:Bool:=decide (x1.2.1=0);
 let v7:Bool:=decide (x1.2.1=1);
 let v8:Bool:=decide (x1.2.1=2);
 let v9:Bool:=!v7;
 let v10:Bool:=!v8;
 let v11:Bool:=bif v8 then true else v6;
 let v12:Bool:=!v9||v9;
 let v13:Bool:=!v10||v10;
 let v14:Bool:=!v11;
 let v15:Bool:=!v14||v14;bif v5 then ah (bif x2 then bI 1 else some (0,0)) fun (t:Int×Int) =>
 let v17:Bool:=bif x2 then !(decide (x1.2.2.1=t.1)&&(decide (x1.2.2.2=t.2)&&true)) else false;
 let v18:Bool:=!v17;
 let v19:Bool:=!v18||v18;bif v5&&v5 then bif v5 then bif v19 then bif v19 then ah (bif v18 then dC x1.2.2 else some false) fun (t:Bool)=>bif v19 then bif v17||v18 then bif bif v17 then true else !t then some false else bif List.beq (ByteArray.toList x1.1) (ByteArray.toList { data:=#[] }) then some v6 else ah (bn x0 x1.1) fun (t:Int)=>bif decide (t<0) then some false else bif x2 then bif v12 then bif v12 then bif v7||v9 then some (bif v7 then true else decide (x1.2.1=(-1 : Int))) else none else none else none else bif v13 then bif v13 then bif v8||v10 then bif v15 then bif v15 then bif v11||v14 then some (bif v11 then true else decide (x1.2.1 = (-2))) else none else none else none else none else none else none else none else none else none else none else none else none else none
def fB (x0:(List (ByteArray×Int))×List (ByteArray×(List (ByteArray×Int×Int×Int))×Bool)) (x1:ByteArray×Int×Int×Int) (x2:Bool):Option Bool:=o4 lpK jnK bn bI dC x0 x1 x2
abbrev PY:=((List (ByteArray×Int))×List (ByteArray×(List (ByteArray×Int×Int×Int))×Bool))->(ByteArray×Int×Int×Int)->(Bool)->Option (Bool)
def Tc (fB:PY):Ctr:=⟨[T25,Oy,.bool],[],[],.one .bool,fun x _ _=>fB x.1 x.2.1 x.2.2.1⟩
def Js:Ctr:=Tc fB
theorem T0 (lp:Lp) (jn:Jn) (bn:t49) (bI:t73) (dC:SQ):∀(x:TsS Js.as) (F:TsF Js.fs) (y:TsS Js.cs),o4 lp jn bn bI dC x.1 x.2.1 x.2.2.1=bv lp jn (cx [(148,⟨[T49],[],[],.one .bool,fun x _ _=>dC x.1⟩),(73,k73 bI),(49,k49 bn)] [(134,a7)]) ak 4 100 f100 Js x F y:=fun x F y=>by kernel_rfl
theorem RZ:Js.ok prog 100:=Ctr.of_den (an (aa (aa (aa (ba) (by kernel_rfl) SI) (by kernel_rfl) Lf) (by kernel_rfl) Sq)) aJ (hl:=ak) (d:=4) func100 rfl (by decide) (T0 lpK jnK bn bI dC)
def og (lp:Lp) (_:Jn) (fB:PY) (x0:(List (ByteArray×Int))×List (ByteArray×(List (ByteArray×Int×Int×Int))×Bool)) (x1:ByteArray×(List (ByteArray×Int×Int×Int))×Bool):Option Bool :=
 
 let v4:Bool:=!x1.2.2;
 let v5:Bool:=!v4;
 let v6:Bool:=!v5;
 let v7:Int:=IntKind.wrap .i64 ((↑x1.2.1.length:Int) - 1);
 let v8:Bool:=v6||v5;
 let v9:Bool:=decide ((↑x1.2.1.length:Int)<2);
 let v10:Bool:=!v9;
 let v11:Bool:=!v10||v10;bif v11 then bif v11 then bif v11 then bif v9||v10 then bif bif v9 then true else decide ((↑x1.2.1.length:Int)>10) then some false else lp (Int×PUnit) Bool (fun (again:Int×PUnit->Option Bool) (x:Int×PUnit) =>
 let v14:Bool:=decide (x.1=0);
 let v15:Bool:=!v14;
 let v16:Bool:=!v15||v15;bif decide (x.1<(↑x1.2.1.length:Int)) then bif inB x.1 x1.2.1.length then bif v16 then bif v16 then bif v16 then bif v16 && v16 then bif v14||v15 then ah (fB x0 (x1.2.1.getD x.1.toNat ({ data:={ toList:=[] } },0,0,0)) (bif v14 then true else decide (x.1=v7))) fun (t:Bool)=>bif !t then some false else again (IntKind.wrap .i64 (x.1+1),PUnit.unit) else none else none else none else none else none else none else bif v8 then bif v8 then bif v8 then bif v8 then bif v8&&(v8&&(v6||inB v7 x1.2.1.length)) then bif v8 then bif v8 then bif v8 then bif v4||v5 then some (bif v4 then true else List.beq (ByteArray.toList (x1.2.1.getD v7.toNat ({ data:={ toList:=[] } },0,0,0)).1) (ByteArray.toList { data:=#[] })) else none else none else none else none else none else none else none else none else none) (0,PUnit.unit) else none else none else none else none
def gH (x0:(List (ByteArray×Int))×List (ByteArray×(List (ByteArray×Int×Int×Int))×Bool)) (x1:ByteArray×(List (ByteArray×Int×Int×Int))×Bool):Option Bool:=og lpK jnK fB x0 x1
abbrev t50:=((List (ByteArray×Int))×List (ByteArray×(List (ByteArray×Int×Int×Int))×Bool))->(ByteArray×(List (ByteArray×Int×Int×Int))×Bool)->Option (Bool)
def c50:Ctr:=⟨[T25,T75],[],[],.one .bool,fun x _ _=>gH x.1 x.2.1⟩
theorem e50 (lp:Lp) (jn:Jn) (fB:PY):∀(x:TsS c50.as) (F:TsF c50.fs) (y:TsS c50.cs),og lp jn fB x.1 x.2.1=bv lp jn (cx [(100,Tc fB)] [(134,a7)]) ak 4 50 f50 c50 x F y:=fun x F y=>by kernel_rfl
theorem U0:c50.ok prog 50:=Ctr.of_den (an (aa (ba) (by kernel_rfl) RZ)) aJ (hl:=ak) (d:=4) func50 rfl (by decide) (e50 lpK jnK fB)
def mZ (lp:Lp) (_:Jn) (bK:t22) (eK:t48) (bn:t49) (gH:t50) (x0:(List (ByteArray×Int))×List (ByteArray×(List (ByteArray×Int×Int×Int))×Bool)):Option Bool :=
 
 let v3:Bool:=decide ((↑x0.1.length:Int)<1);
 let v4:Bool:=!v3;
 let v5:Bool:=bif v3 then true else decide ((↑x0.1.length:Int)>6);
 let v6:Bool:=!v4||v4;
 let v7:Bool:=!v5;
 let v8:Bool:=bif v5 then true else decide ((↑x0.2.length:Int)<1);
 let v9:Bool:=!v8;
 let v10:Bool:=!v7||v7;
 let v11:Bool:=!v9||v9;bif v6 then bif v6 then bif v6 then bif v3||v4 then bif v10 then bif v10 then bif v10 then bif v5||v7 then bif v11 then bif v11 then bif v11 then bif v8 || v9 then bif bif v8 then true else decide ((↑x0.2.length:Int)>6) then some false else lp (Int×PUnit) Bool (fun (again:Int×PUnit->Option Bool) (x:Int × PUnit)=>bif decide (x.1<(↑x0.1.length:Int)) then bif inB x.1 x0.1.length then ah (eK (x0.1.getD x.1.toNat ({ data:={ toList := [] } },0)).1) fun (t:Bool) =>
 let v15:Bool:=!t;
 let v16:Bool:=!v15;
 let v17:Bool:=!v16||v16;
 let v18:Bool:=v17&&v17;bif v17 then bif v18 then ah (bif v16 then bn x0 (x0.1.getD x.1.toNat ({ data:={ toList:=[] } },0)).1 else some 0) fun (t:Int) =>
 let v20:Bool:=bif v15 then true else !decide (t=x.1);
 let v21:Bool:=!v20;
 let v22:Bool:=!v21||v21;
 let v23:Bool:=bif v20 then true else decide ((x0.1.getD x.1.toNat ({ data:={ toList:=[] } },0)).2<0);
 let v24:Bool:=!v23;
 let v25:Bool:=!v24||v24;bif v18 then bif v15||v16 then bif v22 then bif v22 then bif v20||v21 then bif v25 then bif v25 then bif v23||v24 then bif bif v23 then true else decide ((x0.1.getD x.1.toNat ({ data:={ toList:=[] } },0)).2>16777216) then some false else again (IntKind.wrap .i64 (x.1+1), PUnit.unit) else none else none else none else none else none else none else none else none else none else none else none else lp (Int×Int×PUnit) Bool (fun (again:Int×Int × PUnit->Option Bool) (x:Int×Int×PUnit) =>
 let v16:Int×PUnit:=(IntKind.wrap .i64 (x.2.1+1),PUnit.unit);
 let v17:ByteArray×List (ByteArray×Int×Int×Int)×Bool:=x0.2.getD x.2.1.toNat ({ data:={ toList:=[] } },[],false);bif decide (x.2.1<(↑x0.2.length:Int)) then bif inB x.2.1 x0.2.length then ah (eK v17.1) fun (t:Bool) =>
 let v19:Bool:=!t;
 let v20:Bool:=!v19;
 let v21:Bool:=!v20||v20;
 let v22:Bool:=v21&&v21;bif v21 then bif v22 then ah (bif v20 then bK x0 v17.1 else some 0) fun (t:Int) =>
 let v24:Bool:=bif v19 then true else !decide (t=x.2.1);
 let v25:Bool:=!v24;
 let v26:Bool:=!v25||v25;bif v22 then bif v19||v20 then bif v26 then bif v26&&v26 then ah (bif v25 then bn x0 v17.1 else some 0) fun (t:Int) =>
 let v28:Bool:=bif v24 then true else decide (t>=0);
 let v29:Bool:=!v28;
 let v30:Bool:=!v29||v29;bif v26 then bif v24||v25 then bif v30&&v30 then ah (bif v29 then gH x0 v17 else some false) fun (t:Bool)=>bif v30 then bif v28||v29 then bif bif v28 then true else !t then some false else bif v17.2.2 then again (IntKind.wrap .i64 (x.1+1),v16) else again (x.1,v16) else none else none else none else none else none else none else none else none else none else none else none else none else some (decide (x.1<=1))) (0,0,PUnit.unit)) (0, PUnit.unit) else none else none else none else none else none else none else none else none else none else none else none else none
def bM (x0:(List (ByteArray×Int))×List (ByteArray×(List (ByteArray×Int×Int×Int))×Bool)):Option Bool:=mZ lpK jnK bK eK bn gH x0
abbrev t13:=((List (ByteArray×Int))×List (ByteArray×(List (ByteArray×Int×Int×Int))×Bool))->Option (Bool)
def k13 (bM:t13):Ctr:=⟨[T25],[],[],.one .bool,fun x _ _=>bM x.1⟩
def c13:Ctr:=k13 bM
theorem e13 (lp:Lp) (jn:Jn) (bK:t22) (eK:t48) (bn:t49) (gH:t50):∀(x:TsS c13.as) (F:TsF c13.fs) (y:TsS c13.cs),mZ lp jn bK eK bn gH x.1=bv lp jn (cx [(50,⟨[T25,T75],[],[],.one .bool,fun x _ _=>gH x.1 x.2.1⟩),(49,k49 bn),(48,⟨[.str],[],[],.one .bool,fun x _ _=>eK x.1⟩),(22,k22 bK)] [(134,a7)]) ak 4 13 f13 c13 x F y:=fun x F y=>by kernel_rfl
theorem Sn:c13.ok prog 13:=Ctr.of_den (an (aa (aa (aa (aa (ba) (by kernel_rfl) TI) (by kernel_rfl) Uv) (by kernel_rfl) SI) (by kernel_rfl) U0)) aJ (hl:=ak) (d:=4) func13 rfl (by decide) (e13 lpK jnK bK eK bn gH)
def tD (lp:Lp) (_:Jn) (x0:(List Int)×List ((List Int)×Int×Int)) (x1:(List Int)×List ((List Int)×Int×Int)):Option Bool :=
 
 let v4:Bool:=!decide ((↑x0.1.length:Int)=(↑x1.1.length:Int));
 let v5:Bool:=!v4;
 let v6:Bool:=!v5||v5;bif v6 then bif v6 then bif v6 then bif v6 then bif v6&&v6 then bif v4||v5 then bif bif v4 then true else !decide ((↑x0.2.length:Int) = (↑x1.2.length:Int)) then some false else lp (Int×PUnit) Bool (fun (again:Int×PUnit->Option Bool) (x:Int×PUnit)=>bif decide (x.1<(↑x0.1.length : Int)) then bif inB x.1 x0.1.length then bif inB x.1 x1.1.length then bif !decide (x0.1.getD x.1.toNat 0=x1.1.getD x.1.toNat 0) then some false else again (IntKind.wrap .i64 (x.1+1),PUnit.unit) else none else none else lp (Int×PUnit) Bool (fun (again:Int×PUnit->Option Bool) (x:Int×PUnit) =>
 let v11:Bool:=!decide ((x0.2.getD x.1.toNat ([],0,0)).2.1=(x1.2.getD x.1.toNat ([],0,0)).2.1);
 let v12:Bool:=!v11;
 let v13:Bool:=bif v11 then true else !decide ((x0.2.getD x.1.toNat ([],0,0)).2.2=(x1.2.getD x.1.toNat ([],0,(0 : Int))).2.2);
 let v14:Bool:=!v12||v12;
 let v15:Bool:=!v13;
 let v16:Bool:=!v15||v15;bif decide (x.1<(↑x0.2.length:Int)) then bif inB x.1 x0.2.length then bif inB x.1 x1.2.length then bif v14 then bif v14 then bif v14&&v14 then bif v11||v12 then bif v16 then bif v16 then bif v16 then bif v16 then bif v16&&v16 then bif v13||v15 then bif bif v13 then true else !decide ((↑(List.length (x0.2.getD x.1.toNat ([],0,0)).1):Int)=(↑(List.length (x1.2.getD x.1.toNat ([],0,0)).1):Int)) then some false else lp (Int×PUnit) Bool (fun (again_1:Int×PUnit->Option Bool) (x_1:Int×PUnit)=>bif decide (x_1.1<(↑(List.length (x0.2.getD x.1.toNat ([],0,0)).1):Int)) then bif inB x_1.1 (List.length (x0.2.getD x.1.toNat ([],0,0)).1) then bif inB x_1.1 (List.length (x1.2.getD x.1.toNat ([],0,0)).1) then bif !decide (List.getD (x0.2.getD x.1.toNat ([],0,0)).1 x_1.1.toNat 0=List.getD (x1.2.getD x.1.toNat ([],0,0)).1 x_1.1.toNat 0) then some false else again_1 (IntKind.wrap .i64 (x_1.1 + 1),PUnit.unit) else none else none else again (IntKind.wrap .i64 (x.1+1),PUnit.unit)) (0,PUnit.unit) else none else none else none else none else none else none else none else none else none else none else none else none else some true) (0,PUnit.unit)) (0,PUnit.unit) else none else none else none else none else none else none
def io (x0:(List Int)×List ((List Int)×Int×Int)) (x1:(List Int)×List ((List Int)×Int×Int)):Option Bool:=tD lpK jnK x0 x1
abbrev t14:=((List Int)×List ((List Int)×Int×Int))->((List Int)×List ((List Int)×Int×Int))->Option (Bool)
def c14:Ctr:=⟨[T32,T32],[],[],.one .bool,fun x _ _=>io x.1 x.2.1⟩
theorem e14 (lp:Lp) (jn:Jn):∀(x:TsS c14.as) (F:TsF c14.fs) (y:TsS c14.cs),tD lp jn x.1 x.2.1=bv lp jn (cx [] [(134,a7)]) ak 4 14 f14 c14 x F y:=fun x F y=>by kernel_rfl
theorem VC:c14.ok prog 14:=Ctr.of_den (an (ba)) aJ (hl:=ak) (d:=4) func14 rfl (by decide) (e14 lpK jnK)
def oe (lp:Lp) (_:Jn) (x0:ByteArray×(List (ByteArray×Int×Int×Int))×Bool) (x1:ByteArray):Option Int :=
 lp (Int×Int×PUnit) Int (fun (again:Int×Int×PUnit->Option Int) (x:Int×Int×PUnit) =>
 let v6:Int×PUnit:=(IntKind.wrap .i64 (x.2.1+1),PUnit.unit);
 let v7:Bool:=inB x.2.1 x0.2.1.length;
 let v8:ByteArray×Int×Int×Int:=x0.2.1.getD x.2.1.toNat ({ data:={ toList:=[] } },0,0,0);bif decide (x.2.1<(↑x0.2.1.length:Int)) then bif v7 then bif List.beq (ByteArray.toList v8.1) (ByteArray.toList x1) then bif v7 then again (IntKind.wrap .i64 (x.1+v8.2.1),v6) else none else again (x.1,v6) else none else some x.1) (0,0,PUnit.unit)
def fV (x0:ByteArray×(List (ByteArray×Int×Int×Int))×Bool) (x1:ByteArray):Option Int:=oe lpK jnK x0 x1
abbrev Sp:=(ByteArray×(List (ByteArray×Int×Int×Int))×Bool)->(ByteArray)->Option (Int)
def JM:Ctr:=⟨[T75,.str],[],[],.one i64,fun x _ _=>fV x.1 x.2.1⟩
theorem Uw (lp:Lp) (jn:Jn):∀(x:TsS JM.as) (F:TsF JM.fs) (y:TsS JM.cs),oe lp jn x.1 x.2.1=bv lp jn (cx [] [(134,a7)]) ak 4 101 f101 JM x F y:=fun x F y=>by kernel_rfl
theorem Su:JM.ok prog 101:=Ctr.of_den (an (ba)) aJ (hl:=ak) (d:=4) func101 rfl (by decide) (Uw lpK jnK)
def my (lp:Lp) (_:Jn) (fV:Sp) (x0:(List (ByteArray×Int))×List (ByteArray×(List (ByteArray×Int×Int×Int))×Bool)):Option (List (List Int)) :=
 lp ((List Nat×List (Option (List Int)))×Int×PUnit) (List (List Int)) (fun (again:(List Nat×List (Option (List Int)))×Int×PUnit->Option (List (List Int))) (x:(List Nat × List (Option (List Int)))×Int×PUnit)=>bif decide (x.2.1<(↑x0.1.length:Int)) then lp (List Int×Int×PUnit) (List (List Int)) (fun (again_1:List Int×Int × PUnit->Option (List (List Int))) (x_1:List Int×Int×PUnit)=>bif decide (x_1.2.1<(↑x0.2.length:Int)) then bif inB x_1.2.1 x0.2.length then bif inB x.2.1 x0.1.length then ah (fV (x0.2.getD x_1.2.1.toNat ({ data:={ toList:=[] } },[],false)) (x0.1.getD x.2.1.toNat ({ data:={ toList:=[] } },0)).1) fun (t:Int)=>bif eh (List.length x_1.1+1) 8 then again_1 (x_1.1++[t],IntKind.wrap .i64 (x_1.2.1 + 1),PUnit.unit) else none else none else none else bif eh (List.length x.1.1+1) 24 then again ((x.1.1++[List.length x.1.2+0], x.1.2++[some x_1.1]),IntKind.wrap .i64 (x.2.1+1),PUnit.unit) else none) ([],0,PUnit.unit) else bif List.all x.1.1 fun (x_1:Nat)=>fG x.1.2 x_1 then some (List.map (fun (x_1:Nat)=>ai x.1.2 x_1) x.1.1) else none) (([],[]),0,PUnit.unit)
def e8 (x0:(List (ByteArray×Int))×List (ByteArray×(List (ByteArray×Int×Int×Int))×Bool)):Option (List (List Int)):=my lpK jnK fV x0
abbrev t51:=((List (ByteArray×Int))×List (ByteArray×(List (ByteArray×Int×Int×Int))×Bool))->Option (List (List Int))
def c51:Ctr:=⟨[T25],[],[],.one (.sl (.sl i64)),fun x _ _=>e8 x.1⟩
theorem e51 (lp:Lp) (jn:Jn) (fV:Sp):∀(x:TsS c51.as) (F:TsF c51.fs) (y:TsS c51.cs),my lp jn fV x.1=bv lp jn (cx [(101,⟨[T75,.str],[],[],.one i64,fun x _ _=>fV x.1 x.2.1⟩)] [(134,a7)]) ak 4 51 f51 c51 x F y:=fun x F y=>by kernel_rfl
theorem UF:c51.ok prog 51:=Ctr.of_den (an (aa (ba) (by kernel_rfl) Su)) aJ (hl:=ak) (d:=4) func51 rfl (by decide) (e51 lpK jnK fV)
def lh (lp:Lp) (_:Jn) (e8:t51) (x0:(List (ByteArray×Int))×List (ByteArray×(List (ByteArray×Int×Int×Int))×Bool)) (x1:List Int):Option ((List Int)×List ((List Int)×Int×Int)) :=
 ah (e8 x0) fun (t:List (List Int))=>lp (Int×List Int×List (List Int×Int×Int)×PUnit) (List Int×List (List Int×Int×Int)) (fun (again:Int×List Int×List (List Int×Int×Int)×PUnit->Option (List Int×List (List Int×Int×Int))) (x:Int×List Int×List (List Int×Int×Int)×PUnit)=>bif decide (x.1<(↑x0.1.length:Int)) then bif inB x.1 t.length then bif inB x.1 x0.1.length then bif eh (List.length x.2.2.1+1) 40 then again (IntKind.wrap IntKind.i64 (x.1+1),x.2.1,x.2.2.1++[(t.getD x.1.toNat [],3,(x0.1.getD x.1.toNat ({ data:={ toList:=[] } },(0 : Int))).2)],PUnit.unit) else none else none else none else some (x.2.1,x.2.2.1)) (0,x1,[],PUnit.unit)
def au (x0:(List (ByteArray×Int))×List (ByteArray×(List (ByteArray×Int×Int×Int))×Bool)) (x1:List Int):Option ((List Int)×List ((List Int)×Int×Int)):=lh lpK jnK e8 x0 x1
abbrev t15:=((List (ByteArray×Int))×List (ByteArray×(List (ByteArray×Int×Int×Int))×Bool))->(List Int)->Option ((List Int)×List ((List Int)×Int×Int))
def k15 (au:t15):Ctr:=⟨[T25,(.sl i64)],[],[],.one T32,fun x _ _=>au x.1 x.2.1⟩
def c15:Ctr:=k15 au
theorem e15 (lp:Lp) (jn:Jn) (e8:t51):∀(x:TsS c15.as) (F:TsF c15.fs) (y:TsS c15.cs),lh lp jn e8 x.1 x.2.1=bv lp jn (cx [(51,⟨[T25],[],[],.one (.sl (.sl i64)),fun x _ _=>e8 x.1⟩)] [(134,a7)]) ak 4 15 f15 c15 x F y:=fun x F y=>by kernel_rfl
theorem ED:c15.ok prog 15:=Ctr.of_den (an (aa (ba) (by kernel_rfl) UF)) aJ (hl:=ak) (d:=4) func15 rfl (by decide) (e15 lpK jnK e8)
def oH (lp:Lp) (_:Jn) (x0:(List (ByteArray×Int))×List (ByteArray×(List (ByteArray×Int×Int×Int))×Bool)):Option (List Int) :=
 lp (List Int×Int×PUnit) (List Int) (fun (again:List Int×Int×PUnit->Option (List Int)) (x:List Int×Int×PUnit)=>bif decide (x.2.1<(↑x0.2.length:Int)) then bif eh (List.length x.1+1) 8 then again (x.1++[1],IntKind.wrap .i64 (x.2.1+1),PUnit.unit) else none else some x.1) ([],(0 : Int),PUnit.unit)
def bo (x0:(List (ByteArray×Int))×List (ByteArray×(List (ByteArray×Int×Int×Int))×Bool)):Option (List Int):=oH lpK jnK x0
abbrev t16:=((List (ByteArray×Int))×List (ByteArray×(List (ByteArray×Int×Int×Int))×Bool))->Option (List Int)
def k16 (bo:t16):Ctr:=⟨[T25],[],[],.one (.sl i64),fun x _ _=>bo x.1⟩
def c16:Ctr:=k16 bo
theorem e16 (lp:Lp) (jn:Jn):∀(x:TsS c16.as) (F:TsF c16.fs) (y:TsS c16.cs),oH lp jn x.1=bv lp jn (cx [] [(134,a7)]) ak 4 16 f16 c16 x F y:=fun x F y=>by kernel_rfl
theorem Pf:c16.ok prog 16:=Ctr.of_den (an (ba)) aJ (hl:=ak) (d:=4) func16 rfl (by decide) (e16 lpK jnK)
def vf (lp:Lp) (_:Jn) (cM:t52) (x0:List (Int×Int)):Option Bool :=
 lp (Int×PUnit) Bool (fun (again:Int×PUnit->Option Bool) (x:Int×PUnit)=>bif decide (x.1<(↑x0.length:Int)) then bif inB x.1 x0.length then ah (cM (x0.getD x.1.toNat (0,0))) fun (t:Bool)=>bif !t then some false else again (IntKind.wrap .i64 (x.1+1),PUnit.unit) else none else some true) (0,PUnit.unit)
def jB (x0:List (Int×Int)):Option Bool:=vf lpK jnK cM x0
abbrev t17:=(List (Int×Int))->Option (Bool)
def c17:Ctr:=⟨[(.sl T49)],[],[],.one .bool,fun x _ _=>jB x.1⟩
theorem e17 (lp:Lp) (jn:Jn) (cM:t52):∀(x:TsS c17.as) (F:TsF c17.fs) (y:TsS c17.cs),vf lp jn cM x.1=bv lp jn (cx [(52,k52 cM)] [(134,a7)]) ak 4 17 f17 c17 x F y:=fun x F y=>by kernel_rfl
theorem Vd:c17.ok prog 17:=Ctr.of_den (an (aa (ba) (by kernel_rfl) Tr)) aJ (hl:=ak) (d:=4) func17 rfl (by decide) (e17 lpK jnK cM)
def qc (lp:Lp) (_:Jn) (bp:zW) (bj:EI) (x0:Int×Int) (x1:Int×Int):Option ((Int×Int)×(Int×Int)×Unit) :=
 
 let v4:Bool:=nzB x1.2;
 let v5:Int:=2 ^ 63;
 let v6:Int:=2 ^ 1;
 let v7:Bool:=decide (x0.1=0);
 let v8:Bool:=decide ((0:Int)<=63);
 let v9:Bool:=decide ((0:Int)<=1);
 let v10:Bool:=!v7||v7;bif v10 then bif v10 then bif v10 then bif bif v7 then decide (x1.1=0) else false then bif v4 then bif v4 then some ((0,IntKind.wrap IntKind.u64 (Int.tdiv x0.2 x1.2)),(0,Int.tmod x0.2 x1.2),PUnit.unit) else none else none else lp (Int×(Int×Int)×(Int×Int)×(Int×Int)×PUnit) ((Int×Int) × (Int×Int)×PUnit) (fun (again:Int×(Int×Int)×(Int×Int)×(Int×Int)×PUnit->Option ((Int×Int)×(Int×Int)×PUnit)) (x:Int×(Int×Int)×(Int×Int)×(Int × Int)×PUnit) =>
 let v13:Int:=IntKind.wrap .i64 (x.1+1);
 let v14:Int:=IntKind.wrap .u64 (x.2.2.1.2*v6);
 let v15:Int:=IntKind.wrap .u64 (IntKind.wrap .u64 (x.2.2.1.1*v6)+Int.fdiv x.2.2.1.2 v5);
 let v16:Bool:=decide (Int.fdiv x.2.2.2.1.1 v5>0);
 let v17:Bool:=!v16;
 let v18:Int×Int:=(IntKind.wrap .u64 (IntKind.wrap .u64 (x.2.1.1*v6)+Int.fdiv x.2.1.2 v5),IntKind.wrap .u64 (x.2.1.2*v6));
 let v19:Int×Int:=(IntKind.wrap .u64 (IntKind.wrap .u64 (x.2.2.2.1.1*v6)+Int.fdiv x.2.2.2.1.2 v5),IntKind.wrap .u64 (IntKind.wrap IntKind.u64 (x.2.2.2.1.2*v6)+Int.fdiv x.2.1.1 v5));
 let v20:Bool:=!v17||v17;bif decide (x.1<128) then bif v8 then bif v9 then bif v8 then bif v9 then bif v8 then bif v9 then bif v8 then bif v9 then bif v9 then bif v8 then bif v9 then bif v20&&v20 then ah (bif v17 then bp v19 x1 else some false) fun (t:Bool)=>bif v20 then bif v16||v17 then bif bif v16 then true else !t then ah (bj v19 x1) fun (t:Int×Int)=>again (v13,v18,(v15,IntKind.wrap .u64 (v14+1)),t,PUnit.unit) else again (v13,v18,(v15,v14),v19,PUnit.unit) else none else none else none else none else none else none else none else none else none else none else none else none else none else none else some (x.2.2.1,x.2.2.2.1, PUnit.unit)) (0,x0,(0,0),(0,0),PUnit.unit) else none else none else none
def gS (x0:Int×Int) (x1:Int×Int):Option ((Int×Int)×(Int×Int)×Unit):=qc lpK jnK bp bj x0 x1
abbrev Tm:=(Int×Int)->(Int×Int)->Option ((Int×Int)×(Int×Int)×Unit)
def Mj:Ctr:=⟨[iJ,iJ],[],[],.tup [iJ,iJ],fun x _ _=>gS x.1 x.2.1⟩
theorem UJ (lp:Lp) (jn:Jn) (bp:zW) (bj:EI):∀(x:TsS Mj.as) (F:TsF Mj.fs) (y:TsS Mj.cs),qc lp jn bp bj x.1 x.2.1=bv lp jn (cx [(151,MC bj),(150,JI bp)] [(134,a7)]) ak 4 164 f164 Mj x F y:=fun x F y=>by kernel_rfl
theorem Sf:Mj.ok prog 164:=Ctr.of_den (an (aa (aa (ba) (by kernel_rfl) FH) (by kernel_rfl) IY)) aJ (hl:=ak) (d:=4) func164 rfl (by decide) (UJ lpK jnK bp bj)
def lB (_:Lp) (_:Jn) (dF:J5) (gS:Tm) (x0:Int×Int) (x1:Bool) (x2:Int×Int):Option ((Int×Int)×Int×Unit) :=
 bif decide (x2.1=0)&&(decide (x2.2=0)&&true) then some ((0,0),16,PUnit.unit) else ah (dF x0 x2) fun (t:Int×Int)=>ah (gS x0 t) fun (t_1:(Int×Int)×(Int×Int)×PUnit) =>
 let v7:Int:=IntKind.wrap .i64 t_1.1.2;
 let v8:Bool:=decide (t_1.1.1>0);
 let v9:Bool:=!v8;
 let v10:Bool:=bif v8 then true else decide (t_1.1.2>1152921504606846976);
 let v11:Bool:=!v9||v9;
 let v12:Bool:=!v10;
 let v13:Bool:=!v12||v12;ah (gS x2 t) fun (t:(Int×Int)×(Int×Int)×PUnit) =>
 let v15:Int:=IntKind.wrap .i64 t.1.2;
 let v16:Bool:=bif v10 then true else decide (t.1.1>0);
 let v17:Bool:=!v16;
 let v18:Bool:=!v17||v17;bif v11 then bif v11 then bif v8||v9 then bif v13 then bif v13 then bif v10||v12 then bif v18 then bif v18 then bif v16||v17 then bif bif v16 then true else decide (t.1.2>1152921504606846976) then some ((0,0),5,PUnit.unit) else bif x1 then some ((IntKind.wrap .i64 (0 - v7), v15),0,PUnit.unit) else some ((v7,v15),0,PUnit.unit) else none else none else none else none else none else none else none else none else none
def bE (x0:Int×Int) (x1:Bool) (x2:Int×Int):Option ((Int×Int)×Int×Unit):=lB lpK jnK dF gS x0 x1 x2
abbrev Du:=(Int×Int)->(Bool)->(Int×Int)->Option ((Int×Int)×Int×Unit)
def Nr (bE:Du):Ctr:=⟨[iJ,.bool,iJ],[],[],.tup [T49,i64],fun x _ _=>bE x.1 x.2.1 x.2.2.1⟩
def KH:Ctr:=Nr bE
theorem T4 (lp:Lp) (jn:Jn) (dF:J5) (gS:Tm):∀(x:TsS KH.as) (F:TsF KH.fs) (y:TsS KH.cs),lB lp jn dF gS x.1 x.2.1 x.2.2.1=bv lp jn (cx [(164,⟨[iJ,iJ],[],[],.tup [iJ,iJ],fun x _ _=>gS x.1 x.2.1⟩),(102,QA dF)] [(134,a7)]) ak 4 121 f121 KH x F y:=fun x F y=>by kernel_rfl
theorem Ks:KH.ok prog 121:=Ctr.of_den (an (aa (aa (ba) (by kernel_rfl) Pk) (by kernel_rfl) Sf)) aJ (hl:=ak) (d:=4) func121 rfl (by decide) (T4 lpK jnK dF gS)
def u7 (_:Lp) (_:Jn) (x0:Int) (x1:Int):Option (Int×Int) :=
 
 let v4:Int:=2 ^ 32;
 let v5:Int:=Int.fdiv x0 v4;
 let v6:Int:=Int.fdiv x1 v4;
 let v7:Bool:=decide ((0:Int)<=32);
 let v8:Int:=IntKind.wrap .u64 (↑(Nat.land (Int.toNat (x1 % Int.ofNat 18446744073709551616)) (Int.toNat (4294967295 % Int.ofNat 18446744073709551616))) : Int);
 let v9:Int:=IntKind.wrap .u64 (↑(Nat.land (Int.toNat (x0 % Int.ofNat 18446744073709551616)) (Int.toNat (4294967295 % Int.ofNat 18446744073709551616))) : Int);
 let v10:Int:=IntKind.wrap .u64 (v9*v8);
 let v11:Int:=IntKind.wrap .u64 (IntKind.wrap .u64 (v5*v8)+Int.fdiv v10 v4);
 let v12:Int:=IntKind.wrap .u64 (IntKind.wrap .u64 (v9*v6)+IntKind.wrap .u64 (↑(Nat.land (Int.toNat (v11 % Int.ofNat 18446744073709551616)) (Int.toNat (4294967295 % Int.ofNat 18446744073709551616))):Int));bif v7 then bif v7 then bif v7 then bif v7 then bif v7 then bif v7 then some (IntKind.wrap .u64 (IntKind.wrap .u64 (IntKind.wrap .u64 (v5*v6)+Int.fdiv v11 v4)+Int.fdiv v12 v4),IntKind.wrap .u64 (IntKind.wrap .u64 (v12*v4)+IntKind.wrap IntKind.u64 (↑(Nat.land (Int.toNat (v10 % Int.ofNat 18446744073709551616)) (Int.toNat (4294967295 % Int.ofNat 18446744073709551616))):Int))) else none else none else none else none else none else none
def cu (x0:Int) (x1:Int):Option (Int×Int):=u7 lpK jnK x0 x1
abbrev DC:=(Int)->(Int)->Option (Int×Int)
def OD (cu:DC):Ctr:=⟨[(.int .u64),(.int .u64)],[],[],.one iJ,fun x _ _=>cu x.1 x.2.1⟩
def IA:Ctr:=OD cu
theorem VR (lp:Lp) (jn:Jn):∀(x:TsS IA.as) (F:TsF IA.fs) (y:TsS IA.cs),u7 lp jn x.1 x.2.1=bv lp jn (cx [] [(134,a7)]) ak 4 153 f153 IA x F y:=fun x F y=>by kernel_rfl
theorem Me:IA.ok prog 153:=Ctr.of_den (an (ba)) aJ (hl:=ak) (d:=4) func153 rfl (by decide) (VR lpK jnK)
def rN (_:Lp) (_:Jn) (aF:wG) (bE:Du) (cu:DC) (x0:Int×Int) (x1:Int×Int):Option ((Int×Int)×Int×Unit) :=
 ah (aF x0.1) fun (t:Int)=>ah (aF x1.1) fun (t_1:Int)=>ah (cu t t_1) fun (t:Int×Int)=>ah (aF x0.2) fun (t_2:Int)=>ah (aF x1.2) fun (t_3:Int)=>ah (cu t_2 t_3) fun (t_4:Int×Int)=>ah (bE t (!decide (decide (x0.1<0)=decide (x1.1<0))) t_4) fun (t:(Int×Int)×Int×PUnit)=>some (t.1,t.2.1,PUnit.unit)
def gY (x0:Int×Int) (x1:Int×Int):Option ((Int×Int)×Int×Unit):=rN lpK jnK aF bE cu x0 x1
abbrev Sa:=(Int×Int)->(Int×Int)->Option ((Int×Int)×Int×Unit)
def Ml:Ctr:=⟨[T49,T49],[],[],.tup [T49,i64],fun x _ _=>gY x.1 x.2.1⟩
theorem Ug (lp:Lp) (jn:Jn) (aF:wG) (bE:Du) (cu:DC):∀(x:TsS Ml.as) (F:TsF Ml.fs) (y:TsS Ml.cs),rN lp jn aF bE cu x.1 x.2.1=bv lp jn (cx [(153,OD cu),(121,Nr bE),(103,Hz aF)] [(134,a7)]) ak 4 106 f106 Ml x F y:=fun x F y=>by kernel_rfl
theorem S9:Ml.ok prog 106:=Ctr.of_den (an (aa (aa (aa (ba) (by kernel_rfl) BF) (by kernel_rfl) Ks) (by kernel_rfl) Me)) aJ (hl:=ak) (d:=4) func106 rfl (by decide) (Ug lpK jnK aF bE cu)
def va (_:Lp) (_:Jn) (bp:zW) (bj:EI) (cZ:JS) (aF:wG) (bE:Du) (cu:DC) (x0:Int×Int) (x1:Int×Int):Option ((Int×Int)×Int×Unit) :=
 
 let v4:Bool:=decide (x0.1<0);ah (aF x0.1) fun (t:Int)=>ah (aF x1.2) fun (t_1:Int)=>ah (cu t t_1) fun (t:Int×Int)=>ah (aF x1.1) fun (t_2:Int)=>ah (aF x0.2) fun (t_3:Int)=>ah (cu t_2 t_3) fun (t_4:Int×Int)=>ah (aF x0.2) fun (t_5:Int)=>ah (aF x1.2) fun (t_6:Int)=>ah (cu t_5 t_6) fun (t_7:Int×Int)=>bif decide (v4=decide (x1.1<0)) then ah (cZ t t_4) fun (t:Int×Int) =>ah (bE t v4 t_7) fun (t:(Int×Int)×Int×PUnit)=>some (t.1,t.2.1,PUnit.unit) else ah (bp t t_4) fun (t_8:Bool)=>bif t_8 then ah (bj t_4 t) fun (t:Int×Int)=>ah (bE t (decide (x1.1<0)) t_7) fun (t:(Int×Int)×Int×PUnit)=>some (t.1,t.2.1,PUnit.unit) else ah (bj t t_4) fun (t:Int×Int)=>ah (bE t v4 t_7) fun (t:(Int×Int)×Int×PUnit)=>some (t.1,t.2.1,PUnit.unit)
def jE (x0:Int×Int) (x1:Int×Int):Option ((Int×Int)×Int×Unit):=va lpK jnK bp bj cZ aF bE cu x0 x1
abbrev S6:=(Int×Int)->(Int×Int)->Option ((Int×Int)×Int×Unit)
def KN:Ctr:=⟨[T49,T49],[],[],.tup [T49,i64],fun x _ _=>jE x.1 x.2.1⟩
theorem Vs (lp:Lp) (jn:Jn) (bp:zW) (bj:EI) (cZ:JS) (aF:wG) (bE:Du) (cu:DC):∀(x:TsS KN.as) (F:TsF KN.fs) (y:TsS KN.cs),va lp jn bp bj cZ aF bE cu x.1 x.2.1=bv lp jn (cx [(153,OD cu),(121,Nr bE),(103,Hz aF),(152,QV cZ),(151,MC bj),(150,JI bp)] [(134,a7)]) ak 4 107 f107 KN x F y:=fun x F y=>by kernel_rfl
theorem RV:KN.ok prog 107:=Ctr.of_den (an (aa (aa (aa (aa (aa (aa (ba) (by kernel_rfl) FH) (by kernel_rfl) IY) (by kernel_rfl) PV) (by kernel_rfl) BF) (by kernel_rfl) Ks) (by kernel_rfl) Me)) aJ (hl:=ak) (d:=4) func107 rfl (by decide) (Vs lpK jnK bp bj cZ aF bE cu)
def vm (lp:Lp) (_:Jn) (bI:t73) (gY:Sa) (jE:S6) (x0:List Int) (x1:List (Int×Int)):Option ((Int×Int)×Int×Unit) :=
 ah (bI 0) fun (t:Int×Int)=>lp (Int×(Int×Int)×(Int×Int)×PUnit) ((Int×Int)×Int×PUnit) (fun (again:Int×(Int×Int)×(Int×Int)×PUnit->Option ((Int×Int)×Int×PUnit)) (x:Int×(Int×Int)×(Int×Int)×PUnit)=>bif decide (x.1<(↑x0.length:Int)) then bif inB x.1 x0.length then ah (bI (x0.getD x.1.toNat 0)) fun (t:Int×Int)=>bif inB x.1 x1.length then ah (gY t (x1.getD x.1.toNat (0,0))) fun (t:(Int×Int)×Int×PUnit)=>bif !decide (t.2.1=0) then some ((0,0),t.2.1,PUnit.unit) else ah (jE x.2.2.1 t.1) fun (t:(Int × Int)×Int×PUnit)=>bif !decide (t.2.1=0) then some ((0,0),t.2.1,PUnit.unit) else again (IntKind.wrap .i64 (x.1+1), x.2.1,t.1,PUnit.unit) else none else none else some (x.2.2.1,0,PUnit.unit)) (0,(0,0),t,PUnit.unit)
def eo (x0:List Int) (x1:List (Int×Int)):Option ((Int×Int)×Int×Unit):=vm lpK jnK bI gY jE x0 x1
abbrev t54:=(List Int)->(List (Int×Int))->Option ((Int×Int)×Int×Unit)
def k54 (eo:t54):Ctr:=⟨[(.sl i64),(.sl T49)],[],[],.tup [T49,i64],fun x _ _=>eo x.1 x.2.1⟩
def c54:Ctr:=k54 eo
theorem e54 (lp:Lp) (jn:Jn) (bI:t73) (gY:Sa) (jE:S6):∀(x:TsS c54.as) (F:TsF c54.fs) (y:TsS c54.cs),vm lp jn bI gY jE x.1 x.2.1=bv lp jn (cx [(107,⟨[T49,T49],[],[],.tup [T49,i64],fun x _ _=>jE x.1 x.2.1⟩),(106,⟨[T49,T49],[],[],.tup [T49,i64],fun x _ _=>gY x.1 x.2.1⟩),(73,k73 bI)] [(134,a7)]) ak 4 54 f54 c54 x F y:=fun x F y=>by kernel_rfl
theorem RL:c54.ok prog 54:=Ctr.of_den (an (aa (aa (aa (ba) (by kernel_rfl) Lf) (by kernel_rfl) S9) (by kernel_rfl) RV)) aJ (hl:=ak) (d:=4) func54 rfl (by decide) (e54 lpK jnK bI gY jE)
def qF (lp:Lp) (_:Jn) (x0:(List Int)×List ((List Int)×Int×Int)) (x1:Int):Option (List Int) :=
 lp (List Int×Int×PUnit) (List Int) (fun (again:List Int×Int×PUnit->Option (List Int)) (x:List Int×Int×PUnit)=>bif decide (x.2.1<(↑x0.2.length:Int)) then bif inB x.2.1 x0.2.length then bif inB x1 (List.length (x0.2.getD x.2.1.toNat ([],0,0)).1) then bif eh (List.length x.1+(1 : Nat)) 8 then again (x.1++[List.getD (x0.2.getD x.2.1.toNat ([],0,0)).1 x1.toNat 0],IntKind.wrap .i64 (x.2.1 + 1),PUnit.unit) else none else none else none else some x.1) ([],0,PUnit.unit)
def gk (x0:(List Int)×List ((List Int)×Int×Int)) (x1:Int):Option (List Int):=qF lpK jnK x0 x1
abbrev Sv:=((List Int)×List ((List Int)×Int×Int))->(Int)->Option (List Int)
def LQ:Ctr:=⟨[T32,i64],[],[],.one (.sl i64),fun x _ _=>gk x.1 x.2.1⟩
theorem UG (lp:Lp) (jn:Jn):∀(x:TsS LQ.as) (F:TsF LQ.fs) (y:TsS LQ.cs),qF lp jn x.1 x.2.1=bv lp jn (cx [] [(134,a7)]) ak 4 104 f104 LQ x F y:=fun x F y=>by kernel_rfl
theorem Rs:LQ.ok prog 104:=Ctr.of_den (an (ba)) aJ (hl:=ak) (d:=4) func104 rfl (by decide) (UG lpK jnK)
def uX (_:Lp) (_:Jn) (bp:zW) (aF:wG) (cu:DC) (x0:Int×Int) (x1:Int×Int):Option Int :=
 
 let v4:Bool:=decide (x0.1<0);
 let v5:Bool:=decide (x0.1>=0);
 let v6:Bool:=!v4||v4;
 let v7:Bool:=!v5||v5;ah (aF x0.1) fun (t:Int)=>ah (aF x1.2) fun (t_1:Int)=>ah (cu t t_1) fun (t:Int×Int)=>ah (aF x1.1) fun (t_2:Int)=>ah (aF x0.2) fun (t_3:Int)=>ah (cu t_2 t_3) fun (t_4:Int×Int)=>bif v6 then bif v6 then bif v6 then bif bif v4 then decide (x1.1>=0) else false then some (-1) else bif v7 then bif v7 then bif v7 then bif bif v5 then decide (x1.1<0) else false then some 1 else bif decide (t.1=t_4.1)&&(decide (t.2=t_4.2)&&true) then some 0 else ah (bp t t_4) fun (t:Bool)=>bif decide (t=v5) then some (-1) else some 1 else none else none else none else none else none else none
def ep (x0:Int×Int) (x1:Int×Int):Option Int:=uX lpK jnK bp aF cu x0 x1
abbrev KW:=(Int×Int)->(Int×Int)->Option (Int)
def QU (ep:KW):Ctr:=⟨[T49,T49],[],[],.one i64,fun x _ _=>ep x.1 x.2.1⟩
def H7:Ctr:=QU ep
theorem U3 (lp:Lp) (jn:Jn) (bp:zW) (aF:wG) (cu:DC):∀(x:TsS H7.as) (F:TsF H7.fs) (y:TsS H7.cs),uX lp jn bp aF cu x.1 x.2.1=bv lp jn (cx [(153,OD cu),(103,Hz aF),(150,JI bp)] [(134,a7)]) ak 4 105 f105 H7 x F y:=fun x F y=>by kernel_rfl
theorem PD:H7.ok prog 105:=Ctr.of_den (an (aa (aa (aa (ba) (by kernel_rfl) FH) (by kernel_rfl) BF) (by kernel_rfl) Me)) aJ (hl:=ak) (d:=4) func105 rfl (by decide) (U3 lpK jnK bp aF cu)
def rI (lp:Lp) (_:Jn) (bI:t73) (eo:t54) (gk:Sv) (ep:KW) (x0:(List Int)×List ((List Int)×Int×Int)) (x1:List (Int×Int)) (x2:List Int):Option (Bool×Int×Unit) :=
 lp (Bool×Int×PUnit) (Bool×Int×PUnit) (fun (again:Bool×Int×PUnit->Option (Bool×Int×PUnit)) (x:Bool×Int×PUnit) =>
 let v7:Bool:=!x.1;
 let v8:Bool:=v7||x.1;bif decide (x.2.1<(↑x2.length:Int)) then ah (gk x0 x.2.1) fun (t:List Int)=>ah (eo t x1) fun (t:(Int×Int) × Int×PUnit)=>bif !decide (t.2.1=0) then some (false,t.2.1,PUnit.unit) else bif v8&&(v8&&(v7||inB x.2.1 x2.length)) then bif v8 then bif v8 then ah (bif x.1 then bI (x2.getD x.2.1.toNat 0) else some (0,0)) fun (t_1:Int×Int)=>bif v8&&v8 then ah (bif x.1 then ep t.1 t_1 else some 0) fun (t:Int)=>bif v8 then bif v8 then again (bif x.1 then decide (t<=0) else false,IntKind.wrap .i64 (x.2.1+(1 : Int)),PUnit.unit) else none else none else none else none else none else none else some (x.1,0,PUnit.unit)) (true,0,PUnit.unit)
def fH (x0:(List Int)×List ((List Int)×Int×Int)) (x1:List (Int×Int)) (x2:List Int):Option (Bool×Int×Unit):=rI lpK jnK bI eo gk ep x0 x1 x2
abbrev t53:=((List Int)×List ((List Int)×Int×Int))->(List (Int×Int))->(List Int)->Option (Bool×Int×Unit)
def k53 (fH:t53):Ctr:=⟨[T32,(.sl T49),(.sl i64)],[],[],.tup [.bool,i64],fun x _ _=>fH x.1 x.2.1 x.2.2.1⟩
def c53:Ctr:=k53 fH
theorem e53 (lp:Lp) (jn:Jn) (bI:t73) (eo:t54) (gk:Sv) (ep:KW):∀(x:TsS c53.as) (F:TsF c53.fs) (y:TsS c53.cs),rI lp jn bI eo gk ep x.1 x.2.1 x.2.2.1=bv lp jn (cx [(105,QU ep),(104,⟨[T32,i64],[],[],.one (.sl i64),fun x _ _=>gk x.1 x.2.1⟩),(54,k54 eo),(73,k73 bI)] [(134,a7)]) ak 4 53 f53 c53 x F y:=fun x F y=>by kernel_rfl
theorem UQ:c53.ok prog 53:=Ctr.of_den (an (aa (aa (aa (aa (ba) (by kernel_rfl) Lf) (by kernel_rfl) RL) (by kernel_rfl) Rs) (by kernel_rfl) PD)) aJ (hl:=ak) (d:=4) func53 rfl (by decide) (e53 lpK jnK bI eo gk ep)
end
end Go.Proofs.YtfknoaclabfdlaaGreat
