/- r15: the shapes of its types, and the places of its loops. r15: what its functions answer (printed by a program), and that they do. r15: what its functions answer (printed by a program), and that they do; part 2. -/
import Derived.Test.YtfknoaclabfdlaaGreatProg
import Derived.KernelRfl
import Derived.Test.YtfknoaclabfdlaaGreatMgL

namespace Go.Proofs.YtfknoaclabfdlaaGreat
open Tryz Dn Dn.Sh
abbrev i64:Sh:=.int .i64
abbrev T66:Sh:=.agg (.pair .str i64)
abbrev T49:Sh:=.agg (.pair i64 i64)
abbrev Ow:Sh:=.agg (.pair .str (.pair i64 T49))
abbrev T75:Sh:=.agg (.pair .str (.pair (.sl Ow) .bool))
abbrev T25:Sh:=.agg (.pair (.sl T66) (.sl T75))
abbrev T86:Sh:=.agg (.pair (.sl i64) (.pair i64 i64))
abbrev T32:Sh:=.agg (.pair (.sl i64) (.sl T86))
abbrev T96:Sh:=.agg (.pair T49 (.pair (.sl T49) (.sl T49)))
abbrev mw:Sh:=.agg (.pair (.int .u64) (.int .u64))
abbrev O6:Sh:=.agg i64
abbrev w9:Sh:=.agg (.pair (.int .u64) (.int .u64))
abbrev GA:Sh:=.agg (.pair (.sl (.sl i64)) (.pair i64 (.pair (.sl i64) (.pair (.sl i64) (.pair (.sl i64) (.pair i64 i64))))))
abbrev TL:Sh:=.agg (.pair (.sl (.sl i64)) (.pair i64 (.pair (.sl i64) (.pair (.sl i64) .bool))))
abbrev rZ:Sh:=.agg (.pair .bool (.pair (.int .u64) (.int .u64)))
def shs:TypeId->Option Sh
 | 3=>some i64
 | 4=>some .bool
 | 5=>some (.int .u8)
 | 9=>some .str
 | 29=>some (.sl i64)
 | 49=>some T49
 | 66=>some T66
 | 75=>some T75
 | 86=>some T86
 | 134=>some Ow
 | _=>none
def Lj:Nat->Option Hd
 | 2=>some ⟨[(3,false,[.d i64])],[],[]⟩
 | _=>none
def IZ:Nat->Option Hd
 | 2=>some ⟨[(8,false,[.d i64])],[],[]⟩
 | _=>none
def LW:Nat->Option Hd
 | 1=>some ⟨[(0,false,[.d (.int .u64)]),(1,false,[.d (.int .u64)])],[],[]⟩
 | _=>none
def IT:Nat->Option Hd
 | 5=>some ⟨[(17,false,[.d i64])],[],[]⟩
 | _=>none
def Nu:Nat->Option Hd
 | 6=>some ⟨[(27,false,[.d i64])],[],[(3,some 0,.x (.map 158 .str .bool))]⟩
 | 13=>some ⟨[(7,false,[.d i64]),(46,false,[.d i64])],[],[(3,some 0,.x (.map 158 .str .bool))]⟩
 | _=>none
def Mp:Nat->Option Hd
 | 5=>some ⟨[(20,false,[.d i64])],[],[(4,none,.x (.tab 29 .ref 3 i64))]⟩
 | 10=>some ⟨[(34,false,[.d i64])],[],[(4,none,.x (.tab 29 .ref 3 i64))]⟩
 | 13=>some ⟨[(42,false,[.d i64])],[],[(4,none,.x (.tab 29 .ref 3 i64))]⟩
 | _=>none
def MX:Nat->Option Hd
 | 5=>some ⟨[(4,false,[.row 3 i64]),(13,false,[.d i64])],[],[]⟩
 | _=>none
def Ny:Nat->Option Hd
 | 9=>some ⟨[(34,false,[.d i64])],[(9,[.d (.sl i64),.row 86 T86])],[]⟩
 | _=>none
def LF:Nat->Option Hd
 | 8=>some ⟨[(8,false,[.d i64])],[],[(7,none,.row 3 i64)]⟩
 | _=>none
def MJ:Nat->Option Hd
 | 1000002=>some ⟨[],[],[]⟩
 | 1000005=>some ⟨[],[],[]⟩
 | _=>none
def Jt:Nat->Option Hd
 | 2=>some ⟨[(8,false,[.d i64])],[],[]⟩
 | _=>none
def HG:Nat->Option Hd
 | 2=>some ⟨[(8,false,[.d i64])],[],[]⟩
 | _=>none
def Nq:Nat->Option Hd
 | 2=>some ⟨[(8,false,[.d i64])],[],[]⟩
 | _=>none
def HO:Nat->Option Hd
 | 1000002=>some ⟨[(0,false,[.d (.int .u64)]),(2,false,[.d i64])],[],[]⟩
 | 1000005=>some ⟨[(0,false,[.d (.int .u64)]),(2,false,[.d i64])],[],[]⟩
 | _=>none
def JY:Nat->Option Hd
 | 17=>some ⟨[(15,false,[.d (.int .u64)]),(16,false,[.d (.int .u64)])],[],[]⟩
 | 24=>some ⟨[(16,false,[.d (.int .u64)]),(18,false,[.d (.int .u64)])],[],[]⟩
 | _=>none
def Hh:Nat->Option Hd
 | 0=>some ⟨[(15,false,[.d (.int .u64)])],[],[]⟩
 | 2=>some ⟨[(18,false,[.d (.int .u64)])],[],[]⟩
 | 1000002=>some ⟨[],[],[]⟩
 | 1000004=>some ⟨[],[],[]⟩
 | _=>none
def MY:Nat->Option Hd
 | 1000008=>some ⟨[(9,false,[.d .bool])],[(10,[.d mw])],[]⟩
 | 1000010=>some ⟨[(9,false,[.d .bool])],[(10,[.d mw])],[]⟩
 | _=>none
def Nx:Nat->Option Hd
 | 3=>some ⟨[(15,false,[.d i64])],[(0,[.d O6]),(6,[.d T49]),(7,[.d T49])],[]⟩
 | _=>none
def LC:Nat->Option Hd
 | 1000007=>some ⟨[(11,false,[.d i64])],[(10,[.d T49])],[]⟩
 | _=>none
def NC:Nat->Option Hd
 | 1000009=>some ⟨[],[(6,[.d mw]),(7,[.d mw])],[]⟩
 | _=>none
def IX:Nat->Option Hd
 | 3=>some ⟨[(5,false,[.row 3 i64]),(11,false,[.d i64])],[],[]⟩
 | _=>none
def Ma:Nat->Option Hd
 | 3=>some ⟨[(9,false,[.d .bool]),(14,false,[.d i64])],[(0,[.d O6])],[]⟩
 | _=>none
def LL:Nat->Option Hd
 | 3=>some ⟨[(3,false,[.row 3 i64]),(9,false,[.d i64])],[],[]⟩
 | _=>none
def Nb:Nat->Option Hd
 | 2=>some ⟨[(10,false,[.d i64])],[],[]⟩
 | _=>none
def Ir:Nat->Option Hd
 | 3=>some ⟨[(5,false,[.d i64]),(14,false,[.d i64])],[],[]⟩
 | _=>none
def Jm:Nat->Option Hd
 | 5=>some ⟨[(3,false,[.d i64]),(4,false,[.d i64])],[],[]⟩
 | _=>none
def Kn:Nat->Option Hd
 | 1000002=>some ⟨[],[],[]⟩
 | _=>none
def JJ:Nat->Option Hd
 | 4=>some ⟨[(4,false,[.row 3 i64]),(18,false,[.d i64])],[],[]⟩
 | 10=>some ⟨[(7,false,[.d i64]),(34,false,[.d i64])],[],[]⟩
 | _=>none
def Jy:Nat->Option Hd
 | 4=>some ⟨[(5,false,[.d i64]),(24,false,[.d i64])],[],[]⟩
 | 12=>some ⟨[(9,false,[.d i64]),(51,false,[.d i64])],[(46,[.x (.tab 29 .ref 3 i64),.d i64,.row 3 i64,.row 3 i64,.row 3 i64,.d i64,.d i64])],[]⟩
 | 28=>some ⟨[(95,false,[.d i64])],[],[(12,none,.row 3 i64)]⟩
 | _=>none
def HE:Nat->Option Hd
 | 1000019=>some ⟨[(9,false,[.d i64])],[],[(12,none,.row 3 i64)]⟩
 | 1000022=>some ⟨[(9,false,[.d i64])],[],[(12,none,.row 3 i64)]⟩
 | 1000026=>some ⟨[(13,false,[.d i64])],[],[(12,none,.row 3 i64)]⟩
 | _=>none
def HI:Nat->Option Hd
 | 3=>some ⟨[(5,false,[.d i64]),(13,false,[.d i64])],[],[]⟩
 | _=>none
def I7:Nat->Option Hd
 | 1000008=>some ⟨[(10,false,[.d .bool])],[(2,[.d rZ]),(3,[.d rZ])],[]⟩
 | _=>none
def K1:Nat->Option Hd
 | 2=>some ⟨[(29,false,[.d i64])],[],[(0,some 0,.x (.tab 29 .ref 3 i64))]⟩
 | 7=>some ⟨[(43,false,[.d i64])],[],[(0,some 0,.x (.tab 29 .ref 3 i64))]⟩
 | 17=>some ⟨[(98,false,[.d i64])],[],[(0,some 0,.x (.tab 29 .ref 3 i64))]⟩
 | 20=>some ⟨[(104,false,[.d i64])],[],[(0,some 0,.x (.tab 29 .ref 3 i64))]⟩
 | _=>none
def IM:Nat->Option Hd
 | 3=>some ⟨[(5,false,[.d i64]),(14,false,[.d i64])],[],[]⟩
 | _=>none
def JD:Nat->Option Hd
 | 1=>some ⟨[],[(0,[.x (.tab 29 .ref 3 i64),.d i64,.row 3 i64,.row 3 i64,.row 3 i64,.d i64,.d i64])],[]⟩
 | 3=>some ⟨[(3,false,[.d i64]),(4,false,[.d i64])],[],[]⟩
 | 12=>some ⟨[(44,false,[.d i64])],[(0,[.x (.tab 29 .ref 3 i64),.d i64,.row 3 i64,.row 3 i64,.row 3 i64,.d i64,.d i64])],[]⟩
 | 15=>some ⟨[(6,false,[.d i64])],[(0,[.x (.tab 29 .ref 3 i64),.d i64,.row 3 i64,.row 3 i64,.row 3 i64,.d i64,.d i64])],[]⟩
 | _=>none
def KX:Nat->Option Hd
 | 3=>some ⟨[(5,false,[.d i64]),(21,false,[.d i64])],[],[]⟩
 | _=>none
def JM:Nat->Option Hd
 | 1=>some ⟨[],[(0,[.x (.tab 29 .ref 3 i64),.d i64,.row 3 i64,.row 3 i64,.row 3 i64,.d i64,.d i64])],[]⟩
 | 3=>some ⟨[(3,false,[.d i64]),(4,false,[.d i64])],[],[]⟩
 | _=>none
def ND:Nat->Option Hd
 | 14=>some ⟨[(6,false,[.d i64]),(43,false,[.d i64])],[],[(7,none,.row 3 i64)]⟩
 | 22=>some ⟨[(94,false,[.d i64])],[(5,[.d T49,.row 49 T49,.row 49 T49])],[]⟩
 | 27=>some ⟨[(110,false,[.d i64])],[(5,[.d T49,.row 49 T49,.row 49 T49])],[]⟩
 | 31=>some ⟨[(13,false,[.d i64]),(118,false,[.d i64])],[],[]⟩
 | _=>none
def Mb:Nat->Option Hd
 | 2=>some ⟨[(8,false,[.d i64])],[],[]⟩
 | _=>none
def LI:Nat->Option Hd
 | 5=>some ⟨[(4,false,[.row 9 .str]),(16,false,[.d i64])],[],[]⟩
 | _=>none
def Nv:Nat->Option Hd
 | 3=>some ⟨[(11,false,[.d i64])],[(3,[.d (.sl T66),.row 75 T75])],[]⟩
 | _=>none
def Mu:Nat->Option Hd
 | 4=>some ⟨[(3,false,[.d i64])],[],[]⟩
 | 9=>some ⟨[(4,false,[.d i64])],[],[]⟩
 | 14=>some ⟨[(5,false,[.d i64])],[],[]⟩
 | _=>none
def Mq:Nat->Option Hd
 | 2=>some ⟨[(5,false,[.d i64])],[],[]⟩
 | _=>none
def NI:Nat->Option Hd
 | 1=>some ⟨[(1,false,[.d i64])],[],[]⟩
 | _=>none
def NJ:Nat->Option Hd
 | 2=>some ⟨[(5,false,[.d i64])],[],[]⟩
 | _=>none
def Lh:Nat->Option Hd
 | 4=>some ⟨[(5,false,[.d i64])],[(2,[.d w9]),(3,[.d w9])],[]⟩
 | 6=>some ⟨[],[(2,[.d w9]),(3,[.d w9])],[]⟩
 | 7=>some ⟨[],[(2,[.d w9])],[]⟩
 | 9=>some ⟨[],[(3,[.d w9])],[]⟩
 | 14=>some ⟨[(5,false,[.d i64])],[(3,[.d w9])],[]⟩
 | _=>none
def M0:Nat->Option Hd
 | 4=>some ⟨[(5,false,[.d i64])],[],[]⟩
 | _=>none
def MH:Nat->Option Hd
 | 4=>some ⟨[(3,false,[.d i64])],[],[]⟩
 | 11=>some ⟨[(5,false,[.d i64]),(6,false,[.d i64])],[],[]⟩
 | _=>none
def Nm:Nat->Option Hd
 | 4=>some ⟨[(5,false,[.d i64])],[],[]⟩
 | 9=>some ⟨[(6,false,[.d i64])],[],[]⟩
 | 15=>some ⟨[(9,false,[.d i64])],[],[]⟩
 | _=>none
def J7:Nat->Option Hd
 | 3=>some ⟨[(5,false,[.d i64]),(6,false,[.d i64])],[],[]⟩
 | _=>none
def Mg:Nat->Option Hd
 | 3=>some ⟨[(3,false,[.x (.tab 29 .ref 3 i64)]),(4,false,[.d i64])],[],[]⟩
 | 7=>some ⟨[(5,false,[.row 3 i64]),(6,false,[.d i64])],[],[]⟩
 | _=>none
def MO:Nat->Option Hd
 | 4=>some ⟨[(7,false,[.d i64])],[(5,[.d (.sl i64),.row 86 T86])],[]⟩
 | _=>none
def LB:Nat->Option Hd
 | 3=>some ⟨[(3,false,[.row 3 i64]),(4,false,[.d i64])],[],[]⟩
 | _=>none
def Nz:Nat->Option Hd
 | 2=>some ⟨[(3,false,[.d i64])],[],[]⟩
 | _=>none
def IW:Nat->Option Hd
 | 5=>some ⟨[(8,false,[.d i64])],[(2,[.d w9]),(6,[.d w9]),(7,[.d w9])],[]⟩
 | _=>none
def MW:Nat->Option Hd
 | 3=>some ⟨[(7,false,[.d i64])],[(4,[.d T49]),(6,[.d T49])],[]⟩
 | _=>none
def I6:Nat->Option Hd
 | 3=>some ⟨[(5,false,[.row 3 i64]),(6,false,[.d i64])],[],[]⟩
 | _=>none
def MU:Nat->Option Hd
 | 3=>some ⟨[(8,false,[.d .bool]),(9,false,[.d i64])],[],[]⟩
 | _=>none
def MF:Nat->Option Hd
 | 3=>some ⟨[(3,false,[.row 3 i64]),(4,false,[.d i64])],[],[]⟩
 | _=>none
def Mj:Nat->Option Hd
 | 2=>some ⟨[(5,false,[.d i64])],[],[]⟩
 | _=>none
def Hy:Nat->Option Hd
 | 3=>some ⟨[(3,false,[.d i64]),(4,false,[.d i64])],[],[]⟩
 | 8=>some ⟨[(5,false,[.row 3 i64]),(6,false,[.d i64])],[],[]⟩
 | 12=>some ⟨[(7,false,[.d i64]),(8,false,[.d i64])],[],[]⟩
 | _=>none
def HT:Nat->Option Hd
 | 3=>some ⟨[(6,false,[.d i64]),(7,false,[.d i64])],[],[]⟩
 | _=>none
def LQ:Nat->Option Hd
 | 5=>some ⟨[(6,false,[.d i64]),(7,false,[.d i64])],[],[]⟩
 | _=>none
def Jd:Nat->Option Hd
 | 3=>some ⟨[(8,false,[.d i64])],[],[(3,some 0,.x (.tab 29 .ref 3 i64))]⟩
 | 8=>some ⟨[(10,false,[.d i64])],[],[(3,some 0,.x (.tab 29 .ref 3 i64))]⟩
 | _=>none
def Mm:Nat->Option Hd
 | 2=>some ⟨[],[(1,[.x (.tab 29 .ref 3 i64),.row 3 i64,.d i64,.d i64]),(2,[.x (.tab 29 .ref 3 i64),.row 3 i64,.d i64,.d i64])],[]⟩
 | 3=>some ⟨[(5,false,[.d i64])],[],[]⟩
 | 9=>some ⟨[(6,false,[.d i64]),(8,false,[.d i64])],[],[]⟩
 | _=>none
def Mh:Nat->Option Hd
 | 1=>some ⟨[(4,false,[.d i64])],[],[(0,none,.row 3 i64)]⟩
 | _=>none
def Na:Nat->Option Hd
 | 5=>some ⟨[(7,false,[.d i64])],[(5,[.x (.tab 29 .ref 3 i64),.row 3 i64,.d i64,.d i64])],[(6,none,.row 3 i64)]⟩
 | 16=>some ⟨[(9,false,[.d i64])],[],[(8,none,.row 3 i64)]⟩
 | 20=>some ⟨[(10,false,[.d i64])],[],[(6,none,.row 3 i64)]⟩
 | _=>none
def LZ:Nat->Option Hd
 | 1000010=>some ⟨[],[],[(8,none,.row 3 i64)]⟩
 | 1000012=>some ⟨[],[],[(8,none,.row 3 i64)]⟩
 | 1000015=>some ⟨[],[],[(8,none,.row 3 i64)]⟩
 | _=>none
def No:Nat->Option Hd
 | 2=>some ⟨[(3,false,[.d i64])],[(1,[.x (.tab 29 .ref 3 i64),.row 3 i64,.d i64,.d i64])],[]⟩
 | 6=>some ⟨[(4,false,[.d i64])],[],[]⟩
 | 11=>some ⟨[(5,false,[.d i64])],[],[(1,some 0,.x (.tab 29 .ref 3 i64))]⟩
 | _=>none
def MI:Nat->Option Hd
 | 9=>some ⟨[(9,false,[.d i64])],[],[(4,some 0,.x (.tab 29 .ref 3 i64))]⟩
 | 13=>some ⟨[(10,false,[.d i64]),(11,false,[.d i64])],[],[]⟩
 | _=>none
def Me:Nat->Option Hd
 | 7=>some ⟨[(20,false,[.d i64])],[(2,[.d T49]),(4,[.d T49])],[]⟩
 | _=>none
def Nc:Nat->Option Hd
 | 3=>some ⟨[(4,false,[.row 9 .str]),(5,false,[.d i64])],[],[]⟩
 | _=>none
def MQ:Nat->Option Hd
 | 4=>some ⟨[(13,false,[.d i64])],[],[]⟩
 | _=>none
def O4:Nat->Option Hd
 | 1000023=>some ⟨[],[],[]⟩
 | _=>none
def Nt:Nat->Option Hd
 | 3=>some ⟨[(4,false,[.d i64])],[(3,[.row 66 T66,.row 75 T75])],[]⟩
 | _=>none
def Ov:Nat->Option Hd
 | 7=>some ⟨[(39,false,[.d i64])],[],[]⟩
 | _=>none
def OW:Nat->Option Hd
 | 1000014=>some ⟨[],[],[]⟩
 | _=>none
def NK:Nat->Option Hd
 | 10=>some ⟨[(5,false,[.row 49 T49]),(20,false,[.d i64])],[],[]⟩
 | _=>none
def NF:Nat->Option Hd
 | 7=>some ⟨[(8,false,[.row 49 T49]),(9,false,[.d i64]),(25,false,[.d i64])],[],[]⟩
 | 11=>some ⟨[(31,false,[.d i64])],[(11,[.d T49])],[]⟩
 | _=>none
def LS:Nat->Option Hd
 | 2=>some ⟨[(3,false,[.d i64])],[],[]⟩
 | _=>none
def NA:Nat->Option Hd
 | 2=>some ⟨[(8,false,[.d i64])],[],[]⟩
 | _=>none
def OY:Nat->Option Hd
 | 25=>some ⟨[(123,false,[.d i64])],[],[]⟩
 | _=>none
def Ox:Nat->Option Hd
 | 1000020=>some ⟨[],[],[]⟩
 | _=>none
def Jf:Nat->Option Hd
 | 2=>some ⟨[(8,false,[.d i64])],[],[]⟩
 | _=>none
def Iu:Nat->Option Hd
 | 1000007=>some ⟨[(12,false,[.d (.int .u64)]),(13,false,[.d (.int .u64)]),(18,false,[.d .bool])],[],[]⟩
 | 1000008=>some ⟨[(12,false,[.d (.int .u64)]),(13,false,[.d (.int .u64)]),(14,false,[.d (.int .u64)]),(15,false,[.d (.int .u64)]),(18,false,[.d .bool])],[],[]⟩
 | _=>none
def Hq:Nat->Option Hd
 | 3=>some ⟨[(20,false,[.d i64])],[(5,[.x (.tab 29 .ref 3 i64),.d i64,.row 3 i64,.row 3 i64,.d .bool])],[]⟩
 | 9=>some ⟨[(40,false,[.d i64])],[(5,[.x (.tab 29 .ref 3 i64),.d i64,.row 3 i64,.row 3 i64,.d .bool])],[]⟩
 | 14=>some ⟨[(10,false,[.d i64]),(11,false,[.d i64])],[],[]⟩
 | 19=>some ⟨[(10,false,[.d i64])],[(5,[.x (.tab 29 .ref 3 i64),.d i64,.row 3 i64,.row 3 i64,.d .bool])],[]⟩
 | 26=>some ⟨[(130,false,[.d i64])],[],[(5,some 0,.x (.tab 29 .ref 3 i64))]⟩
 | 31=>some ⟨[(144,false,[.d i64])],[],[(5,some 0,.x (.tab 29 .ref 3 i64))]⟩
 | _=>none
def L5:Nat->Option Hd
 | 10=>some ⟨[(7,false,[.x (.tab 29 .ref 3 i64)]),(37,false,[.d i64])],[],[]⟩
 | 16=>some ⟨[(64,false,[.d i64])],[],[]⟩
 | 25=>some ⟨[(13,false,[.row 49 T49]),(80,false,[.d i64])],[],[]⟩
 | _=>none
def Ml:Nat->Option Hd
 | 4=>some ⟨[(13,false,[.d i64])],[],[]⟩
 | _=>none
def Pr:Nat->Option Hd
 | 16=>some ⟨[(9,false,[.row 9 .str]),(59,false,[.d i64])],[],[]⟩
 | _=>none
def Pn:Nat->Option Hd
 | 1000019=>some ⟨[(9,false,[.row 9 .str])],[],[]⟩
 | _=>none
def al:FuncId->Hint
 | 161=>{loop:=Lj}
 | 167=>{loop:=IZ}
 | 75=>{loop:=LW}
 | 117=>{loop:=IT}
 | 59=>{loop:=Nu}
 | 87=>{loop:=Mp}
 | 88=>{loop:=MX}
 | 45=>{loop:=Ny}
 | 46=>{loop:=LF,join:=MJ}
 | 173=>{loop:=Jt}
 | 174=>{loop:=HG}
 | 74=>{loop:=Nq}
 | 181=>{join:=HO}
 | 125=>{loop:=JY,join:=Hh}
 | 35=>{join:=MY}
 | 95=>{loop:=Nx,join:=LC}
 | 39=>{join:=NC}
 | 145=>{loop:=IX}
 | 93=>{loop:=Ma}
 | 96=>{loop:=LL}
 | 97=>{loop:=Nb}
 | 154=>{loop:=Ir}
 | 156=>{loop:=Jm,join:=Kn}
 | 108=>{loop:=JJ}
 | 109=>{loop:=Jy,join:=HE}
 | 126=>{loop:=HI}
 | 176=>{join:=I7}
 | 157=>{loop:=K1}
 | 158=>{loop:=IM}
 | 110=>{loop:=JD}
 | 159=>{loop:=KX}
 | 111=>{loop:=JM}
 | 58=>{loop:=ND}
 | 60=>{loop:=Mb}
 | 21=>{loop:=LI}
 | 43=>{loop:=Nv}
 | 44=>{loop:=Mu}
 | 22=>{loop:=Mq}
 | 99=>{loop:=NI}
 | 49=>{loop:=NJ}
 | 102=>{loop:=Lh}
 | 50=>{loop:=M0}
 | 13=>{loop:=MH}
 | 14=>{loop:=Nm}
 | 101=>{loop:=J7}
 | 51=>{loop:=Mg}
 | 15=>{loop:=MO}
 | 16=>{loop:=LB}
 | 17=>{loop:=Nz}
 | 164=>{loop:=IW}
 | 54=>{loop:=MW}
 | 104=>{loop:=I6}
 | 53=>{loop:=MU}
 | 55=>{loop:=MF}
 | 57=>{loop:=Mj}
 | 118=>{loop:=Hy}
 | 119=>{loop:=HT}
 | 63=>{loop:=LQ}
 | 120=>{loop:=Jd}
 | 66=>{loop:=Mm}
 | 69=>{loop:=Mh}
 | 67=>{loop:=Na,join:=LZ}
 | 68=>{loop:=No}
 | 26=>{loop:=MI}
 | 27=>{loop:=Me}
 | 28=>{loop:=Nc}
 | 29=>{loop:=MQ}
 | 4=>{join:=O4}
 | 31=>{loop:=Nt}
 | 5=>{loop:=Ov,join:=OW}
 | 83=>{loop:=NK}
 | 84=>{loop:=NF}
 | 38=>{loop:=LS}
 | 86=>{loop:=NA}
 | 7=>{loop:=OY,join:=Ox}
 | 182=>{loop:=Jf}
 | 172=>{join:=Iu}
 | 135=>{loop:=Hq}
 | 89=>{loop:=L5}
 | 42=>{loop:=Ml}
 | 8=>{loop:=Pr,join:=Pn}
 | _=>{}
def Db (p : String) : Bool := p == "program.go:104" || p == "ref.go:45"
def Dc:TypeId->Option XP
 | 87=>some (.tab 29 .ref 3 i64)
 | 88=>some (.tab 29 .ref 3 i64)
 | _=>none
def xh:List Nat:=[115,174,141,142,93,109,157,110,111,120,66,69,67,68]
def its:List (Nat×ICtr):=[]
theorem QU:KH prog its:=F3
end Go.Proofs.YtfknoaclabfdlaaGreat

namespace Go.Proofs.YtfknoaclabfdlaaGreat
noncomputable section
open Tryz Dn Dn.Sh
set_option maxRecDepth 100000
theorem aX:prog.follows .mixedOrders=true:=by kernel_rfl
theorem O1:AA prog xh=true:=by kernel_rfl
theorem q0:(kP prog shs xh its [] []).ok:=F6 O1 QU
abbrev cx (l) (r):=Cc Dc Db (kP prog shs xh its l r)
def gj (_:Lp) (_:Jn) (x0:List Int):Option (List Int) :=
 bif c7 (0+List.length x0) 8 then some x0 else none
def ay (x0:List Int):Option (List Int):=gj lpK jnK x0
abbrev BO:=(List Int)->Option (List Int)
def LG (ay:BO):RCtr:=⟨[(.sl i64)],3,i64,fun x=>ay x.1⟩
def bJ:RCtr:=LG ay
theorem SU (lp:Lp) (jn:Jn):∀x:TsS bJ.as,gj lp jn x.1=G5 lp jn (cx [] []) al 4 134 f134 bJ.t bJ.e (AI bJ.as x true):=fun x=>by kernel_rfl
theorem OM:bJ.ok prog 134:=RCtr.of_den_nil (c:=bJ) (ap (q0)) aX (hl:=al) (d:=4) rfl func134 rfl (by decide) (SU lpK jnK) fun x h=>by
 obtain ⟨l,u⟩:=x
 simp only at h
 subst h
 kernel_rfl
theorem b7:(kP prog shs xh its [] [(134,bJ)]).ok:=FF q0 (by kernel_rfl) OM
def jI (_:Lp) (_:Jn) (x0:Int) (x1:Int) (x2:Int):Option Bool :=
 
 let v5:Bool:=decide (x0>=x1);
 let v6:Bool:=!v5||v5;bif v6&&v6 then bif v6 then some (bif v5 then decide (x0<=x2) else false) else none else none
def bg (x0:Int) (x1:Int) (x2:Int):Option Bool:=jI lpK jnK x0 x1 x2
abbrev KW:=(Int)->(Int)->(Int)->Option (Bool)
def OI (bg:KW):Ctr:=⟨[i64,i64,i64],[],[],.one .bool,fun x _ _=>bg x.1 x.2.1 x.2.2.1⟩
def JL:Ctr:=OI bg
theorem SJ (lp:Lp) (jn:Jn):∀(x:TsS JL.as) (F:TsF JL.fs) (y:TsS JL.cs),jI lp jn x.1 x.2.1 x.2.2.1=cb lp jn (cx [] [(134,bJ)]) al 4 114 f114 JL x F y:=fun x F y=>by kernel_rfl
theorem NO:JL.ok prog 114:=Ctr.of_den (ap (b7)) aX (hl:=al) (d:=4) func114 rfl (by decide) (SJ lpK jnK)
def jC (_:Lp) (_:Jn) (x0:Int):Option Bool :=
 
 let v3:Bool:=decide (x0>=97);
 let v4:Bool:=decide (x0>=65);
 let v5:Bool:=!v3||v3;
 let v6:Bool:=bif v3 then decide (x0<=122) else false;
 let v7:Bool:=!v6;
 let v8:Bool:=!v7;
 let v9:Bool:=v7&&v4;
 let v10:Bool:=v8||v7;bif v5 then bif v5 then bif v10 then bif v10 then bif !v9||v9 then bif (v8||v10)&&(v8||(!v4||(v8||v9))) then bif v6||v7 then some (bif v6 then true else bif v4 then decide (x0<=90) else false) else none else none else none else none else none else none else none
def bo (x0:Int):Option Bool:=jC lpK jnK x0
abbrev KO:=(Int)->Option (Bool)
def Po (bo:KO):Ctr:=⟨[(.int .u8)],[],[],.one .bool,fun x _ _=>bo x.1⟩
def K2:Ctr:=Po bo
theorem Sv (lp:Lp) (jn:Jn):∀(x:TsS K2.as) (F:TsF K2.fs) (y:TsS K2.cs),jC lp jn x.1=cb lp jn (cx [] [(134,bJ)]) al 4 160 f160 K2 x F y:=fun x F y=>by kernel_rfl
theorem Ob:K2.ok prog 160:=Ctr.of_den (ap (b7)) aX (hl:=al) (d:=4) func160 rfl (by decide) (Sv lpK jnK)
def ky (_:Lp) (_:Jn) (x0:Int):Option Bool :=
 
 let v3:Bool:=decide (x0>=48);
 let v4:Bool:=!v3||v3;bif v4 then bif v4 then some (bif v3 then decide (x0<=57) else false) else none else none
def dI (x0:Int):Option Bool:=ky lpK jnK x0
abbrev R2:=(Int)->Option (Bool)
def Li:Ctr:=⟨[(.int .u8)],[],[],.one .bool,fun x _ _=>dI x.1⟩
theorem Tn (lp:Lp) (jn:Jn):∀(x:TsS Li.as) (F:TsF Li.fs) (y:TsS Li.cs),ky lp jn x.1=cb lp jn (cx [] [(134,bJ)]) al 4 179 f179 Li x F y:=fun x F y=>by kernel_rfl
theorem R8:Li.ok prog 179:=Ctr.of_den (ap (b7)) aX (hl:=al) (d:=4) func179 rfl (by decide) (Tn lpK jnK)
def l7 (lp:Lp) (_:Jn) (bo:KO) (dI:R2) (x0:ByteArray):Option Int :=
 lp (Int×PUnit) Int (fun (again:Int×PUnit->Option Int) (x:Int×PUnit) =>
 let v5:Bool:=inB x.1 (ByteArray.size x0);
 let v6:Int:=eU x0 x.1.toNat;
 let v7:Bool:=decide (x.1<(↑(ByteArray.size x0):Int));
 let v8:Bool:=!v7;
 let v9:Bool:=v8||v7;
 let v10:Bool:=v8||v9;bif v9&&(v9&&(v8||v5)) then bif v9 then aa (bif v7 then bo v6 else some false) fun (t:Bool) =>
 let v12:Bool:=v7&&!t;
 let v13:Bool:=!v12;
 let v14:Bool:=v13||v12;bif v9 then bif v14&&(v14&&(v13||v5)) then bif v14 then aa (bif v12 then dI v6 else some false) fun (t_1:Bool) =>
 let v16:Bool:=bif t then true else t_1;
 let v17:Bool:=v7&&!v16;
 let v18:Bool:=!v17;
 let v19:Bool:=v18||v17;bif v10&&(v8||(t||(v8||v12))) then bif v9 then bif v19&&(v19&&(v18||v5)) then bif v19 then bif v10&&(v8||(v16||(v8||v17))) then bif v9 then bif bif v7 then bif v16 then true else decide (v6=95) else false then again (IntKind.wrap .i64 (x.1+1),PUnit.unit) else some x.1 else none else none else none else none else none else none else none else none else none else none else none) (0,PUnit.unit)
def dM (x0:ByteArray):Option Int:=l7 lpK jnK bo dI x0
abbrev Q5:=(ByteArray)->Option (Int)
def Kj:Ctr:=⟨[.str],[],[],.one i64,fun x _ _=>dM x.1⟩
theorem TA (lp:Lp) (jn:Jn) (bo:KO) (dI:R2):∀(x:TsS Kj.as) (F:TsF Kj.fs) (y:TsS Kj.cs),l7 lp jn bo dI x.1=cb lp jn (cx [(179,⟨[(.int .u8)],[],[],.one .bool,fun x _ _=>dI x.1⟩),(160,Po bo)] [(134,bJ)]) al 4 161 f161 Kj x F y:=fun x F y=>by kernel_rfl
theorem Q1:Kj.ok prog 161:=Ctr.of_den (ap (ah (ah (b7) (by kernel_rfl) Ob) (by kernel_rfl) R8)) aX (hl:=al) (d:=4) func161 rfl (by decide) (TA lpK jnK bo dI)
def j7 (_:Lp) (_:Jn) (bo:KO) (dM:Q5) (x0:ByteArray):Option Bool :=
 
 let v3:Bool:=!List.beq (ByteArray.toList x0) (ByteArray.toList { data:=#[] });
 let v4:Bool:=!v3||v3;
 let v5:Bool:=bif v3 then decide ((↑(ByteArray.size x0):Int)<=20) else false;
 let v6:Bool:=!v5;
 let v7:Bool:=v6||v5;bif v4 then bif v4 then bif v4 then bif v7&&(v6||inB 0 (ByteArray.size x0)) then bif v7 then aa (bif v5 then bo (eU x0 0) else some false) fun (t:Bool) =>
 let v9:Bool:=bif v5 then t else false;
 let v10:Bool:=!v9||v9;bif v7 then bif v10 then aa (bif v9 then dM x0 else some 0) fun (t:Int)=>bif v10 then bif v10&&v10 then bif v10 then some (bif v9 then decide (t=(↑(ByteArray.size x0):Int)) else false) else none else none else none else none else none else none else none else none else none else none
def cU (x0:ByteArray):Option Bool:=j7 lpK jnK bo dM x0
abbrev Rh:=(ByteArray)->Option (Bool)
def IQ:Ctr:=⟨[.str],[],[],.one .bool,fun x _ _=>cU x.1⟩
theorem Tm (lp:Lp) (jn:Jn) (bo:KO) (dM:Q5):∀(x:TsS IQ.as) (F:TsF IQ.fs) (y:TsS IQ.cs),j7 lp jn bo dM x.1=cb lp jn (cx [(161,⟨[.str],[],[],.one i64,fun x _ _=>dM x.1⟩),(160,Po bo)] [(134,bJ)]) al 4 116 f116 IQ x F y:=fun x F y=>by kernel_rfl
theorem P1:IQ.ok prog 116:=Ctr.of_den (ap (ah (ah (b7) (by kernel_rfl) Ob) (by kernel_rfl) Q1)) aX (hl:=al) (d:=4) func116 rfl (by decide) (Tm lpK jnK bo dM)
def gu (lp:Lp) (_:Jn) (x0:List (ByteArray×Int)) (f0:(((ByteArray×Int)×Unit)->Option Bool)):Option Int :=
 lp (Int×PUnit) Int (fun (again:Int×PUnit->Option Int) (x:Int×PUnit)=>bif decide (x.1<(↑x0.length:Int)) then bif inB x.1 x0.length then aa (f0 (x0.getD x.1.toNat ({ data:={ toList:=[] } },0),PUnit.unit)) fun (t:Bool)=>bif t then some x.1 else again (IntKind.wrap .i64 (x.1+1), PUnit.unit) else none else some (-1)) (0,PUnit.unit)
def bO (x0:List (ByteArray×Int)) (f0:(((ByteArray×Int)×Unit)->Option Bool)):Option Int:=gu lpK jnK x0 f0
abbrev PT:=(List (ByteArray×Int))->((((ByteArray×Int)×Unit)->Option Bool))->Option (Int)
def QZ (bO:PT):Ctr:=⟨[(.sl T66)],[([T66],.bool)],[],.one i64,fun x F _=>bO x.1 F.1⟩
def H1:Ctr:=QZ bO
theorem Tp (lp:Lp) (jn:Jn):∀(x:TsS H1.as) (F:TsF H1.fs) (y:TsS H1.cs),gu lp jn x.1 F.1=cb lp jn (cx [] [(134,bJ)]) al 4 167 f167 H1 x F y:=fun x F y=>by kernel_rfl
theorem RH:H1.ok prog 167:=Ctr.of_den (ap (b7)) aX (hl:=al) (d:=4) func167 rfl (by decide) (Tp lpK jnK)
def j4 (_:Lp) (_:Jn) (x0:ByteArray×Int) (y0:ByteArray):Option Bool :=
 some (List.beq (ByteArray.toList x0.1) (ByteArray.toList y0))
def dP (x0:ByteArray×Int) (y0:ByteArray):Option Bool:=j4 lpK jnK x0 y0
abbrev Qa:=(ByteArray×Int)->(ByteArray)->Option (Bool)
def Kr:Ctr:=⟨[T66],[],[.str],.one .bool,fun x _ y=>dP x.1 y.1⟩
theorem Tx (lp:Lp) (jn:Jn):∀(x:TsS Kr.as) (F:TsF Kr.fs) (y:TsS Kr.cs),j4 lp jn x.1 y.1=cb lp jn (cx [] [(134,bJ)]) al 4 168 f168 Kr x F y:=fun x F y=>by kernel_rfl
theorem RE:Kr.ok prog 168:=Ctr.of_den (ap (b7)) aX (hl:=al) (d:=4) func168 rfl (by decide) (Tx lpK jnK)
def lU (_:Lp) (_:Jn) (bO:PT) (dP:Qa) (x0:(List (ByteArray×Int))×List (ByteArray×(List (ByteArray×Int×Int×Int))×Bool)) (x1:ByteArray):Option Int :=
 aa (bO x0.1 fun (x:(ByteArray×Int)×PUnit)=>dP x.1 x1) fun (t:Int)=>some t
def bS (x0:(List (ByteArray×Int))×List (ByteArray×(List (ByteArray×Int×Int×Int))×Bool)) (x1:ByteArray):Option Int:=lU lpK jnK bO dP x0 x1
abbrev Ia:=((List (ByteArray×Int))×List (ByteArray×(List (ByteArray×Int×Int×Int))×Bool))->(ByteArray)->Option (Int)
def Oz (bS:Ia):Ctr:=⟨[T25,.str],[],[],.one i64,fun x _ _=>bS x.1 x.2.1⟩
def KC:Ctr:=Oz bS
theorem Sb (lp:Lp) (jn:Jn) (bO:PT) (dP:Qa):∀(x:TsS KC.as) (F:TsF KC.fs) (y:TsS KC.cs),lU lp jn bO dP x.1 x.2.1=cb lp jn (cx [(168,⟨[T66],[],[.str],.one .bool,fun x _ y=>dP x.1 y.1⟩),(167,QZ bO)] [(134,bJ)]) al 4 131 f131 KC x F y:=fun x F y=>by kernel_rfl
theorem Oc:KC.ok prog 131:=Ctr.of_den (ap (ah (ah (b7) (by kernel_rfl) RH) (by kernel_rfl) RE)) aX (hl:=al) (d:=4) func131 rfl (by decide) (Sb lpK jnK bO dP)
def oA (lp:Lp) (_:Jn) (x0:Int) (x1:Int):Option Int :=
 lp (Int×Int×PUnit) Int (fun (again:Int×Int×PUnit->Option Int) (x:Int×Int×PUnit)=>bif !decide (x.2.1=0) then bif nzB x.2.1 then again (x.2.1, Int.tmod x.1 x.2.1,PUnit.unit) else none else some x.1) (x0,x1,PUnit.unit)
def bm (x0:Int) (x1:Int):Option Int:=oA lpK jnK x0 x1
abbrev t75:=(Int)->(Int)->Option (Int)
def k75 (bm:t75):Ctr:=⟨[(.int .u64),(.int .u64)],[],[],.one (.int .u64),fun x _ _=>bm x.1 x.2.1⟩
def c75:Ctr:=k75 bm
theorem e75 (lp:Lp) (jn:Jn):∀(x:TsS c75.as) (F:TsF c75.fs) (y:TsS c75.cs),oA lp jn x.1 x.2.1=cb lp jn (cx [] [(134,bJ)]) al 4 75 f75 c75 x F y:=fun x F y=>by kernel_rfl
theorem NG:c75.ok prog 75:=Ctr.of_den (ap (b7)) aX (hl:=al) (d:=4) func75 rfl (by decide) (e75 lpK jnK)
def nU (_:Lp) (_:Jn) (x0:Int):Option Int :=
 
 let v3:Int:=IntKind.wrap .u64 x0;bif decide (x0<0) then some (IntKind.wrap .u64 (0 - v3)) else some v3
def aH (x0:Int):Option Int:=nU lpK jnK x0
abbrev t77:=(Int)->Option (Int)
def k77 (aH:t77):Ctr:=⟨[i64],[],[],.one (.int .u64),fun x _ _=>aH x.1⟩
def c77:Ctr:=k77 aH
theorem e77 (lp:Lp) (jn:Jn):∀(x:TsS c77.as) (F:TsF c77.fs) (y:TsS c77.cs),nU lp jn x.1=cb lp jn (cx [] [(134,bJ)]) al 4 77 f77 c77 x F y:=fun x F y=>by kernel_rfl
theorem KJ:c77.ok prog 77:=Ctr.of_den (ap (b7)) aX (hl:=al) (d:=4) func77 rfl (by decide) (e77 lpK jnK)
def mD (_:Lp) (_:Jn) (bm:t75) (aH:t77) (x0:Int×Int):Option Bool :=
 
 let v3:Bool:=decide (x0.2>=1);
 let v4:Bool:=!v3||v3;
 let v5:Bool:=bif v3 then decide (x0.2<=1152921504606846976) else false;
 let v6:Bool:=bif v5 then decide (x0.1>=(-1152921504606846976)) else false;
 let v7:Bool:=!v5||v5;
 let v8:Bool:=bif v6 then decide (x0.1<=1152921504606846976) else false;
 let v9:Bool:=!v6||v6;
 let v10:Bool:=!v8||v8;bif v4 then bif v4 then bif v4 then bif v7 then bif v7 then bif v7 then bif v9 then bif v9 then bif v9 then bif v10 then bif v10 then aa (bif v8 then aH x0.1 else some 0) fun (t:Int)=>bif v10 then bif v10 then bif v10&&v10 then aa (bif v8 then bm t (IntKind.wrap .u64 x0.2) else some (0 : Int)) fun (t:Int)=>bif v10 then bif v10 then some (bif v8 then decide (t=1) else false) else none else none else none else none else none else none else none else none else none else none else none else none else none else none else none else none
def au (x0:Int×Int):Option Bool:=mD lpK jnK bm aH x0
abbrev t72:=(Int×Int)->Option (Bool)
def k72 (au:t72):Ctr:=⟨[T49],[],[],.one .bool,fun x _ _=>au x.1⟩
def c72:Ctr:=k72 au
theorem e72 (lp:Lp) (jn:Jn) (bm:t75) (aH:t77):∀(x:TsS c72.as) (F:TsF c72.fs) (y:TsS c72.cs),mD lp jn bm aH x.1=cb lp jn (cx [(77,k77 aH),(75,k75 bm)] [(134,bJ)]) al 4 72 f72 c72 x F y:=fun x F y=>by kernel_rfl
theorem Kg:c72.ok prog 72:=Ctr.of_den (ap (ah (ah (b7) (by kernel_rfl) NG) (by kernel_rfl) KJ)) aX (hl:=al) (d:=4) func72 rfl (by decide) (e72 lpK jnK bm aH)
def kz (_:Lp) (_:Jn) (au:t72) (x0:Int×Int):Option Bool :=
 aa (au x0) fun (t:Bool) =>
 let v4:Bool:=!t||t;
 let v5:Bool:=bif t then decide (x0.1>=x0.2) else false;
 let v6:Bool:=!v5||v5;bif v4 then bif v4 then bif v4&&v4 then bif v4 then bif v6 then bif v6 then bif v6 then some (bif v5 then decide (x0.1<=100) else false) else none else none else none else none else none else none else none
def dH (x0:Int×Int):Option Bool:=kz lpK jnK au x0
abbrev Qw:=(Int×Int)->Option (Bool)
def HZ:Ctr:=⟨[T49],[],[],.one .bool,fun x _ _=>dH x.1⟩
theorem TP (lp:Lp) (jn:Jn) (au:t72):∀(x:TsS HZ.as) (F:TsF HZ.fs) (y:TsS HZ.cs),kz lp jn au x.1=cb lp jn (cx [(72,k72 au)] [(134,bJ)]) al 4 180 f180 HZ x F y:=fun x F y=>by kernel_rfl
theorem Rj:HZ.ok prog 180:=Ctr.of_den (ap (ah (b7) (by kernel_rfl) Kg)) aX (hl:=al) (d:=4) func180 rfl (by decide) (TP lpK jnK au)
def lu (_:Lp) (_:Jn) (bS:Ia) (dH:Qw) (x0:(List (ByteArray×Int))×List (ByteArray×(List (ByteArray×Int×Int×Int))×Bool)) (x1:ByteArray×Int×Int×Int) (x2:Bool):Option Bool :=
 
 let v5:Bool:=!x2;
 let v6:Bool:=v5||x2;
 let v7:Bool:=decide (x1.2.1=0);
 let v8:Bool:=decide (x1.2.1=1);
 let v9:Bool:=decide (x1.2.1=2);
 let v10:Bool:=!v8;
 let v11:Bool:=!v9;
 let v12:Bool:=bif v9 then true else v7;
 let v13:Bool:=!v10||v10;
 let v14:Bool:=!v11||v11;
 let v15:Bool:=!v12;
 let v16:Bool:=bif x2 then !(decide (x1.2.2.1=1)&&(decide (x1.2.2.2=1)&&true)) else false;
 let v17:Bool:=!v16;
 let v18:Bool:=!v17;
 let v19:Bool:=v17&&v5;
 let v20:Bool:=!v15||v15;
 let v21:Bool:=v18||v17;
 let v22:Bool:=!v19||v19;bif v6 then bif v6&&v6 then bif v6 then bif v21 then bif v21 then bif v22 then bif v22 then aa (bif v19 then dH x1.2.2 else some false) fun (t:Bool)=>bif v22 then bif (v18||v21)&&(v18||(!v5||(v18||v19))) then bif v16||v17 then bif bif v16 then true else bif v5 then !t else false then some false else bif List.beq (ByteArray.toList x1.1) (ByteArray.toList { data:=#[] }) then some v7 else aa (bS x0 x1.1) fun (t:Int)=>bif decide (t<0) then some false else bif x2 then bif v13 then bif v13 then bif v8||v10 then some (bif v8 then true else decide (x1.2.1=(-1))) else none else none else none else bif v14 then bif v14 then bif v9||v11 then bif v20 then bif v20 then bif v12||v15 then some (bif v12 then true else decide (x1.2.1=(-2))) else none else none else none else none else none else none else none else none else none else none else none else none else none else none else none else none
def dw (x0:(List (ByteArray×Int))×List (ByteArray×(List (ByteArray×Int×Int×Int))×Bool)) (x1:ByteArray×Int×Int×Int) (x2:Bool):Option Bool:=lu lpK jnK bS dH x0 x1 x2
abbrev O3:=((List (ByteArray×Int))×List (ByteArray×(List (ByteArray×Int×Int×Int))×Bool))->(ByteArray×Int×Int×Int)->(Bool)->Option (Bool)
def Rc (dw:O3):Ctr:=⟨[T25,Ow,.bool],[],[],.one .bool,fun x _ _=>dw x.1 x.2.1 x.2.2.1⟩
def IA:Ctr:=Rc dw
theorem Tw (lp:Lp) (jn:Jn) (bS:Ia) (dH:Qw):∀(x:TsS IA.as) (F:TsF IA.fs) (y:TsS IA.cs),lu lp jn bS dH x.1 x.2.1 x.2.2.1=cb lp jn (cx [(180,⟨[T49],[],[],.one .bool,fun x _ _=>dH x.1⟩),(131,Oz bS)] [(134,bJ)]) al 4 162 f162 IA x F y:=fun x F y=>by kernel_rfl
theorem R1:IA.ok prog 162:=Ctr.of_den (ap (ah (ah (b7) (by kernel_rfl) Oc) (by kernel_rfl) Rj)) aX (hl:=al) (d:=4) func162 rfl (by decide) (Tw lpK jnK bS dH)
def ly (lp:Lp) (_:Jn) (bg:KW) (dw:O3) (x0:(List (ByteArray×Int))×List (ByteArray×(List (ByteArray×Int×Int×Int))×Bool)) (x1:ByteArray×(List (ByteArray×Int×Int×Int))×Bool):Option Bool :=
 
 let v4:Bool:=!x1.2.2;
 let v5:Bool:=!v4;
 let v6:Bool:=!v5;
 let v7:Int:=IntKind.wrap .i64 ((↑x1.2.1.length:Int) - 1);
 let v8:Bool:=v6||v5;aa (bg (↑x1.2.1.length:Int) 2 10) fun (t:Bool)=>bif !t then some false else lp (Int×PUnit) Bool (fun (again : Int×PUnit->Option Bool) (x:Int×PUnit) =>
 let v12:Bool:=decide (x.1=0);
 let v13:Bool:=!v12;
 let v14:Bool:=!v13||v13;bif decide (x.1<(↑x1.2.1.length:Int)) then bif inB x.1 x1.2.1.length then bif v14 then bif v14&&v14 then bif v12||v13 then aa (dw x0 (x1.2.1.getD x.1.toNat ({ data:={ toList:=[] } },0,0,0)) (bif v12 then true else decide (x.1=v7))) fun (t : Bool)=>bif !t then some false else again (IntKind.wrap .i64 (x.1+1),PUnit.unit) else none else none else none else none else bif v8 then bif v8 then bif v8&&(v8 && (v6||inB v7 x1.2.1.length)) then bif v8 then bif v8 then bif v8 then bif v4||v5 then some (bif v4 then true else List.beq (ByteArray.toList (x1.2.1.getD v7.toNat ({ data:={ toList:=[] } },0,0,0)).1) (ByteArray.toList { data:=#[] })) else none else none else none else none else none else none else none) (0,PUnit.unit)
def eq (x0:(List (ByteArray×Int))×List (ByteArray×(List (ByteArray×Int×Int×Int))×Bool)) (x1:ByteArray×(List (ByteArray×Int×Int×Int))×Bool):Option Bool:=ly lpK jnK bg dw x0 x1
abbrev Q9:=((List (ByteArray×Int))×List (ByteArray×(List (ByteArray×Int×Int×Int))×Bool))->(ByteArray×(List (ByteArray×Int×Int×Int))×Bool)->Option (Bool)
def Ig:Ctr:=⟨[T25,T75],[],[],.one .bool,fun x _ _=>eq x.1 x.2.1⟩
theorem TW (lp:Lp) (jn:Jn) (bg:KW) (dw:O3):∀(x:TsS Ig.as) (F:TsF Ig.fs) (y:TsS Ig.cs),ly lp jn bg dw x.1 x.2.1=cb lp jn (cx [(162,Rc dw),(114,OI bg)] [(134,bJ)]) al 4 117 f117 Ig x F y:=fun x F y=>by kernel_rfl
theorem Rq:Ig.ok prog 117:=Ctr.of_den (ap (ah (ah (b7) (by kernel_rfl) NO) (by kernel_rfl) R1)) aX (hl:=al) (d:=4) func117 rfl (by decide) (TW lpK jnK bg dw)
def kG (lp:Lp) (_:Jn) (bg:KW) (cU:Rh) (eq:Q9) (x0:(List (ByteArray×Int))×List (ByteArray×(List (ByteArray×Int×Int×Int))×Bool)):Option Bool :=
 aa (bg (↑x0.1.length:Int) 1 6) fun (t:Bool) =>
 let v4:Bool:=!t;
 let v5:Bool:=!v4;
 let v6:Bool:=!v5||v5;bif v6 then bif v6 then bif v6 then aa (bif v5 then bg (↑x0.2.length:Int) 1 6 else some false) fun (t:Bool)=>bif v6 then bif v4||v5 then bif bif v4 then true else !t then some false else lp (Int×List (ByteArray×Bool)×PUnit) Bool (fun (again:Int×List (ByteArray×Bool)×PUnit->Option Bool) (x:Int×List (ByteArray×Bool)×PUnit) =>
 let v10:ByteArray×Int:=x0.1.getD x.1.toNat ({ data:={ toList:=[] } },0);bif decide (x.1<(↑x0.1.length:Int)) then bif inB x.1 x0.1.length then aa (cU v10.1) fun (t:Bool) =>
 let v12:Bool:=!t||t;bif v12&&v12 then bif v12 then bif v12 then bif (!!!bif t then !ic str Sh.bool v10.1 false x.2.1 else false)||!!bif t then !ic str Sh.bool v10.1 false x.2.1 else false then bif (!!!bif t then !ic str Sh.bool v10.1 false x.2.1 else false)||!!bif t then !ic str Sh.bool v10.1 false x.2.1 else false then aa (bif !!bif t then !ic str Sh.bool v10.1 false x.2.1 else false then bg v10.2 0 16777216 else some false) fun (t_1:Bool)=>bif (!!!bif t then !ic str Sh.bool v10.1 false x.2.1 else false)||!!bif t then !ic str Sh.bool v10.1 false x.2.1 else false then bif (!bif t then !ic str Sh.bool v10.1 false x.2.1 else false)||!!bif t then !ic str Sh.bool v10.1 false x.2.1 else false then bif bif !bif t then !ic str Sh.bool v10.1 false x.2.1 else false then true else !t_1 then some false else again (IntKind.wrap .i64 (x.1+1),oq str Sh.bool v10.1 true x.2.1,PUnit.unit) else none else none else none else none else none else none else none else none else lp (Int×Int×List (ByteArray×Bool)×PUnit) Bool (fun (again:Int×Int×List (ByteArray×Bool)×PUnit->Option Bool) (x:Int×Int×List (ByteArray×Bool)×PUnit) =>
 let v13:ByteArray×List (ByteArray×Int×Int×Int)×Bool:=x0.2.getD x.2.1.toNat ({ data:={ toList:=[] } },[],false);bif decide (x.2.1<(↑x0.2.length:Int)) then bif inB x.2.1 x0.2.length then aa (cU v13.1) fun (t:Bool) =>
 let v15:Bool:=!t||t;bif v15&&v15 then bif v15 then bif v15 then bif ((!!!bif t then !ic str Sh.bool v13.1 false x.2.2.1 else false)||!!bif t then !ic str Sh.bool v13.1 false x.2.2.1 else false)&&((!!!bif t then !ic str Sh.bool v13.1 false x.2.2.1 else false)||!!bif t then !ic str Sh.bool v13.1 false x.2.2.1 else false) then aa (bif !!bif t then !ic str Sh.bool v13.1 false x.2.2.1 else false then eq x0 v13 else some false) fun (t_1:Bool)=>bif (!!!bif t then !ic str Sh.bool v13.1 false x.2.2.1 else false)||!!bif t then !ic str Sh.bool v13.1 false x.2.2.1 else false then bif (!bif t then !ic str Sh.bool v13.1 false x.2.2.1 else false)||!!bif t then !ic str Sh.bool v13.1 false x.2.2.1 else false then bif bif !bif t then !ic str Sh.bool v13.1 false x.2.2.1 else false then true else !t_1 then some false else bif v13.2.2 then again (IntKind.wrap .i64 (x.1+1),IntKind.wrap .i64 (x.2.1+1),oq str Sh.bool v13.1 true x.2.2.1,PUnit.unit) else again (x.1,IntKind.wrap .i64 (x.2.1+1),oq str Sh.bool v13.1 true x.2.2.1,PUnit.unit) else none else none else none else none else none else none else none else some (decide (x.1<=1))) (0,0,x.2.1,PUnit.unit)) (0,[],PUnit.unit) else none else none else none else none else none
def aF (x0:(List (ByteArray×Int))×List (ByteArray×(List (ByteArray×Int×Int×Int))×Bool)):Option Bool:=kG lpK jnK bg cU eq x0
abbrev t59:=((List (ByteArray×Int))×List (ByteArray×(List (ByteArray×Int×Int×Int))×Bool))->Option (Bool)
def k59 (aF:t59):Ctr:=⟨[T25],[],[],.one .bool,fun x _ _=>aF x.1⟩
def c59:Ctr:=k59 aF
theorem e59 (lp:Lp) (jn:Jn) (bg:KW) (cU:Rh) (eq:Q9):∀(x:TsS c59.as) (F:TsF c59.fs) (y:TsS c59.cs),kG lp jn bg cU eq x.1=cb lp jn (cx [(117,⟨[T25,T75],[],[],.one .bool,fun x _ _=>eq x.1 x.2.1⟩),(116,⟨[.str],[],[],.one .bool,fun x _ _=>cU x.1⟩),(114,OI bg)] [(134,bJ)]) al 4 59 f59 c59 x F y:=fun x F y=>by kernel_rfl
theorem NB:c59.ok prog 59:=Ctr.of_den (ap (ah (ah (ah (b7) (by kernel_rfl) NO) (by kernel_rfl) P1) (by kernel_rfl) Rq)) aX (hl:=al) (d:=4) func59 rfl (by decide) (e59 lpK jnK bg cU eq)
def m0 (lp:Lp) (_:Jn) (bS:Ia) (aF:t59) (x0:(List (ByteArray×Int))×List (ByteArray×(List (ByteArray×Int×Int×Int))×Bool)):Option ((List (List Int))×Int×Unit) :=
 aa (aF x0) fun (t:Bool)=>bif !t then some ([],1,PUnit.unit) else bif decide (0<=(↑x0.1.length:Int))&&c7 (Int.toNat (↑x0.1.length : Int)) 24 then lp (Int×(List Nat×List (Option (List Int)))×PUnit) (List (List Int)×Int×PUnit) (fun (again:Int×(List Nat×List (Option (List Int)))×PUnit -> Option (List (List Int)×Int×PUnit)) (x:Int×(List Nat×List (Option (List Int)))×PUnit)=>bif decide (x.1<(↑(List.length (Nat.brecOn (motive:=fun (x:Nat)=>Nat->List Nat) (Int.toNat (↑x0.1.length:Int)) (fun (x:Nat) (f:Nat.below (motive:=fun (x:Nat)=>Nat->List (T ref)) x) (x_1:Nat)=>(match (motive:=(x:Nat)->Nat->Nat.below (motive:=fun (x:Nat)=>Nat->List (T ref)) x->List Nat) x,x_1 with | 0,x=>fun (_:PUnit)=>[] | Nat.succ n,k=>fun (x:(Nat->List Nat) ×' Nat.rec PUnit (fun (n:Nat) (n_ih:Type)=>(fun (x:Nat)=>Nat->List (T ref)) n ×' n_ih) n)=>(k+0) ::x.1 (k+1)) f) 0)):Int)) then bif decide (0 <= (↑x0.2.length:Int))&&c7 (Int.toNat (↑x0.2.length:Int)) 8 then bif inB x.1 x.2.1.1.length then bif Nat.ble (Nat.succ x.1.toNat) x.2.1.1.length then again (IntKind.wrap .i64 (x.1+1),(x.2.1.1.set x.1.toNat x.2.1.2.length,x.2.1.2++[some (List.replicate (Int.toNat (↑x0.2.length:Int)) 0)]),PUnit.unit) else none else none else none else lp (Int×(List Nat×List (Option (List Int)))×PUnit) (List (List Int)×Int×PUnit) (fun (again:Int×(List Nat×List (Option (List Int)))×PUnit->Option (List (List Int)×Int×PUnit)) (x:Int×(List Nat×List (Option (List Int))) × PUnit)=>bif decide (x.1<(↑x0.2.length:Int)) then bif inB x.1 x0.2.length then lp (Int×(List Nat×List (Option (List Int)))×PUnit) (List (List Int)×Int × PUnit) (fun (again_1:Int×(List Nat×List (Option (List Int)))×PUnit->Option (List (List Int)×Int×PUnit)) (x_1:Int×(List Nat×List (Option (List Int)))×PUnit) =>
 let v10:Int:=IntKind.wrap .i64 (x_1.1+1);
 let v11:(List Nat×List (Option (List Int)))×PUnit:=(x_1.2.1,PUnit.unit);
 let v12:ByteArray×Int×Int×Int:=List.getD (x0.2.getD x.1.toNat ({ data:={ toList:=[] } },[],false)).2.1 x_1.1.toNat ({ data:={ toList:=[] } },0,0,0);bif decide (x_1.1<(↑(List.length (x0.2.getD x.1.toNat ({ data:={ toList:=[] } },[],false)).2.1):Int)) then bif inB x_1.1 (List.length (x0.2.getD x.1.toNat ({ data:={ toList:=[] } },[],false)).2.1) then aa (bS x0 v12.1) fun (t:Int)=>bif decide (t>=(0 : Int)) then bif inB t x_1.2.1.1.length then bif Nat.ble (Nat.succ t.toNat) x_1.2.1.1.length then bif inB x.1 (List.length (af x_1.2.1.2 (x_1.2.1.1.getD t.toNat 0))) then bif Nat.ble (Nat.succ x.1.toNat) (List.length (af x_1.2.1.2 (x_1.2.1.1.getD t.toNat (0 : Nat)))) then bif inB x.1 (List.length (af x_1.2.1.2 (x_1.2.1.1.getD t.toNat 0))) then bif Nat.ble (Nat.succ x.1.toNat) (List.length (af x_1.2.1.2 (x_1.2.1.1.getD t.toNat 0))) then again_1 (v10,(x_1.2.1.1,x_1.2.1.2.set (x_1.2.1.1.getD t.toNat 0) (some (List.set (af x_1.2.1.2 (x_1.2.1.1.getD t.toNat 0)) x.1.toNat (IntKind.wrap .i64 (List.getD (af x_1.2.1.2 (x_1.2.1.1.getD t.toNat 0)) x.1.toNat 0+v12.2.1))))),PUnit.unit) else none else none else none else none else none else none else again_1 (v10,v11) else none else again (IntKind.wrap .i64 (x.1+1),v11)) (0,x.2.1,PUnit.unit) else none else bif List.all x.2.1.1 fun (x_1:Nat)=>dL x.2.1.2 x_1 then some (List.map (fun (x_1:Nat)=>af x.2.1.2 x_1) x.2.1.1,0,PUnit.unit) else none) (0,x.2.1,PUnit.unit)) (0, (Nat.brecOn (motive:=fun (x:Nat)=>Nat->List Nat) (Int.toNat (↑x0.1.length:Int)) (fun (x:Nat) (f:Nat.below (motive:=fun (x:Nat)=>Nat->List (T ref)) x) (x_1:Nat)=>(match (motive:=(x:Nat)->Nat->Nat.below (motive:=fun (x:Nat)=>Nat->List (T ref)) x->List Nat) x,x_1 with | 0,x=>fun (_:PUnit)=>[] | Nat.succ n,k=>fun (x:(Nat->List Nat) ×' Nat.rec PUnit (fun (n:Nat) (n_ih:Type)=>(fun (x:Nat)=>Nat->List (T ref)) n ×' n_ih) n)=>(k+0) ::x.1 (k+1)) f) 0,List.replicate (Int.toNat (↑x0.1.length:Int)) (some [])),PUnit.unit) else none
def a6 (x0:(List (ByteArray×Int))×List (ByteArray×(List (ByteArray×Int×Int×Int))×Bool)):Option ((List (List Int))×Int×Unit):=m0 lpK jnK bS aF x0
abbrev t87:=((List (ByteArray×Int))×List (ByteArray×(List (ByteArray×Int×Int×Int))×Bool))->Option ((List (List Int))×Int×Unit)
def k87 (a6:t87):Ctr:=⟨[T25],[],[],.tup [(.sl (.sl i64)),i64],fun x _ _=>a6 x.1⟩
def c87:Ctr:=k87 a6
theorem e87 (lp:Lp) (jn:Jn) (bS:Ia) (aF:t59):∀(x:TsS c87.as) (F:TsF c87.fs) (y:TsS c87.cs),m0 lp jn bS aF x.1=cb lp jn (cx [(59,k59 aF),(131,Oz bS)] [(134,bJ)]) al 4 87 f87 c87 x F y:=fun x F y=>by kernel_rfl
theorem Qo:c87.ok prog 87:=Ctr.of_den (ap (ah (ah (b7) (by kernel_rfl) Oc) (by kernel_rfl) NB)) aX (hl:=al) (d:=4) func87 rfl (by decide) (e87 lpK jnK bS aF)
def jv (lp:Lp) (_:Jn) (aF:t59) (x0:(List (ByteArray×Int))×List (ByteArray×(List (ByteArray×Int×Int×Int))×Bool)):Option ((List Int)×Int×Unit) :=
 aa (aF x0) fun (t:Bool)=>bif !t then some ([],1,PUnit.unit) else lp (List Int×Int×PUnit) (List Int×Int×PUnit) (fun (again:List Int×Int×PUnit -> Option (List Int×Int×PUnit)) (x:List Int×Int×PUnit)=>bif decide (x.2.1<(↑x0.1.length:Int)) then bif inB x.2.1 x0.1.length then bif c7 (List.length x.1+1) 8 then again (x.1++[(x0.1.getD x.2.1.toNat ({ data:={ toList:=[] } },0)).2],IntKind.wrap .i64 (x.2.1+1),PUnit.unit) else none else none else some (x.1,0,PUnit.unit)) ([],0,PUnit.unit)
def bh (x0:(List (ByteArray×Int))×List (ByteArray×(List (ByteArray×Int×Int×Int))×Bool)):Option ((List Int)×Int×Unit):=jv lpK jnK aF x0
abbrev t88:=((List (ByteArray×Int))×List (ByteArray×(List (ByteArray×Int×Int×Int))×Bool))->Option ((List Int)×Int×Unit)
def k88 (bh:t88):Ctr:=⟨[T25],[],[],.tup [(.sl i64),i64],fun x _ _=>bh x.1⟩
def c88:Ctr:=k88 bh
theorem e88 (lp:Lp) (jn:Jn) (aF:t59):∀(x:TsS c88.as) (F:TsF c88.fs) (y:TsS c88.cs),jv lp jn aF x.1=cb lp jn (cx [(59,k59 aF)] [(134,bJ)]) al 4 88 f88 c88 x F y:=fun x F y=>by kernel_rfl
theorem Q8:c88.ok prog 88:=Ctr.of_den (ap (ah (b7) (by kernel_rfl) NB)) aX (hl:=al) (d:=4) func88 rfl (by decide) (e88 lpK jnK aF)
def np (lp:Lp) (_:Jn) (a6:t87) (bh:t88) (x0:(List (ByteArray×Int))×List (ByteArray×(List (ByteArray×Int×Int×Int))×Bool)) (x1:List Int):Option (((List Int)×List ((List Int)×Int×Int))×Int×Unit) :=
 aa (a6 x0) fun (t:List (List Int)×Int×PUnit)=>bif !decide (t.2.1=0) then some (([],[]),t.2.1,PUnit.unit) else aa (bh x0) fun (t_1 : List Int×Int×PUnit)=>bif !decide (t_1.2.1=0) then some (([],[]),t_1.2.1,PUnit.unit) else lp (Int×List Int×List (List Int×Int×Int)×PUnit) ((List Int×List (List Int×Int×Int))×Int×PUnit) (fun (again:Int×List Int×List (List Int×Int×Int)×PUnit->Option ((List Int×List (List Int×Int×Int))×Int×PUnit)) (x:Int×List Int×List (List Int×Int×Int)×PUnit)=>bif decide (x.1<(↑t.1.length:Int)) then bif inB x.1 t.1.length then bif inB x.1 t_1.1.length then bif c7 (List.length x.2.2.1+1) 40 then again (IntKind.wrap .i64 (x.1+1),x.2.1,x.2.2.1++[(t.1.getD x.1.toNat [],3,t_1.1.getD x.1.toNat 0)],PUnit.unit) else none else none else none else some ((x.2.1,x.2.2.1),0, PUnit.unit)) (0,x1,[],PUnit.unit)
def cH (x0:(List (ByteArray×Int))×List (ByteArray×(List (ByteArray×Int×Int×Int))×Bool)) (x1:List Int):Option (((List Int)×List ((List Int)×Int×Int))×Int×Unit):=np lpK jnK a6 bh x0 x1
abbrev t45:=((List (ByteArray×Int))×List (ByteArray×(List (ByteArray×Int×Int×Int))×Bool))->(List Int)->Option (((List Int)×List ((List Int)×Int×Int))×Int×Unit)
def k45 (cH:t45):Ctr:=⟨[T25,(.sl i64)],[],[],.tup [T32,i64],fun x _ _=>cH x.1 x.2.1⟩
def c45:Ctr:=k45 cH
theorem e45 (lp:Lp) (jn:Jn) (a6:t87) (bh:t88):∀(x:TsS c45.as) (F:TsF c45.fs) (y:TsS c45.cs),np lp jn a6 bh x.1 x.2.1=cb lp jn (cx [(88,k88 bh),(87,k87 a6)] [(134,bJ)]) al 4 45 f45 c45 x F y:=fun x F y=>by kernel_rfl
theorem RF:c45.ok prog 45:=Ctr.of_den (ap (ah (ah (b7) (by kernel_rfl) Qo) (by kernel_rfl) Q8)) aX (hl:=al) (d:=4) func45 rfl (by decide) (e45 lpK jnK a6 bh)
def nA (_:Lp) (_:Jn) (x0:Int) (x1:Int):Option (Int×Int×Unit) :=
 
 let v4:Int:=2 ^ 32;
 let v5:Int:=Int.fdiv x0 v4;
 let v6:Int:=Int.fdiv x1 v4;
 let v7:Bool:=decide ((0:Int)<=32);
 let v8:Int:=IntKind.wrap .u64 (↑(Nat.land (Int.toNat (x1 % Int.ofNat 18446744073709551616)) (Int.toNat (4294967295 % Int.ofNat 18446744073709551616))) : Int);
 let v9:Int:=IntKind.wrap .u64 (↑(Nat.land (Int.toNat (x0 % Int.ofNat 18446744073709551616)) (Int.toNat (4294967295 % Int.ofNat 18446744073709551616))) : Int);
 let v10:Int:=IntKind.wrap .u64 (IntKind.wrap .u64 (v5*v8)+Int.fdiv (IntKind.wrap .u64 (v9*v8)) v4);bif v7 then bif v7 then bif v7 then bif v7 then bif v7 then some (IntKind.wrap .u64 (IntKind.wrap .u64 (IntKind.wrap .u64 (v5*v6)+Int.fdiv v10 v4)+Int.fdiv (IntKind.wrap .u64 (IntKind.wrap .u64 (↑(Nat.land (Int.toNat (v10 % Int.ofNat 18446744073709551616)) (Int.toNat (4294967295 % Int.ofNat 18446744073709551616))):Int)+IntKind.wrap .u64 (v9 * v6))) v4),IntKind.wrap .u64 (x0*x1),PUnit.unit) else none else none else none else none else none
def a5 (x0:Int) (x1:Int):Option (Int×Int×Unit):=nA lpK jnK x0 x1
abbrev zY:=(Int)->(Int)->Option (Int×Int×Unit)
def Ht (a5:zY):Ctr:=⟨[(.int .u64),(.int .u64)],[],[],.tup [(.int .u64),(.int .u64)],fun x _ _=>a5 x.1 x.2.1⟩
def KM:Ctr:=Ht a5
theorem TX (lp:Lp) (jn:Jn):∀(x:TsS KM.as) (F:TsF KM.fs) (y:TsS KM.cs),nA lp jn x.1 x.2.1=cb lp jn (cx [] [(134,bJ)]) al 4 122 f122 KM x F y:=fun x F y=>by kernel_rfl
theorem EW:KM.ok prog 122:=Ctr.of_den (ap (b7)) aX (hl:=al) (d:=4) func122 rfl (by decide) (TX lpK jnK)
def rE (_:Lp) (_:Jn) (x0:Int) (x1:Int):Option (Int×Int×Unit) :=
 
 let v4:Int:=IntKind.wrap .u64 (IntKind.wrap .u64 x0*IntKind.wrap .u64 x1);bif decide ((0:Int)<=32) then some (IntKind.wrap IntKind.u32 (Int.fdiv v4 (2 ^ 32)),IntKind.wrap IntKind.u32 v4,PUnit.unit) else none
def gT (x0:Int) (x1:Int):Option (Int×Int×Unit):=rE lpK jnK x0 x1
def Ry (gT:(Int)->(Int)->Option (Int×Int×Unit)):Ctr:=⟨[(.int .u32),(.int .u32)],[],[],.tup [(.int .u32),(.int .u32)],fun x _ _=>gT x.1 x.2.1⟩
def K8:Ctr:=Ry gT
theorem Se (lp:Lp) (jn:Jn):∀(x:TsS K8.as) (F:TsF K8.fs) (y:TsS K8.cs),rE lp jn x.1 x.2.1=cb lp jn (cx [] [(134,bJ)]) al 4 137 f137 K8 x F y:=fun x F y=>by kernel_rfl
theorem Re:K8.ok prog 137:=Ctr.of_den (ap (b7)) aX (hl:=al) (d:=4) func137 rfl (by decide) (Se lpK jnK)
def qK (_:Lp) (_:Jn) (a5:zY) (_:(Int)->(Int)->Option (Int×Int×Unit)) (x0:Int) (x1:Int):Option (Int×Int×Unit) :=
 aa (a5 x0 x1) fun (t:Int×Int×PUnit)=>some (t.1,t.2.1,PUnit.unit)
def gy (x0:Int) (x1:Int):Option (Int×Int×Unit):=qK lpK jnK a5 gT x0 x1
abbrev t90:=(Int)->(Int)->Option (Int×Int×Unit)
def k90 (gy:t90):Ctr:=⟨[(.int .u64),(.int .u64)],[],[],.tup [(.int .u64),(.int .u64)],fun x _ _=>gy x.1 x.2.1⟩
def c90:Ctr:=k90 gy
theorem e90 (lp:Lp) (jn:Jn) (a5:zY) (gT:(Int)->(Int)->Option (Int×Int×Unit)):∀(x:TsS c90.as) (F:TsF c90.fs) (y:TsS c90.cs),qK lp jn a5 gT x.1 x.2.1=cb lp jn (cx [(137,Ry gT),(122,Ht a5)] [(134,bJ)]) al 4 90 f90 c90 x F y:=fun x F y=>by kernel_rfl
theorem Sq:c90.ok prog 90:=Ctr.of_den (ap (ah (ah (b7) (by kernel_rfl) EW) (by kernel_rfl) Re)) aX (hl:=al) (d:=4) func90 rfl (by decide) (e90 lpK jnK a5 gT)
def iH (lp:Lp) (jn:Jn) (gy:t90) (x0:List Int) (x1:Int):Option (List Int) :=
 jn PUnit (List Int) (fun (_:PUnit)=>aa (gy (IntKind.wrap .u64 (↑x0.length:Int)) (IntKind.wrap .u64 x1)) fun (t:Int×Int×PUnit) =>
 let v6:List Int:=List.take (Int.toNat (IntKind.wrap .i64 t.2.1)) x0;
 let v7:List Int:=List.replicate (Int.toNat (IntKind.wrap .i64 t.2.1)) 0;
 let v8:Bool:=decide (t.1>0);
 let v9:Bool:=!v8;bif !v9||v9 then bif v8||v9 then jn PUnit (List Int) (fun (_:PUnit)=>bif decide (0<=IntKind.wrap .i64 t.2.1)&&c7 (Int.toNat (IntKind.wrap .i64 t.2.1)) 8 then lp (Int×List Int×PUnit) (List Int) (fun (again:Int×List Int×PUnit->Option (List Int)) (x:Int×List Int×PUnit) =>
 let v13:List Int:=List.take x.1.toNat x.2.1;
 let v14:List Int:=List.take (Int.toNat (↑x.2.1.length:Int) - Int.toNat x.1) (List.drop 0 v13);bif decide (x.1<(↑x.2.1.length:Int)) then bif slB x.1 (↑x.2.1.length:Int) x.2.1.length then bif slB 0 x.1 x.2.1.length then bif Nat.ble x.1.toNat (Int.toNat (↑x.2.1.length:Int))&&(Nat.ble (Int.toNat (↑x.2.1.length:Int)) x.2.1.length&&Nat.ble x.1.toNat x.2.1.length) then again (IntKind.wrap IntKind.i64 (x.1+(↑v14.length:Int)),v13++v14++List.drop (Int.toNat x.1+List.length v14) x.2.1,PUnit.unit) else none else none else none else some x.2.1) ((↑v6.length:Int),List.take 0 v7++v6++List.drop (0+List.length v6) v7,PUnit.unit) else none) fun (j:PUnit->Option (List Int))=>bif bif v8 then true else decide (t.2.1>9223372036854775807) then none else j PUnit.unit else none else none) fun (j:PUnit->Option (List Int))=>bif decide (x1<0) then none else j PUnit.unit
def cn (x0:List Int) (x1:Int):Option (List Int):=iH lpK jnK gy x0 x1
abbrev t46:=(List Int)->(Int)->Option (List Int)
def k46 (cn:t46):Ctr:=⟨[(.sl i64),i64],[],[],.one (.sl i64),fun x _ _=>cn x.1 x.2.1⟩
def c46:Ctr:=k46 cn
theorem e46 (lp:Lp) (jn:Jn) (gy:t90):∀(x:TsS c46.as) (F:TsF c46.fs) (y:TsS c46.cs),iH lp jn gy x.1 x.2.1=cb lp jn (cx [(90,k90 gy)] [(134,bJ)]) al 4 46 f46 c46 x F y:=fun x F y=>by kernel_rfl
theorem TR:c46.ok prog 46:=Ctr.of_den (ap (ah (b7) (by kernel_rfl) Sq)) aX (hl:=al) (d:=4) func46 rfl (by decide) (e46 lpK jnK gy)
def kH (_:Lp) (_:Jn) (cH:t45) (cn:t46) (x0:(List (ByteArray×Int))×List (ByteArray×(List (ByteArray×Int×Int×Int))×Bool)):Option (((List Int)×List ((List Int)×Int×Int))×Int×Unit) :=
 aa (cn [1] (↑x0.2.length:Int)) fun (t:List Int)=>aa (cH x0 t) fun (t:(List Int×List (List Int×Int×Int))×Int×PUnit)=>some (t.1,t.2.1,PUnit.unit)
def aV (x0:(List (ByteArray×Int))×List (ByteArray×(List (ByteArray×Int×Int×Int))×Bool)):Option (((List Int)×List ((List Int)×Int×Int))×Int×Unit):=kH lpK jnK cH cn x0
abbrev t11:=((List (ByteArray×Int))×List (ByteArray×(List (ByteArray×Int×Int×Int))×Bool))->Option (((List Int)×List ((List Int)×Int×Int))×Int×Unit)
def k11 (aV:t11):Ctr:=⟨[T25],[],[],.tup [T32,i64],fun x _ _=>aV x.1⟩
def c11:Ctr:=k11 aV
theorem e11 (lp:Lp) (jn:Jn) (cH:t45) (cn:t46):∀(x:TsS c11.as) (F:TsF c11.fs) (y:TsS c11.cs),kH lp jn cH cn x.1=cb lp jn (cx [(46,k46 cn),(45,k45 cH)] [(134,bJ)]) al 4 11 f11 c11 x F y:=fun x F y=>by kernel_rfl
theorem QY:c11.ok prog 11:=Ctr.of_den (ap (ah (ah (b7) (by kernel_rfl) RF) (by kernel_rfl) TR)) aX (hl:=al) (d:=4) func11 rfl (by decide) (e11 lpK jnK cH cn)
def iq (_:Lp) (_:Jn) (x0:Int) (y0:Int):Option Bool :=
 
 let v4:Bool:=decide (x0<IntKind.wrap .i64 (0 - y0));
 let v5:Bool:=!v4;
 let v6:Bool:=!v5||v5;bif v6&&v6 then bif v4||v5 then some (bif v4 then true else decide (x0>y0)) else none else none
def bR (x0:Int) (y0:Int):Option Bool:=iq lpK jnK x0 y0
abbrev RN:=(Int)->(Int)->Option (Bool)
def Lf:Ctr:=⟨[i64],[],[i64],.one .bool,fun x _ y=>bR x.1 y.1⟩
theorem Sn (lp:Lp) (jn:Jn):∀(x:TsS Lf.as) (F:TsF Lf.fs) (y:TsS Lf.cs),iq lp jn x.1 y.1=cb lp jn (cx [] [(134,bJ)]) al 4 139 f139 Lf x F y:=fun x F y=>by kernel_rfl
theorem Qi:Lf.ok prog 139:=Ctr.of_den (ap (b7)) aX (hl:=al) (d:=4) func139 rfl (by decide) (Sn lpK jnK)
def ji (_:Lp) (_:Jn) (bR:RN) (x0:Int):Option ((Int×Unit)->Option Bool) :=
 some fun (x:Int×PUnit)=>bR x.1 x0
def cM (x0:Int):Option ((Int×Unit)->Option Bool):=ji lpK jnK bR x0
abbrev QG:=(Int)->Option ((Int×Unit)->Option Bool)
def Pm:FCtr:=⟨[i64],[i64],.bool,fun x=>cM x.1⟩
theorem TC (lp:Lp) (jn:Jn) (bR:RN):∀x:TsS Pm.as,ji lp jn bR x.1=PS lp jn (cx [(139,⟨[i64],[],[i64],.one .bool,fun x _ y=>bR x.1 y.1⟩)] [(134,bJ)]) al 4 138 f138 Pm x:=fun x=>by kernel_rfl
theorem OQ:Pm.ok prog 138:=FCtr.of_den (ap (ah (b7) (by kernel_rfl) Qi)) aX (hl:=al) (d:=4) func138 rfl (by decide) (TC lpK jnK bR)
def gt (lp:Lp) (_:Jn) (x0:List Int) (f0:((Int×Unit)->Option Bool)):Option Int :=
 lp (Int×PUnit) Int (fun (again:Int×PUnit->Option Int) (x:Int×PUnit)=>bif decide (x.1<(↑x0.length:Int)) then bif inB x.1 x0.length then aa (f0 (x0.getD x.1.toNat 0,PUnit.unit)) fun (t:Bool)=>bif t then some x.1 else again (IntKind.wrap .i64 (x.1+1),PUnit.unit) else none else some (-1)) (0,PUnit.unit)
def bz (x0:List Int) (f0:((Int×Unit)->Option Bool)):Option Int:=gt lpK jnK x0 f0
abbrev O8:=(List Int)->(((Int×Unit)->Option Bool))->Option (Int)
def QB (bz:O8):Ctr:=⟨[(.sl i64)],[([i64],.bool)],[],.one i64,fun x F _=>bz x.1 F.1⟩
def Ic:Ctr:=QB bz
theorem Sc (lp:Lp) (jn:Jn):∀(x:TsS Ic.as) (F:TsF Ic.fs) (y:TsS Ic.cs),gt lp jn x.1 F.1=cb lp jn (cx [] [(134,bJ)]) al 4 173 f173 Ic x F y:=fun x F y=>by kernel_rfl
theorem RI:Ic.ok prog 173:=Ctr.of_den (ap (b7)) aX (hl:=al) (d:=4) func173 rfl (by decide) (Sc lpK jnK)
def fq (_:Lp) (_:Jn) (bz:O8) (x0:List Int) (f0:((Int×Unit)->Option Bool)):Option Bool :=
 aa (bz x0 f0) fun (t:Int)=>some (decide (t>=0))
def av (x0:List Int) (f0:((Int×Unit)->Option Bool)):Option Bool:=fq lpK jnK bz x0 f0
abbrev HR:=(List Int)->(((Int×Unit)->Option Bool))->Option (Bool)
def OH (av:HR):Ctr:=⟨[(.sl i64)],[([i64],.bool)],[],.one .bool,fun x F _=>av x.1 F.1⟩
def JR:Ctr:=OH av
theorem TE (lp:Lp) (jn:Jn) (bz:O8):∀(x:TsS JR.as) (F:TsF JR.fs) (y:TsS JR.cs),fq lp jn bz x.1 F.1=cb lp jn (cx [(173,QB bz)] [(134,bJ)]) al 4 140 f140 JR x F y:=fun x F y=>by kernel_rfl
theorem Oh:JR.ok prog 140:=Ctr.of_den (ap (ah (b7) (by kernel_rfl) RI)) aX (hl:=al) (d:=4) func140 rfl (by decide) (TE lpK jnK bz)
def jp (lp:Lp) (_:Jn) (x0:List ((List Int)×Int×Int)) (f0:((((List Int)×Int×Int)×Unit)->Option Bool)):Option Int :=
 lp (Int×PUnit) Int (fun (again:Int×PUnit->Option Int) (x:Int×PUnit)=>bif decide (x.1<(↑x0.length:Int)) then bif inB x.1 x0.length then aa (f0 (x0.getD x.1.toNat ([],0,0),PUnit.unit)) fun (t:Bool)=>bif t then some x.1 else again (IntKind.wrap .i64 (x.1+1),PUnit.unit) else none else some (-1)) (0,PUnit.unit)
def b8 (x0:List ((List Int)×Int×Int)) (f0:((((List Int)×Int×Int)×Unit)->Option Bool)):Option Int:=jp lpK jnK x0 f0
abbrev PE:=(List ((List Int)×Int×Int))->(((((List Int)×Int×Int)×Unit)->Option Bool))->Option (Int)
def RS (b8:PE):Ctr:=⟨[(.sl T86)],[([T86],.bool)],[],.one i64,fun x F _=>b8 x.1 F.1⟩
def Hk:Ctr:=RS b8
theorem S7 (lp:Lp) (jn:Jn):∀(x:TsS Hk.as) (F:TsF Hk.fs) (y:TsS Hk.cs),jp lp jn x.1 F.1=cb lp jn (cx [] [(134,bJ)]) al 4 174 f174 Hk x F y:=fun x F y=>by kernel_rfl
theorem Qb:Hk.ok prog 174:=Ctr.of_den (ap (b7)) aX (hl:=al) (d:=4) func174 rfl (by decide) (S7 lpK jnK)
def ip (_:Lp) (_:Jn) (b8:PE) (x0:List ((List Int)×Int×Int)) (f0:((((List Int)×Int×Int)×Unit)->Option Bool)):Option Bool :=
 aa (b8 x0 f0) fun (t:Int)=>some (decide (t>=0))
def ce (x0:List ((List Int)×Int×Int)) (f0:((((List Int)×Int×Int)×Unit)->Option Bool)):Option Bool:=ip lpK jnK b8 x0 f0
def QH (ce:(List ((List Int)×Int×Int))->(((((List Int)×Int×Int)×Unit)->Option Bool))->Option (Bool)):Ctr:=⟨[(.sl T86)],[([T86],.bool)],[],.one .bool,fun x F _=>ce x.1 F.1⟩
def Hc:Ctr:=QH ce
theorem Ts (lp:Lp) (jn:Jn) (b8:PE):∀(x:TsS Hc.as) (F:TsF Hc.fs) (y:TsS Hc.cs),ip lp jn b8 x.1 F.1=cb lp jn (cx [(174,RS b8)] [(134,bJ)]) al 4 141 f141 Hc x F y:=fun x F y=>by kernel_rfl
theorem Rs:Hc.ok prog 141:=Ctr.of_den (ap (ah (b7) (by kernel_rfl) Qb)) aX (hl:=al) (d:=4) func141 rfl (by decide) (Ts lpK jnK b8)
def kF (lp:Lp) (_:Jn) (av:HR) (_:(List ((List Int)×Int×Int))->(((((List Int)×Int×Int)×Unit)->Option Bool))->Option (Bool)) (cM:QG) (x0:(List Int)×List ((List Int)×Int×Int)):Option Bool :=
 
 let v3:Bool:=decide ((↑x0.1.length:Int)<1);
 let v4:Bool:=!v3;
 let v5:Bool:=bif v3 then true else decide ((↑x0.1.length:Int)>12);
 let v6:Bool:=!v4||v4;
 let v7:Bool:=!v5;
 let v8:Bool:=bif v5 then true else decide ((↑x0.2.length:Int)>6);
 let v9:Bool:=!v8;
 let v10:Bool:=!v7||v7;
 let v11:Bool:=!v9||v9;bif v6 then bif v6 then bif v6 then bif v3||v4 then bif v10 then bif v10 then bif v10 then bif v5||v7 then bif v11 then bif v11 then aa (bif v9 then cM 1048576 else some fun (_:Int×PUnit)=>none) fun (t:Int×PUnit->Option Bool)=>bif v11&&v11 then aa (bif v9 then av x0.1 t else some false) fun (t:Bool)=>bif v8||v9 then bif bif v8 then true else t then some false else lp (Int×PUnit) Bool (fun (again:Int×PUnit->Option Bool) (x:Int×PUnit) =>
 let v16:List Int×Int×Int:=x0.2.getD x.1.toNat ([],0,0);
 let v17:Bool:=decide (v16.2.1<1);
 let v18:Bool:=decide (v16.2.1>3);
 let v19:Bool:=!decide ((↑v16.1.length:Int)=(↑x0.1.length:Int));
 let v20:Bool:=!v19;
 let v21:Bool:=!v20||v20;bif decide (x.1<(↑x0.2.length:Int)) then bif inB x.1 x0.2.length then bif v21 then bif v21 then aa (bif v20 then cM 1048576 else some fun (_:Int×PUnit)=>none) fun (t:Int×PUnit->Option Bool)=>bif v21&&v21 then aa (bif v20 then av v16.1 t else some false) fun (t:Bool) =>
 let v24:Bool:=bif v19 then true else t;
 let v25:Bool:=!v24;
 let v26:Bool:=bif v24 then true else v17;
 let v27:Bool:=!v26;
 let v28:Bool:=bif v26 then true else v18;
 let v29:Bool:=!v25||v25;
 let v30:Bool:=!v28;
 let v31:Bool:=!v27||v27;
 let v32:Bool:=!v30||v30;bif v19||v20 then bif v29 then bif v29 then bif v24||v25 then bif v31 then bif v31 then bif v26||v27 then bif v32 then aa (bif v30 then cM 1073741824 else some fun (_:Int×PUnit)=>none) fun (t:Int×PUnit->Option Bool)=>bif v32 then bif v32&&v32 then aa (bif v30 then t (v16.2.2, PUnit.unit) else some false) fun (t:Bool)=>bif v28||v30 then bif bif v28 then true else t then some !decide (x.1>=0) else again (IntKind.wrap .i64 (x.1+(1 : Int)),PUnit.unit) else none else none else none else none else none else none else none else none else none else none else none else none else none else none else none else some !decide ((-1:Int)>=0)) (0,PUnit.unit) else none else none else none else none else none else none else none else none else none else none else none else none
def bj (x0:(List Int)×List ((List Int)×Int×Int)):Option Bool:=kF lpK jnK av ce cM x0
abbrev t91:=((List Int)×List ((List Int)×Int×Int))->Option (Bool)
def k91 (bj:t91):Ctr:=⟨[T32],[],[],.one .bool,fun x _ _=>bj x.1⟩
def c91:Ctr:=k91 bj
theorem e91 (lp:Lp) (jn:Jn) (av:HR) (ce:(List ((List Int)×Int×Int))->(((((List Int)×Int×Int)×Unit)->Option Bool))->Option (Bool)) (cM:QG):∀(x:TsS c91.as) (F:TsF c91.fs) (y:TsS c91.cs),kF lp jn av ce cM x.1=cb lp jn (Cc Dc Db (Rl [(138,⟨[i64],[i64],.bool,fun x=>cM x.1⟩)] (kP prog shs xh its [(141,QH ce),(140,OH av)] [(134,bJ)]))) al 4 91 f91 c91 x F y:=fun x F y=>by kernel_rfl
theorem QK:c91.ok prog 91:=Ctr.of_den (ap (NM (ah (ah (b7) (by kernel_rfl) Oh) (by kernel_rfl) Rs) (Gd (by kernel_rfl) OQ (Hn)))) aX (hl:=al) (d:=4) func91 rfl (by decide) (e91 lpK jnK av ce cM)
def jz (lp:Lp) (_:Jn) (x0:List (Int×Int)) (f0:(((Int×Int)×Unit)->Option Bool)):Option Int :=
 lp (Int×PUnit) Int (fun (again:Int×PUnit->Option Int) (x:Int×PUnit)=>bif decide (x.1<(↑x0.length:Int)) then bif inB x.1 x0.length then aa (f0 (x0.getD x.1.toNat (0,0),PUnit.unit)) fun (t:Bool)=>bif t then some x.1 else again (IntKind.wrap .i64 (x.1+1),PUnit.unit) else none else some (-1)) (0,PUnit.unit)
def cm (x0:List (Int×Int)) (f0:(((Int×Int)×Unit)->Option Bool)):Option Int:=jz lpK jnK x0 f0
abbrev t74:=(List (Int×Int))->((((Int×Int)×Unit)->Option Bool))->Option (Int)
def k74 (cm:t74):Ctr:=⟨[(.sl T49)],[([T49],.bool)],[],.one i64,fun x F _=>cm x.1 F.1⟩
def c74:Ctr:=k74 cm
theorem e74 (lp:Lp) (jn:Jn):∀(x:TsS c74.as) (F:TsF c74.fs) (y:TsS c74.cs),jz lp jn x.1 F.1=cb lp jn (cx [] [(134,bJ)]) al 4 74 f74 c74 x F y:=fun x F y=>by kernel_rfl
theorem S1:c74.ok prog 74:=Ctr.of_den (ap (b7)) aX (hl:=al) (d:=4) func74 rfl (by decide) (e74 lpK jnK)
def iB (_:Lp) (_:Jn) (cm:t74) (x0:List (Int×Int)) (f0:(((Int×Int)×Unit)->Option Bool)):Option Bool :=
 aa (cm x0 f0) fun (t:Int)=>some (decide (t>=0))
def ao (x0:List (Int×Int)) (f0:(((Int×Int)×Unit)->Option Bool)):Option Bool:=iB lpK jnK cm x0 f0
abbrev t32:=(List (Int×Int))->((((Int×Int)×Unit)->Option Bool))->Option (Bool)
def k32 (ao:t32):Ctr:=⟨[(.sl T49)],[([T49],.bool)],[],.one .bool,fun x F _=>ao x.1 F.1⟩
def c32:Ctr:=k32 ao
theorem e32 (lp:Lp) (jn:Jn) (cm:t74):∀(x:TsS c32.as) (F:TsF c32.fs) (y:TsS c32.cs),iB lp jn cm x.1 F.1=cb lp jn (cx [(74,k74 cm)] [(134,bJ)]) al 4 32 f32 c32 x F y:=fun x F y=>by kernel_rfl
theorem TG:c32.ok prog 32:=Ctr.of_den (ap (ah (b7) (by kernel_rfl) S1)) aX (hl:=al) (d:=4) func32 rfl (by decide) (e32 lpK jnK cm)
def l9 (_:Lp) (_:Jn) (au:t72) (x0:Int×Int):Option Bool :=
 aa (au x0) fun (t:Bool)=>some !t
def dS (x0:Int×Int):Option Bool:=l9 lpK jnK au x0
abbrev QE:=(Int×Int)->Option (Bool)
def Hw:Ctr:=⟨[T49],[],[],.one .bool,fun x _ _=>dS x.1⟩
theorem S3 (lp:Lp) (jn:Jn) (au:t72):∀(x:TsS Hw.as) (F:TsF Hw.fs) (y:TsS Hw.cs),l9 lp jn au x.1=cb lp jn (cx [(72,k72 au)] [(134,bJ)]) al 4 143 f143 Hw x F y:=fun x F y=>by kernel_rfl
theorem QV:Hw.ok prog 143:=Ctr.of_den (ap (ah (b7) (by kernel_rfl) Kg)) aX (hl:=al) (d:=4) func143 rfl (by decide) (S3 lpK jnK au)
def od (_:Lp) (_:Jn) (ao:t32) (dS:QE) (x0:List (Int×Int)):Option Bool :=
 aa (ao x0 fun (x:(Int×Int)×PUnit)=>dS x.1) fun (t:Bool)=>some !t
def eV (x0:List (Int×Int)):Option Bool:=od lpK jnK ao dS x0
abbrev t92:=(List (Int×Int))->Option (Bool)
def c92:Ctr:=⟨[(.sl T49)],[],[],.one .bool,fun x _ _=>eV x.1⟩
theorem e92 (lp:Lp) (jn:Jn) (ao:t32) (dS:QE):∀(x:TsS c92.as) (F:TsF c92.fs) (y:TsS c92.cs),od lp jn ao dS x.1=cb lp jn (cx [(143,⟨[T49],[],[],.one .bool,fun x _ _=>dS x.1⟩),(32,k32 ao)] [(134,bJ)]) al 4 92 f92 c92 x F y:=fun x F y=>by kernel_rfl
theorem SE:c92.ok prog 92:=Ctr.of_den (ap (ah (ah (b7) (by kernel_rfl) TG) (by kernel_rfl) QV)) aX (hl:=al) (d:=4) func92 rfl (by decide) (e92 lpK jnK ao dS)
def oo (_:Lp) (_:Jn) (a5:zY) (x0:Int) (x1:Int):Option (Int×Int) :=
 aa (a5 x0 x1) fun (t:Int×Int×PUnit)=>some (t.1,t.2.1)
def aU (x0:Int) (x1:Int):Option (Int×Int):=oo lpK jnK a5 x0 x1
abbrev t76:=(Int)->(Int)->Option (Int×Int)
def k76 (aU:t76):Ctr:=⟨[(.int .u64),(.int .u64)],[],[],.one mw,fun x _ _=>aU x.1 x.2.1⟩
def c76:Ctr:=k76 aU
theorem e76 (lp:Lp) (jn:Jn) (a5:zY):∀(x:TsS c76.as) (F:TsF c76.fs) (y:TsS c76.cs),oo lp jn a5 x.1 x.2.1=cb lp jn (cx [(122,Ht a5)] [(134,bJ)]) al 4 76 f76 c76 x F y:=fun x F y=>by kernel_rfl
theorem Pj:c76.ok prog 76:=Ctr.of_den (ap (ah (b7) (by kernel_rfl) EW)) aX (hl:=al) (d:=4) func76 rfl (by decide) (e76 lpK jnK a5)
def kX (_:Lp) (_:Jn) (x0:Int×Int) (x1:Int×Int):Option (Int×Int) :=
 bif decide ((0:Int)<=0)&&decide ((0:Int)<=1) then bif decide (0<=mG x0.2 x1.2 0)&&decide (mG x0.2 x1.2 0<=1) then some (ul x0.1 x1.1 (mG x0.2 x1.2 0),ul x0.2 x1.2 0) else none else none
def fj (x0:Int×Int) (x1:Int×Int):Option (Int×Int):=kX lpK jnK x0 x1
abbrev t78:=(Int×Int)->(Int×Int)->Option (Int×Int)
def c78:Ctr:=⟨[mw,mw],[],[],.one mw,fun x _ _=>fj x.1 x.2.1⟩
theorem e78 (lp:Lp) (jn:Jn):∀(x:TsS c78.as) (F:TsF c78.fs) (y:TsS c78.cs),kX lp jn x.1 x.2.1=cb lp jn (cx [] [(134,bJ)]) al 4 78 f78 c78 x F y:=fun x F y=>by kernel_rfl
theorem Tt:c78.ok prog 78:=Ctr.of_den (ap (b7)) aX (hl:=al) (d:=4) func78 rfl (by decide) (e78 lpK jnK)
def su (_:Lp) (_:Jn) (x0:Int×Int) (x1:Int×Int):Option Bool :=
 
 let v4:Bool:=decide (x0.1=x1.1);
 let v5:Bool:=decide (x0.1<x1.1);
 let v6:Bool:=!v5;
 let v7:Bool:=!v6;
 let v8:Bool:=v6&&v4;
 let v9:Bool:=v7||v6;
 let v10:Bool:=!v8||v8;bif v9 then bif v9 then bif v9&&v9 then bif v9 then bif v10 then bif v10 then bif v10&&v10 then bif (v7||v9)&&(v7||(!v4||(v7||v8))) then bif v5 || v6 then some (bif v5 then true else bif v4 then decide (x0.2<x1.2) else false) else none else none else none else none else none else none else none else none else none
def cQ (x0:Int×Int) (x1:Int×Int):Option Bool:=su lpK jnK x0 x1
abbrev t79:=(Int×Int)->(Int×Int)->Option (Bool)
def k79 (cQ:t79):Ctr:=⟨[mw,mw],[],[],.one .bool,fun x _ _=>cQ x.1 x.2.1⟩
def c79:Ctr:=k79 cQ
theorem e79 (lp:Lp) (jn:Jn):∀(x:TsS c79.as) (F:TsF c79.fs) (y:TsS c79.cs),su lp jn x.1 x.2.1=cb lp jn (cx [] [(134,bJ)]) al 4 79 f79 c79 x F y:=fun x F y=>by kernel_rfl
theorem R7:c79.ok prog 79:=Ctr.of_den (ap (b7)) aX (hl:=al) (d:=4) func79 rfl (by decide) (e79 lpK jnK)
def j9 (_:Lp) (_:Jn) (x0:Int×Int) (x1:Int×Int):Option (Int×Int) :=
 bif decide ((0:Int)<=0)&&decide ((0:Int)<=1) then bif decide (0<=lB x0.2 x1.2 0)&&decide (lB x0.2 x1.2 0<=1) then some (qO x0.1 x1.1 (lB x0.2 x1.2 0),qO x0.2 x1.2 0) else none else none
def dQ (x0:Int×Int) (x1:Int×Int):Option (Int×Int):=j9 lpK jnK x0 x1
abbrev t80:=(Int×Int)->(Int×Int)->Option (Int×Int)
def c80:Ctr:=⟨[mw,mw],[],[],.one mw,fun x _ _=>dQ x.1 x.2.1⟩
theorem e80 (lp:Lp) (jn:Jn):∀(x:TsS c80.as) (F:TsF c80.fs) (y:TsS c80.cs),j9 lp jn x.1 x.2.1=cb lp jn (cx [] [(134,bJ)]) al 4 80 f80 c80 x F y:=fun x F y=>by kernel_rfl
theorem Te:c80.ok prog 80:=Ctr.of_den (ap (b7)) aX (hl:=al) (d:=4) func80 rfl (by decide) (e80 lpK jnK)
def rX (_:Lp) (jn:Jn) (x0:Int):Option Int :=
 jn (Int×Int×PUnit) Int (fun (x:Int×Int×PUnit)=>jn (Int×Int×PUnit) Int (fun (x:Int×Int×PUnit) =>
 let v5:Int:=IntKind.wrap IntKind.u8 x.1;
 let v6:Int:=IntKind.wrap IntKind.u8 (Int.fdiv x.1 (2 ^ 8));bif decide (x.1>=256) then bif decide ((0:Int)<=8) then bif inB v6 256 then some (IntKind.wrap .i64 (IntKind.wrap .i64 (x.2.1+8)+IntKind.wrap .i64 (eU { data:=List.toArray (List.append (List.append [(0:UInt8),(1 : UInt8),(2:UInt8),(2:UInt8),(3:UInt8),(3:UInt8),(3:UInt8),(3:UInt8),(4:UInt8),(4:UInt8),(4:UInt8),(4:UInt8),(4:UInt8),(4:UInt8),(4:UInt8),(4 : UInt8),(5:UInt8),(5:UInt8),(5:UInt8),(5:UInt8),(5:UInt8),(5:UInt8),(5:UInt8),(5:UInt8),(5:UInt8),(5:UInt8),(5:UInt8),(5:UInt8),(5:UInt8),(5 : UInt8),(5:UInt8),(5:UInt8),(6:UInt8),(6:UInt8),(6:UInt8),(6:UInt8),(6:UInt8),(6:UInt8),(6:UInt8),(6:UInt8),(6:UInt8),(6:UInt8),(6:UInt8),(6 : UInt8),(6:UInt8),(6:UInt8),(6:UInt8),(6:UInt8),(6:UInt8),(6:UInt8),(6:UInt8),(6:UInt8),(6:UInt8),(6:UInt8),(6:UInt8),(6:UInt8),(6:UInt8),(6 : UInt8),(6:UInt8),(6:UInt8),(6:UInt8),(6:UInt8),(6:UInt8),(6:UInt8)] [(7:UInt8),(7:UInt8),(7:UInt8),(7:UInt8),(7:UInt8),(7:UInt8),(7:UInt8),(7 : UInt8),(7:UInt8),(7:UInt8),(7:UInt8),(7:UInt8),(7:UInt8),(7:UInt8),(7:UInt8),(7:UInt8),(7:UInt8),(7:UInt8),(7:UInt8),(7:UInt8),(7:UInt8),(7 : UInt8),(7:UInt8),(7:UInt8),(7:UInt8),(7:UInt8),(7:UInt8),(7:UInt8),(7:UInt8),(7:UInt8),(7:UInt8),(7:UInt8),(7:UInt8),(7:UInt8),(7:UInt8),(7 : UInt8),(7:UInt8),(7:UInt8),(7:UInt8),(7:UInt8),(7:UInt8),(7:UInt8),(7:UInt8),(7:UInt8),(7:UInt8),(7:UInt8),(7:UInt8),(7:UInt8),(7:UInt8),(7 : UInt8),(7:UInt8),(7:UInt8),(7:UInt8),(7:UInt8),(7:UInt8),(7:UInt8),(7:UInt8),(7:UInt8),(7:UInt8),(7:UInt8),(7:UInt8),(7:UInt8),(7:UInt8),(7 : UInt8)]) (List.append [(8:UInt8),(8:UInt8),(8:UInt8),(8:UInt8),(8:UInt8),(8:UInt8),(8:UInt8),(8:UInt8),(8:UInt8),(8:UInt8),(8:UInt8),(8:UInt8),(8 : UInt8),(8:UInt8),(8:UInt8),(8:UInt8),(8:UInt8),(8:UInt8),(8:UInt8),(8:UInt8),(8:UInt8),(8:UInt8),(8:UInt8),(8:UInt8),(8:UInt8),(8:UInt8),(8 : UInt8),(8:UInt8),(8:UInt8),(8:UInt8),(8:UInt8),(8:UInt8),(8:UInt8),(8:UInt8),(8:UInt8),(8:UInt8),(8:UInt8),(8:UInt8),(8:UInt8),(8:UInt8),(8 : UInt8),(8:UInt8),(8:UInt8),(8:UInt8),(8:UInt8),(8:UInt8),(8:UInt8),(8:UInt8),(8:UInt8),(8:UInt8),(8:UInt8),(8:UInt8),(8:UInt8),(8:UInt8),(8 : UInt8),(8:UInt8),(8:UInt8),(8:UInt8),(8:UInt8),(8:UInt8),(8:UInt8),(8:UInt8),(8:UInt8),(8:UInt8)] [(8:UInt8),(8:UInt8),(8:UInt8),(8:UInt8),(8 : UInt8),(8:UInt8),(8:UInt8),(8:UInt8),(8:UInt8),(8:UInt8),(8:UInt8),(8:UInt8),(8:UInt8),(8:UInt8),(8:UInt8),(8:UInt8),(8:UInt8),(8:UInt8),(8 : UInt8),(8:UInt8),(8:UInt8),(8:UInt8),(8:UInt8),(8:UInt8),(8:UInt8),(8:UInt8),(8:UInt8),(8:UInt8),(8:UInt8),(8:UInt8),(8:UInt8),(8:UInt8),(8 : UInt8),(8:UInt8),(8:UInt8),(8:UInt8),(8:UInt8),(8:UInt8),(8:UInt8),(8:UInt8),(8:UInt8),(8:UInt8),(8:UInt8),(8:UInt8),(8:UInt8),(8:UInt8),(8 : UInt8),(8:UInt8),(8:UInt8),(8:UInt8),(8:UInt8),(8:UInt8),(8:UInt8),(8:UInt8),(8:UInt8),(8:UInt8),(8:UInt8),(8:UInt8),(8:UInt8),(8:UInt8),(8 : UInt8),(8:UInt8),(8:UInt8),(8:UInt8)])) } v6.toNat))) else none else none else bif inB v5 256 then some (IntKind.wrap .i64 (x.2.1+IntKind.wrap IntKind.i64 (eU { data:=List.toArray (List.append (List.append [(0:UInt8),(1:UInt8),(2:UInt8),(2:UInt8),(3:UInt8),(3:UInt8),(3:UInt8),(3:UInt8),(4 : UInt8),(4:UInt8),(4:UInt8),(4:UInt8),(4:UInt8),(4:UInt8),(4:UInt8),(4:UInt8),(5:UInt8),(5:UInt8),(5:UInt8),(5:UInt8),(5:UInt8),(5:UInt8),(5 : UInt8),(5:UInt8),(5:UInt8),(5:UInt8),(5:UInt8),(5:UInt8),(5:UInt8),(5:UInt8),(5:UInt8),(5:UInt8),(6:UInt8),(6:UInt8),(6:UInt8),(6:UInt8),(6 : UInt8),(6:UInt8),(6:UInt8),(6:UInt8),(6:UInt8),(6:UInt8),(6:UInt8),(6:UInt8),(6:UInt8),(6:UInt8),(6:UInt8),(6:UInt8),(6:UInt8),(6:UInt8),(6 : UInt8),(6:UInt8),(6:UInt8),(6:UInt8),(6:UInt8),(6:UInt8),(6:UInt8),(6:UInt8),(6:UInt8),(6:UInt8),(6:UInt8),(6:UInt8),(6:UInt8),(6:UInt8)] [(7 : UInt8),(7:UInt8),(7:UInt8),(7:UInt8),(7:UInt8),(7:UInt8),(7:UInt8),(7:UInt8),(7:UInt8),(7:UInt8),(7:UInt8),(7:UInt8),(7:UInt8),(7:UInt8),(7 : UInt8),(7:UInt8),(7:UInt8),(7:UInt8),(7:UInt8),(7:UInt8),(7:UInt8),(7:UInt8),(7:UInt8),(7:UInt8),(7:UInt8),(7:UInt8),(7:UInt8),(7:UInt8),(7 : UInt8),(7:UInt8),(7:UInt8),(7:UInt8),(7:UInt8),(7:UInt8),(7:UInt8),(7:UInt8),(7:UInt8),(7:UInt8),(7:UInt8),(7:UInt8),(7:UInt8),(7:UInt8),(7 : UInt8),(7:UInt8),(7:UInt8),(7:UInt8),(7:UInt8),(7:UInt8),(7:UInt8),(7:UInt8),(7:UInt8),(7:UInt8),(7:UInt8),(7:UInt8),(7:UInt8),(7:UInt8),(7 : UInt8),(7:UInt8),(7:UInt8),(7:UInt8),(7:UInt8),(7:UInt8),(7:UInt8),(7:UInt8)]) (List.append [(8:UInt8),(8:UInt8),(8:UInt8),(8:UInt8),(8:UInt8),(8 : UInt8),(8:UInt8),(8:UInt8),(8:UInt8),(8:UInt8),(8:UInt8),(8:UInt8),(8:UInt8),(8:UInt8),(8:UInt8),(8:UInt8),(8:UInt8),(8:UInt8),(8:UInt8),(8 : UInt8),(8:UInt8),(8:UInt8),(8:UInt8),(8:UInt8),(8:UInt8),(8:UInt8),(8:UInt8),(8:UInt8),(8:UInt8),(8:UInt8),(8:UInt8),(8:UInt8),(8:UInt8),(8 : UInt8),(8:UInt8),(8:UInt8),(8:UInt8),(8:UInt8),(8:UInt8),(8:UInt8),(8:UInt8),(8:UInt8),(8:UInt8),(8:UInt8),(8:UInt8),(8:UInt8),(8:UInt8),(8 : UInt8),(8:UInt8),(8:UInt8),(8:UInt8),(8:UInt8),(8:UInt8),(8:UInt8),(8:UInt8),(8:UInt8),(8:UInt8),(8:UInt8),(8:UInt8),(8:UInt8),(8:UInt8),(8 : UInt8),(8:UInt8),(8:UInt8)] [(8:UInt8),(8:UInt8),(8:UInt8),(8:UInt8),(8:UInt8),(8:UInt8),(8:UInt8),(8:UInt8),(8:UInt8),(8:UInt8),(8:UInt8),(8 : UInt8),(8:UInt8),(8:UInt8),(8:UInt8),(8:UInt8),(8:UInt8),(8:UInt8),(8:UInt8),(8:UInt8),(8:UInt8),(8:UInt8),(8:UInt8),(8:UInt8),(8:UInt8),(8 : UInt8),(8:UInt8),(8:UInt8),(8:UInt8),(8:UInt8),(8:UInt8),(8:UInt8),(8:UInt8),(8:UInt8),(8:UInt8),(8:UInt8),(8:UInt8),(8:UInt8),(8:UInt8),(8 : UInt8),(8:UInt8),(8:UInt8),(8:UInt8),(8:UInt8),(8:UInt8),(8:UInt8),(8:UInt8),(8:UInt8),(8:UInt8),(8:UInt8),(8:UInt8),(8:UInt8),(8:UInt8),(8 : UInt8),(8:UInt8),(8:UInt8),(8:UInt8),(8:UInt8),(8:UInt8),(8:UInt8),(8:UInt8),(8:UInt8),(8:UInt8),(8:UInt8)])) } v5.toNat))) else none) fun (j:Int × Int×PUnit->Option Int)=>bif decide (x.1>=65536) then bif decide ((0:Int)<=16) then j (Int.fdiv x.1 (2 ^ 16),IntKind.wrap .i64 (x.2.1+16),PUnit.unit) else none else j (x.1,x.2.1,PUnit.unit)) fun (j:Int×Int×PUnit->Option Int)=>bif decide (x0>=4294967296) then bif decide (0<=32) then j (Int.fdiv x0 (2 ^ 32),32,PUnit.unit) else none else j (x0,0,PUnit.unit)
def fH (x0:Int):Option Int:=rX lpK jnK x0
abbrev RQ:=(Int)->Option (Int)
def Jr:Ctr:=⟨[(.int .u64)],[],[],.one i64,fun x _ _=>fH x.1⟩
theorem SB (lp:Lp) (jn:Jn):∀(x:TsS Jr.as) (F:TsF Jr.fs) (y:TsS Jr.cs),rX lp jn x.1=cb lp jn (cx [] [(134,bJ)]) al 4 181 f181 Jr x F y:=fun x F y=>by kernel_rfl
theorem Q2:Jr.ok prog 181:=Ctr.of_den (ap (b7)) aX (hl:=al) (d:=4) func181 rfl (by decide) (SB lpK jnK)
def gK (_:Lp) (_:Jn) (fH:RQ) (x0:Int):Option Int :=
 aa (fH x0) fun (t:Int)=>some (IntKind.wrap .i64 (64 - t))
def cA (x0:Int):Option Int:=gK lpK jnK fH x0
abbrev R9:=(Int)->Option (Int)
def Hj:Ctr:=⟨[(.int .u64)],[],[],.one i64,fun x _ _=>cA x.1⟩
theorem SS (lp:Lp) (jn:Jn) (fH:RQ):∀(x:TsS Hj.as) (F:TsF Hj.fs) (y:TsS Hj.cs),gK lp jn fH x.1=cb lp jn (cx [(181,⟨[(.int .u64)],[],[],.one i64,fun x _ _=>fH x.1⟩)] [(134,bJ)]) al 4 165 f165 Hj x F y:=fun x F y=>by kernel_rfl
theorem Rv:Hj.ok prog 165:=Ctr.of_den (ap (ah (b7) (by kernel_rfl) Q2)) aX (hl:=al) (d:=4) func165 rfl (by decide) (SS lpK jnK fH)
def nq (lp:Lp) (jn:Jn) (cA:R9) (x0:Int) (x1:Int) (x2:Int):Option (Int×Int×Unit) :=
 
 let v5:Bool:=nzB x2;
 let v6:Int:=2 ^ 32;
 let v7:Bool:=decide ((0:Int)<=32);jn PUnit (Int×Int×PUnit) (fun (_:PUnit)=>jn PUnit (Int×Int×PUnit) (fun (_:PUnit)=>bif decide (x0=0) then bif v5 then bif v5 then some (IntKind.wrap .u64 (Int.tdiv x1 x2),Int.tmod x1 x2,PUnit.unit) else none else none else aa (cA x2) fun (t:Int) =>
 let v11:Int:=IntKind.wrap .u64 t;
 let v12:Bool:=decide (0<=v11);
 let v13:Int:=2 ^ min v11.toNat 64;
 let v14:Int:=IntKind.wrap .u64 (x2*v13);
 let v15:Int:=IntKind.wrap .u64 (x1*v13);
 let v16:Int:=Int.fdiv v14 v6;
 let v17:Int:=Int.fdiv v15 v6;
 let v18:Bool:=nzB v16;
 let v19:Int:=IntKind.wrap .u64 (↑(Nat.land (Int.toNat (v15 % Int.ofNat 18446744073709551616)) (Int.toNat (4294967295 % Int.ofNat 18446744073709551616))) : Int);
 let v20:Int:=IntKind.wrap .u64 (↑(Nat.land (Int.toNat (v14 % Int.ofNat 18446744073709551616)) (Int.toNat (4294967295 % Int.ofNat 18446744073709551616))) : Int);
 let v21:Int:=IntKind.wrap .u64 (↑(Nat.lor (Int.toNat (IntKind.wrap .u64 (x0*v13) % Int.ofNat 18446744073709551616)) (Int.toNat (Int.fdiv x1 (2 ^ min (Int.toNat (IntKind.wrap .u64 (64 - v11))) 64) % Int.ofNat 18446744073709551616))):Int);
 let v22:Int:=IntKind.wrap .u64 (Int.tdiv v21 v16);bif v12 then bif v7 then bif v12 then bif decide (0<=IntKind.wrap .u64 (64 - v11)) then bif v12 then bif v7 then bif v18 then jn (Int×PUnit) (Int×Int×PUnit) (fun (x:Int×PUnit) =>
 let v24:Int:=IntKind.wrap .u64 (IntKind.wrap .u64 (IntKind.wrap .u64 (v21*4294967296)+v17) - IntKind.wrap .u64 (x.1*v14));
 let v25:Int:=IntKind.wrap .u64 (Int.tdiv v24 v16);bif v18 then jn (Int×PUnit) (Int×Int×PUnit) (fun (x_1:Int×PUnit)=>bif v12 then some (IntKind.wrap .u64 (IntKind.wrap .u64 (x.1*4294967296)+x_1.1),Int.fdiv (IntKind.wrap .u64 (IntKind.wrap .u64 (IntKind.wrap .u64 (v24*4294967296) + v19) - IntKind.wrap .u64 (x_1.1*v14))) v13,PUnit.unit) else none) fun (j:Int×PUnit->Option (Int×Int×PUnit))=>lp (Int×Int×PUnit) (Int×Int×PUnit) (fun (again:Int×Int×PUnit->Option (Int×Int×PUnit)) (x:Int×Int×PUnit) =>
 let v29:Int×PUnit:=(IntKind.wrap .u64 (x.2.1 - 1),PUnit.unit);
 let v30:Bool:=decide (x.2.1>=4294967296);
 let v31:Bool:=!v30;
 let v32:Bool:=!v31||v31;
 let v33:Bool:=v32&&v32;bif v33 then bif v32 then bif v33 then bif v33 then bif v30||v31 then bif bif v30 then true else decide (IntKind.wrap .u64 (x.2.1*v20) > IntKind.wrap .u64 (IntKind.wrap .u64 (4294967296*x.1)+v19)) then bif decide (IntKind.wrap .u64 (x.1+v16)>=4294967296) then j v29 else again (IntKind.wrap .u64 (x.1+v16),v29) else j (x.2.1,PUnit.unit) else none else none else none else none else none) (IntKind.wrap .u64 (v24 - IntKind.wrap IntKind.u64 (v25*v16)),v25,PUnit.unit) else none) fun (j:Int×PUnit->Option (Int×Int×PUnit))=>lp (Int×Int×PUnit) (Int×Int×PUnit) (fun (again:Int×Int×PUnit -> Option (Int×Int×PUnit)) (x:Int×Int×PUnit) =>
 let v26:Int:=IntKind.wrap .u64 (x.1 - 1);
 let v27:Bool:=decide (x.1>=4294967296);
 let v28:Bool:=!v27;
 let v29:Bool:=!v28||v28;
 let v30:Bool:=v29&&v29;bif v30 then bif v29 then bif v30 then bif v30 then bif v27||v28 then bif bif v27 then true else decide (IntKind.wrap .u64 (x.1*v20) > IntKind.wrap .u64 (IntKind.wrap .u64 (4294967296*x.2.1)+v17)) then bif decide (IntKind.wrap .u64 (x.2.1+v16)>=4294967296) then j (v26,PUnit.unit) else again (v26,IntKind.wrap .u64 (x.2.1+v16),PUnit.unit) else j (x.1,PUnit.unit) else none else none else none else none else none) (v22, IntKind.wrap .u64 (v21 - IntKind.wrap .u64 (v22*v16)),PUnit.unit) else none else none else none else none else none else none else none) fun (j:PUnit->Option (Int × Int×PUnit))=>bif decide (x2<=x0) then none else j PUnit.unit) fun (j:PUnit->Option (Int×Int×PUnit))=>bif decide (x2=0) then none else j PUnit.unit
def bH (x0:Int) (x1:Int) (x2:Int):Option (Int×Int×Unit):=nq lpK jnK cA x0 x1 x2
abbrev CV:=(Int)->(Int)->(Int)->Option (Int×Int×Unit)
def Mz (bH:CV):Ctr:=⟨[(.int .u64),(.int .u64),(.int .u64)],[],[],.tup [(.int .u64),(.int .u64)],fun x _ _=>bH x.1 x.2.1 x.2.2.1⟩
def IL:Ctr:=Mz bH
theorem SY (lp:Lp) (jn:Jn) (cA:R9):∀(x:TsS IL.as) (F:TsF IL.fs) (y:TsS IL.cs),nq lp jn cA x.1 x.2.1 x.2.2.1=cb lp jn (cx [(165,⟨[(.int .u64)],[],[],.one i64,fun x _ _=>cA x.1⟩)] [(134,bJ)]) al 4 125 f125 IL x F y:=fun x F y=>by kernel_rfl
theorem Ks:IL.ok prog 125:=Ctr.of_den (ap (ah (b7) (by kernel_rfl) Rv)) aX (hl:=al) (d:=4) func125 rfl (by decide) (SY lpK jnK cA)
def so (_:Lp) (_:Jn) (bH:CV) (x0:Int×Int) (x1:Int):Option ((Int×Int)×Int×Unit) :=
 
 let v4:Bool:=nzB x1;bif v4 then aa (bH (Int.tmod x0.1 x1) x0.2 x1) fun (t:Int×Int×PUnit)=>bif v4 then some ((IntKind.wrap .u64 (Int.tdiv x0.1 x1), t.1),t.2.1,PUnit.unit) else none else none
def fg (x0:Int×Int) (x1:Int):Option ((Int×Int)×Int×Unit):=so lpK jnK bH x0 x1
abbrev t81:=(Int×Int)->(Int)->Option ((Int×Int)×Int×Unit)
def k81 (fg:t81):Ctr:=⟨[mw,(.int .u64)],[],[],.tup [mw,(.int .u64)],fun x _ _=>fg x.1 x.2.1⟩
def c81:Ctr:=k81 fg
theorem e81 (lp:Lp) (jn:Jn) (bH:CV):∀(x:TsS c81.as) (F:TsF c81.fs) (y:TsS c81.cs),so lp jn bH x.1 x.2.1=cb lp jn (cx [(125,Mz bH)] [(134,bJ)]) al 4 81 f81 c81 x F y:=fun x F y=>by kernel_rfl
theorem TB:c81.ok prog 81:=Ctr.of_den (ap (ah (b7) (by kernel_rfl) Ks)) aX (hl:=al) (d:=4) func81 rfl (by decide) (e81 lpK jnK bH)
def lv (_:Lp) (_:Jn) (x0:Bool) (x1:Int) (x2:Int):Option ((Int×Int)×Int×Unit) :=
 
 let v5:Int:=IntKind.wrap .i64 x1;
 let v6:Int:=IntKind.wrap .i64 x2;
 let v7:Bool:=decide (x1>1152921504606846976);
 let v8:Bool:=!v7;bif !v8||v8 then bif v7||v8 then bif bif v7 then true else decide (x2>1152921504606846976) then some ((0,0),5,PUnit.unit) else bif x0 then some ((IntKind.wrap .i64 (0 - v5),v6),0,PUnit.unit) else some ((v5,v6),0,PUnit.unit) else none else none
def bf (x0:Bool) (x1:Int) (x2:Int):Option ((Int×Int)×Int×Unit):=lv lpK jnK x0 x1 x2
abbrev t82:=(Bool)->(Int)->(Int)->Option ((Int×Int)×Int×Unit)
def k82 (bf:t82):Ctr:=⟨[.bool,(.int .u64),(.int .u64)],[],[],.tup [T49,i64],fun x _ _=>bf x.1 x.2.1 x.2.2.1⟩
def c82:Ctr:=k82 bf
theorem e82 (lp:Lp) (jn:Jn):∀(x:TsS c82.as) (F:TsF c82.fs) (y:TsS c82.cs),lv lp jn x.1 x.2.1 x.2.2.1=cb lp jn (cx [] [(134,bJ)]) al 4 82 f82 c82 x F y:=fun x F y=>by kernel_rfl
theorem PN:c82.ok prog 82:=Ctr.of_den (ap (b7)) aX (hl:=al) (d:=4) func82 rfl (by decide) (e82 lpK jnK)
def ud (_:Lp) (jn:Jn) (bm:t75) (aH:t77) (au:t72) (aU:t76) (fj:t78) (cQ:t79) (dQ:t80) (fg:t81) (bf:t82) (x0:Int×Int) (x1:Int×Int):Option ((Int×Int)×Int×Unit) :=
 
 let v4:Int:=IntKind.wrap .u64 x0.2;
 let v5:Int:=IntKind.wrap .u64 x1.2;
 let v6:Bool:=decide (x0.1<0);aa (au x0) fun (t:Bool) =>
 let v8:Bool:=!t;
 let v9:Bool:=!v8;
 let v10:Bool:=!v9||v9;bif v10 then aa (bif v9 then au x1 else some false) fun (t:Bool)=>bif v10 then bif v8||v9 then bif bif v8 then true else !t then some (((0 : Int),0),1,PUnit.unit) else aa (bm v4 v5) fun (t:Int) =>
 let v13:Bool:=nzB t;
 let v14:Int:=IntKind.wrap .u64 (Int.tdiv v4 t);aa (aH x0.1) fun (t_1:Int)=>bif v13 then aa (aU t_1 (IntKind.wrap .u64 (Int.tdiv v5 t))) fun (t_2:Int×Int)=>aa (aH x1.1) fun (t_3:Int)=>bif v13 then aa (aU t_3 v14) fun (t_4:Int×Int)=>jn (Bool×(Int×Int)×PUnit) ((Int×Int) × Int×PUnit) (fun (x:Bool×(Int×Int)×PUnit)=>bif decide (x.2.1.1=0)&&(decide (x.2.1.2=0)&&true) then some ((0,1),(0 : Int),PUnit.unit) else aa (fg x.2.1 t) fun (t_5:(Int×Int)×Int×PUnit)=>aa (bm t t_5.2.1) fun (t:Int)=>aa (fg x.2.1 t) fun (t_6 : (Int×Int)×Int×PUnit) =>
 let v23:Bool:=decide (t_6.1.1>0);
 let v24:Bool:=!v23;
 let v25:Bool:=!v24||v24;bif v13 then bif nzB t then aa (aU v14 (IntKind.wrap .u64 (Int.tdiv v5 t))) fun (t:Int×Int)=>bif v25 then bif v25 then bif v23 || v24 then bif bif v23 then true else decide (t.1>0) then some ((0,0),5,PUnit.unit) else aa (bf x.1 t_6.1.2 t.2) fun (t:(Int × Int)×Int×PUnit)=>some (t.1,t.2.1,PUnit.unit) else none else none else none else none else none) fun (j:Bool×(Int×Int)×PUnit->Option ((Int×Int)×Int×PUnit)) =>bif decide (v6=decide (x1.1<0)) then aa (fj t_2 t_4) fun (t:Int×Int)=>j (v6,t,PUnit.unit) else aa (cQ t_2 t_4) fun (t:Bool)=>jn (Bool × (Int×Int)×PUnit) ((Int×Int)×Int×PUnit) (fun (x:Bool×(Int×Int)×PUnit)=>j (x.1,x.2.1,PUnit.unit)) fun (j:Bool×(Int×Int)×PUnit->Option ((Int×Int) × Int×PUnit))=>bif t then aa (dQ t_4 t_2) fun (t:Int×Int)=>j (!v6,t,PUnit.unit) else aa (dQ t_2 t_4) fun (t:Int×Int)=>j (v6,t,PUnit.unit) else none else none else none else none else none
def cu (x0:Int×Int) (x1:Int×Int):Option ((Int×Int)×Int×Unit):=ud lpK jnK bm aH au aU fj cQ dQ fg bf x0 x1
abbrev t35:=(Int×Int)->(Int×Int)->Option ((Int×Int)×Int×Unit)
def k35 (cu:t35):Ctr:=⟨[T49,T49],[],[],.tup [T49,i64],fun x _ _=>cu x.1 x.2.1⟩
def c35:Ctr:=k35 cu
theorem e35 (lp:Lp) (jn:Jn) (bm:t75) (aH:t77) (au:t72) (aU:t76) (fj:t78) (cQ:t79) (dQ:t80) (fg:t81) (bf:t82):∀(x:TsS c35.as) (F:TsF c35.fs) (y:TsS c35.cs),ud lp jn bm aH au aU fj cQ dQ fg bf x.1 x.2.1=cb lp jn (cx [(82,k82 bf),(81,k81 fg),(80,⟨[mw,mw],[],[],.one mw,fun x _ _=>dQ x.1 x.2.1⟩),(79,k79 cQ),(78,⟨[mw,mw],[],[],.one mw,fun x _ _=>fj x.1 x.2.1⟩),(76,k76 aU),(72,k72 au),(77,k77 aH),(75,k75 bm)] [(134,bJ)]) al 4 35 f35 c35 x F y:=fun x F y=>by kernel_rfl
theorem SN:c35.ok prog 35:=Ctr.of_den (ap (ah (ah (ah (ah (ah (ah (ah (ah (ah (b7) (by kernel_rfl) NG) (by kernel_rfl) KJ) (by kernel_rfl) Kg) (by kernel_rfl) Pj) (by kernel_rfl) Tt) (by kernel_rfl) R7) (by kernel_rfl) Te) (by kernel_rfl) TB) (by kernel_rfl) PN)) aX (hl:=al) (d:=4) func35 rfl (by decide) (e35 lpK jnK bm aH au aU fj cQ dQ fg bf)
def tM (_:Lp) (_:Jn) (bm:t75) (aH:t77) (au:t72) (aU:t76) (bf:t82) (x0:Int×Int) (x1:Int×Int):Option ((Int×Int)×Int×Unit) :=
 
 let v4:Int:=IntKind.wrap .u64 x1.2;
 let v5:Int:=IntKind.wrap .u64 x0.2;aa (au x0) fun (t:Bool) =>
 let v7:Bool:=!t;
 let v8:Bool:=!v7;
 let v9:Bool:=!v8||v8;bif v9 then aa (bif v8 then au x1 else some false) fun (t:Bool)=>bif v9 then bif v7||v8 then bif bif v7 then true else !t then some (((0 : Int),0),1,PUnit.unit) else aa (aH x0.1) fun (t:Int)=>aa (bm t v4) fun (t:Int) =>
 let v13:Bool:=nzB t;aa (aH x1.1) fun (t_1:Int)=>aa (bm t_1 v5) fun (t_2:Int) =>
 let v16:Bool:=nzB t_2;aa (aH x0.1) fun (t_3:Int)=>bif v13 then aa (aH x1.1) fun (t_4:Int)=>bif v16 then aa (aU (IntKind.wrap IntKind.u64 (Int.tdiv t_3 t)) (IntKind.wrap .u64 (Int.tdiv t_4 t_2))) fun (t_5:Int×Int) =>
 let v20:Bool:=decide (t_5.1>0);
 let v21:Bool:=decide (t_5.2>0);
 let v22:Bool:=!v20;
 let v23:Bool:=!v21||v21;
 let v24:Bool:=!v22||v22;bif v16 then bif v13 then aa (aU (IntKind.wrap .u64 (Int.tdiv v5 t_2)) (IntKind.wrap .u64 (Int.tdiv v4 t))) fun (t:Int×Int) =>bif v24 then bif v24 then bif v20||v22 then bif bif v20 then true else decide (t.1>0) then some ((0,0),5,PUnit.unit) else bif v23 then bif v23 then bif v23 then bif v23 then bif v23&&v23 then bif v23 then aa (bf (bif v21 then !decide (decide (x0.1<0)=decide (x1.1<0)) else false) t_5.2 t.2) fun (t:(Int×Int)×Int×PUnit)=>some (t.1,t.2.1,PUnit.unit) else none else none else none else none else none else none else none else none else none else none else none else none else none else none else none else none
def fb (x0:Int×Int) (x1:Int×Int):Option ((Int×Int)×Int×Unit):=tM lpK jnK bm aH au aU bf x0 x1
abbrev MC:=(Int×Int)->(Int×Int)->Option ((Int×Int)×Int×Unit)
def Ru (fb:MC):Ctr:=⟨[T49,T49],[],[],.tup [T49,i64],fun x _ _=>fb x.1 x.2.1⟩
def Ij:Ctr:=Ru fb
theorem TJ (lp:Lp) (jn:Jn) (bm:t75) (aH:t77) (au:t72) (aU:t76) (bf:t82):∀(x:TsS Ij.as) (F:TsF Ij.fs) (y:TsS Ij.cs),tM lp jn bm aH au aU bf x.1 x.2.1=cb lp jn (cx [(82,k82 bf),(76,k76 aU),(72,k72 au),(77,k77 aH),(75,k75 bm)] [(134,bJ)]) al 4 146 f146 Ij x F y:=fun x F y=>by kernel_rfl
theorem RY:Ij.ok prog 146:=Ctr.of_den (ap (ah (ah (ah (ah (ah (b7) (by kernel_rfl) NG) (by kernel_rfl) KJ) (by kernel_rfl) Kg) (by kernel_rfl) Pj) (by kernel_rfl) PN)) aX (hl:=al) (d:=4) func146 rfl (by decide) (TJ lpK jnK bm aH au aU bf)
def mm (lp:Lp) (jn:Jn) (cu:t35) (fb:MC) (x0:Int) (x1:List Int) (x2:List (Int×Int)):Option (Int×(Int×Int)) :=
 lp (Int×Int×(Int×Int)×(Int×Int)×PUnit) (Int×Int×Int) (fun (again:Int×Int×(Int×Int)×(Int×Int)×PUnit->Option (Int×Int×Int)) (x:Int×Int×(Int×Int) × (Int×Int)×PUnit)=>bif decide (x.1<(↑x1.length:Int)) then bif inB x.1 x1.length then bif inB x.1 x2.length then aa (fb (x1.getD x.1.toNat 0,1) (x2.getD x.1.toNat (0,0))) fun (t:(Int×Int)×Int×PUnit)=>jn (Int×(Int×Int)×PUnit) (Int×Int×Int) (fun (x_1:Int×(Int×Int)×PUnit)=>bif !decide (x_1.1=0) then some (x_1.1,0,1) else again (IntKind.wrap .i64 (x.1+1), x.2.1,x.2.2.1,x_1.2.1,PUnit.unit)) fun (j:Int×(Int×Int)×PUnit->Option (Int×Int×Int))=>bif decide (t.2.1=0) then aa (cu x.2.2.2.1 t.1) fun (t:(Int×Int)×Int×PUnit)=>j (t.2.1,t.1,PUnit.unit) else j (t.2.1,t.1,PUnit.unit) else none else none else some (x.2.1, x.2.2.2.1)) (0,x0,(0,0),(0,1),PUnit.unit)
def cK (x0:Int) (x1:List Int) (x2:List (Int×Int)):Option (Int×(Int×Int)):=mm lpK jnK cu fb x0 x1 x2
abbrev t95:=(Int)->(List Int)->(List (Int×Int))->Option (Int×(Int×Int))
def k95 (cK:t95):MCtr:=⟨O6,[(.sl i64),(.sl T49)],.one T49,fun x y=>cK x y.1 y.2.1⟩
def m95:MCtr:=k95 cK
theorem e95 (lp:Lp) (jn:Jn) (cu:t35) (fb:MC):∀(x:m95.s.T) (y:TsS m95.as),mm lp jn cu fb x y.1 y.2.1=PM lp jn (cx [(146,Ru fb),(35,k35 cu)] [(134,bJ)]) al 4 95 f95 m95 x y:=fun x y=>by kernel_rfl
theorem Ta:m95.ok prog 95:=MCtr.of_den (ap (ah (ah (b7) (by kernel_rfl) SN) (by kernel_rfl) RY)) aX (hl:=al) (d:=4) func95 rfl (by decide) rfl (e95 lpK jnK cu fb)
def tT (_:Lp) (jn:Jn) (aH:t77) (au:t72) (aU:t76) (cQ:t79) (x0:Int×Int) (x1:Int×Int):Option (Int×Int×Unit) :=
 
 let v4:Bool:=decide (x0.1<0);aa (au x0) fun (t:Bool) =>
 let v6:Bool:=!t;
 let v7:Bool:=!v6;
 let v8:Bool:=!v7||v7;bif v8 then aa (bif v7 then au x1 else some false) fun (t:Bool)=>bif v8 then bif v6||v7 then bif bif v6 then true else !t then some ((0 : Int),1,PUnit.unit) else aa (aH x0.1) fun (t:Int)=>aa (aU t (IntKind.wrap .u64 x1.2)) fun (t:Int×Int)=>aa (aH x1.1) fun (t_1:Int)=>aa (aU t_1 (IntKind.wrap .u64 x0.2)) fun (t_2:Int×Int)=>bif !decide (v4=decide (x1.1<0)) then bif v4 then some ((-1), 0,PUnit.unit) else some (1,0,PUnit.unit) else jn ((Int×Int)×(Int×Int)×PUnit) (Int×Int×PUnit) (fun (x:(Int×Int)×(Int×Int)×PUnit)=>aa (cQ x.1 x.2.1) fun (t:Bool)=>bif t then some ((-1),0,PUnit.unit) else aa (cQ x.2.1 x.1) fun (t:Bool)=>bif t then some (1, 0,PUnit.unit) else some (0,0,PUnit.unit)) fun (j:(Int×Int)×(Int×Int)×PUnit->Option (Int×Int×PUnit))=>bif v4 then j (t_2,t,PUnit.unit) else j (t,t_2,PUnit.unit) else none else none else none
def gE (x0:Int×Int) (x1:Int×Int):Option (Int×Int×Unit):=tT lpK jnK aH au aU cQ x0 x1
abbrev t39:=(Int×Int)->(Int×Int)->Option (Int×Int×Unit)
def k39 (gE:t39):Ctr:=⟨[T49,T49],[],[],.tup [i64,i64],fun x _ _=>gE x.1 x.2.1⟩
def c39:Ctr:=k39 gE
theorem e39 (lp:Lp) (jn:Jn) (aH:t77) (au:t72) (aU:t76) (cQ:t79):∀(x:TsS c39.as) (F:TsF c39.fs) (y:TsS c39.cs),tT lp jn aH au aU cQ x.1 x.2.1=cb lp jn (cx [(79,k79 cQ),(76,k76 aU),(72,k72 au),(77,k77 aH)] [(134,bJ)]) al 4 39 f39 c39 x F y:=fun x F y=>by kernel_rfl
theorem SG:c39.ok prog 39:=Ctr.of_den (ap (ah (ah (ah (ah (b7) (by kernel_rfl) KJ) (by kernel_rfl) Kg) (by kernel_rfl) Pj) (by kernel_rfl) R7)) aX (hl:=al) (d:=4) func39 rfl (by decide) (e39 lpK jnK aH au aU cQ)
def qB (_:Lp) (_:Jn) (gE:t39) (x0:Int×Int) (x1:Int):Option Int :=
 aa (gE x0 (x1,1)) fun (t:Int×Int×PUnit)=>some t.1
def fX (x0:Int×Int) (x1:Int):Option Int:=qB lpK jnK gE x0 x1
abbrev QJ:=(Int×Int)->(Int)->Option (Int)
def K6:Ctr:=⟨[T49,i64],[],[],.one i64,fun x _ _=>fX x.1 x.2.1⟩
theorem SA (lp:Lp) (jn:Jn) (gE:t39):∀(x:TsS K6.as) (F:TsF K6.fs) (y:TsS K6.cs),qB lp jn gE x.1 x.2.1=cb lp jn (cx [(39,k39 gE)] [(134,bJ)]) al 4 144 f144 K6 x F y:=fun x F y=>by kernel_rfl
theorem Qd:K6.ok prog 144:=Ctr.of_den (ap (ah (b7) (by kernel_rfl) SG)) aX (hl:=al) (d:=4) func144 rfl (by decide) (SA lpK jnK gE)
def mO (lp:Lp) (_:Jn) (x0:(List Int)×List ((List Int)×Int×Int)) (x1:Int):Option (List Int) :=
 lp (List Int×Int×PUnit) (List Int) (fun (again:List Int×Int×PUnit->Option (List Int)) (x:List Int×Int×PUnit)=>bif decide (x.2.1<(↑x0.2.length:Int)) then bif inB x.2.1 x0.2.length then bif inB x1 (List.length (x0.2.getD x.2.1.toNat ([],0,0)).1) then bif c7 (List.length x.1+(1 : Nat)) 8 then again (x.1++[List.getD (x0.2.getD x.2.1.toNat ([],0,0)).1 x1.toNat 0],IntKind.wrap .i64 (x.2.1 + 1),PUnit.unit) else none else none else none else some x.1) ([],0,PUnit.unit)
def eE (x0:(List Int)×List ((List Int)×Int×Int)) (x1:Int):Option (List Int):=mO lpK jnK x0 x1
abbrev QW:=((List Int)×List ((List Int)×Int×Int))->(Int)->Option (List Int)
def Kv:Ctr:=⟨[T32,i64],[],[],.one (.sl i64),fun x _ _=>eE x.1 x.2.1⟩
theorem Ss (lp:Lp) (jn:Jn):∀(x:TsS Kv.as) (F:TsF Kv.fs) (y:TsS Kv.cs),mO lp jn x.1 x.2.1=cb lp jn (cx [] [(134,bJ)]) al 4 145 f145 Kv x F y:=fun x F y=>by kernel_rfl
theorem R0:Kv.ok prog 145:=Ctr.of_den (ap (b7)) aX (hl:=al) (d:=4) func145 rfl (by decide) (Ss lpK jnK)
def kO (_:Lp) (_:Jn) (_:Int):Option Int :=
 some 0
def dl (x0:Int):Option Int:=kO lpK jnK x0
abbrev t94:=(Int)->Option (Int)
def c94:Ctr:=⟨[i64],[],[],.one i64,fun x _ _=>dl x.1⟩
theorem e94 (lp:Lp) (jn:Jn):∀(x:TsS c94.as) (F:TsF c94.fs) (y:TsS c94.cs),kO lp jn x.1=cb lp jn (cx [] [(134,bJ)]) al 4 94 f94 c94 x F y:=fun x F y=>by kernel_rfl
theorem Tc:c94.ok prog 94:=Ctr.of_den (ap (b7)) aX (hl:=al) (d:=4) func94 rfl (by decide) (e94 lpK jnK)
def m7 (lp:Lp) (_:Jn) (x0:(List Int)×List ((List Int)×Int×Int)):Option (List Int) :=
 lp (List Int×Int×PUnit) (List Int) (fun (again:List Int×Int×PUnit->Option (List Int)) (x:List Int×Int×PUnit)=>bif decide (x.2.1<(↑x0.2.length:Int)) then bif inB x.2.1 x0.2.length then bif c7 (List.length x.1+1) 8 then again (x.1++[(x0.2.getD x.2.1.toNat ([],0,(0 : Int))).2.2],IntKind.wrap .i64 (x.2.1+1),PUnit.unit) else none else none else some x.1) ([],0,PUnit.unit)
def eA (x0:(List Int)×List ((List Int)×Int×Int)):Option (List Int):=m7 lpK jnK x0
abbrev t96:=((List Int)×List ((List Int)×Int×Int))->Option (List Int)
def c96:Ctr:=⟨[T32],[],[],.one (.sl i64),fun x _ _=>eA x.1⟩
theorem e96 (lp:Lp) (jn:Jn):∀(x:TsS c96.as) (F:TsF c96.fs) (y:TsS c96.cs),m7 lp jn x.1=cb lp jn (cx [] [(134,bJ)]) al 4 96 f96 c96 x F y:=fun x F y=>by kernel_rfl
theorem TS:c96.ok prog 96:=Ctr.of_den (ap (b7)) aX (hl:=al) (d:=4) func96 rfl (by decide) (e96 lpK jnK)
def mY (lp:Lp) (_:Jn) (x0:(List Int)×List ((List Int)×Int×Int)) (x1:List (Int×Int)):Option Bool :=
 lp (Int×PUnit) Bool (fun (again:Int×PUnit->Option Bool) (x:Int×PUnit) =>
 let v6:Bool:=inB x.1 x1.length;
 let v7:Bool:=decide ((x0.2.getD x.1.toNat ([],0,0)).2.1=1);
 let v8:Bool:=decide ((x0.2.getD x.1.toNat ([],0,0)).2.1=2);
 let v9:Bool:=!v7;
 let v10:Bool:=bif v7 then decide ((x1.getD x.1.toNat (0,0)).1>0) else false;
 let v11:Bool:=!v10;
 let v12:Bool:=!v11;
 let v13:Bool:=v9||v7;
 let v14:Bool:=v11&&v8;
 let v15:Bool:=!v14;
 let v16:Bool:=v12||v11;
 let v17:Bool:=v15||v14;bif decide (x.1<(↑x0.2.length:Int)) then bif inB x.1 x0.2.length then bif v13&&(v13&&(v9||v6)) then bif v13 then bif v13 then bif v13 then bif v13 then bif v16 then bif v16 then bif v16 then bif v17&&(v17&&(v15||v6)) then bif v17 then bif v17 then bif v17 then bif (v12||v16)&&(v12||(!v8||(v12 || v14))) then bif v10||v11 then bif bif v10 then true else bif v8 then decide ((x1.getD x.1.toNat (0,0)).1<0) else false then some false else again (IntKind.wrap .i64 (x.1+1),PUnit.unit) else none else none else none else none else none else none else none else none else none else none else none else none else none else none else none else some true) (0,PUnit.unit)
def eC (x0:(List Int)×List ((List Int)×Int×Int)) (x1:List (Int×Int)):Option Bool:=mY lpK jnK x0 x1
abbrev t97:=((List Int)×List ((List Int)×Int×Int))->(List (Int×Int))->Option (Bool)
def c97:Ctr:=⟨[T32,(.sl T49)],[],[],.one .bool,fun x _ _=>eC x.1 x.2.1⟩
theorem e97 (lp:Lp) (jn:Jn):∀(x:TsS c97.as) (F:TsF c97.fs) (y:TsS c97.cs),mY lp jn x.1 x.2.1=cb lp jn (cx [] [(134,bJ)]) al 4 97 f97 c97 x F y:=fun x F y=>by kernel_rfl
theorem S6:c97.ok prog 97:=Ctr.of_den (ap (b7)) aX (hl:=al) (d:=4) func97 rfl (by decide) (e97 lpK jnK)
def mi (lp:Lp) (_:Jn) (bj:t91) (eV:t92) (fX:QJ) (eE:QW) (dl:t94) (eA:t96) (eC:t97) (cK:t95) (x0:(List Int)×List ((List Int)×Int×Int)) (x1:List (Int×Int)):Option (Bool×Int×Unit) :=
 aa (bj x0) fun (t:Bool) =>
 let v5:Bool:=!t;
 let v6:Bool:=!v5;
 let v7:Bool:=!v6||v6;bif v7 then aa (bif v6 then eV x1 else some false) fun (t:Bool)=>bif v7 then bif v5||v6 then bif bif v5 then true else !t then some (false, 1,PUnit.unit) else bif !decide ((↑x1.length:Int)=(↑x0.2.length:Int)) then some (false,3,PUnit.unit) else lp (Bool×Int×Int×PUnit) (Bool × Int×PUnit) (fun (again:Bool×Int×Int×PUnit->Option (Bool×Int×PUnit)) (x:Bool×Int×Int×PUnit)=>bif decide (x.2.1<(↑x0.1.length:Int)) then aa (eE x0 x.2.1) fun (t:List Int)=>aa (cK x.2.2.1 t x1) fun (t:Int×Int×Int)=>aa (dl x.2.1) fun (t_1:Int)=>aa (fX t.2 t_1) fun (t_2:Int) =>
 let v15:Bool:=decide (t_2<=0);bif !v15||v15 then again (bif v15 then x.1 else false,IntKind.wrap .i64 (x.2.1+1),t.1,PUnit.unit) else none else aa (eA x0) fun (t:List Int)=>aa (cK x.2.2.1 t x1) fun (t:Int×Int×Int) =>
 let v13:Bool:=decide (t.2.1>0);
 let v14:Bool:=!v13||v13;bif v14&&v14 then aa (bif v13 then eC x0 x1 else some false) fun (t_1:Bool) =>
 let v16:Bool:=bif v13 then t_1 else false;
 let v17:Bool:=bif v16 then x.1 else false;
 let v18:Bool:=!v17||v17;bif v14 then bif !v16||v16 then bif v18 then bif v18 then bif v18 then some (bif v17 then decide (t.1=0) else false,t.1,PUnit.unit) else none else none else none else none else none else none) (true,0,0,PUnit.unit) else none else none else none
def cZ (x0:(List Int)×List ((List Int)×Int×Int)) (x1:List (Int×Int)):Option (Bool×Int×Unit):=mi lpK jnK bj eV fX eE dl eA eC cK x0 x1
abbrev t47:=((List Int)×List ((List Int)×Int×Int))->(List (Int×Int))->Option (Bool×Int×Unit)
def k47 (cZ:t47):Ctr:=⟨[T32,(.sl T49)],[],[],.tup [.bool,i64],fun x _ _=>cZ x.1 x.2.1⟩
def c47:Ctr:=k47 cZ
theorem e47 (lp:Lp) (jn:Jn) (bj:t91) (eV:t92) (fX:QJ) (eE:QW) (dl:t94) (eA:t96) (eC:t97) (cK:t95):∀(x:TsS c47.as) (F:TsF c47.fs) (y:TsS c47.cs),mi lp jn bj eV fX eE dl eA eC cK x.1 x.2.1=cb lp jn (Cc Dc Db (Gi [] [(95,k95 cK)] (kP prog shs xh its [(97,⟨[T32,(.sl T49)],[],[],.one .bool,fun x _ _=>eC x.1 x.2.1⟩),(96,⟨[T32],[],[],.one (.sl i64),fun x _ _=>eA x.1⟩),(94,⟨[i64],[],[],.one i64,fun x _ _=>dl x.1⟩),(145,⟨[T32,i64],[],[],.one (.sl i64),fun x _ _=>eE x.1 x.2.1⟩),(144,⟨[T49,i64],[],[],.one i64,fun x _ _=>fX x.1 x.2.1⟩),(92,⟨[(.sl T49)],[],[],.one .bool,fun x _ _=>eV x.1⟩),(91,k91 bj)] [(134,bJ)]))) al 4 47 f47 c47 x F y:=fun x F y=>by kernel_rfl
theorem SR:c47.ok prog 47:=Ctr.of_den (ap (sa (ah (ah (ah (ah (ah (ah (ah (b7) (by kernel_rfl) QK) (by kernel_rfl) SE) (by kernel_rfl) Qd) (by kernel_rfl) R0) (by kernel_rfl) Tc) (by kernel_rfl) TS) (by kernel_rfl) S6) (pc) (FC (by kernel_rfl) Ta (oY)))) aX (hl:=al) (d:=4) func47 rfl (by decide) (e47 lpK jnK bj eV fX eE dl eA eC cK)
def oW (_:Lp) (_:Jn) (aV:t11) (cZ:t47) (x0:(List (ByteArray×Int))×List (ByteArray×(List (ByteArray×Int×Int×Int))×Bool)) (x1:List (Int×Int)):Option (Bool×Int×Unit) :=
 aa (aV x0) fun (t:(List Int×List (List Int×Int×Int))×Int×PUnit)=>bif !decide (t.2.1=0) then some (false,t.2.1,PUnit.unit) else aa (cZ t.1 x1) fun (t:Bool×Int×PUnit)=>some (t.1,t.2.1,PUnit.unit)
def bD (x0:(List (ByteArray×Int))×List (ByteArray×(List (ByteArray×Int×Int×Int))×Bool)) (x1:List (Int×Int)):Option (Bool×Int×Unit):=oW lpK jnK aV cZ x0 x1
abbrev t12:=((List (ByteArray×Int))×List (ByteArray×(List (ByteArray×Int×Int×Int))×Bool))->(List (Int×Int))->Option (Bool×Int×Unit)
def k12 (bD:t12):Ctr:=⟨[T25,(.sl T49)],[],[],.tup [.bool,i64],fun x _ _=>bD x.1 x.2.1⟩
def c12:Ctr:=k12 bD
theorem e12 (lp:Lp) (jn:Jn) (aV:t11) (cZ:t47):∀(x:TsS c12.as) (F:TsF c12.fs) (y:TsS c12.cs),oW lp jn aV cZ x.1 x.2.1=cb lp jn (cx [(47,k47 cZ),(11,k11 aV)] [(134,bJ)]) al 4 12 f12 c12 x F y:=fun x F y=>by kernel_rfl
theorem Ty:c12.ok prog 12:=Ctr.of_den (ap (ah (ah (b7) (by kernel_rfl) QY) (by kernel_rfl) SR)) aX (hl:=al) (d:=4) func12 rfl (by decide) (e12 lpK jnK aV cZ)
def o7 (_:Lp) (_:Jn) (x0:Int):Option Int :=
 
 let v3:Int:=IntKind.wrap .u64 x0;bif decide (x0<0) then some (IntKind.wrap .u64 (0 - v3)) else some v3
def bQ (x0:Int):Option Int:=o7 lpK jnK x0
abbrev KF:=(Int)->Option (Int)
def OS (bQ:KF):Ctr:=⟨[i64],[],[],.one (.int .u64),fun x _ _=>bQ x.1⟩
def Ka:Ctr:=OS bQ
theorem TM (lp:Lp) (jn:Jn):∀(x:TsS Ka.as) (F:TsF Ka.fs) (y:TsS Ka.cs),o7 lp jn x.1=cb lp jn (cx [] [(134,bJ)]) al 4 155 f155 Ka x F y:=fun x F y=>by kernel_rfl
theorem NY:Ka.ok prog 155:=Ctr.of_den (ap (b7)) aX (hl:=al) (d:=4) func155 rfl (by decide) (TM lpK jnK)
def jZ (lp:Lp) (_:Jn) (bQ:KF) (x0:List Int) (x1:Int):Option Int :=
 aa (bQ x1) fun (t:Int)=>lp (Int×Int×PUnit) Int (fun (again:Int×Int×PUnit->Option Int) (x:Int×Int×PUnit)=>bif decide (x.2.1<(↑x0.length : Int)) then bif inB x.2.1 x0.length then aa (bQ (x0.getD x.2.1.toNat 0)) fun (t:Int)=>again (IntKind.wrap .i64 (x.1 + IntKind.wrap .i64 t),IntKind.wrap .i64 (x.2.1+1),PUnit.unit) else none else some x.1) (IntKind.wrap .i64 (1+IntKind.wrap .i64 t), 0,PUnit.unit)
def cW (x0:List Int) (x1:Int):Option Int:=jZ lpK jnK bQ x0 x1
abbrev Q3:=(List Int)->(Int)->Option (Int)
def JV:Ctr:=⟨[(.sl i64),i64],[],[],.one i64,fun x _ _=>cW x.1 x.2.1⟩
theorem Sa (lp:Lp) (jn:Jn) (bQ:KF):∀(x:TsS JV.as) (F:TsF JV.fs) (y:TsS JV.cs),jZ lp jn bQ x.1 x.2.1=cb lp jn (cx [(155,OS bQ)] [(134,bJ)]) al 4 154 f154 JV x F y:=fun x F y=>by kernel_rfl
theorem RV:JV.ok prog 154:=Ctr.of_den (ap (ah (b7) (by kernel_rfl) NY)) aX (hl:=al) (d:=4) func154 rfl (by decide) (Sa lpK jnK bQ)
def jD (lp:Lp) (jn:Jn) (x0:List Int):Option Int :=
 jn PUnit Int (fun (_:PUnit)=>bif inB 0 x0.length then lp (Int×Int×PUnit) Int (fun (again:Int×Int×PUnit->Option Int) (x:Int×Int×PUnit)=>bif decide (x.2.1<(↑x0.length:Int)) then bif inB x.2.1 x0.length then again (if x0.getD x.2.1.toNat 0>x.1 then x0.getD x.2.1.toNat 0 else x.1,IntKind.wrap .i64 (x.2.1+1),PUnit.unit) else none else some x.1) (x0.getD 0 0,1,PUnit.unit) else none) fun (j:PUnit->Option Int)=>bif decide ((↑x0.length:Int)<1) then none else j PUnit.unit
def du (x0:List Int):Option Int:=jD lpK jnK x0
abbrev Qs:=(List Int)->Option (Int)
def IE:Ctr:=⟨[(.sl i64)],[],[],.one i64,fun x _ _=>du x.1⟩
theorem SO (lp:Lp) (jn:Jn):∀(x:TsS IE.as) (F:TsF IE.fs) (y:TsS IE.cs),jD lp jn x.1=cb lp jn (cx [] [(134,bJ)]) al 4 156 f156 IE x F y:=fun x F y=>by kernel_rfl
theorem Qu:IE.ok prog 156:=Ctr.of_den (ap (b7)) aX (hl:=al) (d:=4) func156 rfl (by decide) (SO lpK jnK)
def lO (lp:Lp) (_:Jn) (cW:Q3) (du:Qs) (x0:(List Int)×List ((List Int)×Int×Int)):Option Bool :=
 aa (cW x0.1 0) fun (t:Int)=>lp (List Int×Int×PUnit) Bool (fun (again:List Int×Int×PUnit->Option Bool) (x:List Int×Int×PUnit) =>
 let v6:List Int×Int×Int:=x0.2.getD x.2.1.toNat ([],0,0);bif decide (x.2.1<(↑x0.2.length:Int)) then bif inB x.2.1 x0.2.length then aa (cW v6.1 v6.2.2) fun (t:Int)=>bif c7 (List.length x.1+1) 8 then again (x.1++[t],IntKind.wrap .i64 (x.2.1+1),PUnit.unit) else none else none else lp (Int×Int×PUnit) Bool (fun (again:Int×Int×PUnit->Option Bool) (x_1:Int×Int×PUnit) =>
 let v9:Int:=x.1.getD x_1.2.1.toNat 0;bif decide (x_1.2.1<(↑x.1.length:Int)) then bif inB x_1.2.1 x.1.length then bif Nat.ble (Nat.succ x_1.2.1.toNat) x.1.length then bif nzB v9 then bif decide (x_1.1>IntKind.wrap .i64 (Int.tdiv 17592186044416 v9)) then some false else again (IntKind.wrap .i64 (x_1.1*v9),IntKind.wrap .i64 (x_1.2.1+1),PUnit.unit) else none else none else none else aa (du x.1) fun (t : Int)=>bif nzB t then some (decide (x_1.1<=IntKind.wrap .i64 (Int.tdiv 144115188075855872 t))) else none) (1,0,PUnit.unit)) ([t],0, PUnit.unit)
def cI (x0:(List Int)×List ((List Int)×Int×Int)):Option Bool:=lO lpK jnK cW du x0
abbrev Mc:=((List Int)×List ((List Int)×Int×Int))->Option (Bool)
def P8 (cI:Mc):Ctr:=⟨[T32],[],[],.one .bool,fun x _ _=>cI x.1⟩
def Ih:Ctr:=P8 cI
theorem TV (lp:Lp) (jn:Jn) (cW:Q3) (du:Qs):∀(x:TsS Ih.as) (F:TsF Ih.fs) (y:TsS Ih.cs),lO lp jn cW du x.1=cb lp jn (cx [(156,⟨[(.sl i64)],[],[],.one i64,fun x _ _=>du x.1⟩),(154,⟨[(.sl i64),i64],[],[],.one i64,fun x _ _=>cW x.1 x.2.1⟩)] [(134,bJ)]) al 4 108 f108 Ih x F y:=fun x F y=>by kernel_rfl
theorem Qg:Ih.ok prog 108:=Ctr.of_den (ap (ah (ah (b7) (by kernel_rfl) RV) (by kernel_rfl) Qu)) aX (hl:=al) (d:=4) func108 rfl (by decide) (TV lpK jnK cW du)
def fe (lp:Lp) (_:Jn) (x0:(List (List Int))×Int×(List Int)×(List Int)×(List Int)×Int×Int) (x1:Int):Option Int :=
 lp (Int×Int×PUnit) Int (fun (again:Int×Int×PUnit->Option Int) (x:Int×Int×PUnit) =>
 let v6:Int×PUnit:=(IntKind.wrap .i64 (x.2.1+1),PUnit.unit);
 let v7:List Int:=x0.1.getD x.2.1.toNat [];bif decide (x.2.1<(↑x0.1.length:Int)) then bif inB x.2.1 x0.1.length then bif inB x.2.1 x0.2.2.1.length then bif decide (x0.2.2.1.getD x.2.1.toNat 0>=x0.2.2.2.2.2.1) then bif inB x1 v7.length then again (IntKind.wrap .i64 (x.1+v7.getD x1.toNat 0),v6) else none else again (x.1,v6) else none else none else some x.1) (0,0,PUnit.unit)
def aB (x0:(List (List Int))×Int×(List Int)×(List Int)×(List Int)×Int×Int) (x1:Int):Option Int:=fe lpK jnK x0 x1
abbrev M3:=((List (List Int))×Int×(List Int)×(List Int)×(List Int)×Int×Int)->(Int)->Option (Int)
def Qp (aB:M3):PCtr:=⟨GA,[i64],.one i64,fun x y=>aB x y.1⟩
def Nn:PCtr:=Qp aB
theorem Tq (lp:Lp) (jn:Jn):∀(x:Nn.s.T) (y:TsS Nn.as),fe lp jn x y.1=DN lp jn (cx [] [(134,bJ)]) al 4 126 f126 Nn x y:=fun x y=>by kernel_rfl
theorem RA:Nn.ok prog 126:=PCtr.of_den (ap (b7)) aX (hl:=al) (d:=4) func126 rfl (by decide) (Tq lpK jnK)
def kE (_:Lp) (_:Jn) (a5:zY) (bQ:KF) (x0:Int) (x1:Int):Option (Bool×Int×Int) :=
 
 let v4:Bool:=!decide (decide (x0<0)=decide (x1<0));
 let v5:Bool:=!v4;
 let v6:Bool:=v5||v4;aa (bQ x0) fun (t:Int)=>aa (bQ x1) fun (t_1:Int)=>aa (a5 t t_1) fun (t:Int×Int×PUnit) =>
 let v10:Bool:=!decide (t.1=0);
 let v11:Bool:=v4&&!v10;bif v6 then bif v6 then bif !v11||v11 then bif (v5||v6)&&(v5||(v10||(v5||v11))) then bif v6 then some (bif v4 then bif v10 then true else !decide (t.2.1=0) else false,t.1,t.2.1) else none else none else none else none else none
def bw (x0:Int) (x1:Int):Option (Bool×Int×Int):=kE lpK jnK a5 bQ x0 x1
abbrev KN:=(Int)->(Int)->Option (Bool×Int×Int)
def Pa (bw:KN):Ctr:=⟨[i64,i64],[],[],.one rZ,fun x _ _=>bw x.1 x.2.1⟩
def KB:Ctr:=Pa bw
theorem Tu (lp:Lp) (jn:Jn) (a5:zY) (bQ:KF):∀(x:TsS KB.as) (F:TsF KB.fs) (y:TsS KB.cs),kE lp jn a5 bQ x.1 x.2.1=cb lp jn (cx [(155,OS bQ),(122,Ht a5)] [(134,bJ)]) al 4 175 f175 KB x F y:=fun x F y=>by kernel_rfl
theorem NT:KB.ok prog 175:=Ctr.of_den (ap (ah (ah (b7) (by kernel_rfl) EW) (by kernel_rfl) NY)) aX (hl:=al) (d:=4) func175 rfl (by decide) (Tu lpK jnK a5 bQ)
def fu (_:Lp) (_:Jn) (x0:Bool×Int×Int) (x1:Bool×Int×Int):Option Int :=
 
 let v4:Bool:=decide (x0.2.1=x1.2.1);
 let v5:Bool:=!v4;
 let v6:Bool:=v5||v4;
 let v7:Bool:=!v5||v5;
 let v8:Bool:=bif v5 then decide (x0.2.1<x1.2.1) else false;
 let v9:Bool:=!v8;
 let v10:Bool:=!v9;
 let v11:Bool:=v9&&v4;
 let v12:Bool:=v10||v9;
 let v13:Bool:=!v11||v11;bif v7 then bif v7 then bif v7&&v7 then bif v7 then bif v12 then bif v12 then bif v12&&v12 then bif v12 then bif v13 then bif v13 then bif v13&&v13 then bif (v10||v12)&&(v10||(v5||(v10||v11))) then bif v8||v9 then bif bif v8 then true else bif v4 then decide (x0.2.2<x1.2.2) else false then some (-1) else bif v6 then bif v6 then bif v6&&v6 then bif v6 then bif bif v4 then decide (x0.2.2=x1.2.2) else false then some 0 else some 1 else none else none else none else none else none else none else none else none else none else none else none else none else none else none else none else none else none
def ax (x0:Bool×Int×Int) (x1:Bool×Int×Int):Option Int:=fu lpK jnK x0 x1
abbrev KS:=(Bool×Int×Int)->(Bool×Int×Int)->Option (Int)
def Pd (ax:KS):Ctr:=⟨[rZ,rZ],[],[],.one i64,fun x _ _=>ax x.1 x.2.1⟩
def JK:Ctr:=Pd ax
theorem S9 (lp:Lp) (jn:Jn):∀(x:TsS JK.as) (F:TsF JK.fs) (y:TsS JK.cs),fu lp jn x.1 x.2.1=cb lp jn (cx [] [(134,bJ)]) al 4 184 f184 JK x F y:=fun x F y=>by kernel_rfl
theorem N1:JK.ok prog 184:=Ctr.of_den (ap (b7)) aX (hl:=al) (d:=4) func184 rfl (by decide) (S9 lpK jnK)
def fW (_:Lp) (jn:Jn) (ax:KS) (x0:Bool×Int×Int) (x1:Bool×Int×Int):Option (Bool×Int×Int) :=
 
 let v4:Bool:=!x0.1;
 let v5:Bool:=!x1.1;
 let v6:Bool:=!v4;
 let v7:Bool:=v4&&v5;
 let v8:Bool:=v6||v4;
 let v9:Bool:=!v7;
 let v10:Bool:=v9||v7;
 let v11:Bool:=!decide (x1.2.1=0);
 let v12:Bool:=v7&&!v11;
 let v13:Bool:=decide ((0:Int)<=0)&&decide ((0:Int)<=1);
 let v14:Bool:=!v12||v12;bif !decide (x0.1=x1.1) then bif v13 then bif decide (0<=mG x0.2.2 x1.2.2 0)&&decide (mG x0.2.2 x1.2.2 (0 : Int)<=1) then bif v8 then bif v8 then bif v8 then bif v10 then bif v10 then bif v10 then bif v14 then bif v14 then bif (v9||v10)&&(v9||(v11||(v9||v12))) then bif (v6 || v8)&&(v6||(!v5||(v6||v7))) then bif x0.1||v4 then some (bif x0.1 then true else bif v5 then bif v11 then true else !decide (x1.2.2=0) else false,ul x0.2.1 x1.2.1 (mG x0.2.2 x1.2.2 0),ul x0.2.2 x1.2.2 0) else none else none else none else none else none else none else none else none else none else none else none else none else none else aa (ax x0 x1) fun (t:Int)=>jn (Bool×(Bool×Int×Int)×(Bool×Int×Int)×PUnit) (Bool×Int×Int) (fun (x:Bool×(Bool×Int×Int)×(Bool×Int×Int)×PUnit) =>
 let v17:Bool:=!x.1;
 let v18:Bool:=v17||x.1;
 let v19:Bool:=!decide (qO x.2.1.2.1 x.2.2.1.2.1 (lB x.2.1.2.2 x.2.2.1.2.2 0)=0);
 let v20:Bool:=x.1&&!v19;bif v13 then bif decide (0<=lB x.2.1.2.2 x.2.2.1.2.2 0)&&decide (lB x.2.1.2.2 x.2.2.1.2.2 (0 : Int)<=1) then bif v18 then bif v18 then bif !v20||v20 then bif (v17||v18)&&(v17||(v19||(v17||v20))) then bif v18 then some (bif x.1 then bif v19 then true else !decide (qO x.2.1.2.2 x.2.2.1.2.2 0=0) else false,qO x.2.1.2.1 x.2.2.1.2.1 (lB x.2.1.2.2 x.2.2.1.2.2 (0 : Int)),qO x.2.1.2.2 x.2.2.1.2.2 0) else none else none else none else none else none else none else none) fun (j:Bool×(Bool×Int×Int)×(Bool×Int × Int)×PUnit->Option (Bool×Int×Int))=>bif decide (t<0) then j (v4,x1,x0,PUnit.unit) else j (x0.1,x0,x1,PUnit.unit)
def bu (x0:Bool×Int×Int) (x1:Bool×Int×Int):Option (Bool×Int×Int):=fW lpK jnK ax x0 x1
abbrev Oy:=(Bool×Int×Int)->(Bool×Int×Int)->Option (Bool×Int×Int)
def Q4 (bu:Oy):Ctr:=⟨[rZ,rZ],[],[],.one rZ,fun x _ _=>bu x.1 x.2.1⟩
def Jo:Ctr:=Q4 bu
theorem Sj (lp:Lp) (jn:Jn) (ax:KS):∀(x:TsS Jo.as) (F:TsF Jo.fs) (y:TsS Jo.cs),fW lp jn ax x.1 x.2.1=cb lp jn (cx [(184,Pd ax)] [(134,bJ)]) al 4 176 f176 Jo x F y:=fun x F y=>by kernel_rfl
theorem QN:Jo.ok prog 176:=Ctr.of_den (ap (ah (b7) (by kernel_rfl) N1)) aX (hl:=al) (d:=4) func176 rfl (by decide) (Sj lpK jnK ax)
def gd (_:Lp) (_:Jn) (bH:CV) (x0:Bool×Int×Int) (x1:Int):Option Int :=
 aa (bH x0.2.1 x0.2.2 (IntKind.wrap .u64 x1)) fun (t:Int×Int×PUnit) =>
 let v5:Int:=IntKind.wrap .i64 t.1;bif x0.1 then some (IntKind.wrap .i64 (0 - v5)) else some v5
def bM (x0:Bool×Int×Int) (x1:Int):Option Int:=gd lpK jnK bH x0 x1
abbrev Rn:=(Bool×Int×Int)->(Int)->Option (Int)
def HQ:Ctr:=⟨[rZ,i64],[],[],.one i64,fun x _ _=>bM x.1 x.2.1⟩
theorem Sd (lp:Lp) (jn:Jn) (bH:CV):∀(x:TsS HQ.as) (F:TsF HQ.fs) (y:TsS HQ.cs),gd lp jn bH x.1 x.2.1=cb lp jn (cx [(125,Mz bH)] [(134,bJ)]) al 4 177 f177 HQ x F y:=fun x F y=>by kernel_rfl
theorem Rf:HQ.ok prog 177:=Ctr.of_den (ap (ah (b7) (by kernel_rfl) Ks)) aX (hl:=al) (d:=4) func177 rfl (by decide) (Sd lpK jnK bH)
def gH (lp:Lp) (_:Jn) (bw:KN) (bu:Oy) (bM:Rn) (x0:List Nat×List (Option (List Int))) (x1:Int) (x2:List Int) (x3:List Int) (x4:List Int) (x5:Int) (x6:Int) (x7:Int) (x8:Int):Option ((List Nat×List (Option (List Int)))×Int×(List Int)×(List Int)×(List Int)×Int×Int×Unit) :=
 
 let v11:List Int×List Int×List Int×Int×Int×PUnit:=(x2.set x7.toNat x8,x3,x4,x5,x6,PUnit.unit);bif inB x7 x0.1.length then bif Nat.ble (Nat.succ x7.toNat) x0.1.length then bif inB x8 (List.length (af x0.2 (x0.1.getD x7.toNat 0))) then bif Nat.ble (Nat.succ x8.toNat) (List.length (af x0.2 (x0.1.getD x7.toNat 0))) then lp (Int×(List Nat×List (Option (List Int)))×PUnit) ((List Nat×List (Option (List Int)))×Int×List Int×List Int×List Int×Int×Int×PUnit) (fun (again:Int×(List Nat×List (Option (List Int)))×PUnit->Option ((List Nat×List (Option (List Int)))×Int×List Int×List Int×List Int×Int×Int×PUnit)) (x:Int×(List Nat×List (Option (List Int)))×PUnit) =>
 let v14:Int:=IntKind.wrap .i64 (x.1+1);
 let v15:(List Nat×List (Option (List Int)))×PUnit:=(x.2.1,PUnit.unit);
 let v16:Int×(List Nat×List (Option (List Int)))×PUnit:=(0,v15);bif decide (x.1<(↑x0.1.length:Int)) then bif inB x.1 x.2.1.1.length then bif Nat.ble (Nat.succ x.1.toNat) x.2.1.1.length then bif decide (x.1=x7) then again (v14,v15) else bif inB x8 (List.length (af x.2.1.2 (x.2.1.1.getD x.1.toNat 0))) then bif Nat.ble (Nat.succ x8.toNat) (List.length (af x.2.1.2 (x.2.1.1.getD x.1.toNat 0))) then bif dL x.2.1.2 (x.2.1.1.getD x.1.toNat 0) then lp (Int×(List Nat×List (Option (List Int)))×PUnit) ((List Nat×List (Option (List Int)))×Int × List Int×List Int×List Int×Int×Int×PUnit) (fun (again_1:Int×(List Nat×List (Option (List Int)))×PUnit->Option ((List Nat×List (Option (List Int)))×Int×List Int × List Int×List Int×Int×Int×PUnit)) (x_1:Int×(List Nat×List (Option (List Int)))×PUnit)=>bif decide (x_1.1<(↑(List.length (af x.2.1.2 (x.2.1.1.getD x.1.toNat 0))):Int)) then bif inB x_1.1 (List.length (af x_1.2.1.2 (x.2.1.1.getD x.1.toNat 0))) then bif Nat.ble (Nat.succ x_1.1.toNat) (List.length (af x_1.2.1.2 (x.2.1.1.getD x.1.toNat 0))) then aa (bw (List.getD (af x_1.2.1.2 (x.2.1.1.getD x.1.toNat 0)) x_1.1.toNat 0) (List.getD (af x0.2 (x0.1.getD x7.toNat 0)) x8.toNat 0)) fun (t:Bool×Int×Int)=>bif inB x7 x_1.2.1.1.length then bif Nat.ble (Nat.succ x7.toNat) x_1.2.1.1.length then bif inB x_1.1 (List.length (af x_1.2.1.2 (x_1.2.1.1.getD x7.toNat 0))) then bif Nat.ble (Nat.succ x_1.1.toNat) (List.length (af x_1.2.1.2 (x_1.2.1.1.getD x7.toNat 0))) then aa (bw (List.getD (af x.2.1.2 (x.2.1.1.getD x.1.toNat 0)) x8.toNat 0) (List.getD (af x_1.2.1.2 (x_1.2.1.1.getD x7.toNat 0)) x_1.1.toNat 0)) fun (t_1:Bool×Int×Int)=>aa (bu t t_1) fun (t:Bool × Int×Int)=>aa (bM t x1) fun (t:Int)=>bif inB x_1.1 (List.length (af x_1.2.1.2 (x.2.1.1.getD x.1.toNat 0))) then bif Nat.ble (Nat.succ x_1.1.toNat) (List.length (af x_1.2.1.2 (x.2.1.1.getD x.1.toNat 0))) then again_1 (IntKind.wrap .i64 (x_1.1+(1 : Int)),(x_1.2.1.1,x_1.2.1.2.set (x.2.1.1.getD x.1.toNat 0) (some (List.set (af x_1.2.1.2 (x.2.1.1.getD x.1.toNat 0)) x_1.1.toNat t))),PUnit.unit) else none else none else none else none else none else none else none else none else again (v14,x_1.2.1,PUnit.unit)) v16 else none else none else none else none else none else bif inB x7 x2.length then bif Nat.ble (Nat.succ x7.toNat) x2.length then bif decide (List.getD (af x0.2 (x0.1.getD x7.toNat 0)) x8.toNat 0<0) then lp (Int×(List Nat×List (Option (List Int)))×PUnit) ((List Nat×List (Option (List Int))) × Int×List Int×List Int×List Int×Int×Int×PUnit) (fun (again:Int×(List Nat×List (Option (List Int)))×PUnit->Option ((List Nat×List (Option (List Int)))×Int×List Int×List Int×List Int×Int×Int×PUnit)) (x_1:Int×(List Nat×List (Option (List Int)))×PUnit)=>bif decide (x_1.1<(↑x.2.1.1.length:Int)) then bif inB x_1.1 x_1.2.1.1.length then bif Nat.ble (Nat.succ x_1.1.toNat) x_1.2.1.1.length then bif dL x_1.2.1.2 (x_1.2.1.1.getD x_1.1.toNat 0) then lp (Int×(List Nat×List (Option (List Int)))×PUnit) ((List Nat×List (Option (List Int)))×Int×List Int×List Int×List Int×Int×Int×PUnit) (fun (again_1:Int×(List Nat×List (Option (List Int)))×PUnit->Option ((List Nat×List (Option (List Int)))×Int×List Int×List Int×List Int×Int×Int×PUnit)) (x:Int × (List Nat×List (Option (List Int)))×PUnit)=>bif decide (x.1<(↑(List.length (af x_1.2.1.2 (x_1.2.1.1.getD x_1.1.toNat 0))):Int)) then bif inB x.1 (List.length (af x.2.1.2 (x_1.2.1.1.getD x_1.1.toNat 0))) then bif Nat.ble (Nat.succ x.1.toNat) (List.length (af x.2.1.2 (x_1.2.1.1.getD x_1.1.toNat 0))) then bif inB x.1 (List.length (af x.2.1.2 (x_1.2.1.1.getD x_1.1.toNat 0))) then bif Nat.ble (Nat.succ x.1.toNat) (List.length (af x.2.1.2 (x_1.2.1.1.getD x_1.1.toNat 0))) then again_1 (IntKind.wrap .i64 (x.1+(1 : Int)),(x.2.1.1,x.2.1.2.set (x_1.2.1.1.getD x_1.1.toNat 0) (some (List.set (af x.2.1.2 (x_1.2.1.1.getD x_1.1.toNat 0)) x.1.toNat (IntKind.wrap .i64 (0 - List.getD (af x.2.1.2 (x_1.2.1.1.getD x_1.1.toNat 0)) x.1.toNat 0))))),PUnit.unit) else none else none else none else none else again (IntKind.wrap .i64 (x_1.1+1),x.2.1,PUnit.unit)) (0,x_1.2.1, PUnit.unit) else none else none else none else some (x_1.2.1,IntKind.wrap .i64 (0 - List.getD (af x0.2 (x0.1.getD x7.toNat 0)) x8.toNat 0),v11)) v16 else some (x.2.1,List.getD (af x0.2 (x0.1.getD x7.toNat 0)) x8.toNat 0,v11) else none else none) (0,x0, PUnit.unit) else none else none else none else none
def aJ (x0:List Nat×List (Option (List Int))) (x1:Int) (x2:List Int) (x3:List Int) (x4:List Int) (x5:Int) (x6:Int) (x7:Int) (x8:Int):Option ((List Nat×List (Option (List Int)))×Int×(List Int)×(List Int)×(List Int)×Int×Int×Unit):=gH lpK jnK bw bu bM x0 x1 x2 x3 x4 x5 x6 x7 x8
abbrev KU:=(List Nat×List (Option (List Int)))->(Int)->(List Int)->(List Int)->(List Int)->(Int)->(Int)->(Int)->(Int)->Option ((List Nat×List (Option (List Int)))×Int×(List Int)×(List Int)×(List Int)×Int×Int×Unit)
def PR (aJ:KU):SCtr:=⟨[.b [.x (.tab 29 .ref 3 i64),.d i64,.row 3 i64,.row 3 i64,.row 3 i64,.d i64,.d i64],.d i64,.d i64],[],fun x=>aJ x.1 x.2.1 x.2.2.1 x.2.2.2.1 x.2.2.2.2.1 x.2.2.2.2.2.1 x.2.2.2.2.2.2.1 x.2.2.2.2.2.2.2.1 x.2.2.2.2.2.2.2.2.1⟩
def Oq:SCtr:=PR aJ
theorem SQ (lp:Lp) (jn:Jn) (bw:KN) (bu:Oy) (bM:Rn):∀x:TsR (rhI 0 Oq.ks),gH lp jn bw bu bM x.1 x.2.1 x.2.2.1 x.2.2.2.1 x.2.2.2.2.1 x.2.2.2.2.2.1 x.2.2.2.2.2.2.1 x.2.2.2.2.2.2.2.1 x.2.2.2.2.2.2.2.2.1=JI lp jn (Dn.look []) (cx [(177,⟨[rZ,i64],[],[],.one i64,fun x _ _=>bM x.1 x.2.1⟩),(176,Q4 bu),(175,Pa bw)] [(134,bJ)]) al 4 157 f157 Oq x:=fun x=>by kernel_rfl
theorem N0:Oq.ok prog 157:=SCtr.of_den (ap (ah (ah (ah (b7) (by kernel_rfl) NT) (by kernel_rfl) QN) (by kernel_rfl) Rf)) aX (sf) (hl:=al) (d:=4) func157 rfl (by decide) (SQ lpK jnK bw bu bM)
set_option maxRecDepth 100000
def gI (_:Lp) (_:Jn) (ax:KS) (x0:Bool×Int×Int) (x1:Bool×Int×Int):Option Int :=
 
 let v4:Bool:=!decide (x0.1=x1.1);
 let v5:Bool:=!v4||v4;bif v5 then bif v5 then bif bif v4 then x0.1 else false then some (-1) else bif v4 then some 1 else bif x0.1 then aa (ax x1 x0) fun (t:Int)=>some t else aa (ax x0 x1) fun (t:Int)=>some t else none else none
def cg (x0:Bool×Int×Int) (x1:Bool×Int×Int):Option Int:=gI lpK jnK ax x0 x1
abbrev R4:=(Bool×Int×Int)->(Bool×Int×Int)->Option (Int)
def JA:Ctr:=⟨[rZ,rZ],[],[],.one i64,fun x _ _=>cg x.1 x.2.1⟩
theorem SI (lp:Lp) (jn:Jn) (ax:KS):∀(x:TsS JA.as) (F:TsF JA.fs) (y:TsS JA.cs),gI lp jn ax x.1 x.2.1=cb lp jn (cx [(184,Pd ax)] [(134,bJ)]) al 4 178 f178 JA x F y:=fun x F y=>by kernel_rfl
theorem Qc:JA.ok prog 178:=Ctr.of_den (ap (ah (b7) (by kernel_rfl) N1)) aX (hl:=al) (d:=4) func178 rfl (by decide) (SI lpK jnK ax)
def fT (lp:Lp) (_:Jn) (bw:KN) (cg:R4) (x0:(List (List Int))×Int×(List Int)×(List Int)×(List Int)×Int×Int) (x1:Int):Option Int :=
 lp (Int×Int×PUnit) Int (fun (again:Int×Int×PUnit->Option Int) (x:Int×Int×PUnit) =>
 let v6:Int×PUnit:=(IntKind.wrap .i64 (x.2.1+1),PUnit.unit);
 let v7:Bool:=inB x.1 x0.1.length;
 let v8:List Int:=x0.1.getD x.1.toNat [];
 let v9:List Int:=x0.1.getD x.2.1.toNat [];
 let v10:Bool:=inB x1 v9.length;bif decide (x.2.1<(↑x0.1.length:Int)) then bif inB x.2.1 x0.1.length then bif v10 then bif decide (v9.getD x1.toNat 0<=0) then again (x.1,v6) else bif decide (x.1<0) then again (x.2.1,v6) else bif inB x0.2.2.2.2.2.2 v9.length then bif v7 then bif inB x1 v8.length then aa (bw (v9.getD x0.2.2.2.2.2.2.toNat 0) (v8.getD x1.toNat 0)) fun (t:Bool × Int×Int)=>bif v7 then bif inB x0.2.2.2.2.2.2 v8.length then bif v10 then aa (bw (v8.getD x0.2.2.2.2.2.2.toNat 0) (v9.getD x1.toNat 0)) fun (t_1:Bool×Int×Int)=>aa (cg t t_1) fun (t:Int) =>
 let v14:Bool:=decide (t=0);
 let v15:Bool:=decide (t<0);
 let v16:Bool:=!v15;
 let v17:Bool:=!v16;
 let v18:Bool:=v16&&v14;
 let v19:Bool:=!v18;
 let v20:Bool:=v17||v16;
 let v21:Bool:=v19||v18;bif v20 then bif v20 then bif v21 then bif v21 then bif v21 then bif v21&&(v21&&(v19||inB x.2.1 x0.2.2.1.length)) then bif v21 then bif v21 then bif v21 then bif v21 then bif v21&&(v21&&(v19||inB x.1 x0.2.2.1.length)) then bif v21 then bif v21&&v21 then bif (v17||v20)&&(v17||(!v14 || (v17||v18))) then bif v15||v16 then bif bif v15 then true else bif v14 then decide (x0.2.2.1.getD x.2.1.toNat 0<x0.2.2.1.getD x.1.toNat 0) else false then again (x.2.1,v6) else again (x.1,v6) else none else none else none else none else none else none else none else none else none else none else none else none else none else none else none else none else none else none else none else none else none else none else none else some x.1) ((-1),0,PUnit.unit)
def aG (x0:(List (List Int))×Int×(List Int)×(List Int)×(List Int)×Int×Int) (x1:Int):Option Int:=fT lpK jnK bw cg x0 x1
abbrev Hz:=((List (List Int))×Int×(List Int)×(List Int)×(List Int)×Int×Int)->(Int)->Option (Int)
def OU (aG:Hz):PCtr:=⟨GA,[i64],.one i64,fun x y=>aG x y.1⟩
def M2:PCtr:=OU aG
theorem SP (lp:Lp) (jn:Jn) (bw:KN) (cg:R4):∀(x:M2.s.T) (y:TsS M2.as),fT lp jn bw cg x y.1=DN lp jn (cx [(178,⟨[rZ,rZ],[],[],.one i64,fun x _ _=>cg x.1 x.2.1⟩),(175,Pa bw)] [(134,bJ)]) al 4 158 f158 M2 x y:=fun x y=>by kernel_rfl
theorem N3:M2.ok prog 158:=PCtr.of_den (ap (ah (ah (b7) (by kernel_rfl) NT) (by kernel_rfl) Qc)) aX (hl:=al) (d:=4) func158 rfl (by decide) (SP lpK jnK bw cg)
def gL (lp:Lp) (_:Jn) (aJ:KU) (aB:M3) (aG:Hz) (x0:List Nat×List (Option (List Int))) (x1:Int) (x2:List Int) (x3:List Int) (x4:List Int) (x5:Int) (x6:Int):Option ((List Nat×List (Option (List Int)))×Int×(List Int)×(List Int)×(List Int)×Int×Int×Bool×Unit) :=
 lp ((List Nat×List (Option (List Int)))×Int×List Int×List Int×List Int×Int×Int×PUnit) ((List Nat×List (Option (List Int)))×Int×List Int×List Int×List Int×Int × Int×Bool×PUnit) (fun (again:(List Nat×List (Option (List Int)))×Int×List Int×List Int×List Int×Int×Int×PUnit->Option ((List Nat×List (Option (List Int)))×Int × List Int×List Int×List Int×Int×Int×Bool×PUnit)) (x:(List Nat×List (Option (List Int)))×Int×List Int×List Int×List Int×Int×Int×PUnit)=>lp (Int×Int × PUnit) ((List Nat×List (Option (List Int)))×Int×List Int×List Int×List Int×Int×Int×Bool×PUnit) (fun (again_1:Int×Int×PUnit->Option ((List Nat×List (Option (List Int)))×Int×List Int×List Int×List Int×Int×Int×Bool×PUnit)) (x_1:Int×Int×PUnit) =>
 let v13:Bool:=decide (x_1.1<0);
 let v14:Int×PUnit:=(IntKind.wrap .i64 (x_1.2.1+1),PUnit.unit);
 let v15:Bool:=decide (x_1.2.1<x.2.2.2.2.2.1);
 let v16:Bool:=!v15||v15;bif v16 then bif v16 then bif bif v15 then v13 else false then aa (bif List.all x.1.1 fun (x_2:Nat)=>dL x.1.2 x_2 then aB (List.map (fun (x_2:Nat)=>af x.1.2 x_2) x.1.1,x.2.1,x.2.2.1,x.2.2.2.1,x.2.2.2.2.1,x.2.2.2.2.2.1, x.2.2.2.2.2.2.1) x_1.2.1 else none) fun (t:Int)=>bif decide (t>0) then again_1 (x_1.2.1,v14) else again_1 (x_1.1,v14) else bif v13 then aa (bif List.all x.1.1 fun (x_2:Nat)=>dL x.1.2 x_2 then aB (List.map (fun (x_2:Nat)=>af x.1.2 x_2) x.1.1,x.2.1,x.2.2.1, x.2.2.2.1,x.2.2.2.2.1,x.2.2.2.2.2.1,x.2.2.2.2.2.2.1) x.2.2.2.2.2.2.1 else none) fun (t:Int)=>bif decide (t>0) then some (x.1,x.2.1,x.2.2.1,x.2.2.2.1,x.2.2.2.2.1,x.2.2.2.2.2.1,x.2.2.2.2.2.2.1,false,PUnit.unit) else lp (Int×(List Nat×List (Option (List Int)))×Int×List Int×List Int×List Int×Int×Int×PUnit) ((List Nat×List (Option (List Int)))×Int×List Int×List Int×List Int×Int×Int × Bool×PUnit) (fun (again:Int×(List Nat×List (Option (List Int)))×Int×List Int×List Int×List Int×Int×Int×PUnit->Option ((List Nat×List (Option (List Int)))×Int × List Int×List Int×List Int×Int×Int×Bool×PUnit)) (x_2:Int×(List Nat×List (Option (List Int)))×Int×List Int×List Int×List Int×Int×Int×PUnit)=>bif decide (x_2.1<(↑x.1.1.length:Int)) then lp (Int×(List Nat×List (Option (List Int)))×Int×List Int×List Int×List Int×Int×Int×PUnit) ((List Nat×List (Option (List Int)))×Int×List Int×List Int×List Int×Int×Int×Bool×PUnit) (fun (again_2:Int×(List Nat×List (Option (List Int)))×Int×List Int×List Int×List Int×Int×Int×PUnit->Option ((List Nat×List (Option (List Int)))×Int×List Int×List Int×List Int×Int×Int×Bool×PUnit)) (x:Int×(List Nat×List (Option (List Int)))×Int×List Int×List Int×List Int×Int×Int×PUnit) =>
 let v22:Int:=IntKind.wrap .i64 (x.1+1);
 let v23:Bool:=decide (x.1<x.2.2.2.2.2.2.1);
 let v24:Bool:=!v23;
 let v25:Bool:=v24||v23;
 let v26:(List Nat×List (Option (List Int)))×Int×List Int×List Int×List Int×Int×Int×PUnit:=(x.2.1,x.2.2.1,x.2.2.2.1,x.2.2.2.2.1, x.2.2.2.2.2.1,x.2.2.2.2.2.2.1,x.2.2.2.2.2.2.2.1,PUnit.unit);bif v25 then bif v25 then bif v25 then bif v25&&(v25&&(v24||inB x_2.1 x.2.2.2.1.length)) then bif v25&&(v24||Nat.ble (Nat.succ x_2.1.toNat) x.2.2.2.1.length) then bif v25 then bif v25 then bif v25 then bif v25 && v25 then bif v25 then bif bif v23 then decide (x.2.2.2.1.getD x_2.1.toNat 0>=x.2.2.2.2.2.2.1) else false then bif inB x_2.1 x.2.1.1.length then bif Nat.ble (Nat.succ x_2.1.toNat) x.2.1.1.length then bif inB x.1 (List.length (af x.2.1.2 (x.2.1.1.getD x_2.1.toNat 0))) then bif Nat.ble (Nat.succ x.1.toNat) (List.length (af x.2.1.2 (x.2.1.1.getD x_2.1.toNat 0))) then bif !decide (List.getD (af x.2.1.2 (x.2.1.1.getD x_2.1.toNat 0)) x.1.toNat 0=0) then aa (aJ x.2.1 x.2.2.1 x.2.2.2.1 x.2.2.2.2.1 x.2.2.2.2.2.1 x.2.2.2.2.2.2.1 x.2.2.2.2.2.2.2.1 x_2.1 x.1) fun (y:(List Nat×List (Option (List Int)))×Int×List Int×List Int×List Int×Int×Int×PUnit)=>again_2 (v22,y.1,y.2.1,y.2.2.1,y.2.2.2.1,y.2.2.2.2.1,y.2.2.2.2.2.1, y.2.2.2.2.2.2.1,PUnit.unit) else again_2 (v22,v26) else none else none else none else none else again (IntKind.wrap .i64 (x_2.1+1),v26) else none else none else none else none else none else none else none else none else none else none) (0,x_2.2.1,x_2.2.2.1,x_2.2.2.2.1,x_2.2.2.2.2.1, x_2.2.2.2.2.2.1,x_2.2.2.2.2.2.2.1,x_2.2.2.2.2.2.2.2.1,PUnit.unit) else some (x_2.2.1,x_2.2.2.1,x_2.2.2.2.1, x_2.2.2.2.2.1,x_2.2.2.2.2.2.1,x_2.2.2.2.2.2.2.1,x_2.2.2.2.2.2.2.2.1,true,PUnit.unit)) (0,x.1,x.2.1, x.2.2.1,x.2.2.2.1,x.2.2.2.2.1,x.2.2.2.2.2.1,x.2.2.2.2.2.2.1,PUnit.unit) else aa (bif List.all x.1.1 fun (x_2:Nat) => dL x.1.2 x_2 then aG (List.map (fun (x_2:Nat)=>af x.1.2 x_2) x.1.1,x.2.1,x.2.2.1,x.2.2.2.1,x.2.2.2.2.1, x.2.2.2.2.2.1,x.2.2.2.2.2.2.1) x_1.1 else none) fun (t:Int)=>aa (aJ x.1 x.2.1 x.2.2.1 x.2.2.2.1 x.2.2.2.2.1 x.2.2.2.2.2.1 x.2.2.2.2.2.2.1 t x_1.1) fun (y:(List Nat×List (Option (List Int)))×Int×List Int×List Int×List Int×Int × Int×PUnit)=>again (y.1,y.2.1,y.2.2.1,y.2.2.2.1,y.2.2.2.2.1,y.2.2.2.2.2.1,y.2.2.2.2.2.2.1,PUnit.unit) else none else none) ((-1),0,PUnit.unit)) (x0,x1,x2,x3,x4,x5,x6,PUnit.unit)
def a9 (x0:List Nat×List (Option (List Int))) (x1:Int) (x2:List Int) (x3:List Int) (x4:List Int) (x5:Int) (x6:Int):Option ((List Nat×List (Option (List Int)))×Int×(List Int)×(List Int)×(List Int)×Int×Int×Bool×Unit):=gL lpK jnK aJ aB aG x0 x1 x2 x3 x4 x5 x6
abbrev Mo:=(List Nat×List (Option (List Int)))->(Int)->(List Int)->(List Int)->(List Int)->(Int)->(Int)->Option ((List Nat×List (Option (List Int)))×Int×(List Int)×(List Int)×(List Int)×Int×Int×Bool×Unit)
def R6 (a9:Mo):SCtr:=⟨[.b [.x (.tab 29 .ref 3 i64),.d i64,.row 3 i64,.row 3 i64,.row 3 i64,.d i64,.d i64]],[(false,[.d .bool])],fun x=>a9 x.1 x.2.1 x.2.2.1 x.2.2.2.1 x.2.2.2.2.1 x.2.2.2.2.2.1 x.2.2.2.2.2.2.1⟩
def OT:SCtr:=R6 a9
theorem Tr (lp:Lp) (jn:Jn) (aJ:KU) (aB:M3) (aG:Hz):∀x:TsR (rhI 0 OT.ks),gL lp jn aJ aB aG x.1 x.2.1 x.2.2.1 x.2.2.2.1 x.2.2.2.2.1 x.2.2.2.2.2.1 x.2.2.2.2.2.2.1=JI lp jn (Dn.look [(157,PR aJ)]) (Cc Dc Db (Gi [(158,OU aG),(126,Qp aB)] [] (kP prog shs xh its [] [(134,bJ)]))) al 4 110 f110 OT x:=fun x=>by kernel_rfl
theorem Rr:OT.ok prog 110:=SCtr.of_den (ap (sa (b7) (jL (by kernel_rfl) N3 (jL (by kernel_rfl) RA (pc))) (oY))) aX (p5 N0 (sf)) (hl:=al) (d:=4) func110 rfl (by decide) (Tr lpK jnK aJ aB aG)
def hH (_:Lp) (_:Jn) (x0:(List (List Int))×Int×(List Int)×(List Int)×(List Int)×Int×Int) (x1:Int):Option Int :=
 bif decide (x1<(↑x0.2.2.2.2.1.length:Int)) then bif inB x1 x0.2.2.2.2.1.length then some (x0.2.2.2.2.1.getD x1.toNat 0) else none else some 0
def aK (x0:(List (List Int))×Int×(List Int)×(List Int)×(List Int)×Int×Int) (x1:Int):Option Int:=hH lpK jnK x0 x1
abbrev IK:=((List (List Int))×Int×(List Int)×(List Int)×(List Int)×Int×Int)->(Int)->Option (Int)
def Pk (aK:IK):PCtr:=⟨GA,[i64],.one i64,fun x y=>aK x y.1⟩
def Lr:PCtr:=Pk aK
theorem SC (lp:Lp) (jn:Jn):∀(x:Lr.s.T) (y:TsS Lr.as),hH lp jn x y.1=DN lp jn (cx [] [(134,bJ)]) al 4 112 f112 Lr x y:=fun x y=>by kernel_rfl
theorem Ol:Lr.ok prog 112:=PCtr.of_den (ap (b7)) aX (hl:=al) (d:=4) func112 rfl (by decide) (SC lpK jnK)
def fR (lp:Lp) (_:Jn) (aK:IK) (x0:(List (List Int))×Int×(List Int)×(List Int)×(List Int)×Int×Int) (x1:Int):Option Int :=
 aa (aK x0 x1) fun (t:Int)=>lp (Int×Int×PUnit) Int (fun (again:Int×Int×PUnit->Option Int) (x:Int×Int×PUnit) =>
 let v7:List Int:=x0.1.getD x.2.1.toNat [];bif decide (x.2.1<(↑x0.1.length:Int)) then bif inB x.2.1 x0.1.length then bif inB x.2.1 x0.2.2.1.length then aa (aK x0 (x0.2.2.1.getD x.2.1.toNat 0)) fun (t:Int)=>bif inB x1 v7.length then again (IntKind.wrap .i64 (x.1 - IntKind.wrap .i64 (t*v7.getD x1.toNat 0)),IntKind.wrap .i64 (x.2.1+1),PUnit.unit) else none else none else none else some x.1) (IntKind.wrap .i64 (t*x0.2.1),0,PUnit.unit)
def bE (x0:(List (List Int))×Int×(List Int)×(List Int)×(List Int)×Int×Int) (x1:Int):Option Int:=fR lpK jnK aK x0 x1
abbrev QX:=((List (List Int))×Int×(List Int)×(List Int)×(List Int)×Int×Int)->(Int)->Option (Int)
def Nk:PCtr:=⟨GA,[i64],.one i64,fun x y=>bE x y.1⟩
theorem SK (lp:Lp) (jn:Jn) (aK:IK):∀(x:Nk.s.T) (y:TsS Nk.as),fR lp jn aK x y.1=DN lp jn (Cc Dc Db (Gi [(112,Pk aK)] [] (kP prog shs xh its [] [(134,bJ)]))) al 4 159 f159 Nk x y:=fun x y=>by kernel_rfl
theorem Qv:Nk.ok prog 159:=PCtr.of_den (ap (sa (b7) (jL (by kernel_rfl) Ol (pc)) (oY))) aX (hl:=al) (d:=4) func159 rfl (by decide) (SK lpK jnK aK)
def fS (lp:Lp) (_:Jn) (aJ:KU) (aG:Hz) (bE:QX) (x0:List Nat×List (Option (List Int))) (x1:Int) (x2:List Int) (x3:List Int) (x4:List Int) (x5:Int) (x6:Int):Option ((List Nat×List (Option (List Int)))×Int×(List Int)×(List Int)×(List Int)×Int×Int×Bool×Unit) :=
 lp ((List Nat×List (Option (List Int)))×Int×List Int×List Int×List Int×Int×Int×PUnit) ((List Nat×List (Option (List Int)))×Int×List Int×List Int×List Int×Int × Int×Bool×PUnit) (fun (again:(List Nat×List (Option (List Int)))×Int×List Int×List Int×List Int×Int×Int×PUnit->Option ((List Nat×List (Option (List Int)))×Int × List Int×List Int×List Int×Int×Int×Bool×PUnit)) (x:(List Nat×List (Option (List Int)))×Int×List Int×List Int×List Int×Int×Int×PUnit)=>lp (Int×Int × PUnit) ((List Nat×List (Option (List Int)))×Int×List Int×List Int×List Int×Int×Int×Bool×PUnit) (fun (again_1:Int×Int×PUnit->Option ((List Nat×List (Option (List Int)))×Int×List Int×List Int×List Int×Int×Int×Bool×PUnit)) (x_1:Int×Int×PUnit) =>
 let v13:Bool:=decide (x_1.1<0);
 let v14:Int×PUnit:=(IntKind.wrap .i64 (x_1.2.1+1),PUnit.unit);
 let v15:Bool:=decide (x_1.2.1<x.2.2.2.2.2.1);
 let v16:Bool:=!v15||v15;bif v16 then bif v16 then bif bif v15 then v13 else false then aa (bif List.all x.1.1 fun (x_2:Nat)=>dL x.1.2 x_2 then bE (List.map (fun (x_2:Nat)=>af x.1.2 x_2) x.1.1,x.2.1,x.2.2.1,x.2.2.2.1,x.2.2.2.2.1,x.2.2.2.2.2.1, x.2.2.2.2.2.2.1) x_1.2.1 else none) fun (t:Int)=>bif decide (t<0) then again_1 (x_1.2.1,v14) else again_1 (x_1.1,v14) else bif v13 then some (x.1,x.2.1,x.2.2.1,x.2.2.2.1,x.2.2.2.2.1,x.2.2.2.2.2.1,x.2.2.2.2.2.2.1,true,PUnit.unit) else aa (bif List.all x.1.1 fun (x_2:Nat)=>dL x.1.2 x_2 then aG (List.map (fun (x_2:Nat)=>af x.1.2 x_2) x.1.1,x.2.1,x.2.2.1,x.2.2.2.1, x.2.2.2.2.1,x.2.2.2.2.2.1,x.2.2.2.2.2.2.1) x_1.1 else none) fun (t:Int)=>bif decide (t<0) then some (x.1,x.2.1, x.2.2.1,x.2.2.2.1,x.2.2.2.2.1,x.2.2.2.2.2.1,x.2.2.2.2.2.2.1,false,PUnit.unit) else aa (aJ x.1 x.2.1 x.2.2.1 x.2.2.2.1 x.2.2.2.2.1 x.2.2.2.2.2.1 x.2.2.2.2.2.2.1 t x_1.1) fun (y:(List Nat×List (Option (List Int)))×Int×List Int × List Int×List Int×Int×Int×PUnit)=>again (y.1,y.2.1,y.2.2.1,y.2.2.2.1,y.2.2.2.2.1,y.2.2.2.2.2.1,y.2.2.2.2.2.2.1, PUnit.unit) else none else none) ((-1),0,PUnit.unit)) (x0,x1,x2,x3,x4,x5,x6,PUnit.unit)
def br (x0:List Nat×List (Option (List Int))) (x1:Int) (x2:List Int) (x3:List Int) (x4:List Int) (x5:Int) (x6:Int):Option ((List Nat×List (Option (List Int)))×Int×(List Int)×(List Int)×(List Int)×Int×Int×Bool×Unit):=fS lpK jnK aJ aG bE x0 x1 x2 x3 x4 x5 x6
abbrev OO:=(List Nat×List (Option (List Int)))->(Int)->(List Int)->(List Int)->(List Int)->(Int)->(Int)->Option ((List Nat×List (Option (List Int)))×Int×(List Int)×(List Int)×(List Int)×Int×Int×Bool×Unit)
def Qj (br:OO):SCtr:=⟨[.b [.x (.tab 29 .ref 3 i64),.d i64,.row 3 i64,.row 3 i64,.row 3 i64,.d i64,.d i64]],[(false,[.d .bool])],fun x=>br x.1 x.2.1 x.2.2.1 x.2.2.2.1 x.2.2.2.2.1 x.2.2.2.2.2.1 x.2.2.2.2.2.2.1⟩
def Ou:SCtr:=Qj br
theorem S4 (lp:Lp) (jn:Jn) (aJ:KU) (aG:Hz) (bE:QX):∀x:TsR (rhI 0 Ou.ks),fS lp jn aJ aG bE x.1 x.2.1 x.2.2.1 x.2.2.2.1 x.2.2.2.2.1 x.2.2.2.2.2.1 x.2.2.2.2.2.2.1=JI lp jn (Dn.look [(157,PR aJ)]) (Cc Dc Db (Gi [(159,⟨GA,[i64],.one i64,fun x y=>bE x y.1⟩),(158,OU aG)] [] (kP prog shs xh its [] [(134,bJ)]))) al 4 111 f111 Ou x:=fun x=>by kernel_rfl
theorem QL:Ou.ok prog 111:=SCtr.of_den (ap (sa (b7) (jL (by kernel_rfl) Qv (jL (by kernel_rfl) N3 (pc))) (oY))) aX (p5 N0 (sf)) (hl:=al) (d:=4) func111 rfl (by decide) (S4 lpK jnK aJ aG bE)
def nt (_:Lp) (_:Jn) (bm:t75) (aH:t77) (bf:t82) (x0:Int) (x1:Int):Option ((Int×Int)×Int×Unit) :=
 
 let v4:Bool:=!decide (x0=0);
 let v5:Bool:=!v4||v4;bif decide (x1=0) then some ((0,0),16,PUnit.unit) else aa (aH x0) fun (t:Int)=>aa (aH x1) fun (t_1:Int)=>aa (bm t t_1) fun (t_2:Int) =>
 let v9:Bool:=nzB t_2;bif v5 then bif v5 then bif v5&&v5 then bif v5 then bif v9 then bif v9 then aa (bf (bif v4 then !decide (decide (x0<0)=decide (x1<(0 : Int))) else false) (IntKind.wrap .u64 (Int.tdiv t t_2)) (IntKind.wrap .u64 (Int.tdiv t_1 t_2))) fun (t:(Int×Int)×Int×PUnit)=>some (t.1,t.2.1, PUnit.unit) else none else none else none else none else none else none
def cG (x0:Int) (x1:Int):Option ((Int×Int)×Int×Unit):=nt lpK jnK bm aH bf x0 x1
abbrev HP:=(Int)->(Int)->Option ((Int×Int)×Int×Unit)
def Ot (cG:HP):Ctr:=⟨[i64,i64],[],[],.tup [T49,i64],fun x _ _=>cG x.1 x.2.1⟩
def HW:Ctr:=Ot cG
theorem SL (lp:Lp) (jn:Jn) (bm:t75) (aH:t77) (bf:t82):∀(x:TsS HW.as) (F:TsF HW.fs) (y:TsS HW.cs),nt lp jn bm aH bf x.1 x.2.1=cb lp jn (cx [(82,k82 bf),(77,k77 aH),(75,k75 bm)] [(134,bJ)]) al 4 136 f136 HW x F y:=fun x F y=>by kernel_rfl
theorem NP:HW.ok prog 136:=Ctr.of_den (ap (ah (ah (ah (b7) (by kernel_rfl) NG) (by kernel_rfl) KJ) (by kernel_rfl) PN)) aX (hl:=al) (d:=4) func136 rfl (by decide) (SL lpK jnK bm aH bf)
def gS (_:Lp) (_:Jn) (cG:HP) (x0:(List (List Int))×Int×(List Int)×(List Int)×(List Int)×Int×Int) (x1:Int):Option (Int×Int) :=
 aa (cG x1 x0.2.1) fun (t:(Int×Int)×Int×PUnit)=>some t.1
def aZ (x0:(List (List Int))×Int×(List Int)×(List Int)×(List Int)×Int×Int) (x1:Int):Option (Int×Int):=gS lpK jnK cG x0 x1
abbrev MA:=((List (List Int))×Int×(List Int)×(List Int)×(List Int)×Int×Int)->(Int)->Option (Int×Int)
def RL (aZ:MA):PCtr:=⟨GA,[i64],.one T49,fun x y=>aZ x y.1⟩
def M9:PCtr:=RL aZ
theorem Tk (lp:Lp) (jn:Jn) (cG:HP):∀(x:M9.s.T) (y:TsS M9.as),gS lp jn cG x y.1=DN lp jn (cx [(136,Ot cG)] [(134,bJ)]) al 4 113 f113 M9 x y:=fun x y=>by kernel_rfl
theorem RX:M9.ok prog 113:=PCtr.of_den (ap (ah (b7) (by kernel_rfl) NP)) aX (hl:=al) (d:=4) func113 rfl (by decide) (Tk lpK jnK cG)
def iG (lp:Lp) (jn:Jn) (bj:t91) (cI:Mc) (ay:BO) (a9:Mo) (br:OO) (aK:IK) (aZ:MA) (x0:(List Int)×List ((List Int)×Int×Int)):Option (((Int×Int)×(List (Int×Int))×List (Int×Int))×Int×Unit) :=
 aa (bj x0) fun (t:Bool)=>bif !t then some (((0,0),[],[]),1,PUnit.unit) else aa (cI x0) fun (t:Bool)=>bif !t then some ((((0 : Int),0),[],[]),5,PUnit.unit) else lp (Int×Int×PUnit) (((Int×Int)×List (Int×Int)×List (Int×Int))×Int×PUnit) (fun (again:Int×Int×PUnit -> Option (((Int×Int)×List (Int×Int)×List (Int×Int))×Int×PUnit)) (x:Int×Int×PUnit) =>
 let v7:Int×PUnit:=(IntKind.wrap .i64 (x.2.1+1),PUnit.unit);
 let v8:Int:=IntKind.wrap .i64 ((↑x0.1.length:Int)+x.1);bif decide (x.2.1<(↑x0.2.length:Int)) then bif inB x.2.1 x0.2.length then bif !decide ((x0.2.getD x.2.1.toNat ([],0,0)).2.1=3) then again (IntKind.wrap .i64 (x.1+1),v7) else again (x.1, v7) else none else aa (ay x0.1) fun (t:List Int)=>lp (Int×Int×(List Nat×List (Option (List Int)))×Int×List Int×List Int×List Int×Int×Int × PUnit) (((Int×Int)×List (Int×Int)×List (Int×Int))×Int×PUnit) (fun (again:Int×Int×(List Nat×List (Option (List Int)))×Int×List Int×List Int×List Int×Int × Int×PUnit->Option (((Int×Int)×List (Int×Int)×List (Int×Int))×Int×PUnit)) (x:Int×Int×(List Nat×List (Option (List Int)))×Int×List Int×List Int×List Int × Int×Int×PUnit) =>
 let v12:Int:=IntKind.wrap .i64 (x.1+1);
 let v13:List Int×Int×Int:=x0.2.getD x.2.1.toNat ([],0,0);
 let v14:List Int:=List.replicate (Int.toNat (IntKind.wrap .i64 (x.2.2.2.2.2.2.2.2.1+1))) 0;
 let v15:Bool:=inB x.1 (Int.toNat (IntKind.wrap .i64 (x.2.2.2.2.2.2.2.2.1+1)));
 let v16:Bool:=Nat.ble (Nat.succ x.1.toNat) (Int.toNat (IntKind.wrap .i64 (x.2.2.2.2.2.2.2.2.1+1)));
 let v17:Int:=IntKind.wrap .i64 (x.2.2.2.2.2.2.2.1+x.2.1);
 let v18:List Int:=List.take (Int.toNat (IntKind.wrap .i64 (x.2.2.2.2.2.2.2.2.1+1))) v13.1;
 let v19:List Int:=List.set (List.take 0 v14++v18++List.drop (0+List.length v18) v14) x.2.2.2.2.2.2.2.2.1.toNat v13.2.2;bif decide (x.2.1<(↑x0.2.length:Int)) then bif inB x.2.1 x0.2.length then bif decide (0<=IntKind.wrap .i64 (x.2.2.2.2.2.2.2.2.1+(1 : Int)))&&c7 (Int.toNat (IntKind.wrap .i64 (x.2.2.2.2.2.2.2.2.1+1))) 8 then bif inB x.2.2.2.2.2.2.2.2.1 (Int.toNat (IntKind.wrap .i64 (x.2.2.2.2.2.2.2.2.1+1))) then bif Nat.ble (Nat.succ x.2.2.2.2.2.2.2.2.1.toNat) (Int.toNat (IntKind.wrap IntKind.i64 (x.2.2.2.2.2.2.2.2.1+1))) then jn (Int×List Int×PUnit) (((Int×Int)×List (Int×Int)×List (Int×Int))×Int×PUnit) (fun (x_1:Int × List Int×PUnit) =>
 let v21:List Int×PUnit:=(x_1.2.1,PUnit.unit);jn (Int×List Int×PUnit) (((Int×Int)×List (Int×Int)×List (Int×Int))×Int×PUnit) (fun (x_2:Int×List Int × PUnit)=>bif inB v17 x_2.2.1.length then bif Nat.ble (Nat.succ v17.toNat) x_2.2.1.length then bif c7 (List.length x.2.2.1.1+1) (24 : Nat) then bif c7 (List.length x.2.2.2.2.2.1+1) 8 then bif c7 (List.length x.2.2.2.2.1+1) 8 then again (x_1.1, IntKind.wrap .i64 (x.2.1+1),(x.2.2.1.1++[List.length x.2.2.1.2+0],x.2.2.1.2++[some (x_2.2.1.set v17.toNat (1 : Int))]),x.2.2.2.1,x.2.2.2.2.1++[v17],x.2.2.2.2.2.1++[x_2.1],x.2.2.2.2.2.2.1,x.2.2.2.2.2.2.2.1, x.2.2.2.2.2.2.2.2.1,PUnit.unit) else none else none else none else none else none) fun (j:Int×List Int×PUnit->Option (((Int×Int)×List (Int×Int)×List (Int×Int))×Int×PUnit))=>bif decide (v13.2.2<0) then lp (Int×List Int×PUnit) (((Int×Int)×List (Int×Int)×List (Int×Int))×Int×PUnit) (fun (again : Int×List Int×PUnit->Option (((Int×Int)×List (Int×Int)×List (Int×Int))×Int×PUnit)) (x:Int×List Int×PUnit) =>
 let v25:Bool:=inB x.1 x.2.1.length;
 let v26:Bool:=Nat.ble (Nat.succ x.1.toNat) x.2.1.length;bif decide (x.1<(↑x_1.2.1.length:Int)) then bif v25 then bif v26 then bif v25 then bif v26 then again (IntKind.wrap .i64 (x.1+1),x.2.1.set x.1.toNat (IntKind.wrap .i64 (0 - x.2.1.getD x.1.toNat 0)), PUnit.unit) else none else none else none else none else j ((-1),x.2.1,PUnit.unit)) (0,v21) else j (1,v21)) fun (j:Int×List Int×PUnit->Option (((Int × Int)×List (Int×Int)×List (Int×Int))×Int×PUnit))=>bif decide (v13.2.1=1) then bif v15 then bif v16 then j (v12,v19.set x.1.toNat 1, PUnit.unit) else none else none else jn (Int×List Int×PUnit) (((Int×Int)×List (Int×Int)×List (Int×Int))×Int×PUnit) (fun (x:Int×List Int×PUnit)=>j (x.1, x.2.1,PUnit.unit)) fun (j:Int×List Int×PUnit->Option (((Int×Int)×List (Int×Int)×List (Int×Int))×Int×PUnit))=>bif decide (v13.2.1=2) then bif v15 then bif v16 then j (v12,v19.set x.1.toNat (-1),PUnit.unit) else none else none else j (x.1,v19,PUnit.unit) else none else none else none else none else aa (a9 x.2.2.1 x.2.2.2.1 x.2.2.2.2.1 x.2.2.2.2.2.1 x.2.2.2.2.2.2.1 x.2.2.2.2.2.2.2.1 x.2.2.2.2.2.2.2.2.1) fun (y:(List Nat×List (Option (List Int)))×Int×List Int×List Int×List Int×Int×Int×Bool×PUnit)=>bif !y.2.2.2.2.2.2.2.1 then some (((0,0),[],[]),22,PUnit.unit) else aa (br y.1 y.2.1 y.2.2.1 y.2.2.2.1 y.2.2.2.2.1 y.2.2.2.2.2.1 y.2.2.2.2.2.2.1) fun (y:(List Nat×List (Option (List Int)))×Int×List Int×List Int×List Int×Int×Int×Bool × PUnit)=>bif !y.2.2.2.2.2.2.2.1 then some (((0,0),[],[]),21,PUnit.unit) else bif decide (0<=(↑x0.1.length:Int))&&c7 (Int.toNat (↑x0.1.length:Int)) 8 then lp (Int×Int×List Int×PUnit) (((Int×Int)×List (Int×Int)×List (Int×Int))×Int×PUnit) (fun (again:Int×Int × List Int×PUnit->Option (((Int×Int)×List (Int×Int)×List (Int×Int))×Int×PUnit)) (x:Int×Int×List Int×PUnit) =>
 let v24:Int:=IntKind.wrap .i64 (x.2.1+1);
 let v25:Bool:=inB x.2.1 y.1.1.length;
 let v26:Bool:=Nat.ble (Nat.succ x.2.1.toNat) y.1.1.length;
 let v27:Int:=y.2.2.1.getD x.2.1.toNat 0;bif decide (x.2.1<(↑y.2.2.1.length:Int)) then bif inB x.2.1 y.2.2.1.length then bif Nat.ble (Nat.succ x.2.1.toNat) y.2.2.1.length then aa (bif List.all y.1.1 fun (x:Nat)=>dL y.1.2 x then aK (List.map (fun (x:Nat)=>af y.1.2 x) y.1.1,y.2.1,y.2.2.1,y.2.2.2.1,y.2.2.2.2.1,y.2.2.2.2.2.1,y.2.2.2.2.2.2.1) v27 else none) fun (t:Int)=>bif v25 then bif v26 then bif inB y.2.2.2.2.2.2.1 (List.length (af y.1.2 (y.1.1.getD x.2.1.toNat 0))) then bif Nat.ble (Nat.succ y.2.2.2.2.2.2.1.toNat) (List.length (af y.1.2 (y.1.1.getD x.2.1.toNat 0))) then bif decide (v27<(↑x.2.2.1.length:Int)) then bif v25 then bif v26 then bif inB y.2.2.2.2.2.2.1 (List.length (af y.1.2 (y.1.1.getD x.2.1.toNat 0))) then bif Nat.ble (Nat.succ y.2.2.2.2.2.2.1.toNat) (List.length (af y.1.2 (y.1.1.getD x.2.1.toNat 0))) then bif inB v27 x.2.2.1.length then bif Nat.ble (Nat.succ v27.toNat) x.2.2.1.length then again (IntKind.wrap .i64 (x.1+IntKind.wrap .i64 (t*List.getD (af y.1.2 (y.1.1.getD x.2.1.toNat 0)) y.2.2.2.2.2.2.1.toNat 0)),v24,x.2.2.1.set v27.toNat (List.getD (af y.1.2 (y.1.1.getD x.2.1.toNat 0)) y.2.2.2.2.2.2.1.toNat 0),PUnit.unit) else none else none else none else none else none else none else again (IntKind.wrap .i64 (x.1+IntKind.wrap .i64 (t*List.getD (af y.1.2 (y.1.1.getD x.2.1.toNat 0)) y.2.2.2.2.2.2.1.toNat 0)),v24,x.2.2.1,PUnit.unit) else none else none else none else none else none else none else aa (bif List.all y.1.1 fun (x:Nat) =>dL y.1.2 x then aZ (List.map (fun (x:Nat)=>af y.1.2 x) y.1.1,y.2.1,y.2.2.1,y.2.2.2.1,y.2.2.2.2.1, y.2.2.2.2.2.1,y.2.2.2.2.2.2.1) x.1 else none) fun (t:Int×Int)=>lp (Int×(Int×Int)×List (Int×Int)×List (Int×Int)×PUnit) (((Int×Int) × List (Int×Int)×List (Int×Int))×Int×PUnit) (fun (again:Int×(Int×Int)×List (Int×Int)×List (Int×Int)×PUnit->Option (((Int×Int)×List (Int×Int)×List (Int × Int))×Int×PUnit)) (x_1:Int×(Int×Int)×List (Int×Int)×List (Int×Int)×PUnit) =>
 let v31:List (Int×Int)×PUnit:=(x_1.2.2.2.1,PUnit.unit);bif decide (x_1.1<(↑x.2.2.1.length:Int)) then bif inB x_1.1 x.2.2.1.length then bif Nat.ble (Nat.succ x_1.1.toNat) x.2.2.1.length then aa (bif List.all y.1.1 fun (x:Nat)=>dL y.1.2 x then aZ (List.map (fun (x : Nat)=>af y.1.2 x) y.1.1,y.2.1,y.2.2.1,y.2.2.2.1,y.2.2.2.2.1,y.2.2.2.2.2.1,y.2.2.2.2.2.2.1) (x.2.2.1.getD x_1.1.toNat 0) else none) fun (t:Int×Int)=>bif c7 (List.length x_1.2.2.1+1) 16 then again (IntKind.wrap .i64 (x_1.1+1),x_1.2.1,x_1.2.2.1++[t],v31) else none else none else none else lp (Int×(Int×Int)×List (Int×Int)×List (Int×Int)×PUnit) (((Int×Int) × List (Int×Int)×List (Int×Int))×Int×PUnit) (fun (again:Int×(Int×Int)×List (Int×Int)×List (Int×Int)×PUnit->Option (((Int×Int)×List (Int×Int)×List (Int × Int))×Int×PUnit)) (x:Int×(Int×Int)×List (Int×Int)×List (Int×Int)×PUnit) =>
 let v34:Int:=IntKind.wrap .i64 (y.2.2.2.2.2.1+x.1);bif decide (x.1<(↑x0.2.length:Int)) then lp (Int×Int×PUnit) (((Int×Int)×List (Int × Int)×List (Int×Int))×Int×PUnit) (fun (again_1:Int×Int×PUnit->Option (((Int×Int)×List (Int×Int)×List (Int×Int))×Int×PUnit)) (x_2:Int×Int×PUnit)=>bif decide (x_2.2.1<(↑y.2.2.1.length:Int)) then bif inB x_2.2.1 y.2.2.1.length then bif Nat.ble (Nat.succ x_2.2.1.toNat) y.2.2.1.length then aa (bif List.all y.1.1 fun (x:Nat)=>dL y.1.2 x then aK (List.map (fun (x:Nat)=>af y.1.2 x) y.1.1,y.2.1, y.2.2.1,y.2.2.2.1,y.2.2.2.2.1,y.2.2.2.2.2.1,y.2.2.2.2.2.2.1) (y.2.2.1.getD x_2.2.1.toNat 0) else none) fun (t:Int)=>bif inB x_2.2.1 y.1.1.length then bif Nat.ble (Nat.succ x_2.2.1.toNat) y.1.1.length then bif inB v34 (List.length (af y.1.2 (y.1.1.getD x_2.2.1.toNat 0))) then bif Nat.ble (Nat.succ v34.toNat) (List.length (af y.1.2 (y.1.1.getD x_2.2.1.toNat (0 : Nat)))) then again_1 (IntKind.wrap .i64 (x_2.1+IntKind.wrap .i64 (t*List.getD (af y.1.2 (y.1.1.getD x_2.2.1.toNat 0)) v34.toNat 0)),IntKind.wrap .i64 (x_2.2.1+1),PUnit.unit) else none else none else none else none else none else none else bif inB x.1 y.2.2.2.1.length then bif Nat.ble (Nat.succ x.1.toNat) y.2.2.2.1.length then aa (bif List.all y.1.1 fun (x:Nat)=>dL y.1.2 x then aZ (List.map (fun (x:Nat)=>af y.1.2 x) y.1.1,y.2.1,y.2.2.1,y.2.2.2.1,y.2.2.2.2.1,y.2.2.2.2.2.1, y.2.2.2.2.2.2.1) (IntKind.wrap .i64 (y.2.2.2.1.getD x.1.toNat 0*x_2.1)) else none) fun (t:Int×Int)=>bif c7 (List.length x.2.2.2.1+1) 16 then again (IntKind.wrap .i64 (x.1+1),x.2.1,x.2.2.1,x.2.2.2.1++[t],PUnit.unit) else none else none else none) (0,0,PUnit.unit) else some ((x.2.1,x.2.2.1,x.2.2.2.1),0,PUnit.unit)) (0,x_1.2.1,x_1.2.2.1,v31)) ((0 : Int),t,[],[],PUnit.unit)) (0,0,List.replicate (Int.toNat (↑x0.1.length:Int)) 0,PUnit.unit) else none) ((↑x0.1.length:Int),(0 : Int),([],[]),1,[],[],t,v8,IntKind.wrap .i64 (v8+(↑x0.2.length:Int)),PUnit.unit)) (0,0,PUnit.unit)
def aw (x0:(List Int)×List ((List Int)×Int×Int)):Option (((Int×Int)×(List (Int×Int))×List (Int×Int))×Int×Unit):=iG lpK jnK bj cI ay a9 br aK aZ x0
abbrev t58:=((List Int)×List ((List Int)×Int×Int))->Option (((Int×Int)×(List (Int×Int))×List (Int×Int))×Int×Unit)
def k58 (aw:t58):Ctr:=⟨[T32],[],[],.tup [T96,i64],fun x _ _=>aw x.1⟩
def c58:Ctr:=k58 aw
theorem e58 (lp:Lp) (jn:Jn) (bj:t91) (cI:Mc) (ay:BO) (a9:Mo) (br:OO) (aK:IK) (aZ:MA):∀(x:TsS c58.as) (F:TsF c58.fs) (y:TsS c58.cs),iG lp jn bj cI ay a9 br aK aZ x.1=NU lp jn (Dn.look [(111,Qj br),(110,R6 a9)]) (Cc Dc Db (Gi [(113,RL aZ),(112,Pk aK)] [] (kP prog shs xh its [(108,P8 cI),(91,k91 bj)] [(134,LG ay)]))) al 4 58 f58 c58 x F y:=fun x F y=>by kernel_rfl
theorem O5:c58.ok prog 58:=Ctr.of_denS (ap (sa (ah (ah (b7) (by kernel_rfl) QK) (by kernel_rfl) Qg) (jL (by kernel_rfl) RX (jL (by kernel_rfl) Ol (pc))) (oY))) aX (p5 QL (p5 Rr (sf))) (hl:=al) (d:=4) func58 rfl (by decide) (e58 lpK jnK bj cI ay a9 br aK aZ)
def nV (_:Lp) (_:Jn) (aV:t11) (aw:t58) (x0:(List (ByteArray×Int))×List (ByteArray×(List (ByteArray×Int×Int×Int))×Bool)):Option ((List (Int×Int))×Int×Unit) :=
 aa (aV x0) fun (t:(List Int×List (List Int×Int×Int))×Int×PUnit)=>bif !decide (t.2.1=0) then some ([],t.2.1,PUnit.unit) else aa (aw t.1) fun (t:((Int×Int)×List (Int×Int)×List (Int×Int))×Int×PUnit)=>bif !decide (t.2.1=0) then some ([],t.2.1,PUnit.unit) else some (t.1.2.1,0,PUnit.unit)
def aN (x0:(List (ByteArray×Int))×List (ByteArray×(List (ByteArray×Int×Int×Int))×Bool)):Option ((List (Int×Int))×Int×Unit):=nV lpK jnK aV aw x0
abbrev t19:=((List (ByteArray×Int))×List (ByteArray×(List (ByteArray×Int×Int×Int))×Bool))->Option ((List (Int×Int))×Int×Unit)
def k19 (aN:t19):Ctr:=⟨[T25],[],[],.tup [(.sl T49),i64],fun x _ _=>aN x.1⟩
def c19:Ctr:=k19 aN
theorem e19 (lp:Lp) (jn:Jn) (aV:t11) (aw:t58):∀(x:TsS c19.as) (F:TsF c19.fs) (y:TsS c19.cs),nV lp jn aV aw x.1=cb lp jn (cx [(58,k58 aw),(11,k11 aV)] [(134,bJ)]) al 4 19 f19 c19 x F y:=fun x F y=>by kernel_rfl
theorem Ql:c19.ok prog 19:=Ctr.of_den (ap (ah (ah (b7) (by kernel_rfl) QY) (by kernel_rfl) O5)) aX (hl:=al) (d:=4) func19 rfl (by decide) (e19 lpK jnK aV aw)
def gG (lp:Lp) (_:Jn) (x0:List (ByteArray×(List (ByteArray×Int×Int×Int))×Bool)) (f0:(((ByteArray×(List (ByteArray×Int×Int×Int))×Bool)×Unit)->Option Bool)):Option Int :=
 lp (Int×PUnit) Int (fun (again:Int×PUnit->Option Int) (x:Int×PUnit)=>bif decide (x.1<(↑x0.length:Int)) then bif inB x.1 x0.length then aa (f0 (x0.getD x.1.toNat ({ data:={ toList:=[] } },[],false),PUnit.unit)) fun (t:Bool)=>bif t then some x.1 else again (IntKind.wrap .i64 (x.1+1), PUnit.unit) else none else some (-1)) (0,PUnit.unit)
def bI (x0:List (ByteArray×(List (ByteArray×Int×Int×Int))×Bool)) (f0:(((ByteArray×(List (ByteArray×Int×Int×Int))×Bool)×Unit)->Option Bool)):Option Int:=gG lpK jnK x0 f0
abbrev t60:=(List (ByteArray×(List (ByteArray×Int×Int×Int))×Bool))->((((ByteArray×(List (ByteArray×Int×Int×Int))×Bool)×Unit)->Option Bool))->Option (Int)
def k60 (bI:t60):Ctr:=⟨[(.sl T75)],[([T75],.bool)],[],.one i64,fun x F _=>bI x.1 F.1⟩
def c60:Ctr:=k60 bI
theorem e60 (lp:Lp) (jn:Jn):∀(x:TsS c60.as) (F:TsF c60.fs) (y:TsS c60.cs),gG lp jn x.1 F.1=cb lp jn (cx [] [(134,bJ)]) al 4 60 f60 c60 x F y:=fun x F y=>by kernel_rfl
theorem Sl:c60.ok prog 60:=Ctr.of_den (ap (b7)) aX (hl:=al) (d:=4) func60 rfl (by decide) (e60 lpK jnK)
def kC (_:Lp) (_:Jn) (x0:ByteArray×(List (ByteArray×Int×Int×Int))×Bool) (y0:ByteArray):Option Bool :=
 some (List.beq (ByteArray.toList x0.1) (ByteArray.toList y0))
def dJ (x0:ByteArray×(List (ByteArray×Int×Int×Int))×Bool) (y0:ByteArray):Option Bool:=kC lpK jnK x0 y0
abbrev t61:=(ByteArray×(List (ByteArray×Int×Int×Int))×Bool)->(ByteArray)->Option (Bool)
def c61:Ctr:=⟨[T75],[],[.str],.one .bool,fun x _ y=>dJ x.1 y.1⟩
theorem e61 (lp:Lp) (jn:Jn):∀(x:TsS c61.as) (F:TsF c61.fs) (y:TsS c61.cs),kC lp jn x.1 y.1=cb lp jn (cx [] [(134,bJ)]) al 4 61 f61 c61 x F y:=fun x F y=>by kernel_rfl
theorem To:c61.ok prog 61:=Ctr.of_den (ap (b7)) aX (hl:=al) (d:=4) func61 rfl (by decide) (e61 lpK jnK)
def pq (_:Lp) (_:Jn) (cH:t45) (x0:(List (ByteArray×Int))×List (ByteArray×(List (ByteArray×Int×Int×Int))×Bool)) (x1:Int) (x2:Int):Option (((List Int)×List ((List Int)×Int×Int))×Int×Unit) :=
 bif decide (0<=(↑x0.2.length:Int))&&c7 (Int.toNat (↑x0.2.length:Int)) 8 then bif inB x1 (Int.toNat (↑x0.2.length:Int)) then bif Nat.ble (Nat.succ x1.toNat) (Int.toNat (↑x0.2.length:Int)) then aa (cH x0 (List.set (List.replicate (Int.toNat (↑x0.2.length:Int)) 0) x1.toNat x2)) fun (t:(List Int×List (List Int×Int×Int))×Int×PUnit)=>some (t.1,t.2.1,PUnit.unit) else none else none else none
def db (x0:(List (ByteArray×Int))×List (ByteArray×(List (ByteArray×Int×Int×Int))×Bool)) (x1:Int) (x2:Int):Option (((List Int)×List ((List Int)×Int×Int))×Int×Unit):=pq lpK jnK cH x0 x1 x2
abbrev t62:=((List (ByteArray×Int))×List (ByteArray×(List (ByteArray×Int×Int×Int))×Bool))->(Int)->(Int)->Option (((List Int)×List ((List Int)×Int×Int))×Int×Unit)
def k62 (db:t62):Ctr:=⟨[T25,i64,i64],[],[],.tup [T32,i64],fun x _ _=>db x.1 x.2.1 x.2.2.1⟩
def c62:Ctr:=k62 db
theorem e62 (lp:Lp) (jn:Jn) (cH:t45):∀(x:TsS c62.as) (F:TsF c62.fs) (y:TsS c62.cs),pq lp jn cH x.1 x.2.1 x.2.2.1=cb lp jn (cx [(45,k45 cH)] [(134,bJ)]) al 4 62 f62 c62 x F y:=fun x F y=>by kernel_rfl
theorem Qx:c62.ok prog 62:=Ctr.of_den (ap (ah (b7) (by kernel_rfl) RF)) aX (hl:=al) (d:=4) func62 rfl (by decide) (e62 lpK jnK cH)
def mH (_:Lp) (_:Jn) (aF:t59) (aw:t58) (bI:t60) (dJ:t61) (db:t62) (x0:(List (ByteArray×Int))×List (ByteArray×(List (ByteArray×Int×Int×Int))×Bool)) (x1:ByteArray):Option ((Int×Int)×Int×Unit) :=
 aa (aF x0) fun (t:Bool)=>bif !t then some ((0,0),1,PUnit.unit) else aa (bI x0.2 fun (x:(ByteArray×List (ByteArray × Int×Int×Int)×Bool)×PUnit)=>dJ x.1 x1) fun (t:Int)=>bif decide (t<0) then some ((0,0),9,PUnit.unit) else aa (db x0 t 1) fun (t:(List Int×List (List Int×Int×Int))×Int×PUnit)=>bif !decide (t.2.1=0) then some ((0,0),t.2.1,PUnit.unit) else aa (aw t.1) fun (t:((Int×Int)×List (Int×Int)×List (Int×Int))×Int×PUnit)=>bif !decide (t.2.1=0) then some ((0,0), t.2.1,PUnit.unit) else some (t.1.1,0,PUnit.unit)
def bv (x0:(List (ByteArray×Int))×List (ByteArray×(List (ByteArray×Int×Int×Int))×Bool)) (x1:ByteArray):Option ((Int×Int)×Int×Unit):=mH lpK jnK aF aw bI dJ db x0 x1
abbrev t20:=((List (ByteArray×Int))×List (ByteArray×(List (ByteArray×Int×Int×Int))×Bool))->(ByteArray)->Option ((Int×Int)×Int×Unit)
def k20 (bv:t20):Ctr:=⟨[T25,.str],[],[],.tup [T49,i64],fun x _ _=>bv x.1 x.2.1⟩
def c20:Ctr:=k20 bv
theorem e20 (lp:Lp) (jn:Jn) (aF:t59) (aw:t58) (bI:t60) (dJ:t61) (db:t62):∀(x:TsS c20.as) (F:TsF c20.fs) (y:TsS c20.cs),mH lp jn aF aw bI dJ db x.1 x.2.1=cb lp jn (cx [(62,k62 db),(61,⟨[T75],[],[.str],.one .bool,fun x _ y=>dJ x.1 y.1⟩),(60,k60 bI),(58,k58 aw),(59,k59 aF)] [(134,bJ)]) al 4 20 f20 c20 x F y:=fun x F y=>by kernel_rfl
theorem P5:c20.ok prog 20:=Ctr.of_den (ap (ah (ah (ah (ah (ah (b7) (by kernel_rfl) NB) (by kernel_rfl) O5) (by kernel_rfl) Sl) (by kernel_rfl) To) (by kernel_rfl) Qx)) aX (hl:=al) (d:=4) func20 rfl (by decide) (e20 lpK jnK aF aw bI dJ db)
def ka (lp:Lp) (_:Jn) (aF:t59) (aw:t58) (db:t62) (x0:(List (ByteArray×Int))×List (ByteArray×(List (ByteArray×Int×Int×Int))×Bool)):Option ((List ByteArray)×Int×Unit) :=
 aa (aF x0) fun (t:Bool)=>bif !t then some ([],1,PUnit.unit) else lp (List ByteArray×Int×PUnit) (List ByteArray×Int×PUnit) (fun (again:List ByteArray × Int×PUnit->Option (List ByteArray×Int×PUnit)) (x:List ByteArray×Int×PUnit) =>
 let v6:Int×PUnit:=(IntKind.wrap .i64 (x.2.1+1),PUnit.unit);bif decide (x.2.1<(↑x0.2.length:Int)) then bif inB x.2.1 x0.2.length then aa (db x0 x.2.1 (-1)) fun (t:(List Int×List (List Int×Int×Int))×Int×PUnit)=>bif !decide (t.2.1=0) then some ([],t.2.1, PUnit.unit) else aa (aw t.1) fun (t:((Int×Int)×List (Int×Int)×List (Int×Int))×Int×PUnit)=>bif decide (t.2.1=21) then again (x.1,v6) else bif !decide (t.2.1=0) then some ([],t.2.1,PUnit.unit) else bif decide (t.1.1.1=0) then bif c7 (List.length x.1+1) 16 then again (x.1++[(x0.2.getD x.2.1.toNat ({ data:={ toList:=[] } },[],false)).1],v6) else none else again (x.1,v6) else none else some (x.1,0, PUnit.unit)) ([],0,PUnit.unit)
def aW (x0:(List (ByteArray×Int))×List (ByteArray×(List (ByteArray×Int×Int×Int))×Bool)):Option ((List ByteArray)×Int×Unit):=ka lpK jnK aF aw db x0
abbrev t21:=((List (ByteArray×Int))×List (ByteArray×(List (ByteArray×Int×Int×Int))×Bool))->Option ((List ByteArray)×Int×Unit)
def k21 (aW:t21):Ctr:=⟨[T25],[],[],.tup [(.sl .str),i64],fun x _ _=>aW x.1⟩
def c21:Ctr:=k21 aW
theorem e21 (lp:Lp) (jn:Jn) (aF:t59) (aw:t58) (db:t62):∀(x:TsS c21.as) (F:TsF c21.fs) (y:TsS c21.cs),ka lp jn aF aw db x.1=cb lp jn (cx [(62,k62 db),(58,k58 aw),(59,k59 aF)] [(134,bJ)]) al 4 21 f21 c21 x F y:=fun x F y=>by kernel_rfl
theorem Qe:c21.ok prog 21:=Ctr.of_den (ap (ah (ah (ah (b7) (by kernel_rfl) NB) (by kernel_rfl) O5) (by kernel_rfl) Qx)) aX (hl:=al) (d:=4) func21 rfl (by decide) (e21 lpK jnK aF aw db)
def qn (_:Lp) (_:Jn) (x0:Int):Option (Int×Int) :=
 some (x0,1)
def bV (x0:Int):Option (Int×Int):=qn lpK jnK x0
abbrev t34:=(Int)->Option (Int×Int)
def k34 (bV:t34):Ctr:=⟨[i64],[],[],.one T49,fun x _ _=>bV x.1⟩
def c34:Ctr:=k34 bV
theorem e34 (lp:Lp) (jn:Jn):∀(x:TsS c34.as) (F:TsF c34.fs) (y:TsS c34.cs),qn lp jn x.1=cb lp jn (cx [] [(134,bJ)]) al 4 34 f34 c34 x F y:=fun x F y=>by kernel_rfl
theorem QT:c34.ok prog 34:=Ctr.of_den (ap (b7)) aX (hl:=al) (d:=4) func34 rfl (by decide) (e34 lpK jnK)
def qk (lp:Lp) (_:Jn) (bV:t34) (x0:List Int):Option ((List (ByteArray×Int))×List (ByteArray×(List (ByteArray×Int×Int×Int))×Bool)) :=
 lp (Int×List (ByteArray×Int)×List (ByteArray×List (ByteArray×Int×Int×Int)×Bool)×PUnit) (List (ByteArray×Int)×List (ByteArray×List (ByteArray×Int×Int×Int)×Bool)) (fun (again:Int×List (ByteArray×Int)×List (ByteArray×List (ByteArray×Int×Int×Int)×Bool)×PUnit->Option (List (ByteArray×Int)×List (ByteArray×List (ByteArray×Int×Int×Int)×Bool))) (x:Int×List (ByteArray×Int)×List (ByteArray×List (ByteArray×Int×Int×Int)×Bool)×PUnit) => bif decide (x.1<(↑x0.length:Int)) then bif inB x.1 x0.length then aa (bV 1) fun (t:Int×Int)=>aa (bV 1) fun (t_1:Int×Int)=>bif c7 (List.length x.2.2.1+1) 48 then again (IntKind.wrap .i64 (x.1+1),x.2.1,x.2.2.1++[({ data:=#[114] }++uy [IntKind.wrap IntKind.u8 (IntKind.wrap .i64 (49+x.1))],[({ data:=#[98] },x0.getD x.1.toNat 0,t),({ data:={ toList:=[] } },0,t_1)],false)],PUnit.unit) else none else none else some (x.2.1,x.2.2.1)) (0,[({ data:=#[98] },10)],[],PUnit.unit)
def dR (x0:List Int):Option ((List (ByteArray×Int))×List (ByteArray×(List (ByteArray×Int×Int×Int))×Bool)):=qk lpK jnK bV x0
abbrev t43:=(List Int)->Option ((List (ByteArray×Int))×List (ByteArray×(List (ByteArray×Int×Int×Int))×Bool))
def c43:Ctr:=⟨[(.sl i64)],[],[],.one T25,fun x _ _=>dR x.1⟩
theorem e43 (lp:Lp) (jn:Jn) (bV:t34):∀(x:TsS c43.as) (F:TsF c43.fs) (y:TsS c43.cs),qk lp jn bV x.1=cb lp jn (cx [(34,k34 bV)] [(134,bJ)]) al 4 43 f43 c43 x F y:=fun x F y=>by kernel_rfl
theorem TK:c43.ok prog 43:=Ctr.of_den (ap (ah (b7) (by kernel_rfl) QT)) aX (hl:=al) (d:=4) func43 rfl (by decide) (e43 lpK jnK bV)
def qu (_:Lp) (_:Jn) (bD:t12) (aN:t19) (bv:t20) (aW:t21) (bV:t34) (dR:t43):Option Bool :=
 aa (dR [1,1,(-1)]) fun (t:List (ByteArray×Int)×List (ByteArray×List (ByteArray×Int×Int×Int)×Bool))=>aa (aN t) fun (t:List (Int×Int)×Int×PUnit) =>
 let v4:Bool:=decide (t.2.1=0);
 let v5:Bool:=!v4||v4;
 let v6:Bool:=bif v4 then decide ((↑t.1.length:Int)=3) else false;
 let v7:Bool:=!v6||v6;aa (dR [1,1,(-1)]) fun (t:List (ByteArray×Int)×List (ByteArray×List (ByteArray×Int×Int×Int)×Bool))=>aa (aW t) fun (t:List ByteArray×Int×PUnit) =>
 let v10:Bool:=bif v6 then decide (t.2.1=0) else false;
 let v11:Bool:=!v10||v10;
 let v12:Bool:=bif v10 then decide ((↑t.1.length:Int)=0) else false;
 let v13:Bool:=!v12||v12;aa (dR [1,1,(-1)]) fun (t:List (ByteArray×Int)×List (ByteArray×List (ByteArray×Int×Int×Int)×Bool)) => aa (bv t { data:={ toList:=[{ toBitVec:={ toFin:=⟨114,Nat.mod_lt 114 (BitVec.ofNat._proof_1 8)⟩ } },{ toBitVec:={ toFin:=⟨49, Nat.mod_lt 49 (BitVec.ofNat._proof_1 8)⟩ } }] } }) fun (t:(Int×Int)×Int×PUnit) =>
 let v16:Bool:=bif v12 then decide (t.2.1=0) else false;
 let v17:Bool:=!v16||v16;aa (dR [(-1)]) fun (t_1:List (ByteArray×Int)×List (ByteArray×List (ByteArray×Int×Int×Int)×Bool))=>aa (bV (1 : Int)) fun (t_2:Int×Int)=>aa (bD t_1 [t_2]) fun (t_3:Bool×Int×PUnit)=>aa (dR [(-1)]) fun (t_4:List (ByteArray×Int)×List (ByteArray × List (ByteArray×Int×Int×Int)×Bool))=>aa (aN t_4) fun (t_5:List (Int×Int)×Int×PUnit)=>bif v5 then bif v5 then bif v5 then bif v7 then bif v7 then bif v11 then bif v11 then bif v11 then bif v13 then bif v13 then aa (bif v16 then bV 0 else some (0,0)) fun (t_6:Int×Int) =>
 let v24:Bool:=bif v16 then decide (t.1.1=t_6.1)&&(decide (t.1.2=t_6.2)&&true) else false;
 let v25:Bool:=bif v24 then decide (t_3.2.1=0) else false;
 let v26:Bool:=bif v25 then t_3.1 else false;
 let v27:Bool:=!v24||v24;
 let v28:Bool:=!v26||v26;bif v17&&v17 then bif v17 then bif v27 then bif v27 then bif !v25||v25 then bif v28 then bif v28 then some (bif v26 then decide (t_5.2.1=(22 : Int)) else false) else none else none else none else none else none else none else none else none else none else none else none else none else none else none else none else none else none
def aP:Option Bool:=qu lpK jnK bD aN bv aW bV dR
abbrev t9:=Option (Bool)
def k9 (aP:t9):Ctr:=⟨[],[],[],.one .bool,fun _ _ _=>aP⟩
def c9:Ctr:=k9 aP
theorem e9 (lp:Lp) (jn:Jn) (bD:t12) (aN:t19) (bv:t20) (aW:t21) (bV:t34) (dR:t43):∀(x:TsS c9.as) (F:TsF c9.fs) (y:TsS c9.cs),qu lp jn bD aN bv aW bV dR=cb lp jn (cx [(43,⟨[(.sl i64)],[],[],.one T25,fun x _ _=>dR x.1⟩),(34,k34 bV),(21,k21 aW),(20,k20 bv),(19,k19 aN),(12,k12 bD)] [(134,bJ)]) al 4 9 f9 c9 x F y:=fun x F y=>by kernel_rfl
theorem ok9:c9.ok prog 9:=Ctr.of_den (ap (ah (ah (ah (ah (ah (ah (b7) (by kernel_rfl) Ty) (by kernel_rfl) Ql) (by kernel_rfl) P5) (by kernel_rfl) Qe) (by kernel_rfl) QT) (by kernel_rfl) TK)) aX (hl:=al) (d:=4) func9 rfl (by decide) (e9 lpK jnK bD aN bv aW bV dR)
def mE (lp:Lp) (_:Jn) (x0:(List (ByteArray×Int))×List (ByteArray×(List (ByteArray×Int×Int×Int))×Bool)):Option Bool :=
 
 let v3:Bool:=decide ((↑x0.1.length:Int)>9);
 let v4:Bool:=!v3;
 let v5:Bool:=!v4||v4;bif v5 then bif v5 then bif v5 then bif v3||v4 then bif bif v3 then true else decide ((↑x0.2.length:Int)>9) then some false else lp (Int × PUnit) Bool (fun (again:Int×PUnit->Option Bool) (x:Int×PUnit)=>bif decide (x.1<(↑x0.1.length:Int)) then bif inB x.1 x0.1.length then bif decide ((↑(ByteArray.size (x0.1.getD x.1.toNat ({ data:={ toList:=[] } },0)).1):Int)>60) then some false else again (IntKind.wrap .i64 (x.1 + 1),PUnit.unit) else none else lp (Int×PUnit) Bool (fun (again:Int×PUnit->Option Bool) (x:Int×PUnit) =>
 let v10:Bool:=inB x.1 x0.2.length;
 let v11:Bool:=decide ((↑(ByteArray.size (x0.2.getD x.1.toNat ({ data:={ toList:=[] } },[],false)).1):Int)>60);
 let v12:Bool:=!v11;
 let v13:Bool:=!v12;
 let v14:Bool:=v13||v12;bif decide (x.1<(↑x0.2.length:Int)) then bif v10 then bif v14 then bif v14&&(v14&&(v13||v10)) then bif v14 then bif v14 then bif v14 then bif v14 then bif v11||v12 then bif bif v11 then true else decide ((↑(List.length (x0.2.getD x.1.toNat ({ data:={ toList:=[] } },[],false)).2.1):Int) > 13) then some false else lp (Int×PUnit) Bool (fun (again_1:Int×PUnit->Option Bool) (x_1:Int×PUnit)=>bif v10 then bif decide (x_1.1<(↑(List.length (x0.2.getD x.1.toNat ({ data:={ toList:=[] } },[],false)).2.1):Int)) then bif v10 then bif inB x_1.1 (List.length (x0.2.getD x.1.toNat ({ data:={ toList:=[] } },[],false)).2.1) then bif decide ((↑(ByteArray.size (List.getD (x0.2.getD x.1.toNat ({ data:={ toList:=[] } },[],false)).2.1 x_1.1.toNat ({ data:={ toList:=[] } },0,0,0)).1):Int)>60) then some false else again_1 (IntKind.wrap .i64 (x_1.1+1), PUnit.unit) else none else none else again (IntKind.wrap .i64 (x.1+1),PUnit.unit) else none) (0,PUnit.unit) else none else none else none else none else none else none else none else none else some true) (0,PUnit.unit)) (0,PUnit.unit) else none else none else none else none
def eW (x0:(List (ByteArray×Int))×List (ByteArray×(List (ByteArray×Int×Int×Int))×Bool)):Option Bool:=mE lpK jnK x0
abbrev t44:=((List (ByteArray×Int))×List (ByteArray×(List (ByteArray×Int×Int×Int))×Bool))->Option (Bool)
def c44:Ctr:=⟨[T25],[],[],.one .bool,fun x _ _=>eW x.1⟩
theorem e44 (lp:Lp) (jn:Jn):∀(x:TsS c44.as) (F:TsF c44.fs) (y:TsS c44.cs),mE lp jn x.1=cb lp jn (cx [] [(134,bJ)]) al 4 44 f44 c44 x F y:=fun x F y=>by kernel_rfl
theorem S8:c44.ok prog 44:=Ctr.of_den (ap (b7)) aX (hl:=al) (d:=4) func44 rfl (by decide) (e44 lpK jnK)
def oH (_:Lp) (_:Jn) (eW:t44) (x0:(List (ByteArray×Int))×List (ByteArray×(List (ByteArray×Int×Int×Int))×Bool)) (x1:List (Int×Int)):Option Bool :=
 aa (eW x0) fun (t:Bool) =>
 let v5:Bool:=!t||t;bif v5 then bif v5 then bif v5 then some (bif t then decide ((↑x1.length:Int)<=10) else false) else none else none else none
def bi (x0:(List (ByteArray×Int))×List (ByteArray×(List (ByteArray×Int×Int×Int))×Bool)) (x1:List (Int×Int)):Option Bool:=oH lpK jnK eW x0 x1
abbrev t10:=((List (ByteArray×Int))×List (ByteArray×(List (ByteArray×Int×Int×Int))×Bool))->(List (Int×Int))->Option (Bool)
def k10 (bi:t10):Ctr:=⟨[T25,(.sl T49)],[],[],.one .bool,fun x _ _=>bi x.1 x.2.1⟩
def c10:Ctr:=k10 bi
theorem e10 (lp:Lp) (jn:Jn) (eW:t44):∀(x:TsS c10.as) (F:TsF c10.fs) (y:TsS c10.cs),oH lp jn eW x.1 x.2.1=cb lp jn (cx [(44,⟨[T25],[],[],.one .bool,fun x _ _=>eW x.1⟩)] [(134,bJ)]) al 4 10 f10 c10 x F y:=fun x F y=>by kernel_rfl
theorem TY:c10.ok prog 10:=Ctr.of_den (ap (ah (b7) (by kernel_rfl) S8)) aX (hl:=al) (d:=4) func10 rfl (by decide) (e10 lpK jnK eW)
def tw (lp:Lp) (_:Jn) (x0:(List (ByteArray×Int))×List (ByteArray×(List (ByteArray×Int×Int×Int))×Bool)) (x1:ByteArray):Option Int :=
 lp (Int×PUnit) Int (fun (again:Int×PUnit->Option Int) (x:Int×PUnit)=>bif decide (x.1<(↑x0.2.length:Int)) then bif inB x.1 x0.2.length then bif List.beq (ByteArray.toList (x0.2.getD x.1.toNat ({ data:={ toList:=[] } },[],false)).1) (ByteArray.toList x1) then some x.1 else again (IntKind.wrap .i64 (x.1+1),PUnit.unit) else none else some (-1)) (0,PUnit.unit)
def cX (x0:(List (ByteArray×Int))×List (ByteArray×(List (ByteArray×Int×Int×Int))×Bool)) (x1:ByteArray):Option Int:=tw lpK jnK x0 x1
abbrev t22:=((List (ByteArray×Int))×List (ByteArray×(List (ByteArray×Int×Int×Int))×Bool))->(ByteArray)->Option (Int)
def k22 (cX:t22):Ctr:=⟨[T25,.str],[],[],.one i64,fun x _ _=>cX x.1 x.2.1⟩
def wk (_:Lp) (_:Jn) (x0:Int):Option Bool :=
 
 let v3:Bool:=decide (x0>=97);
 let v4:Bool:=decide (x0>=65);
 let v5:Bool:=!v3||v3;
 let v6:Bool:=bif v3 then decide (x0<=122) else false;
 let v7:Bool:=!v6;
 let v8:Bool:=!v7;
 let v9:Bool:=v7&&v4;
 let v10:Bool:=v8||v7;bif v5 then bif v5 then bif v10 then bif v10 then bif !v9||v9 then bif (v8||v10)&&(v8||(!v4||(v8||v9))) then bif v6||v7 then some (bif v6 then true else bif v4 then decide (x0<=90) else false) else none else none else none else none else none else none else none
def ig (x0:Int):Option Bool:=wk lpK jnK x0
abbrev t98:=(Int)->Option (Bool)
def xa (_:Lp) (_:Jn) (x0:Int):Option Bool :=
 
 let v3:Bool:=decide (x0>=48);
 let v4:Bool:=!v3||v3;bif v4 then bif v4 then some (bif v3 then decide (x0<=57) else false) else none else none
def oM (x0:Int):Option Bool:=xa lpK jnK x0
abbrev Tj:=(Int)->Option (Bool)
def yX (lp:Lp) (_:Jn) (ig:t98) (oM:Tj) (x0:ByteArray) (x1:Int):Option Int :=
 lp (Int×PUnit) Int (fun (again:Int×PUnit->Option Int) (x:Int×PUnit) =>
 let v6:Bool:=inB x.1 (ByteArray.size x0);
 let v7:Int:=eU x0 x.1.toNat;
 let v8:Bool:=decide (x.1<(↑(ByteArray.size x0):Int));
 let v9:Bool:=!v8;
 let v10:Bool:=v9||v8;
 let v11:Bool:=v9||v10;bif v10&&(v10&&(v9||v6)) then bif v10 then aa (bif v8 then ig v7 else some false) fun (t:Bool) =>
 let v13:Bool:=v8&&!t;
 let v14:Bool:=!v13;
 let v15:Bool:=v14||v13;bif v10 then bif v15&&(v15&&(v14||v6)) then bif v15 then aa (bif v13 then oM v7 else some false) fun (t_1:Bool) =>
 let v17:Bool:=bif t then true else t_1;
 let v18:Bool:=v8&&!v17;
 let v19:Bool:=!v18;
 let v20:Bool:=v19||v18;bif v11&&(v9||(t||(v9||v13))) then bif v10 then bif v20&&(v20&&(v19||v6)) then bif v20 then bif v11&&(v9||(v17||(v9||v18))) then bif v10 then bif bif v8 then bif v17 then true else decide (v7=95) else false then again (IntKind.wrap .i64 (x.1+1),PUnit.unit) else some x.1 else none else none else none else none else none else none else none else none else none else none else none) (x1,PUnit.unit)
def qM (x0:ByteArray) (x1:Int):Option Int:=yX lpK jnK ig oM x0 x1
abbrev t99:=(ByteArray)->(Int)->Option (Int)
def u5 (_:Lp) (_:Jn) (ig:t98) (qM:t99) (x0:ByteArray):Option Bool :=
 
 let v3:Bool:=decide ((↑(ByteArray.size x0):Int)=0);
 let v4:Bool:=!v3;
 let v5:Bool:=!v4||v4;
 let v6:Bool:=bif v3 then true else decide ((↑(ByteArray.size x0):Int)>20);
 let v7:Bool:=!v6;
 let v8:Bool:=!v7;
 let v9:Bool:=v8||v7;bif v5 then bif v5 then bif v3||v4 then bif v9&&(v8||inB 0 (ByteArray.size x0)) then bif v9 then aa (bif v7 then ig (eU x0 (0 : Nat)) else some false) fun (t:Bool)=>bif v9 then bif v6||v7 then bif bif v6 then true else !t then some false else aa (qM x0 0) fun (t:Int)=>some (decide (t = (↑(ByteArray.size x0):Int))) else none else none else none else none else none else none else none
def kW (x0:ByteArray):Option Bool:=u5 lpK jnK ig qM x0
abbrev t48:=(ByteArray)->Option (Bool)
def rK (lp:Lp) (_:Jn) (x0:(List (ByteArray×Int))×List (ByteArray×(List (ByteArray×Int×Int×Int))×Bool)) (x1:ByteArray):Option Int :=
 lp (Int×PUnit) Int (fun (again:Int×PUnit->Option Int) (x:Int×PUnit)=>bif decide (x.1<(↑x0.1.length:Int)) then bif inB x.1 x0.1.length then bif List.beq (ByteArray.toList (x0.1.getD x.1.toNat ({ data:={ toList:=[] } },0)).1) (ByteArray.toList x1) then some x.1 else again (IntKind.wrap .i64 (x.1+1),PUnit.unit) else none else some (-1)) (0,PUnit.unit)
def eP (x0:(List (ByteArray×Int))×List (ByteArray×(List (ByteArray×Int×Int×Int))×Bool)) (x1:ByteArray):Option Int:=rK lpK jnK x0 x1
abbrev t49:=((List (ByteArray×Int))×List (ByteArray×(List (ByteArray×Int×Int×Int))×Bool))->(ByteArray)->Option (Int)
def DZ (_:Lp) (_:Jn) (x0:Int):Option (Int×Int) :=
 some (x0,1)
def eQ (x0:Int):Option (Int×Int):=DZ lpK jnK x0
abbrev t73:=(Int)->Option (Int×Int)
def zW (_:Lp) (_:Jn) (x0:Int×Int):Option (Int×Int) :=
 
 let v3:Int:=2 ^ 1;
 let v4:Bool:=decide ((0:Int)<=1);bif v4 then bif v4 then bif decide ((0:Int)<=63) then some (Int.fdiv x0.1 v3,IntKind.wrap .u64 (Int.fdiv x0.2 v3 + IntKind.wrap .u64 (x0.1*2 ^ 63))) else none else none else none
def jQ (x0:Int×Int):Option (Int×Int):=zW lpK jnK x0
abbrev So:=(Int×Int)->Option (Int×Int)
def zF (_:Lp) (_:Jn) (x0:Int×Int) (x1:Int×Int):Option Bool :=
 
 let v4:Bool:=decide (x0.1=x1.1);
 let v5:Bool:=decide (x0.1<x1.1);
 let v6:Bool:=!v5;
 let v7:Bool:=!v6;
 let v8:Bool:=v6&&v4;
 let v9:Bool:=v7||v6;
 let v10:Bool:=!v8||v8;bif v9 then bif v9 then bif v9&&v9 then bif v9 then bif v10 then bif v10 then bif v10&&v10 then bif (v7||v9)&&(v7||(!v4||(v7||v8))) then bif v5 || v6 then some (bif v5 then true else bif v4 then decide (x0.2<x1.2) else false) else none else none else none else none else none else none else none else none else none
def eM (x0:Int×Int) (x1:Int×Int):Option Bool:=zF lpK jnK x0 x1
abbrev M4:=(Int×Int)->(Int×Int)->Option (Bool)
def w7 (_:Lp) (_:Jn) (x0:Int×Int) (x1:Int×Int):Option (Int×Int) :=
 
 let v4:Int:=IntKind.wrap .u64 (x0.1 - x1.1);
 let v5:Int:=IntKind.wrap .u64 (x0.2 - x1.2);bif decide (x0.2<x1.2) then some (IntKind.wrap .u64 (v4 - 1),v5) else some (v4,v5)
def eD (x0:Int×Int) (x1:Int×Int):Option (Int×Int):=w7 lpK jnK x0 x1
abbrev Pb:=(Int×Int)->(Int×Int)->Option (Int×Int)
def zV (_:Lp) (_:Jn) (x0:Int×Int) (x1:Int×Int):Option (Int×Int) :=
 
 let v4:Int:=IntKind.wrap .u64 (x0.1+x1.1);
 let v5:Int:=IntKind.wrap .u64 (x0.2+x1.2);bif decide (v5<x0.2) then some (IntKind.wrap .u64 (v4+1),v5) else some (v4,v5)
def jX (x0:Int×Int) (x1:Int×Int):Option (Int×Int):=zV lpK jnK x0 x1
abbrev Qn:=(Int×Int)->(Int×Int)->Option (Int×Int)
def BH (lp:Lp) (_:Jn) (jQ:So) (eM:M4) (eD:Pb) (jX:Qn) (x0:Int×Int) (x1:Int×Int):Option (Int×Int) :=
 bif decide (x0.1=0)&&(decide (x0.2=0)&&true) then some x1 else lp (Int×(Int×Int)×(Int×Int)×PUnit) (Int×Int) (fun (again:Int×(Int×Int)×(Int × Int)×PUnit->Option (Int×Int)) (x:Int×(Int×Int)×(Int×Int)×PUnit) =>
 let v6:Bool:=decide (IntKind.wrap .u64 (↑(Nat.land (Int.toNat (x.2.1.2 % Int.ofNat 18446744073709551616)) (Int.toNat (1 % Int.ofNat (18446744073709551616 : Nat)))):Int)=0);
 let v7:Bool:=!v6||v6;bif v7 then bif v7 then bif v7 then bif v7 then bif bif v6 then decide (IntKind.wrap .u64 (↑(Nat.land (Int.toNat (x.2.2.1.2 % Int.ofNat 18446744073709551616)) (Int.toNat (1 % Int.ofNat 18446744073709551616))):Int)=0) else false then aa (jQ x.2.1) fun (t:Int×Int) => aa (jQ x.2.2.1) fun (t_1:Int×Int)=>again (IntKind.wrap .i64 (x.1+1),t,t_1,PUnit.unit) else lp ((Int×Int)×(Int×Int)×PUnit) (Int × Int) (fun (again:(Int×Int)×(Int×Int)×PUnit->Option (Int×Int)) (x_1:(Int×Int)×(Int×Int)×PUnit) =>
 let v10:(Int×Int)×PUnit:=(x_1.2.1,PUnit.unit);bif !(decide (x_1.1.1=0)&&(decide (x_1.1.2=0)&&true)) then lp ((Int×Int)×PUnit) (Int×Int) (fun (again_1:(Int×Int)×PUnit->Option (Int×Int)) (x:(Int×Int)×PUnit)=>bif decide (IntKind.wrap .u64 (↑(Nat.land (Int.toNat (x.1.2 % Int.ofNat 18446744073709551616)) (Int.toNat (1 % Int.ofNat 18446744073709551616))):Int)=0) then aa (jQ x.1) fun (t:Int×Int)=>again_1 (t, PUnit.unit) else lp ((Int×Int)×PUnit) (Int×Int) (fun (again_2:(Int×Int)×PUnit->Option (Int×Int)) (x_2:(Int×Int)×PUnit)=>bif decide (IntKind.wrap .u64 (↑(Nat.land (Int.toNat (x_2.1.2 % Int.ofNat 18446744073709551616)) (Int.toNat (1 % Int.ofNat 18446744073709551616))):Int)=0) then aa (jQ x_2.1) fun (t:Int×Int)=>again_2 (t,PUnit.unit) else aa (eM x.1 x_2.1) fun (t:Bool)=>bif t then aa (eD x_2.1 x.1) fun (t:Int × Int)=>again (t,x.1,PUnit.unit) else aa (eD x.1 x_2.1) fun (t:Int×Int)=>again (t,x_2.1,PUnit.unit)) v10) (x_1.1,PUnit.unit) else lp (Int×(Int×Int) × PUnit) (Int×Int) (fun (again:Int×(Int×Int)×PUnit->Option (Int×Int)) (x:Int×(Int×Int)×PUnit)=>bif decide (x.1>0) then aa (jX x.2.1 x.2.1) fun (t:Int×Int)=>again (IntKind.wrap .i64 (x.1 - 1),t,PUnit.unit) else some x.2.1) (x.1,v10)) (x.2.1,x.2.2.1,PUnit.unit) else none else none else none else none) (0,x0,x1,PUnit.unit)
def lj (x0:Int×Int) (x1:Int×Int):Option (Int×Int):=BH lpK jnK jQ eM eD jX x0 x1
abbrev PZ:=(Int×Int)->(Int×Int)->Option (Int×Int)
def zi (_:Lp) (_:Jn) (x0:Int):Option Int :=
 
 let v3:Int:=IntKind.wrap .u64 x0;bif decide (x0<0) then some (IntKind.wrap .u64 (0 - v3)) else some v3
def bB (x0:Int):Option Int:=zi lpK jnK x0
abbrev I3:=(Int)->Option (Int)
def w5 (_:Lp) (_:Jn) (lj:PZ) (bB:I3) (x0:Int×Int):Option Bool :=
 
 let v3:Bool:=decide (x0.2<1);
 let v4:Bool:=!v3;
 let v5:Bool:=bif v3 then true else decide (x0.2>1152921504606846976);
 let v6:Bool:=!v4||v4;
 let v7:Bool:=!v5;
 let v8:Bool:=bif v5 then true else decide (x0.1<(-1152921504606846976));
 let v9:Bool:=!v8;
 let v10:Bool:=!v7||v7;
 let v11:Bool:=!v9||v9;bif v6 then bif v6 then bif v3||v4 then bif v10 then bif v10 then bif v5||v7 then bif v11 then bif v11 then bif v8||v9 then bif bif v8 then true else decide (x0.1>1152921504606846976) then some false else aa (bB x0.1) fun (t:Int)=>aa (bB x0.2) fun (t_1:Int)=>aa (lj (0, t) (0,t_1)) fun (t:Int×Int)=>some (decide (t.1=0)&&(decide (t.2=1)&&true)) else none else none else none else none else none else none else none else none else none
def i8 (x0:Int×Int):Option Bool:=w5 lpK jnK lj bB x0
abbrev t52:=(Int×Int)->Option (Bool)
def rV (_:Lp) (_:Jn) (i8:t52) (x0:Int×Int):Option Bool :=
 aa (i8 x0) fun (t:Bool) =>
 let v4:Bool:=!t||t;
 let v5:Bool:=bif t then decide (x0.1>=x0.2) else false;
 let v6:Bool:=!v5||v5;bif v4 then bif v4 then bif v4&&v4 then bif v4 then bif v6 then bif v6 then bif v6 then some (bif v5 then decide (x0.1<=100) else false) else none else none else none else none else none else none else none
def kI (x0:Int×Int):Option Bool:=rV lpK jnK i8 x0
abbrev Sp:=(Int×Int)->Option (Bool)
def y8 (_:Lp) (_:Jn) (eP:t49) (eQ:t73) (kI:Sp) (x0:(List (ByteArray×Int))×List (ByteArray×(List (ByteArray×Int×Int×Int))×Bool)) (x1:ByteArray×Int×Int×Int) (x2:Bool):Option Bool :=
 
 let v5:Bool:=!x2||x2;
 let v6:Bool:=decide (x1.2.1=0);
 let v7:Bool:=decide (x1.2.1=1);
 let v8:Bool:=decide (x1.2.1=2);
 let v9:Bool:=!v7;
 let v10:Bool:=!v8;
 let v11:Bool:=bif v8 then true else v6;
 let v12:Bool:=!v9||v9;
 let v13:Bool:=!v10||v10;
 let v14:Bool:=!v11;
 let v15:Bool:=!v14||v14;bif v5 then aa (bif x2 then eQ 1 else some (0,0)) fun (t:Int×Int) =>
 let v17:Bool:=bif x2 then !(decide (x1.2.2.1=t.1)&&(decide (x1.2.2.2=t.2)&&true)) else false;
 let v18:Bool:=!v17;
 let v19:Bool:=!v18||v18;bif v5&&v5 then bif v5 then bif v19 then bif v19 then aa (bif v18 then kI x1.2.2 else some false) fun (t:Bool)=>bif v19 then bif v17||v18 then bif bif v17 then true else !t then some false else bif List.beq (ByteArray.toList x1.1) (ByteArray.toList { data:=#[] }) then some v6 else aa (eP x0 x1.1) fun (t:Int)=>bif decide (t<0) then some false else bif x2 then bif v12 then bif v12 then bif v7||v9 then some (bif v7 then true else decide (x1.2.1=(-1 : Int))) else none else none else none else bif v13 then bif v13 then bif v8||v10 then bif v15 then bif v15 then bif v11||v14 then some (bif v11 then true else decide (x1.2.1 = (-2))) else none else none else none else none else none else none else none else none else none else none else none else none else none
def ru (x0:(List (ByteArray×Int))×List (ByteArray×(List (ByteArray×Int×Int×Int))×Bool)) (x1:ByteArray×Int×Int×Int) (x2:Bool):Option Bool:=y8 lpK jnK eP eQ kI x0 x1 x2
abbrev Tz:=((List (ByteArray×Int))×List (ByteArray×(List (ByteArray×Int×Int×Int))×Bool))->(ByteArray×Int×Int×Int)->(Bool)->Option (Bool)
def Af (lp:Lp) (_:Jn) (ru:Tz) (x0:(List (ByteArray×Int))×List (ByteArray×(List (ByteArray×Int×Int×Int))×Bool)) (x1:ByteArray×(List (ByteArray×Int×Int×Int))×Bool):Option Bool :=
 
 let v4:Bool:=!x1.2.2;
 let v5:Bool:=!v4;
 let v6:Bool:=!v5;
 let v7:Int:=IntKind.wrap .i64 ((↑x1.2.1.length:Int) - 1);
 let v8:Bool:=v6||v5;
 let v9:Bool:=decide ((↑x1.2.1.length:Int)<2);
 let v10:Bool:=!v9;
 let v11:Bool:=!v10||v10;bif v11 then bif v11 then bif v11 then bif v9||v10 then bif bif v9 then true else decide ((↑x1.2.1.length:Int)>10) then some false else lp (Int×PUnit) Bool (fun (again:Int×PUnit->Option Bool) (x:Int×PUnit) =>
 let v14:Bool:=decide (x.1=0);
 let v15:Bool:=!v14;
 let v16:Bool:=!v15||v15;bif decide (x.1<(↑x1.2.1.length:Int)) then bif inB x.1 x1.2.1.length then bif v16 then bif v16 then bif v16 then bif v16 && v16 then bif v14||v15 then aa (ru x0 (x1.2.1.getD x.1.toNat ({ data:={ toList:=[] } },0,0,0)) (bif v14 then true else decide (x.1=v7))) fun (t:Bool)=>bif !t then some false else again (IntKind.wrap .i64 (x.1+1),PUnit.unit) else none else none else none else none else none else none else bif v8 then bif v8 then bif v8 then bif v8 then bif v8&&(v8&&(v6||inB v7 x1.2.1.length)) then bif v8 then bif v8 then bif v8 then bif v4||v5 then some (bif v4 then true else List.beq (ByteArray.toList (x1.2.1.getD v7.toNat ({ data:={ toList:=[] } },0,0,0)).1) (ByteArray.toList { data:=#[] })) else none else none else none else none else none else none else none else none else none) (0,PUnit.unit) else none else none else none else none
def rm (x0:(List (ByteArray×Int))×List (ByteArray×(List (ByteArray×Int×Int×Int))×Bool)) (x1:ByteArray×(List (ByteArray×Int×Int×Int))×Bool):Option Bool:=Af lpK jnK ru x0 x1
abbrev t50:=((List (ByteArray×Int))×List (ByteArray×(List (ByteArray×Int×Int×Int))×Bool))->(ByteArray×(List (ByteArray×Int×Int×Int))×Bool)->Option (Bool)
def w3 (lp:Lp) (_:Jn) (cX:t22) (kW:t48) (eP:t49) (rm:t50) (x0:(List (ByteArray×Int))×List (ByteArray×(List (ByteArray×Int×Int×Int))×Bool)):Option Bool :=
 
 let v3:Bool:=decide ((↑x0.1.length:Int)<1);
 let v4:Bool:=!v3;
 let v5:Bool:=bif v3 then true else decide ((↑x0.1.length:Int)>6);
 let v6:Bool:=!v4||v4;
 let v7:Bool:=!v5;
 let v8:Bool:=bif v5 then true else decide ((↑x0.2.length:Int)<1);
 let v9:Bool:=!v8;
 let v10:Bool:=!v7||v7;
 let v11:Bool:=!v9||v9;bif v6 then bif v6 then bif v6 then bif v3||v4 then bif v10 then bif v10 then bif v10 then bif v5||v7 then bif v11 then bif v11 then bif v11 then bif v8 || v9 then bif bif v8 then true else decide ((↑x0.2.length:Int)>6) then some false else lp (Int×PUnit) Bool (fun (again:Int×PUnit->Option Bool) (x:Int × PUnit)=>bif decide (x.1<(↑x0.1.length:Int)) then bif inB x.1 x0.1.length then aa (kW (x0.1.getD x.1.toNat ({ data:={ toList := [] } },0)).1) fun (t:Bool) =>
 let v15:Bool:=!t;
 let v16:Bool:=!v15;
 let v17:Bool:=!v16||v16;
 let v18:Bool:=v17&&v17;bif v17 then bif v18 then aa (bif v16 then eP x0 (x0.1.getD x.1.toNat ({ data:={ toList:=[] } },0)).1 else some 0) fun (t:Int) =>
 let v20:Bool:=bif v15 then true else !decide (t=x.1);
 let v21:Bool:=!v20;
 let v22:Bool:=!v21||v21;
 let v23:Bool:=bif v20 then true else decide ((x0.1.getD x.1.toNat ({ data:={ toList:=[] } },0)).2<0);
 let v24:Bool:=!v23;
 let v25:Bool:=!v24||v24;bif v18 then bif v15||v16 then bif v22 then bif v22 then bif v20||v21 then bif v25 then bif v25 then bif v23||v24 then bif bif v23 then true else decide ((x0.1.getD x.1.toNat ({ data:={ toList:=[] } },0)).2>16777216) then some false else again (IntKind.wrap .i64 (x.1+1), PUnit.unit) else none else none else none else none else none else none else none else none else none else none else none else lp (Int×Int×PUnit) Bool (fun (again:Int×Int × PUnit->Option Bool) (x:Int×Int×PUnit) =>
 let v16:Int×PUnit:=(IntKind.wrap .i64 (x.2.1+1),PUnit.unit);
 let v17:ByteArray×List (ByteArray×Int×Int×Int)×Bool:=x0.2.getD x.2.1.toNat ({ data:={ toList:=[] } },[],false);bif decide (x.2.1<(↑x0.2.length:Int)) then bif inB x.2.1 x0.2.length then aa (kW v17.1) fun (t:Bool) =>
 let v19:Bool:=!t;
 let v20:Bool:=!v19;
 let v21:Bool:=!v20||v20;
 let v22:Bool:=v21&&v21;bif v21 then bif v22 then aa (bif v20 then cX x0 v17.1 else some 0) fun (t:Int) =>
 let v24:Bool:=bif v19 then true else !decide (t=x.2.1);
 let v25:Bool:=!v24;
 let v26:Bool:=!v25||v25;bif v22 then bif v19||v20 then bif v26 then bif v26&&v26 then aa (bif v25 then eP x0 v17.1 else some 0) fun (t:Int) =>
 let v28:Bool:=bif v24 then true else decide (t>=0);
 let v29:Bool:=!v28;
 let v30:Bool:=!v29||v29;bif v26 then bif v24||v25 then bif v30&&v30 then aa (bif v29 then rm x0 v17 else some false) fun (t:Bool)=>bif v30 then bif v28||v29 then bif bif v28 then true else !t then some false else bif v17.2.2 then again (IntKind.wrap .i64 (x.1+1),v16) else again (x.1,v16) else none else none else none else none else none else none else none else none else none else none else none else none else some (decide (x.1<=1))) (0,0,PUnit.unit)) (0, PUnit.unit) else none else none else none else none else none else none else none else none else none else none else none else none
def cd (x0:(List (ByteArray×Int))×List (ByteArray×(List (ByteArray×Int×Int×Int))×Bool)):Option Bool:=w3 lpK jnK cX kW eP rm x0
abbrev t13:=((List (ByteArray×Int))×List (ByteArray×(List (ByteArray×Int×Int×Int))×Bool))->Option (Bool)
def k13 (cd:t13):Ctr:=⟨[T25],[],[],.one .bool,fun x _ _=>cd x.1⟩
def zL (lp:Lp) (_:Jn) (x0:(List Int)×List ((List Int)×Int×Int)) (x1:(List Int)×List ((List Int)×Int×Int)):Option Bool :=
 
 let v4:Bool:=!decide ((↑x0.1.length:Int)=(↑x1.1.length:Int));
 let v5:Bool:=!v4;
 let v6:Bool:=!v5||v5;bif v6 then bif v6 then bif v6 then bif v6 then bif v6&&v6 then bif v4||v5 then bif bif v4 then true else !decide ((↑x0.2.length:Int) = (↑x1.2.length:Int)) then some false else lp (Int×PUnit) Bool (fun (again:Int×PUnit->Option Bool) (x:Int×PUnit)=>bif decide (x.1<(↑x0.1.length : Int)) then bif inB x.1 x0.1.length then bif inB x.1 x1.1.length then bif !decide (x0.1.getD x.1.toNat 0=x1.1.getD x.1.toNat 0) then some false else again (IntKind.wrap .i64 (x.1+1),PUnit.unit) else none else none else lp (Int×PUnit) Bool (fun (again:Int×PUnit->Option Bool) (x:Int×PUnit) =>
 let v11:Bool:=!decide ((x0.2.getD x.1.toNat ([],0,0)).2.1=(x1.2.getD x.1.toNat ([],0,0)).2.1);
 let v12:Bool:=!v11;
 let v13:Bool:=bif v11 then true else !decide ((x0.2.getD x.1.toNat ([],0,0)).2.2=(x1.2.getD x.1.toNat ([],0,(0 : Int))).2.2);
 let v14:Bool:=!v12||v12;
 let v15:Bool:=!v13;
 let v16:Bool:=!v15||v15;bif decide (x.1<(↑x0.2.length:Int)) then bif inB x.1 x0.2.length then bif inB x.1 x1.2.length then bif v14 then bif v14 then bif v14&&v14 then bif v11||v12 then bif v16 then bif v16 then bif v16 then bif v16 then bif v16&&v16 then bif v13||v15 then bif bif v13 then true else !decide ((↑(List.length (x0.2.getD x.1.toNat ([],0,0)).1):Int)=(↑(List.length (x1.2.getD x.1.toNat ([],0,0)).1):Int)) then some false else lp (Int×PUnit) Bool (fun (again_1:Int×PUnit->Option Bool) (x_1:Int×PUnit)=>bif decide (x_1.1<(↑(List.length (x0.2.getD x.1.toNat ([],0,0)).1):Int)) then bif inB x_1.1 (List.length (x0.2.getD x.1.toNat ([],0,0)).1) then bif inB x_1.1 (List.length (x1.2.getD x.1.toNat ([],0,0)).1) then bif !decide (List.getD (x0.2.getD x.1.toNat ([],0,0)).1 x_1.1.toNat 0=List.getD (x1.2.getD x.1.toNat ([],0,0)).1 x_1.1.toNat 0) then some false else again_1 (IntKind.wrap .i64 (x_1.1 + 1),PUnit.unit) else none else none else again (IntKind.wrap .i64 (x.1+1),PUnit.unit)) (0,PUnit.unit) else none else none else none else none else none else none else none else none else none else none else none else none else some true) (0,PUnit.unit)) (0,PUnit.unit) else none else none else none else none else none else none
def iI (x0:(List Int)×List ((List Int)×Int×Int)) (x1:(List Int)×List ((List Int)×Int×Int)):Option Bool:=zL lpK jnK x0 x1
abbrev t14:=((List Int)×List ((List Int)×Int×Int))->((List Int)×List ((List Int)×Int×Int))->Option (Bool)
def Al (lp:Lp) (_:Jn) (x0:ByteArray×(List (ByteArray×Int×Int×Int))×Bool) (x1:ByteArray):Option Int :=
 lp (Int×Int×PUnit) Int (fun (again:Int×Int×PUnit->Option Int) (x:Int×Int×PUnit) =>
 let v6:Int×PUnit:=(IntKind.wrap .i64 (x.2.1+1),PUnit.unit);
 let v7:Bool:=inB x.2.1 x0.2.1.length;
 let v8:ByteArray×Int×Int×Int:=x0.2.1.getD x.2.1.toNat ({ data:={ toList:=[] } },0,0,0);bif decide (x.2.1<(↑x0.2.1.length:Int)) then bif v7 then bif List.beq (ByteArray.toList v8.1) (ByteArray.toList x1) then bif v7 then again (IntKind.wrap .i64 (x.1+v8.2.1),v6) else none else again (x.1,v6) else none else some x.1) (0,0,PUnit.unit)
def q7 (x0:ByteArray×(List (ByteArray×Int×Int×Int))×Bool) (x1:ByteArray):Option Int:=Al lpK jnK x0 x1
abbrev TF:=(ByteArray×(List (ByteArray×Int×Int×Int))×Bool)->(ByteArray)->Option (Int)
def vg (lp:Lp) (_:Jn) (q7:TF) (x0:(List (ByteArray×Int))×List (ByteArray×(List (ByteArray×Int×Int×Int))×Bool)):Option (List (List Int)) :=
 lp ((List Nat×List (Option (List Int)))×Int×PUnit) (List (List Int)) (fun (again:(List Nat×List (Option (List Int)))×Int×PUnit->Option (List (List Int))) (x:(List Nat × List (Option (List Int)))×Int×PUnit)=>bif decide (x.2.1<(↑x0.1.length:Int)) then lp (List Int×Int×PUnit) (List (List Int)) (fun (again_1:List Int×Int × PUnit->Option (List (List Int))) (x_1:List Int×Int×PUnit)=>bif decide (x_1.2.1<(↑x0.2.length:Int)) then bif inB x_1.2.1 x0.2.length then bif inB x.2.1 x0.1.length then aa (q7 (x0.2.getD x_1.2.1.toNat ({ data:={ toList:=[] } },[],false)) (x0.1.getD x.2.1.toNat ({ data:={ toList:=[] } },0)).1) fun (t:Int)=>bif c7 (List.length x_1.1+1) 8 then again_1 (x_1.1++[t],IntKind.wrap .i64 (x_1.2.1 + 1),PUnit.unit) else none else none else none else bif c7 (List.length x.1.1+1) 24 then again ((x.1.1++[List.length x.1.2+0], x.1.2++[some x_1.1]),IntKind.wrap .i64 (x.2.1+1),PUnit.unit) else none) ([],0,PUnit.unit) else bif List.all x.1.1 fun (x_1:Nat)=>dL x.1.2 x_1 then some (List.map (fun (x_1:Nat)=>af x.1.2 x_1) x.1.1) else none) (([],[]),0,PUnit.unit)
def ia (x0:(List (ByteArray×Int))×List (ByteArray×(List (ByteArray×Int×Int×Int))×Bool)):Option (List (List Int)):=vg lpK jnK q7 x0
abbrev t51:=((List (ByteArray×Int))×List (ByteArray×(List (ByteArray×Int×Int×Int))×Bool))->Option (List (List Int))
def ol (lp:Lp) (_:Jn) (ia:t51) (x0:(List (ByteArray×Int))×List (ByteArray×(List (ByteArray×Int×Int×Int))×Bool)) (x1:List Int):Option ((List Int)×List ((List Int)×Int×Int)) :=
 aa (ia x0) fun (t:List (List Int))=>lp (Int×List Int×List (List Int×Int×Int)×PUnit) (List Int×List (List Int×Int×Int)) (fun (again:Int×List Int×List (List Int×Int×Int)×PUnit->Option (List Int×List (List Int×Int×Int))) (x:Int×List Int×List (List Int×Int×Int)×PUnit)=>bif decide (x.1<(↑x0.1.length:Int)) then bif inB x.1 t.length then bif inB x.1 x0.1.length then bif c7 (List.length x.2.2.1+1) 40 then again (IntKind.wrap IntKind.i64 (x.1+1),x.2.1,x.2.2.1++[(t.getD x.1.toNat [],3,(x0.1.getD x.1.toNat ({ data:={ toList:=[] } },(0 : Int))).2)],PUnit.unit) else none else none else none else some (x.2.1,x.2.2.1)) (0,x1,[],PUnit.unit)
def aL (x0:(List (ByteArray×Int))×List (ByteArray×(List (ByteArray×Int×Int×Int))×Bool)) (x1:List Int):Option ((List Int)×List ((List Int)×Int×Int)):=ol lpK jnK ia x0 x1
abbrev t15:=((List (ByteArray×Int))×List (ByteArray×(List (ByteArray×Int×Int×Int))×Bool))->(List Int)->Option ((List Int)×List ((List Int)×Int×Int))
def k15 (aL:t15):Ctr:=⟨[T25,(.sl i64)],[],[],.one T32,fun x _ _=>aL x.1 x.2.1⟩
def c15:Ctr:=k15 aL
theorem e15 (lp:Lp) (jn:Jn) (ia:t51):∀(x:TsS c15.as) (F:TsF c15.fs) (y:TsS c15.cs),ol lp jn ia x.1 x.2.1=cb lp jn (cx [(51,⟨[T25],[],[],.one (.sl (.sl i64)),fun x _ _=>ia x.1⟩)] [(134,bJ)]) al 4 15 f15 c15 x F y:=fun x F y=>by kernel_rfl
def r8 (lp:Lp) (_:Jn) (x0:(List (ByteArray×Int))×List (ByteArray×(List (ByteArray×Int×Int×Int))×Bool)):Option (List Int) :=
 lp (List Int×Int×PUnit) (List Int) (fun (again:List Int×Int×PUnit->Option (List Int)) (x:List Int×Int×PUnit)=>bif decide (x.2.1<(↑x0.2.length:Int)) then bif c7 (List.length x.1+1) 8 then again (x.1++[1],IntKind.wrap .i64 (x.2.1+1),PUnit.unit) else none else some x.1) ([],(0 : Int),PUnit.unit)
def cz (x0:(List (ByteArray×Int))×List (ByteArray×(List (ByteArray×Int×Int×Int))×Bool)):Option (List Int):=r8 lpK jnK x0
abbrev t16:=((List (ByteArray×Int))×List (ByteArray×(List (ByteArray×Int×Int×Int))×Bool))->Option (List Int)
def k16 (cz:t16):Ctr:=⟨[T25],[],[],.one (.sl i64),fun x _ _=>cz x.1⟩
def c16:Ctr:=k16 cz
theorem e16 (lp:Lp) (jn:Jn):∀(x:TsS c16.as) (F:TsF c16.fs) (y:TsS c16.cs),r8 lp jn x.1=cb lp jn (cx [] [(134,bJ)]) al 4 16 f16 c16 x F y:=fun x F y=>by kernel_rfl
def B3 (lp:Lp) (_:Jn) (i8:t52) (x0:List (Int×Int)):Option Bool :=
 lp (Int×PUnit) Bool (fun (again:Int×PUnit->Option Bool) (x:Int×PUnit)=>bif decide (x.1<(↑x0.length:Int)) then bif inB x.1 x0.length then aa (i8 (x0.getD x.1.toNat (0,0))) fun (t:Bool)=>bif !t then some false else again (IntKind.wrap .i64 (x.1+1),PUnit.unit) else none else some true) (0,PUnit.unit)
def jU (x0:List (Int×Int)):Option Bool:=B3 lpK jnK i8 x0
abbrev t17:=(List (Int×Int))->Option (Bool)
def c17:Ctr:=⟨[(.sl T49)],[],[],.one .bool,fun x _ _=>jU x.1⟩
def Bu (lp:Lp) (_:Jn) (eM:M4) (eD:Pb) (x0:Int×Int) (x1:Int×Int):Option ((Int×Int)×(Int×Int)×Unit) :=
 
 let v4:Bool:=nzB x1.2;
 let v5:Int:=2 ^ 63;
 let v6:Int:=2 ^ 1;
 let v7:Bool:=decide (x0.1=0);
 let v8:Bool:=decide ((0:Int)<=63);
 let v9:Bool:=decide ((0:Int)<=1);
 let v10:Bool:=!v7||v7;bif v10 then bif v10 then bif v10 then bif bif v7 then decide (x1.1=0) else false then bif v4 then bif v4 then some ((0,IntKind.wrap IntKind.u64 (Int.tdiv x0.2 x1.2)),(0,Int.tmod x0.2 x1.2),PUnit.unit) else none else none else lp (Int×(Int×Int)×(Int×Int)×(Int×Int)×PUnit) ((Int×Int) × (Int×Int)×PUnit) (fun (again:Int×(Int×Int)×(Int×Int)×(Int×Int)×PUnit->Option ((Int×Int)×(Int×Int)×PUnit)) (x:Int×(Int×Int)×(Int×Int)×(Int × Int)×PUnit) =>
 let v13:Int:=IntKind.wrap .i64 (x.1+1);
 let v14:Int:=IntKind.wrap .u64 (x.2.2.1.2*v6);
 let v15:Int:=IntKind.wrap .u64 (IntKind.wrap .u64 (x.2.2.1.1*v6)+Int.fdiv x.2.2.1.2 v5);
 let v16:Bool:=decide (Int.fdiv x.2.2.2.1.1 v5>0);
 let v17:Bool:=!v16;
 let v18:Int×Int:=(IntKind.wrap .u64 (IntKind.wrap .u64 (x.2.1.1*v6)+Int.fdiv x.2.1.2 v5),IntKind.wrap .u64 (x.2.1.2*v6));
 let v19:Int×Int:=(IntKind.wrap .u64 (IntKind.wrap .u64 (x.2.2.2.1.1*v6)+Int.fdiv x.2.2.2.1.2 v5),IntKind.wrap .u64 (IntKind.wrap IntKind.u64 (x.2.2.2.1.2*v6)+Int.fdiv x.2.1.1 v5));
 let v20:Bool:=!v17||v17;bif decide (x.1<128) then bif v8 then bif v9 then bif v8 then bif v9 then bif v8 then bif v9 then bif v8 then bif v9 then bif v9 then bif v8 then bif v9 then bif v20&&v20 then aa (bif v17 then eM v19 x1 else some false) fun (t:Bool)=>bif v20 then bif v16||v17 then bif bif v16 then true else !t then aa (eD v19 x1) fun (t:Int×Int)=>again (v13,v18,(v15,IntKind.wrap .u64 (v14+1)),t,PUnit.unit) else again (v13,v18,(v15,v14),v19,PUnit.unit) else none else none else none else none else none else none else none else none else none else none else none else none else none else none else some (x.2.2.1,x.2.2.2.1, PUnit.unit)) (0,x0,(0,0),(0,0),PUnit.unit) else none else none else none
def pw (x0:Int×Int) (x1:Int×Int):Option ((Int×Int)×(Int×Int)×Unit):=Bu lpK jnK eM eD x0 x1
abbrev Sf:=(Int×Int)->(Int×Int)->Option ((Int×Int)×(Int×Int)×Unit)
def yW (_:Lp) (_:Jn) (lj:PZ) (pw:Sf) (x0:Int×Int) (x1:Bool) (x2:Int×Int):Option ((Int×Int)×Int×Unit) :=
 bif decide (x2.1=0)&&(decide (x2.2=0)&&true) then some ((0,0),16,PUnit.unit) else aa (lj x0 x2) fun (t:Int×Int)=>aa (pw x0 t) fun (t_1:(Int×Int)×(Int×Int)×PUnit) =>
 let v7:Int:=IntKind.wrap .i64 t_1.1.2;
 let v8:Bool:=decide (t_1.1.1>0);
 let v9:Bool:=!v8;
 let v10:Bool:=bif v8 then true else decide (t_1.1.2>1152921504606846976);
 let v11:Bool:=!v9||v9;
 let v12:Bool:=!v10;
 let v13:Bool:=!v12||v12;aa (pw x2 t) fun (t:(Int×Int)×(Int×Int)×PUnit) =>
 let v15:Int:=IntKind.wrap .i64 t.1.2;
 let v16:Bool:=bif v10 then true else decide (t.1.1>0);
 let v17:Bool:=!v16;
 let v18:Bool:=!v17||v17;bif v11 then bif v11 then bif v8||v9 then bif v13 then bif v13 then bif v10||v12 then bif v18 then bif v18 then bif v16||v17 then bif bif v16 then true else decide (t.1.2>1152921504606846976) then some ((0,0),5,PUnit.unit) else bif x1 then some ((IntKind.wrap .i64 (0 - v7), v15),0,PUnit.unit) else some ((v7,v15),0,PUnit.unit) else none else none else none else none else none else none else none else none else none
def fi (x0:Int×Int) (x1:Bool) (x2:Int×Int):Option ((Int×Int)×Int×Unit):=yW lpK jnK lj pw x0 x1 x2
abbrev OC:=(Int×Int)->(Bool)->(Int×Int)->Option ((Int×Int)×Int×Unit)
def Az (_:Lp) (_:Jn) (x0:Int) (x1:Int):Option (Int×Int) :=
 
 let v4:Int:=2 ^ 32;
 let v5:Int:=Int.fdiv x0 v4;
 let v6:Int:=Int.fdiv x1 v4;
 let v7:Bool:=decide ((0:Int)<=32);
 let v8:Int:=IntKind.wrap .u64 (↑(Nat.land (Int.toNat (x1 % Int.ofNat 18446744073709551616)) (Int.toNat (4294967295 % Int.ofNat 18446744073709551616))) : Int);
 let v9:Int:=IntKind.wrap .u64 (↑(Nat.land (Int.toNat (x0 % Int.ofNat 18446744073709551616)) (Int.toNat (4294967295 % Int.ofNat 18446744073709551616))) : Int);
 let v10:Int:=IntKind.wrap .u64 (v9*v8);
 let v11:Int:=IntKind.wrap .u64 (IntKind.wrap .u64 (v5*v8)+Int.fdiv v10 v4);
 let v12:Int:=IntKind.wrap .u64 (IntKind.wrap .u64 (v9*v6)+IntKind.wrap .u64 (↑(Nat.land (Int.toNat (v11 % Int.ofNat 18446744073709551616)) (Int.toNat (4294967295 % Int.ofNat 18446744073709551616))):Int));bif v7 then bif v7 then bif v7 then bif v7 then bif v7 then bif v7 then some (IntKind.wrap .u64 (IntKind.wrap .u64 (IntKind.wrap .u64 (v5*v6)+Int.fdiv v11 v4)+Int.fdiv v12 v4),IntKind.wrap .u64 (IntKind.wrap .u64 (v12*v4)+IntKind.wrap IntKind.u64 (↑(Nat.land (Int.toNat (v10 % Int.ofNat 18446744073709551616)) (Int.toNat (4294967295 % Int.ofNat 18446744073709551616))):Int))) else none else none else none else none else none else none
def fa (x0:Int) (x1:Int):Option (Int×Int):=Az lpK jnK x0 x1
abbrev Pq:=(Int)->(Int)->Option (Int×Int)
def wX (_:Lp) (_:Jn) (bB:I3) (fi:OC) (fa:Pq) (x0:Int×Int) (x1:Int×Int):Option ((Int×Int)×Int×Unit) :=
 aa (bB x0.1) fun (t:Int)=>aa (bB x1.1) fun (t_1:Int)=>aa (fa t t_1) fun (t:Int×Int)=>aa (bB x0.2) fun (t_2:Int)=>aa (bB x1.2) fun (t_3:Int)=>aa (fa t_2 t_3) fun (t_4:Int×Int)=>aa (fi t (!decide (decide (x0.1<0)=decide (x1.1<0))) t_4) fun (t:(Int×Int)×Int×PUnit)=>some (t.1,t.2.1,PUnit.unit)
def o8 (x0:Int×Int) (x1:Int×Int):Option ((Int×Int)×Int×Unit):=wX lpK jnK bB fi fa x0 x1
abbrev TU:=(Int×Int)->(Int×Int)->Option ((Int×Int)×Int×Unit)
def AD (_:Lp) (_:Jn) (eM:M4) (eD:Pb) (jX:Qn) (bB:I3) (fi:OC) (fa:Pq) (x0:Int×Int) (x1:Int×Int):Option ((Int×Int)×Int×Unit) :=
 
 let v4:Bool:=decide (x0.1<0);aa (bB x0.1) fun (t:Int)=>aa (bB x1.2) fun (t_1:Int)=>aa (fa t t_1) fun (t:Int×Int)=>aa (bB x1.1) fun (t_2:Int)=>aa (bB x0.2) fun (t_3:Int)=>aa (fa t_2 t_3) fun (t_4:Int×Int)=>aa (bB x0.2) fun (t_5:Int)=>aa (bB x1.2) fun (t_6:Int)=>aa (fa t_5 t_6) fun (t_7:Int×Int)=>bif decide (v4=decide (x1.1<0)) then aa (jX t t_4) fun (t:Int×Int) =>aa (fi t v4 t_7) fun (t:(Int×Int)×Int×PUnit)=>some (t.1,t.2.1,PUnit.unit) else aa (eM t t_4) fun (t_8:Bool)=>bif t_8 then aa (eD t_4 t) fun (t:Int×Int)=>aa (fi t (decide (x1.1<0)) t_7) fun (t:(Int×Int)×Int×PUnit)=>some (t.1,t.2.1,PUnit.unit) else aa (eD t t_4) fun (t:Int×Int)=>aa (fi t v4 t_7) fun (t:(Int×Int)×Int×PUnit)=>some (t.1,t.2.1,PUnit.unit)
def sV (x0:Int×Int) (x1:Int×Int):Option ((Int×Int)×Int×Unit):=AD lpK jnK eM eD jX bB fi fa x0 x1
abbrev TQ:=(Int×Int)->(Int×Int)->Option ((Int×Int)×Int×Unit)
def BZ (lp:Lp) (_:Jn) (eQ:t73) (o8:TU) (sV:TQ) (x0:List Int) (x1:List (Int×Int)):Option ((Int×Int)×Int×Unit) :=
 aa (eQ 0) fun (t:Int×Int)=>lp (Int×(Int×Int)×(Int×Int)×PUnit) ((Int×Int)×Int×PUnit) (fun (again:Int×(Int×Int)×(Int×Int)×PUnit->Option ((Int×Int)×Int×PUnit)) (x:Int×(Int×Int)×(Int×Int)×PUnit)=>bif decide (x.1<(↑x0.length:Int)) then bif inB x.1 x0.length then aa (eQ (x0.getD x.1.toNat 0)) fun (t:Int×Int)=>bif inB x.1 x1.length then aa (o8 t (x1.getD x.1.toNat (0,0))) fun (t:(Int×Int)×Int×PUnit)=>bif !decide (t.2.1=0) then some ((0,0),t.2.1,PUnit.unit) else aa (sV x.2.2.1 t.1) fun (t:(Int × Int)×Int×PUnit)=>bif !decide (t.2.1=0) then some ((0,0),t.2.1,PUnit.unit) else again (IntKind.wrap .i64 (x.1+1), x.2.1,t.1,PUnit.unit) else none else none else some (x.2.2.1,0,PUnit.unit)) (0,(0,0),t,PUnit.unit)
def lq (x0:List Int) (x1:List (Int×Int)):Option ((Int×Int)×Int×Unit):=BZ lpK jnK eQ o8 sV x0 x1
abbrev t54:=(List Int)->(List (Int×Int))->Option ((Int×Int)×Int×Unit)
def u9 (lp:Lp) (_:Jn) (x0:(List Int)×List ((List Int)×Int×Int)) (x1:Int):Option (List Int) :=
 lp (List Int×Int×PUnit) (List Int) (fun (again:List Int×Int×PUnit->Option (List Int)) (x:List Int×Int×PUnit)=>bif decide (x.2.1<(↑x0.2.length:Int)) then bif inB x.2.1 x0.2.length then bif inB x1 (List.length (x0.2.getD x.2.1.toNat ([],0,0)).1) then bif c7 (List.length x.1+(1 : Nat)) 8 then again (x.1++[List.getD (x0.2.getD x.2.1.toNat ([],0,0)).1 x1.toNat 0],IntKind.wrap .i64 (x.2.1 + 1),PUnit.unit) else none else none else none else some x.1) ([],0,PUnit.unit)
def nK (x0:(List Int)×List ((List Int)×Int×Int)) (x1:Int):Option (List Int):=u9 lpK jnK x0 x1
abbrev SF:=((List Int)×List ((List Int)×Int×Int))->(Int)->Option (List Int)
def BR (_:Lp) (_:Jn) (eM:M4) (bB:I3) (fa:Pq) (x0:Int×Int) (x1:Int×Int):Option Int :=
 
 let v4:Bool:=decide (x0.1<0);
 let v5:Bool:=decide (x0.1>=0);
 let v6:Bool:=!v4||v4;
 let v7:Bool:=!v5||v5;aa (bB x0.1) fun (t:Int)=>aa (bB x1.2) fun (t_1:Int)=>aa (fa t t_1) fun (t:Int×Int)=>aa (bB x1.1) fun (t_2:Int)=>aa (bB x0.2) fun (t_3:Int)=>aa (fa t_2 t_3) fun (t_4:Int×Int)=>bif v6 then bif v6 then bif v6 then bif bif v4 then decide (x1.1>=0) else false then some (-1) else bif v7 then bif v7 then bif v7 then bif bif v5 then decide (x1.1<0) else false then some 1 else bif decide (t.1=t_4.1)&&(decide (t.2=t_4.2)&&true) then some 0 else aa (eM t t_4) fun (t:Bool)=>bif decide (t=v5) then some (-1) else some 1 else none else none else none else none else none else none
def ll (x0:Int×Int) (x1:Int×Int):Option Int:=BR lpK jnK eM bB fa x0 x1
abbrev Rb:=(Int×Int)->(Int×Int)->Option (Int)
def xd (lp:Lp) (_:Jn) (eQ:t73) (lq:t54) (nK:SF) (ll:Rb) (x0:(List Int)×List ((List Int)×Int×Int)) (x1:List (Int×Int)) (x2:List Int):Option (Bool×Int×Unit) :=
 lp (Bool×Int×PUnit) (Bool×Int×PUnit) (fun (again:Bool×Int×PUnit->Option (Bool×Int×PUnit)) (x:Bool×Int×PUnit) =>
 let v7:Bool:=!x.1;
 let v8:Bool:=v7||x.1;bif decide (x.2.1<(↑x2.length:Int)) then aa (nK x0 x.2.1) fun (t:List Int)=>aa (lq t x1) fun (t:(Int×Int) × Int×PUnit)=>bif !decide (t.2.1=0) then some (false,t.2.1,PUnit.unit) else bif v8&&(v8&&(v7||inB x.2.1 x2.length)) then bif v8 then bif v8 then aa (bif x.1 then eQ (x2.getD x.2.1.toNat 0) else some (0,0)) fun (t_1:Int×Int)=>bif v8&&v8 then aa (bif x.1 then ll t.1 t_1 else some 0) fun (t:Int)=>bif v8 then bif v8 then again (bif x.1 then decide (t<=0) else false,IntKind.wrap .i64 (x.2.1+(1 : Int)),PUnit.unit) else none else none else none else none else none else none else some (x.1,0,PUnit.unit)) (true,0,PUnit.unit)
def oD (x0:(List Int)×List ((List Int)×Int×Int)) (x1:List (Int×Int)) (x2:List Int):Option (Bool×Int×Unit):=xd lpK jnK eQ lq nK ll x0 x1 x2
abbrev t53:=((List Int)×List ((List Int)×Int×Int))->(List (Int×Int))->(List Int)->Option (Bool×Int×Unit)
end
end Go.Proofs.YtfknoaclabfdlaaGreat
