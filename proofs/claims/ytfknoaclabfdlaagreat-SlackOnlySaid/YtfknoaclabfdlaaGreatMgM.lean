/- r15: the shapes of its types, and the places of its loops. r15: what its functions answer (printed by a program), and that they do. r15: what its functions answer (printed by a program), and that they do; part 2. -/
import Derived.Test.YtfknoaclabfdlaaGreatProg
import Derived.KernelRfl
import Derived.Test.YtfknoaclabfdlaaGreatMgL

namespace Go.Proofs.YtfknoaclabfdlaaGreat
open Tryz Dn Dn.Sh
abbrev i64:Sh:=.int .i64
abbrev T66:Sh:=.agg (.pair .str i64)
abbrev T49:Sh:=.agg (.pair i64 i64)
abbrev OD:Sh:=.agg (.pair .str (.pair i64 T49))
abbrev T75:Sh:=.agg (.pair .str (.pair (.sl OD) .bool))
abbrev T25:Sh:=.agg (.pair (.sl T66) (.sl T75))
abbrev T86:Sh:=.agg (.pair (.sl i64) (.pair i64 i64))
abbrev T32:Sh:=.agg (.pair (.sl i64) (.sl T86))
abbrev T96:Sh:=.agg (.pair T49 (.pair (.sl T49) (.sl T49)))
abbrev mB:Sh:=.agg (.pair (.int .u64) (.int .u64))
abbrev OQ:Sh:=.agg i64
abbrev xh:Sh:=.agg (.pair (.int .u64) (.int .u64))
abbrev FF:Sh:=.agg (.pair (.sl (.sl i64)) (.pair i64 (.pair (.sl i64) (.pair (.sl i64) (.pair (.sl i64) (.pair i64 i64))))))
abbrev SG:Sh:=.agg (.pair (.sl (.sl i64)) (.pair i64 (.pair (.sl i64) (.pair (.sl i64) .bool))))
abbrev rp:Sh:=.agg (.pair .bool (.pair (.int .u64) (.int .u64)))
def shs:TypeId->Option Sh
 | 3=>some i64
 | 4=>some .bool
 | 5=>some (.int .u8)
 | 9=>some .str
 | 29=>some (.sl i64)
 | 49=>some T49
 | 66=>some T66
 | 75=>some T75
 | 86=>some T86
 | 134=>some OD
 | _=>none
def HR:Nat->Option Hd
 | 2=>some ⟨[(3,false,[.d i64])],[],[]⟩
 | _=>none
def JE:Nat->Option Hd
 | 2=>some ⟨[(8,false,[.d i64])],[],[]⟩
 | _=>none
def MB:Nat->Option Hd
 | 1=>some ⟨[(0,false,[.d (.int .u64)]),(1,false,[.d (.int .u64)])],[],[]⟩
 | _=>none
def Kr:Nat->Option Hd
 | 5=>some ⟨[(17,false,[.d i64])],[],[]⟩
 | _=>none
def L8:Nat->Option Hd
 | 6=>some ⟨[(27,false,[.d i64])],[],[(3,some 0,.x (.map 158 .str .bool))]⟩
 | 13=>some ⟨[(7,false,[.d i64]),(46,false,[.d i64])],[],[(3,some 0,.x (.map 158 .str .bool))]⟩
 | _=>none
def LN:Nat->Option Hd
 | 5=>some ⟨[(20,false,[.d i64])],[],[(4,none,.x (.tab 29 .ref 3 i64))]⟩
 | 10=>some ⟨[(34,false,[.d i64])],[],[(4,none,.x (.tab 29 .ref 3 i64))]⟩
 | 13=>some ⟨[(42,false,[.d i64])],[],[(4,none,.x (.tab 29 .ref 3 i64))]⟩
 | _=>none
def MD:Nat->Option Hd
 | 5=>some ⟨[(4,false,[.row 3 i64]),(13,false,[.d i64])],[],[]⟩
 | _=>none
def Lw:Nat->Option Hd
 | 9=>some ⟨[(34,false,[.d i64])],[(9,[.d (.sl i64),.row 86 T86])],[]⟩
 | _=>none
def Mw:Nat->Option Hd
 | 8=>some ⟨[(8,false,[.d i64])],[],[(7,none,.row 3 i64)]⟩
 | _=>none
def Lv:Nat->Option Hd
 | 1000002=>some ⟨[],[],[]⟩
 | 1000005=>some ⟨[],[],[]⟩
 | _=>none
def Kx:Nat->Option Hd
 | 2=>some ⟨[(8,false,[.d i64])],[],[]⟩
 | _=>none
def Kb:Nat->Option Hd
 | 2=>some ⟨[(8,false,[.d i64])],[],[]⟩
 | _=>none
def LV:Nat->Option Hd
 | 2=>some ⟨[(8,false,[.d i64])],[],[]⟩
 | _=>none
def Hc:Nat->Option Hd
 | 1000002=>some ⟨[(0,false,[.d (.int .u64)]),(2,false,[.d i64])],[],[]⟩
 | 1000005=>some ⟨[(0,false,[.d (.int .u64)]),(2,false,[.d i64])],[],[]⟩
 | _=>none
def Hq:Nat->Option Hd
 | 17=>some ⟨[(15,false,[.d (.int .u64)]),(16,false,[.d (.int .u64)])],[],[]⟩
 | 24=>some ⟨[(16,false,[.d (.int .u64)]),(18,false,[.d (.int .u64)])],[],[]⟩
 | _=>none
def IT:Nat->Option Hd
 | 0=>some ⟨[(15,false,[.d (.int .u64)])],[],[]⟩
 | 2=>some ⟨[(18,false,[.d (.int .u64)])],[],[]⟩
 | 1000002=>some ⟨[],[],[]⟩
 | 1000004=>some ⟨[],[],[]⟩
 | _=>none
def M5:Nat->Option Hd
 | 1000008=>some ⟨[(9,false,[.d .bool])],[(10,[.d mB])],[]⟩
 | 1000010=>some ⟨[(9,false,[.d .bool])],[(10,[.d mB])],[]⟩
 | _=>none
def Ns:Nat->Option Hd
 | 3=>some ⟨[(15,false,[.d i64])],[(0,[.d OQ]),(6,[.d T49]),(7,[.d T49])],[]⟩
 | _=>none
def Lx:Nat->Option Hd
 | 1000007=>some ⟨[(11,false,[.d i64])],[(10,[.d T49])],[]⟩
 | _=>none
def Nc:Nat->Option Hd
 | 1000009=>some ⟨[],[(6,[.d mB]),(7,[.d mB])],[]⟩
 | _=>none
def HY:Nat->Option Hd
 | 3=>some ⟨[(5,false,[.row 3 i64]),(11,false,[.d i64])],[],[]⟩
 | _=>none
def Ml:Nat->Option Hd
 | 3=>some ⟨[(9,false,[.d .bool]),(14,false,[.d i64])],[(0,[.d OQ])],[]⟩
 | _=>none
def MN:Nat->Option Hd
 | 3=>some ⟨[(3,false,[.row 3 i64]),(9,false,[.d i64])],[],[]⟩
 | _=>none
def NJ:Nat->Option Hd
 | 2=>some ⟨[(10,false,[.d i64])],[],[]⟩
 | _=>none
def JC:Nat->Option Hd
 | 3=>some ⟨[(5,false,[.d i64]),(14,false,[.d i64])],[],[]⟩
 | _=>none
def I5:Nat->Option Hd
 | 5=>some ⟨[(3,false,[.d i64]),(4,false,[.d i64])],[],[]⟩
 | _=>none
def Kp:Nat->Option Hd
 | 1000002=>some ⟨[],[],[]⟩
 | _=>none
def Ku:Nat->Option Hd
 | 4=>some ⟨[(4,false,[.row 3 i64]),(18,false,[.d i64])],[],[]⟩
 | 10=>some ⟨[(7,false,[.d i64]),(34,false,[.d i64])],[],[]⟩
 | _=>none
def Hj:Nat->Option Hd
 | 4=>some ⟨[(5,false,[.d i64]),(24,false,[.d i64])],[],[]⟩
 | 12=>some ⟨[(9,false,[.d i64]),(51,false,[.d i64])],[(46,[.x (.tab 29 .ref 3 i64),.d i64,.row 3 i64,.row 3 i64,.row 3 i64,.d i64,.d i64])],[]⟩
 | 28=>some ⟨[(95,false,[.d i64])],[],[(12,none,.row 3 i64)]⟩
 | _=>none
def KE:Nat->Option Hd
 | 1000019=>some ⟨[(9,false,[.d i64])],[],[(12,none,.row 3 i64)]⟩
 | 1000022=>some ⟨[(9,false,[.d i64])],[],[(12,none,.row 3 i64)]⟩
 | 1000026=>some ⟨[(13,false,[.d i64])],[],[(12,none,.row 3 i64)]⟩
 | _=>none
def HW:Nat->Option Hd
 | 3=>some ⟨[(5,false,[.d i64]),(13,false,[.d i64])],[],[]⟩
 | _=>none
def IR:Nat->Option Hd
 | 1000008=>some ⟨[(10,false,[.d .bool])],[(2,[.d rp]),(3,[.d rp])],[]⟩
 | _=>none
def Kl:Nat->Option Hd
 | 2=>some ⟨[(29,false,[.d i64])],[],[(0,some 0,.x (.tab 29 .ref 3 i64))]⟩
 | 7=>some ⟨[(43,false,[.d i64])],[],[(0,some 0,.x (.tab 29 .ref 3 i64))]⟩
 | 17=>some ⟨[(98,false,[.d i64])],[],[(0,some 0,.x (.tab 29 .ref 3 i64))]⟩
 | 20=>some ⟨[(104,false,[.d i64])],[],[(0,some 0,.x (.tab 29 .ref 3 i64))]⟩
 | _=>none
def I0:Nat->Option Hd
 | 3=>some ⟨[(5,false,[.d i64]),(14,false,[.d i64])],[],[]⟩
 | _=>none
def JF:Nat->Option Hd
 | 1=>some ⟨[],[(0,[.x (.tab 29 .ref 3 i64),.d i64,.row 3 i64,.row 3 i64,.row 3 i64,.d i64,.d i64])],[]⟩
 | 3=>some ⟨[(3,false,[.d i64]),(4,false,[.d i64])],[],[]⟩
 | 12=>some ⟨[(44,false,[.d i64])],[(0,[.x (.tab 29 .ref 3 i64),.d i64,.row 3 i64,.row 3 i64,.row 3 i64,.d i64,.d i64])],[]⟩
 | 15=>some ⟨[(6,false,[.d i64])],[(0,[.x (.tab 29 .ref 3 i64),.d i64,.row 3 i64,.row 3 i64,.row 3 i64,.d i64,.d i64])],[]⟩
 | _=>none
def Jk:Nat->Option Hd
 | 3=>some ⟨[(5,false,[.d i64]),(21,false,[.d i64])],[],[]⟩
 | _=>none
def Jb:Nat->Option Hd
 | 1=>some ⟨[],[(0,[.x (.tab 29 .ref 3 i64),.d i64,.row 3 i64,.row 3 i64,.row 3 i64,.d i64,.d i64])],[]⟩
 | 3=>some ⟨[(3,false,[.d i64]),(4,false,[.d i64])],[],[]⟩
 | _=>none
def Nf:Nat->Option Hd
 | 14=>some ⟨[(6,false,[.d i64]),(43,false,[.d i64])],[],[(7,none,.row 3 i64)]⟩
 | 22=>some ⟨[(94,false,[.d i64])],[(5,[.d T49,.row 49 T49,.row 49 T49])],[]⟩
 | 27=>some ⟨[(110,false,[.d i64])],[(5,[.d T49,.row 49 T49,.row 49 T49])],[]⟩
 | 31=>some ⟨[(13,false,[.d i64]),(118,false,[.d i64])],[],[]⟩
 | _=>none
def LQ:Nat->Option Hd
 | 2=>some ⟨[(8,false,[.d i64])],[],[]⟩
 | _=>none
def MS:Nat->Option Hd
 | 5=>some ⟨[(4,false,[.row 9 .str]),(16,false,[.d i64])],[],[]⟩
 | _=>none
def MC:Nat->Option Hd
 | 3=>some ⟨[(11,false,[.d i64])],[(3,[.d (.sl T66),.row 75 T75])],[]⟩
 | _=>none
def Nn:Nat->Option Hd
 | 4=>some ⟨[(3,false,[.d i64])],[],[]⟩
 | 9=>some ⟨[(4,false,[.d i64])],[],[]⟩
 | 14=>some ⟨[(5,false,[.d i64])],[],[]⟩
 | _=>none
def Mc:Nat->Option Hd
 | 2=>some ⟨[(5,false,[.d i64])],[],[]⟩
 | _=>none
def MA:Nat->Option Hd
 | 1=>some ⟨[(1,false,[.d i64])],[],[]⟩
 | _=>none
def Mp:Nat->Option Hd
 | 2=>some ⟨[(5,false,[.d i64])],[],[]⟩
 | _=>none
def H6:Nat->Option Hd
 | 4=>some ⟨[(5,false,[.d i64])],[(2,[.d xh]),(3,[.d xh])],[]⟩
 | 6=>some ⟨[],[(2,[.d xh]),(3,[.d xh])],[]⟩
 | 7=>some ⟨[],[(2,[.d xh])],[]⟩
 | 9=>some ⟨[],[(3,[.d xh])],[]⟩
 | 14=>some ⟨[(5,false,[.d i64])],[(3,[.d xh])],[]⟩
 | _=>none
def LJ:Nat->Option Hd
 | 4=>some ⟨[(5,false,[.d i64])],[],[]⟩
 | _=>none
def MO:Nat->Option Hd
 | 4=>some ⟨[(3,false,[.d i64])],[],[]⟩
 | 11=>some ⟨[(5,false,[.d i64]),(6,false,[.d i64])],[],[]⟩
 | _=>none
def M0:Nat->Option Hd
 | 4=>some ⟨[(5,false,[.d i64])],[],[]⟩
 | 9=>some ⟨[(6,false,[.d i64])],[],[]⟩
 | 15=>some ⟨[(9,false,[.d i64])],[],[]⟩
 | _=>none
def Kw:Nat->Option Hd
 | 3=>some ⟨[(5,false,[.d i64]),(6,false,[.d i64])],[],[]⟩
 | _=>none
def LK:Nat->Option Hd
 | 3=>some ⟨[(3,false,[.x (.tab 29 .ref 3 i64)]),(4,false,[.d i64])],[],[]⟩
 | 7=>some ⟨[(5,false,[.row 3 i64]),(6,false,[.d i64])],[],[]⟩
 | _=>none
def NC:Nat->Option Hd
 | 4=>some ⟨[(7,false,[.d i64])],[(5,[.d (.sl i64),.row 86 T86])],[]⟩
 | _=>none
def M3:Nat->Option Hd
 | 3=>some ⟨[(3,false,[.row 3 i64]),(4,false,[.d i64])],[],[]⟩
 | _=>none
def LH:Nat->Option Hd
 | 2=>some ⟨[(3,false,[.d i64])],[],[]⟩
 | _=>none
def Ks:Nat->Option Hd
 | 5=>some ⟨[(8,false,[.d i64])],[(2,[.d xh]),(6,[.d xh]),(7,[.d xh])],[]⟩
 | _=>none
def NF:Nat->Option Hd
 | 3=>some ⟨[(7,false,[.d i64])],[(4,[.d T49]),(6,[.d T49])],[]⟩
 | _=>none
def KA:Nat->Option Hd
 | 3=>some ⟨[(5,false,[.row 3 i64]),(6,false,[.d i64])],[],[]⟩
 | _=>none
def Ng:Nat->Option Hd
 | 3=>some ⟨[(8,false,[.d .bool]),(9,false,[.d i64])],[],[]⟩
 | _=>none
def Lo:Nat->Option Hd
 | 3=>some ⟨[(3,false,[.row 3 i64]),(4,false,[.d i64])],[],[]⟩
 | _=>none
def My:Nat->Option Hd
 | 2=>some ⟨[(5,false,[.d i64])],[],[]⟩
 | _=>none
def HM:Nat->Option Hd
 | 3=>some ⟨[(3,false,[.d i64]),(4,false,[.d i64])],[],[]⟩
 | 8=>some ⟨[(5,false,[.row 3 i64]),(6,false,[.d i64])],[],[]⟩
 | 12=>some ⟨[(7,false,[.d i64]),(8,false,[.d i64])],[],[]⟩
 | _=>none
def I8:Nat->Option Hd
 | 3=>some ⟨[(6,false,[.d i64]),(7,false,[.d i64])],[],[]⟩
 | _=>none
def Lr:Nat->Option Hd
 | 5=>some ⟨[(6,false,[.d i64]),(7,false,[.d i64])],[],[]⟩
 | _=>none
def J2:Nat->Option Hd
 | 3=>some ⟨[(8,false,[.d i64])],[],[(3,some 0,.x (.tab 29 .ref 3 i64))]⟩
 | 8=>some ⟨[(10,false,[.d i64])],[],[(3,some 0,.x (.tab 29 .ref 3 i64))]⟩
 | _=>none
def MF:Nat->Option Hd
 | 2=>some ⟨[],[(1,[.x (.tab 29 .ref 3 i64),.row 3 i64,.d i64,.d i64]),(2,[.x (.tab 29 .ref 3 i64),.row 3 i64,.d i64,.d i64])],[]⟩
 | 3=>some ⟨[(5,false,[.d i64])],[],[]⟩
 | 9=>some ⟨[(6,false,[.d i64]),(8,false,[.d i64])],[],[]⟩
 | _=>none
def Me:Nat->Option Hd
 | 1=>some ⟨[(4,false,[.d i64])],[],[(0,none,.row 3 i64)]⟩
 | _=>none
def No:Nat->Option Hd
 | 5=>some ⟨[(7,false,[.d i64])],[(5,[.x (.tab 29 .ref 3 i64),.row 3 i64,.d i64,.d i64])],[(6,none,.row 3 i64)]⟩
 | 16=>some ⟨[(9,false,[.d i64])],[],[(8,none,.row 3 i64)]⟩
 | 20=>some ⟨[(10,false,[.d i64])],[],[(6,none,.row 3 i64)]⟩
 | _=>none
def LZ:Nat->Option Hd
 | 1000010=>some ⟨[],[],[(8,none,.row 3 i64)]⟩
 | 1000012=>some ⟨[],[],[(8,none,.row 3 i64)]⟩
 | 1000015=>some ⟨[],[],[(8,none,.row 3 i64)]⟩
 | _=>none
def Mm:Nat->Option Hd
 | 2=>some ⟨[(3,false,[.d i64])],[(1,[.x (.tab 29 .ref 3 i64),.row 3 i64,.d i64,.d i64])],[]⟩
 | 6=>some ⟨[(4,false,[.d i64])],[],[]⟩
 | 11=>some ⟨[(5,false,[.d i64])],[],[(1,some 0,.x (.tab 29 .ref 3 i64))]⟩
 | _=>none
def MM:Nat->Option Hd
 | 9=>some ⟨[(9,false,[.d i64])],[],[(4,some 0,.x (.tab 29 .ref 3 i64))]⟩
 | 13=>some ⟨[(10,false,[.d i64]),(11,false,[.d i64])],[],[]⟩
 | _=>none
def LM:Nat->Option Hd
 | 7=>some ⟨[(20,false,[.d i64])],[(2,[.d T49]),(4,[.d T49])],[]⟩
 | _=>none
def LP:Nat->Option Hd
 | 3=>some ⟨[(4,false,[.row 9 .str]),(5,false,[.d i64])],[],[]⟩
 | _=>none
def MU:Nat->Option Hd
 | 4=>some ⟨[(13,false,[.d i64])],[],[]⟩
 | _=>none
def PR:Nat->Option Hd
 | 1000023=>some ⟨[],[],[]⟩
 | _=>none
def Nr:Nat->Option Hd
 | 3=>some ⟨[(4,false,[.d i64])],[(3,[.row 66 T66,.row 75 T75])],[]⟩
 | _=>none
def Px:Nat->Option Hd
 | 7=>some ⟨[(39,false,[.d i64])],[],[]⟩
 | _=>none
def OE:Nat->Option Hd
 | 1000014=>some ⟨[],[],[]⟩
 | _=>none
def LS:Nat->Option Hd
 | 10=>some ⟨[(5,false,[.row 49 T49]),(20,false,[.d i64])],[],[]⟩
 | _=>none
def LC:Nat->Option Hd
 | 7=>some ⟨[(8,false,[.row 49 T49]),(9,false,[.d i64]),(25,false,[.d i64])],[],[]⟩
 | 11=>some ⟨[(31,false,[.d i64])],[(11,[.d T49])],[]⟩
 | _=>none
def L1:Nat->Option Hd
 | 2=>some ⟨[(3,false,[.d i64])],[],[]⟩
 | _=>none
def Nb:Nat->Option Hd
 | 2=>some ⟨[(8,false,[.d i64])],[],[]⟩
 | _=>none
def OA:Nat->Option Hd
 | 25=>some ⟨[(123,false,[.d i64])],[],[]⟩
 | _=>none
def Pm:Nat->Option Hd
 | 1000020=>some ⟨[],[],[]⟩
 | _=>none
def Lg:Nat->Option Hd
 | 2=>some ⟨[(8,false,[.d i64])],[],[]⟩
 | _=>none
def KO:Nat->Option Hd
 | 1000007=>some ⟨[(12,false,[.d (.int .u64)]),(13,false,[.d (.int .u64)]),(18,false,[.d .bool])],[],[]⟩
 | 1000008=>some ⟨[(12,false,[.d (.int .u64)]),(13,false,[.d (.int .u64)]),(14,false,[.d (.int .u64)]),(15,false,[.d (.int .u64)]),(18,false,[.d .bool])],[],[]⟩
 | _=>none
def Ih:Nat->Option Hd
 | 3=>some ⟨[(20,false,[.d i64])],[(5,[.x (.tab 29 .ref 3 i64),.d i64,.row 3 i64,.row 3 i64,.d .bool])],[]⟩
 | 9=>some ⟨[(40,false,[.d i64])],[(5,[.x (.tab 29 .ref 3 i64),.d i64,.row 3 i64,.row 3 i64,.d .bool])],[]⟩
 | 14=>some ⟨[(10,false,[.d i64]),(11,false,[.d i64])],[],[]⟩
 | 19=>some ⟨[(10,false,[.d i64])],[(5,[.x (.tab 29 .ref 3 i64),.d i64,.row 3 i64,.row 3 i64,.d .bool])],[]⟩
 | 26=>some ⟨[(130,false,[.d i64])],[],[(5,some 0,.x (.tab 29 .ref 3 i64))]⟩
 | 31=>some ⟨[(144,false,[.d i64])],[],[(5,some 0,.x (.tab 29 .ref 3 i64))]⟩
 | _=>none
def Nl:Nat->Option Hd
 | 10=>some ⟨[(7,false,[.x (.tab 29 .ref 3 i64)]),(37,false,[.d i64])],[],[]⟩
 | 16=>some ⟨[(64,false,[.d i64])],[],[]⟩
 | 25=>some ⟨[(13,false,[.row 49 T49]),(80,false,[.d i64])],[],[]⟩
 | _=>none
def M6:Nat->Option Hd
 | 4=>some ⟨[(13,false,[.d i64])],[],[]⟩
 | _=>none
def PQ:Nat->Option Hd
 | 16=>some ⟨[(9,false,[.row 9 .str]),(59,false,[.d i64])],[],[]⟩
 | _=>none
def Ps:Nat->Option Hd
 | 1000019=>some ⟨[(9,false,[.row 9 .str])],[],[]⟩
 | _=>none
def al:FuncId->Hint
 | 161=>{loop:=HR}
 | 167=>{loop:=JE}
 | 75=>{loop:=MB}
 | 117=>{loop:=Kr}
 | 59=>{loop:=L8}
 | 87=>{loop:=LN}
 | 88=>{loop:=MD}
 | 45=>{loop:=Lw}
 | 46=>{loop:=Mw,join:=Lv}
 | 173=>{loop:=Kx}
 | 174=>{loop:=Kb}
 | 74=>{loop:=LV}
 | 181=>{join:=Hc}
 | 125=>{loop:=Hq,join:=IT}
 | 35=>{join:=M5}
 | 95=>{loop:=Ns,join:=Lx}
 | 39=>{join:=Nc}
 | 145=>{loop:=HY}
 | 93=>{loop:=Ml}
 | 96=>{loop:=MN}
 | 97=>{loop:=NJ}
 | 154=>{loop:=JC}
 | 156=>{loop:=I5,join:=Kp}
 | 108=>{loop:=Ku}
 | 109=>{loop:=Hj,join:=KE}
 | 126=>{loop:=HW}
 | 176=>{join:=IR}
 | 157=>{loop:=Kl}
 | 158=>{loop:=I0}
 | 110=>{loop:=JF}
 | 159=>{loop:=Jk}
 | 111=>{loop:=Jb}
 | 58=>{loop:=Nf}
 | 60=>{loop:=LQ}
 | 21=>{loop:=MS}
 | 43=>{loop:=MC}
 | 44=>{loop:=Nn}
 | 22=>{loop:=Mc}
 | 99=>{loop:=MA}
 | 49=>{loop:=Mp}
 | 102=>{loop:=H6}
 | 50=>{loop:=LJ}
 | 13=>{loop:=MO}
 | 14=>{loop:=M0}
 | 101=>{loop:=Kw}
 | 51=>{loop:=LK}
 | 15=>{loop:=NC}
 | 16=>{loop:=M3}
 | 17=>{loop:=LH}
 | 164=>{loop:=Ks}
 | 54=>{loop:=NF}
 | 104=>{loop:=KA}
 | 53=>{loop:=Ng}
 | 55=>{loop:=Lo}
 | 57=>{loop:=My}
 | 118=>{loop:=HM}
 | 119=>{loop:=I8}
 | 63=>{loop:=Lr}
 | 120=>{loop:=J2}
 | 66=>{loop:=MF}
 | 69=>{loop:=Me}
 | 67=>{loop:=No,join:=LZ}
 | 68=>{loop:=Mm}
 | 26=>{loop:=MM}
 | 27=>{loop:=LM}
 | 28=>{loop:=LP}
 | 29=>{loop:=MU}
 | 4=>{join:=PR}
 | 31=>{loop:=Nr}
 | 5=>{loop:=Px,join:=OE}
 | 83=>{loop:=LS}
 | 84=>{loop:=LC}
 | 38=>{loop:=L1}
 | 86=>{loop:=Nb}
 | 7=>{loop:=OA,join:=Pm}
 | 182=>{loop:=Lg}
 | 172=>{join:=KO}
 | 135=>{loop:=Ih}
 | 89=>{loop:=Nl}
 | 42=>{loop:=M6}
 | 8=>{loop:=PQ,join:=Ps}
 | _=>{}
def Dh (p : String) : Bool := p == "program.go:104" || p == "ref.go:45"
def Db:TypeId->Option XP
 | 87=>some (.tab 29 .ref 3 i64)
 | 88=>some (.tab 29 .ref 3 i64)
 | _=>none
def xj:List Nat:=[115,174,141,142,93,109,157,110,111,120,66,69,67,68]
def its:List (Nat×ICtr):=[]
theorem Qo:Li prog its:=GX
end Go.Proofs.YtfknoaclabfdlaaGreat

namespace Go.Proofs.YtfknoaclabfdlaaGreat
noncomputable section
open Tryz Dn Dn.Sh
set_option maxRecDepth 100000
theorem aX:prog.follows .mixedOrders=true:=by kernel_rfl
theorem O5:BN prog xj=true:=by kernel_rfl
theorem q0:(kM prog shs xj its [] []).ok:=Gk O5 Qo
abbrev cx (l) (r):=AO Db Dh (kM prog shs xj its l r)
def gl (_:Lp) (_:Jn) (x0:List Int):Option (List Int) :=
 bif c7 (0+List.length x0) 8 then some x0 else none
def ay (x0:List Int):Option (List Int):=gl lpK jnK x0
abbrev BG:=(List Int)->Option (List Int)
def MP (ay:BG):RCtr:=⟨[(.sl i64)],3,i64,fun x=>ay x.1⟩
def bL:RCtr:=MP ay
theorem Tc (lp:Lp) (jn:Jn):∀x:TsS bL.as,gl lp jn x.1=GJ lp jn (cx [] []) al 4 134 f134 bL.t bL.e (Bq bL.as x true):=fun x=>by kernel_rfl
theorem Pv:bL.ok prog 134:=RCtr.of_den_nil (c:=bL) (ap (q0)) aX (hl:=al) (d:=4) rfl func134 rfl (by decide) (Tc lpK jnK) fun x h=>by
 obtain ⟨l,u⟩:=x
 simp only at h
 subst h
 kernel_rfl
theorem b7:(kM prog shs xj its [] [(134,bL)]).ok:=FW q0 (by kernel_rfl) Pv
def jH (_:Lp) (_:Jn) (x0:Int) (x1:Int) (x2:Int):Option Bool :=
 
 let v5:Bool:=decide (x0>=x1);
 let v6:Bool:=!v5||v5;bif v6&&v6 then bif v6 then some (bif v5 then decide (x0<=x2) else false) else none else none
def bg (x0:Int) (x1:Int) (x2:Int):Option Bool:=jH lpK jnK x0 x1 x2
abbrev KG:=(Int)->(Int)->(Int)->Option (Bool)
def Pr (bg:KG):Ctr:=⟨[i64,i64,i64],[],[],.one .bool,fun x _ _=>bg x.1 x.2.1 x.2.2.1⟩
def K2:Ctr:=Pr bg
theorem TS (lp:Lp) (jn:Jn):∀(x:TsS K2.as) (F:TsF K2.fs) (y:TsS K2.cs),jH lp jn x.1 x.2.1 x.2.2.1=cb lp jn (cx [] [(134,bL)]) al 4 114 f114 K2 x F y:=fun x F y=>by kernel_rfl
theorem NQ:K2.ok prog 114:=Ctr.of_den (ap (b7)) aX (hl:=al) (d:=4) func114 rfl (by decide) (TS lpK jnK)
def jN (_:Lp) (_:Jn) (x0:Int):Option Bool :=
 
 let v3:Bool:=decide (x0>=97);
 let v4:Bool:=decide (x0>=65);
 let v5:Bool:=!v3||v3;
 let v6:Bool:=bif v3 then decide (x0<=122) else false;
 let v7:Bool:=!v6;
 let v8:Bool:=!v7;
 let v9:Bool:=v7&&v4;
 let v10:Bool:=v8||v7;bif v5 then bif v5 then bif v10 then bif v10 then bif !v9||v9 then bif (v8||v10)&&(v8||(!v4||(v8||v9))) then bif v6||v7 then some (bif v6 then true else bif v4 then decide (x0<=90) else false) else none else none else none else none else none else none else none
def bm (x0:Int):Option Bool:=jN lpK jnK x0
abbrev Jh:=(Int)->Option (Bool)
def Pw (bm:Jh):Ctr:=⟨[(.int .u8)],[],[],.one .bool,fun x _ _=>bm x.1⟩
def Hp:Ctr:=Pw bm
theorem Tk (lp:Lp) (jn:Jn):∀(x:TsS Hp.as) (F:TsF Hp.fs) (y:TsS Hp.cs),jN lp jn x.1=cb lp jn (cx [] [(134,bL)]) al 4 160 f160 Hp x F y:=fun x F y=>by kernel_rfl
theorem Oh:Hp.ok prog 160:=Ctr.of_den (ap (b7)) aX (hl:=al) (d:=4) func160 rfl (by decide) (Tk lpK jnK)
def kK (_:Lp) (_:Jn) (x0:Int):Option Bool :=
 
 let v3:Bool:=decide (x0>=48);
 let v4:Bool:=!v3||v3;bif v4 then bif v4 then some (bif v3 then decide (x0<=57) else false) else none else none
def dI (x0:Int):Option Bool:=kK lpK jnK x0
abbrev Qb:=(Int)->Option (Bool)
def Ju:Ctr:=⟨[(.int .u8)],[],[],.one .bool,fun x _ _=>dI x.1⟩
theorem Tn (lp:Lp) (jn:Jn):∀(x:TsS Ju.as) (F:TsF Ju.fs) (y:TsS Ju.cs),kK lp jn x.1=cb lp jn (cx [] [(134,bL)]) al 4 179 f179 Ju x F y:=fun x F y=>by kernel_rfl
theorem Rs:Ju.ok prog 179:=Ctr.of_den (ap (b7)) aX (hl:=al) (d:=4) func179 rfl (by decide) (Tn lpK jnK)
def lX (lp:Lp) (_:Jn) (bm:Jh) (dI:Qb) (x0:ByteArray):Option Int :=
 lp (Int×PUnit) Int (fun (again:Int×PUnit->Option Int) (x:Int×PUnit) =>
 let v5:Bool:=inB x.1 (ByteArray.size x0);
 let v6:Int:=eU x0 x.1.toNat;
 let v7:Bool:=decide (x.1<(↑(ByteArray.size x0):Int));
 let v8:Bool:=!v7;
 let v9:Bool:=v8||v7;
 let v10:Bool:=v8||v9;bif v9&&(v9&&(v8||v5)) then bif v9 then aa (bif v7 then bm v6 else some false) fun (t:Bool) =>
 let v12:Bool:=v7&&!t;
 let v13:Bool:=!v12;
 let v14:Bool:=v13||v12;bif v9 then bif v14&&(v14&&(v13||v5)) then bif v14 then aa (bif v12 then dI v6 else some false) fun (t_1:Bool) =>
 let v16:Bool:=bif t then true else t_1;
 let v17:Bool:=v7&&!v16;
 let v18:Bool:=!v17;
 let v19:Bool:=v18||v17;bif v10&&(v8||(t||(v8||v12))) then bif v9 then bif v19&&(v19&&(v18||v5)) then bif v19 then bif v10&&(v8||(v16||(v8||v17))) then bif v9 then bif bif v7 then bif v16 then true else decide (v6=95) else false then again (IntKind.wrap .i64 (x.1+1),PUnit.unit) else some x.1 else none else none else none else none else none else none else none else none else none else none else none) (0,PUnit.unit)
def dK (x0:ByteArray):Option Int:=lX lpK jnK bm dI x0
abbrev Qu:=(ByteArray)->Option (Int)
def Kg:Ctr:=⟨[.str],[],[],.one i64,fun x _ _=>dK x.1⟩
theorem SA (lp:Lp) (jn:Jn) (bm:Jh) (dI:Qb):∀(x:TsS Kg.as) (F:TsF Kg.fs) (y:TsS Kg.cs),lX lp jn bm dI x.1=cb lp jn (cx [(179,⟨[(.int .u8)],[],[],.one .bool,fun x _ _=>dI x.1⟩),(160,Pw bm)] [(134,bL)]) al 4 161 f161 Kg x F y:=fun x F y=>by kernel_rfl
theorem RP:Kg.ok prog 161:=Ctr.of_den (ap (ah (ah (b7) (by kernel_rfl) Oh) (by kernel_rfl) Rs)) aX (hl:=al) (d:=4) func161 rfl (by decide) (SA lpK jnK bm dI)
def jQ (_:Lp) (_:Jn) (bm:Jh) (dK:Qu) (x0:ByteArray):Option Bool :=
 
 let v3:Bool:=!List.beq (ByteArray.toList x0) (ByteArray.toList { data:=#[] });
 let v4:Bool:=!v3||v3;
 let v5:Bool:=bif v3 then decide ((↑(ByteArray.size x0):Int)<=20) else false;
 let v6:Bool:=!v5;
 let v7:Bool:=v6||v5;bif v4 then bif v4 then bif v4 then bif v7&&(v6||inB 0 (ByteArray.size x0)) then bif v7 then aa (bif v5 then bm (eU x0 0) else some false) fun (t:Bool) =>
 let v9:Bool:=bif v5 then t else false;
 let v10:Bool:=!v9||v9;bif v7 then bif v10 then aa (bif v9 then dK x0 else some 0) fun (t:Int)=>bif v10 then bif v10&&v10 then bif v10 then some (bif v9 then decide (t=(↑(ByteArray.size x0):Int)) else false) else none else none else none else none else none else none else none else none else none else none
def cX (x0:ByteArray):Option Bool:=jQ lpK jnK bm dK x0
abbrev Q0:=(ByteArray)->Option (Bool)
def KB:Ctr:=⟨[.str],[],[],.one .bool,fun x _ _=>cX x.1⟩
theorem TV (lp:Lp) (jn:Jn) (bm:Jh) (dK:Qu):∀(x:TsS KB.as) (F:TsF KB.fs) (y:TsS KB.cs),jQ lp jn bm dK x.1=cb lp jn (cx [(161,⟨[.str],[],[],.one i64,fun x _ _=>dK x.1⟩),(160,Pw bm)] [(134,bL)]) al 4 116 f116 KB x F y:=fun x F y=>by kernel_rfl
theorem Re:KB.ok prog 116:=Ctr.of_den (ap (ah (ah (b7) (by kernel_rfl) Oh) (by kernel_rfl) RP)) aX (hl:=al) (d:=4) func116 rfl (by decide) (TV lpK jnK bm dK)
def gk (lp:Lp) (_:Jn) (x0:List (ByteArray×Int)) (f0:(((ByteArray×Int)×Unit)->Option Bool)):Option Int :=
 lp (Int×PUnit) Int (fun (again:Int×PUnit->Option Int) (x:Int×PUnit)=>bif decide (x.1<(↑x0.length:Int)) then bif inB x.1 x0.length then aa (f0 (x0.getD x.1.toNat ({ data:={ toList:=[] } },0),PUnit.unit)) fun (t:Bool)=>bif t then some x.1 else again (IntKind.wrap .i64 (x.1+1), PUnit.unit) else none else some (-1)) (0,PUnit.unit)
def bN (x0:List (ByteArray×Int)) (f0:(((ByteArray×Int)×Unit)->Option Bool)):Option Int:=gk lpK jnK x0 f0
abbrev Pk:=(List (ByteArray×Int))->((((ByteArray×Int)×Unit)->Option Bool))->Option (Int)
def Qg (bN:Pk):Ctr:=⟨[(.sl T66)],[([T66],.bool)],[],.one i64,fun x F _=>bN x.1 F.1⟩
def Hu:Ctr:=Qg bN
theorem R9 (lp:Lp) (jn:Jn):∀(x:TsS Hu.as) (F:TsF Hu.fs) (y:TsS Hu.cs),gk lp jn x.1 F.1=cb lp jn (cx [] [(134,bL)]) al 4 167 f167 Hu x F y:=fun x F y=>by kernel_rfl
theorem RB:Hu.ok prog 167:=Ctr.of_den (ap (b7)) aX (hl:=al) (d:=4) func167 rfl (by decide) (R9 lpK jnK)
def j8 (_:Lp) (_:Jn) (x0:ByteArray×Int) (y0:ByteArray):Option Bool :=
 some (List.beq (ByteArray.toList x0.1) (ByteArray.toList y0))
def dN (x0:ByteArray×Int) (y0:ByteArray):Option Bool:=j8 lpK jnK x0 y0
abbrev Rl:=(ByteArray×Int)->(ByteArray)->Option (Bool)
def Iy:Ctr:=⟨[T66],[],[.str],.one .bool,fun x _ y=>dN x.1 y.1⟩
theorem SB (lp:Lp) (jn:Jn):∀(x:TsS Iy.as) (F:TsF Iy.fs) (y:TsS Iy.cs),j8 lp jn x.1 y.1=cb lp jn (cx [] [(134,bL)]) al 4 168 f168 Iy x F y:=fun x F y=>by kernel_rfl
theorem QK:Iy.ok prog 168:=Ctr.of_den (ap (b7)) aX (hl:=al) (d:=4) func168 rfl (by decide) (SB lpK jnK)
def lV (_:Lp) (_:Jn) (bN:Pk) (dN:Rl) (x0:(List (ByteArray×Int))×List (ByteArray×(List (ByteArray×Int×Int×Int))×Bool)) (x1:ByteArray):Option Int :=
 aa (bN x0.1 fun (x:(ByteArray×Int)×PUnit)=>dN x.1 x1) fun (t:Int)=>some t
def bP (x0:(List (ByteArray×Int))×List (ByteArray×(List (ByteArray×Int×Int×Int))×Bool)) (x1:ByteArray):Option Int:=lV lpK jnK bN dN x0 x1
abbrev HK:=((List (ByteArray×Int))×List (ByteArray×(List (ByteArray×Int×Int×Int))×Bool))->(ByteArray)->Option (Int)
def PO (bP:HK):Ctr:=⟨[T25,.str],[],[],.one i64,fun x _ _=>bP x.1 x.2.1⟩
def Iq:Ctr:=PO bP
theorem TT (lp:Lp) (jn:Jn) (bN:Pk) (dN:Rl):∀(x:TsS Iq.as) (F:TsF Iq.fs) (y:TsS Iq.cs),lV lp jn bN dN x.1 x.2.1=cb lp jn (cx [(168,⟨[T66],[],[.str],.one .bool,fun x _ y=>dN x.1 y.1⟩),(167,Qg bN)] [(134,bL)]) al 4 131 f131 Iq x F y:=fun x F y=>by kernel_rfl
theorem NT:Iq.ok prog 131:=Ctr.of_den (ap (ah (ah (b7) (by kernel_rfl) RB) (by kernel_rfl) QK)) aX (hl:=al) (d:=4) func131 rfl (by decide) (TT lpK jnK bN dN)
def oY (lp:Lp) (_:Jn) (x0:Int) (x1:Int):Option Int :=
 lp (Int×Int×PUnit) Int (fun (again:Int×Int×PUnit->Option Int) (x:Int×Int×PUnit)=>bif !decide (x.2.1=0) then bif nzB x.2.1 then again (x.2.1, Int.tmod x.1 x.2.1,PUnit.unit) else none else some x.1) (x0,x1,PUnit.unit)
def bn (x0:Int) (x1:Int):Option Int:=oY lpK jnK x0 x1
abbrev t75:=(Int)->(Int)->Option (Int)
def k75 (bn:t75):Ctr:=⟨[(.int .u64),(.int .u64)],[],[],.one (.int .u64),fun x _ _=>bn x.1 x.2.1⟩
def c75:Ctr:=k75 bn
theorem e75 (lp:Lp) (jn:Jn):∀(x:TsS c75.as) (F:TsF c75.fs) (y:TsS c75.cs),oY lp jn x.1 x.2.1=cb lp jn (cx [] [(134,bL)]) al 4 75 f75 c75 x F y:=fun x F y=>by kernel_rfl
theorem M1:c75.ok prog 75:=Ctr.of_den (ap (b7)) aX (hl:=al) (d:=4) func75 rfl (by decide) (e75 lpK jnK)
def nu (_:Lp) (_:Jn) (x0:Int):Option Int :=
 
 let v3:Int:=IntKind.wrap .u64 x0;bif decide (x0<0) then some (IntKind.wrap .u64 (0 - v3)) else some v3
def aH (x0:Int):Option Int:=nu lpK jnK x0
abbrev t77:=(Int)->Option (Int)
def k77 (aH:t77):Ctr:=⟨[i64],[],[],.one (.int .u64),fun x _ _=>aH x.1⟩
def c77:Ctr:=k77 aH
theorem e77 (lp:Lp) (jn:Jn):∀(x:TsS c77.as) (F:TsF c77.fs) (y:TsS c77.cs),nu lp jn x.1=cb lp jn (cx [] [(134,bL)]) al 4 77 f77 c77 x F y:=fun x F y=>by kernel_rfl
theorem IH:c77.ok prog 77:=Ctr.of_den (ap (b7)) aX (hl:=al) (d:=4) func77 rfl (by decide) (e77 lpK jnK)
def mA (_:Lp) (_:Jn) (bn:t75) (aH:t77) (x0:Int×Int):Option Bool :=
 
 let v3:Bool:=decide (x0.2>=1);
 let v4:Bool:=!v3||v3;
 let v5:Bool:=bif v3 then decide (x0.2<=1152921504606846976) else false;
 let v6:Bool:=bif v5 then decide (x0.1>=(-1152921504606846976)) else false;
 let v7:Bool:=!v5||v5;
 let v8:Bool:=bif v6 then decide (x0.1<=1152921504606846976) else false;
 let v9:Bool:=!v6||v6;
 let v10:Bool:=!v8||v8;bif v4 then bif v4 then bif v4 then bif v7 then bif v7 then bif v7 then bif v9 then bif v9 then bif v9 then bif v10 then bif v10 then aa (bif v8 then aH x0.1 else some 0) fun (t:Int)=>bif v10 then bif v10 then bif v10&&v10 then aa (bif v8 then bn t (IntKind.wrap .u64 x0.2) else some (0 : Int)) fun (t:Int)=>bif v10 then bif v10 then some (bif v8 then decide (t=1) else false) else none else none else none else none else none else none else none else none else none else none else none else none else none else none else none else none
def au (x0:Int×Int):Option Bool:=mA lpK jnK bn aH x0
abbrev t72:=(Int×Int)->Option (Bool)
def k72 (au:t72):Ctr:=⟨[T49],[],[],.one .bool,fun x _ _=>au x.1⟩
def c72:Ctr:=k72 au
theorem e72 (lp:Lp) (jn:Jn) (bn:t75) (aH:t77):∀(x:TsS c72.as) (F:TsF c72.fs) (y:TsS c72.cs),mA lp jn bn aH x.1=cb lp jn (cx [(77,k77 aH),(75,k75 bn)] [(134,bL)]) al 4 72 f72 c72 x F y:=fun x F y=>by kernel_rfl
theorem IG:c72.ok prog 72:=Ctr.of_den (ap (ah (ah (b7) (by kernel_rfl) M1) (by kernel_rfl) IH)) aX (hl:=al) (d:=4) func72 rfl (by decide) (e72 lpK jnK bn aH)
def ky (_:Lp) (_:Jn) (au:t72) (x0:Int×Int):Option Bool :=
 aa (au x0) fun (t:Bool) =>
 let v4:Bool:=!t||t;
 let v5:Bool:=bif t then decide (x0.1>=x0.2) else false;
 let v6:Bool:=!v5||v5;bif v4 then bif v4 then bif v4&&v4 then bif v4 then bif v6 then bif v6 then bif v6 then some (bif v5 then decide (x0.1<=100) else false) else none else none else none else none else none else none else none
def dJ (x0:Int×Int):Option Bool:=ky lpK jnK au x0
abbrev R2:=(Int×Int)->Option (Bool)
def Jr:Ctr:=⟨[T49],[],[],.one .bool,fun x _ _=>dJ x.1⟩
theorem Tq (lp:Lp) (jn:Jn) (au:t72):∀(x:TsS Jr.as) (F:TsF Jr.fs) (y:TsS Jr.cs),ky lp jn au x.1=cb lp jn (cx [(72,k72 au)] [(134,bL)]) al 4 180 f180 Jr x F y:=fun x F y=>by kernel_rfl
theorem P6:Jr.ok prog 180:=Ctr.of_den (ap (ah (b7) (by kernel_rfl) IG)) aX (hl:=al) (d:=4) func180 rfl (by decide) (Tq lpK jnK au)
def lP (_:Lp) (_:Jn) (bP:HK) (dJ:R2) (x0:(List (ByteArray×Int))×List (ByteArray×(List (ByteArray×Int×Int×Int))×Bool)) (x1:ByteArray×Int×Int×Int) (x2:Bool):Option Bool :=
 
 let v5:Bool:=!x2;
 let v6:Bool:=v5||x2;
 let v7:Bool:=decide (x1.2.1=0);
 let v8:Bool:=decide (x1.2.1=1);
 let v9:Bool:=decide (x1.2.1=2);
 let v10:Bool:=!v8;
 let v11:Bool:=!v9;
 let v12:Bool:=bif v9 then true else v7;
 let v13:Bool:=!v10||v10;
 let v14:Bool:=!v11||v11;
 let v15:Bool:=!v12;
 let v16:Bool:=bif x2 then !(decide (x1.2.2.1=1)&&(decide (x1.2.2.2=1)&&true)) else false;
 let v17:Bool:=!v16;
 let v18:Bool:=!v17;
 let v19:Bool:=v17&&v5;
 let v20:Bool:=!v15||v15;
 let v21:Bool:=v18||v17;
 let v22:Bool:=!v19||v19;bif v6 then bif v6&&v6 then bif v6 then bif v21 then bif v21 then bif v22 then bif v22 then aa (bif v19 then dJ x1.2.2 else some false) fun (t:Bool)=>bif v22 then bif (v18||v21)&&(v18||(!v5||(v18||v19))) then bif v16||v17 then bif bif v16 then true else bif v5 then !t else false then some false else bif List.beq (ByteArray.toList x1.1) (ByteArray.toList { data:=#[] }) then some v7 else aa (bP x0 x1.1) fun (t:Int)=>bif decide (t<0) then some false else bif x2 then bif v13 then bif v13 then bif v8||v10 then some (bif v8 then true else decide (x1.2.1=(-1))) else none else none else none else bif v14 then bif v14 then bif v9||v11 then bif v20 then bif v20 then bif v12||v15 then some (bif v12 then true else decide (x1.2.1=(-2))) else none else none else none else none else none else none else none else none else none else none else none else none else none else none else none else none
def dz (x0:(List (ByteArray×Int))×List (ByteArray×(List (ByteArray×Int×Int×Int))×Bool)) (x1:ByteArray×Int×Int×Int) (x2:Bool):Option Bool:=lP lpK jnK bP dJ x0 x1 x2
abbrev PS:=((List (ByteArray×Int))×List (ByteArray×(List (ByteArray×Int×Int×Int))×Bool))->(ByteArray×Int×Int×Int)->(Bool)->Option (Bool)
def Q7 (dz:PS):Ctr:=⟨[T25,OD,.bool],[],[],.one .bool,fun x _ _=>dz x.1 x.2.1 x.2.2.1⟩
def H7:Ctr:=Q7 dz
theorem SY (lp:Lp) (jn:Jn) (bP:HK) (dJ:R2):∀(x:TsS H7.as) (F:TsF H7.fs) (y:TsS H7.cs),lP lp jn bP dJ x.1 x.2.1 x.2.2.1=cb lp jn (cx [(180,⟨[T49],[],[],.one .bool,fun x _ _=>dJ x.1⟩),(131,PO bP)] [(134,bL)]) al 4 162 f162 H7 x F y:=fun x F y=>by kernel_rfl
theorem R4:H7.ok prog 162:=Ctr.of_den (ap (ah (ah (b7) (by kernel_rfl) NT) (by kernel_rfl) P6)) aX (hl:=al) (d:=4) func162 rfl (by decide) (SY lpK jnK bP dJ)
def lw (lp:Lp) (_:Jn) (bg:KG) (dz:PS) (x0:(List (ByteArray×Int))×List (ByteArray×(List (ByteArray×Int×Int×Int))×Bool)) (x1:ByteArray×(List (ByteArray×Int×Int×Int))×Bool):Option Bool :=
 
 let v4:Bool:=!x1.2.2;
 let v5:Bool:=!v4;
 let v6:Bool:=!v5;
 let v7:Int:=IntKind.wrap .i64 ((↑x1.2.1.length:Int) - 1);
 let v8:Bool:=v6||v5;aa (bg (↑x1.2.1.length:Int) 2 10) fun (t:Bool)=>bif !t then some false else lp (Int×PUnit) Bool (fun (again : Int×PUnit->Option Bool) (x:Int×PUnit) =>
 let v12:Bool:=decide (x.1=0);
 let v13:Bool:=!v12;
 let v14:Bool:=!v13||v13;bif decide (x.1<(↑x1.2.1.length:Int)) then bif inB x.1 x1.2.1.length then bif v14 then bif v14&&v14 then bif v12||v13 then aa (dz x0 (x1.2.1.getD x.1.toNat ({ data:={ toList:=[] } },0,0,0)) (bif v12 then true else decide (x.1=v7))) fun (t : Bool)=>bif !t then some false else again (IntKind.wrap .i64 (x.1+1),PUnit.unit) else none else none else none else none else bif v8 then bif v8 then bif v8&&(v8 && (v6||inB v7 x1.2.1.length)) then bif v8 then bif v8 then bif v8 then bif v4||v5 then some (bif v4 then true else List.beq (ByteArray.toList (x1.2.1.getD v7.toNat ({ data:={ toList:=[] } },0,0,0)).1) (ByteArray.toList { data:=#[] })) else none else none else none else none else none else none else none) (0,PUnit.unit)
def eo (x0:(List (ByteArray×Int))×List (ByteArray×(List (ByteArray×Int×Int×Int))×Bool)) (x1:ByteArray×(List (ByteArray×Int×Int×Int))×Bool):Option Bool:=lw lpK jnK bg dz x0 x1
abbrev RI:=((List (ByteArray×Int))×List (ByteArray×(List (ByteArray×Int×Int×Int))×Bool))->(ByteArray×(List (ByteArray×Int×Int×Int))×Bool)->Option (Bool)
def J8:Ctr:=⟨[T25,T75],[],[],.one .bool,fun x _ _=>eo x.1 x.2.1⟩
theorem Tw (lp:Lp) (jn:Jn) (bg:KG) (dz:PS):∀(x:TsS J8.as) (F:TsF J8.fs) (y:TsS J8.cs),lw lp jn bg dz x.1 x.2.1=cb lp jn (cx [(162,Q7 dz),(114,Pr bg)] [(134,bL)]) al 4 117 f117 J8 x F y:=fun x F y=>by kernel_rfl
theorem QA:J8.ok prog 117:=Ctr.of_den (ap (ah (ah (b7) (by kernel_rfl) NQ) (by kernel_rfl) R4)) aX (hl:=al) (d:=4) func117 rfl (by decide) (Tw lpK jnK bg dz)
def kD (lp:Lp) (_:Jn) (bg:KG) (cX:Q0) (eo:RI) (x0:(List (ByteArray×Int))×List (ByteArray×(List (ByteArray×Int×Int×Int))×Bool)):Option Bool :=
 aa (bg (↑x0.1.length:Int) 1 6) fun (t:Bool) =>
 let v4:Bool:=!t;
 let v5:Bool:=!v4;
 let v6:Bool:=!v5||v5;bif v6 then bif v6 then bif v6 then aa (bif v5 then bg (↑x0.2.length:Int) 1 6 else some false) fun (t:Bool)=>bif v6 then bif v4||v5 then bif bif v4 then true else !t then some false else lp (Int×List (ByteArray×Bool)×PUnit) Bool (fun (again:Int×List (ByteArray×Bool)×PUnit->Option Bool) (x:Int×List (ByteArray×Bool)×PUnit) =>
 let v10:ByteArray×Int:=x0.1.getD x.1.toNat ({ data:={ toList:=[] } },0);bif decide (x.1<(↑x0.1.length:Int)) then bif inB x.1 x0.1.length then aa (cX v10.1) fun (t:Bool) =>
 let v12:Bool:=!t||t;bif v12&&v12 then bif v12 then bif v12 then bif (!!!bif t then !ia str Sh.bool v10.1 false x.2.1 else false)||!!bif t then !ia str Sh.bool v10.1 false x.2.1 else false then bif (!!!bif t then !ia str Sh.bool v10.1 false x.2.1 else false)||!!bif t then !ia str Sh.bool v10.1 false x.2.1 else false then aa (bif !!bif t then !ia str Sh.bool v10.1 false x.2.1 else false then bg v10.2 0 16777216 else some false) fun (t_1:Bool)=>bif (!!!bif t then !ia str Sh.bool v10.1 false x.2.1 else false)||!!bif t then !ia str Sh.bool v10.1 false x.2.1 else false then bif (!bif t then !ia str Sh.bool v10.1 false x.2.1 else false)||!!bif t then !ia str Sh.bool v10.1 false x.2.1 else false then bif bif !bif t then !ia str Sh.bool v10.1 false x.2.1 else false then true else !t_1 then some false else again (IntKind.wrap .i64 (x.1+1),om str Sh.bool v10.1 true x.2.1,PUnit.unit) else none else none else none else none else none else none else none else none else lp (Int×Int×List (ByteArray×Bool)×PUnit) Bool (fun (again:Int×Int×List (ByteArray×Bool)×PUnit->Option Bool) (x:Int×Int×List (ByteArray×Bool)×PUnit) =>
 let v13:ByteArray×List (ByteArray×Int×Int×Int)×Bool:=x0.2.getD x.2.1.toNat ({ data:={ toList:=[] } },[],false);bif decide (x.2.1<(↑x0.2.length:Int)) then bif inB x.2.1 x0.2.length then aa (cX v13.1) fun (t:Bool) =>
 let v15:Bool:=!t||t;bif v15&&v15 then bif v15 then bif v15 then bif ((!!!bif t then !ia str Sh.bool v13.1 false x.2.2.1 else false)||!!bif t then !ia str Sh.bool v13.1 false x.2.2.1 else false)&&((!!!bif t then !ia str Sh.bool v13.1 false x.2.2.1 else false)||!!bif t then !ia str Sh.bool v13.1 false x.2.2.1 else false) then aa (bif !!bif t then !ia str Sh.bool v13.1 false x.2.2.1 else false then eo x0 v13 else some false) fun (t_1:Bool)=>bif (!!!bif t then !ia str Sh.bool v13.1 false x.2.2.1 else false)||!!bif t then !ia str Sh.bool v13.1 false x.2.2.1 else false then bif (!bif t then !ia str Sh.bool v13.1 false x.2.2.1 else false)||!!bif t then !ia str Sh.bool v13.1 false x.2.2.1 else false then bif bif !bif t then !ia str Sh.bool v13.1 false x.2.2.1 else false then true else !t_1 then some false else bif v13.2.2 then again (IntKind.wrap .i64 (x.1+1),IntKind.wrap .i64 (x.2.1+1),om str Sh.bool v13.1 true x.2.2.1,PUnit.unit) else again (x.1,IntKind.wrap .i64 (x.2.1+1),om str Sh.bool v13.1 true x.2.2.1,PUnit.unit) else none else none else none else none else none else none else none else some (decide (x.1<=1))) (0,0,x.2.1,PUnit.unit)) (0,[],PUnit.unit) else none else none else none else none else none
def aF (x0:(List (ByteArray×Int))×List (ByteArray×(List (ByteArray×Int×Int×Int))×Bool)):Option Bool:=kD lpK jnK bg cX eo x0
abbrev t59:=((List (ByteArray×Int))×List (ByteArray×(List (ByteArray×Int×Int×Int))×Bool))->Option (Bool)
def k59 (aF:t59):Ctr:=⟨[T25],[],[],.one .bool,fun x _ _=>aF x.1⟩
def c59:Ctr:=k59 aF
theorem e59 (lp:Lp) (jn:Jn) (bg:KG) (cX:Q0) (eo:RI):∀(x:TsS c59.as) (F:TsF c59.fs) (y:TsS c59.cs),kD lp jn bg cX eo x.1=cb lp jn (cx [(117,⟨[T25,T75],[],[],.one .bool,fun x _ _=>eo x.1 x.2.1⟩),(116,⟨[.str],[],[],.one .bool,fun x _ _=>cX x.1⟩),(114,Pr bg)] [(134,bL)]) al 4 59 f59 c59 x F y:=fun x F y=>by kernel_rfl
theorem MQ:c59.ok prog 59:=Ctr.of_den (ap (ah (ah (ah (b7) (by kernel_rfl) NQ) (by kernel_rfl) Re) (by kernel_rfl) QA)) aX (hl:=al) (d:=4) func59 rfl (by decide) (e59 lpK jnK bg cX eo)
def mO (lp:Lp) (_:Jn) (bP:HK) (aF:t59) (x0:(List (ByteArray×Int))×List (ByteArray×(List (ByteArray×Int×Int×Int))×Bool)):Option ((List (List Int))×Int×Unit) :=
 aa (aF x0) fun (t:Bool)=>bif !t then some ([],1,PUnit.unit) else bif decide (0<=(↑x0.1.length:Int))&&c7 (Int.toNat (↑x0.1.length : Int)) 24 then lp (Int×(List Nat×List (Option (List Int)))×PUnit) (List (List Int)×Int×PUnit) (fun (again:Int×(List Nat×List (Option (List Int)))×PUnit -> Option (List (List Int)×Int×PUnit)) (x:Int×(List Nat×List (Option (List Int)))×PUnit)=>bif decide (x.1<(↑(List.length (Nat.brecOn (motive:=fun (x:Nat)=>Nat->List Nat) (Int.toNat (↑x0.1.length:Int)) (fun (x:Nat) (f:Nat.below (motive:=fun (x:Nat)=>Nat->List (T ref)) x) (x_1:Nat)=>(match (motive:=(x:Nat)->Nat->Nat.below (motive:=fun (x:Nat)=>Nat->List (T ref)) x->List Nat) x,x_1 with | 0,x=>fun (_:PUnit)=>[] | Nat.succ n,k=>fun (x:(Nat->List Nat) ×' Nat.rec PUnit (fun (n:Nat) (n_ih:Type)=>(fun (x:Nat)=>Nat->List (T ref)) n ×' n_ih) n)=>(k+0) ::x.1 (k+1)) f) 0)):Int)) then bif decide (0 <= (↑x0.2.length:Int))&&c7 (Int.toNat (↑x0.2.length:Int)) 8 then bif inB x.1 x.2.1.1.length then bif Nat.ble (Nat.succ x.1.toNat) x.2.1.1.length then again (IntKind.wrap .i64 (x.1+1),(x.2.1.1.set x.1.toNat x.2.1.2.length,x.2.1.2++[some (List.replicate (Int.toNat (↑x0.2.length:Int)) 0)]),PUnit.unit) else none else none else none else lp (Int×(List Nat×List (Option (List Int)))×PUnit) (List (List Int)×Int×PUnit) (fun (again:Int×(List Nat×List (Option (List Int)))×PUnit->Option (List (List Int)×Int×PUnit)) (x:Int×(List Nat×List (Option (List Int))) × PUnit)=>bif decide (x.1<(↑x0.2.length:Int)) then bif inB x.1 x0.2.length then lp (Int×(List Nat×List (Option (List Int)))×PUnit) (List (List Int)×Int × PUnit) (fun (again_1:Int×(List Nat×List (Option (List Int)))×PUnit->Option (List (List Int)×Int×PUnit)) (x_1:Int×(List Nat×List (Option (List Int)))×PUnit) =>
 let v10:Int:=IntKind.wrap .i64 (x_1.1+1);
 let v11:(List Nat×List (Option (List Int)))×PUnit:=(x_1.2.1,PUnit.unit);
 let v12:ByteArray×Int×Int×Int:=List.getD (x0.2.getD x.1.toNat ({ data:={ toList:=[] } },[],false)).2.1 x_1.1.toNat ({ data:={ toList:=[] } },0,0,0);bif decide (x_1.1<(↑(List.length (x0.2.getD x.1.toNat ({ data:={ toList:=[] } },[],false)).2.1):Int)) then bif inB x_1.1 (List.length (x0.2.getD x.1.toNat ({ data:={ toList:=[] } },[],false)).2.1) then aa (bP x0 v12.1) fun (t:Int)=>bif decide (t>=(0 : Int)) then bif inB t x_1.2.1.1.length then bif Nat.ble (Nat.succ t.toNat) x_1.2.1.1.length then bif inB x.1 (List.length (af x_1.2.1.2 (x_1.2.1.1.getD t.toNat 0))) then bif Nat.ble (Nat.succ x.1.toNat) (List.length (af x_1.2.1.2 (x_1.2.1.1.getD t.toNat (0 : Nat)))) then bif inB x.1 (List.length (af x_1.2.1.2 (x_1.2.1.1.getD t.toNat 0))) then bif Nat.ble (Nat.succ x.1.toNat) (List.length (af x_1.2.1.2 (x_1.2.1.1.getD t.toNat 0))) then again_1 (v10,(x_1.2.1.1,x_1.2.1.2.set (x_1.2.1.1.getD t.toNat 0) (some (List.set (af x_1.2.1.2 (x_1.2.1.1.getD t.toNat 0)) x.1.toNat (IntKind.wrap .i64 (List.getD (af x_1.2.1.2 (x_1.2.1.1.getD t.toNat 0)) x.1.toNat 0+v12.2.1))))),PUnit.unit) else none else none else none else none else none else none else again_1 (v10,v11) else none else again (IntKind.wrap .i64 (x.1+1),v11)) (0,x.2.1,PUnit.unit) else none else bif List.all x.2.1.1 fun (x_1:Nat)=>dM x.2.1.2 x_1 then some (List.map (fun (x_1:Nat)=>af x.2.1.2 x_1) x.2.1.1,0,PUnit.unit) else none) (0,x.2.1,PUnit.unit)) (0, (Nat.brecOn (motive:=fun (x:Nat)=>Nat->List Nat) (Int.toNat (↑x0.1.length:Int)) (fun (x:Nat) (f:Nat.below (motive:=fun (x:Nat)=>Nat->List (T ref)) x) (x_1:Nat)=>(match (motive:=(x:Nat)->Nat->Nat.below (motive:=fun (x:Nat)=>Nat->List (T ref)) x->List Nat) x,x_1 with | 0,x=>fun (_:PUnit)=>[] | Nat.succ n,k=>fun (x:(Nat->List Nat) ×' Nat.rec PUnit (fun (n:Nat) (n_ih:Type)=>(fun (x:Nat)=>Nat->List (T ref)) n ×' n_ih) n)=>(k+0) ::x.1 (k+1)) f) 0,List.replicate (Int.toNat (↑x0.1.length:Int)) (some [])),PUnit.unit) else none
def a6 (x0:(List (ByteArray×Int))×List (ByteArray×(List (ByteArray×Int×Int×Int))×Bool)):Option ((List (List Int))×Int×Unit):=mO lpK jnK bP aF x0
abbrev t87:=((List (ByteArray×Int))×List (ByteArray×(List (ByteArray×Int×Int×Int))×Bool))->Option ((List (List Int))×Int×Unit)
def k87 (a6:t87):Ctr:=⟨[T25],[],[],.tup [(.sl (.sl i64)),i64],fun x _ _=>a6 x.1⟩
def c87:Ctr:=k87 a6
theorem e87 (lp:Lp) (jn:Jn) (bP:HK) (aF:t59):∀(x:TsS c87.as) (F:TsF c87.fs) (y:TsS c87.cs),mO lp jn bP aF x.1=cb lp jn (cx [(59,k59 aF),(131,PO bP)] [(134,bL)]) al 4 87 f87 c87 x F y:=fun x F y=>by kernel_rfl
theorem QX:c87.ok prog 87:=Ctr.of_den (ap (ah (ah (b7) (by kernel_rfl) NT) (by kernel_rfl) MQ)) aX (hl:=al) (d:=4) func87 rfl (by decide) (e87 lpK jnK bP aF)
def ju (lp:Lp) (_:Jn) (aF:t59) (x0:(List (ByteArray×Int))×List (ByteArray×(List (ByteArray×Int×Int×Int))×Bool)):Option ((List Int)×Int×Unit) :=
 aa (aF x0) fun (t:Bool)=>bif !t then some ([],1,PUnit.unit) else lp (List Int×Int×PUnit) (List Int×Int×PUnit) (fun (again:List Int×Int×PUnit -> Option (List Int×Int×PUnit)) (x:List Int×Int×PUnit)=>bif decide (x.2.1<(↑x0.1.length:Int)) then bif inB x.2.1 x0.1.length then bif c7 (List.length x.1+1) 8 then again (x.1++[(x0.1.getD x.2.1.toNat ({ data:={ toList:=[] } },0)).2],IntKind.wrap .i64 (x.2.1+1),PUnit.unit) else none else none else some (x.1,0,PUnit.unit)) ([],0,PUnit.unit)
def bh (x0:(List (ByteArray×Int))×List (ByteArray×(List (ByteArray×Int×Int×Int))×Bool)):Option ((List Int)×Int×Unit):=ju lpK jnK aF x0
abbrev t88:=((List (ByteArray×Int))×List (ByteArray×(List (ByteArray×Int×Int×Int))×Bool))->Option ((List Int)×Int×Unit)
def k88 (bh:t88):Ctr:=⟨[T25],[],[],.tup [(.sl i64),i64],fun x _ _=>bh x.1⟩
def c88:Ctr:=k88 bh
theorem e88 (lp:Lp) (jn:Jn) (aF:t59):∀(x:TsS c88.as) (F:TsF c88.fs) (y:TsS c88.cs),ju lp jn aF x.1=cb lp jn (cx [(59,k59 aF)] [(134,bL)]) al 4 88 f88 c88 x F y:=fun x F y=>by kernel_rfl
theorem QW:c88.ok prog 88:=Ctr.of_den (ap (ah (b7) (by kernel_rfl) MQ)) aX (hl:=al) (d:=4) func88 rfl (by decide) (e88 lpK jnK aF)
def nM (lp:Lp) (_:Jn) (a6:t87) (bh:t88) (x0:(List (ByteArray×Int))×List (ByteArray×(List (ByteArray×Int×Int×Int))×Bool)) (x1:List Int):Option (((List Int)×List ((List Int)×Int×Int))×Int×Unit) :=
 aa (a6 x0) fun (t:List (List Int)×Int×PUnit)=>bif !decide (t.2.1=0) then some (([],[]),t.2.1,PUnit.unit) else aa (bh x0) fun (t_1 : List Int×Int×PUnit)=>bif !decide (t_1.2.1=0) then some (([],[]),t_1.2.1,PUnit.unit) else lp (Int×List Int×List (List Int×Int×Int)×PUnit) ((List Int×List (List Int×Int×Int))×Int×PUnit) (fun (again:Int×List Int×List (List Int×Int×Int)×PUnit->Option ((List Int×List (List Int×Int×Int))×Int×PUnit)) (x:Int×List Int×List (List Int×Int×Int)×PUnit)=>bif decide (x.1<(↑t.1.length:Int)) then bif inB x.1 t.1.length then bif inB x.1 t_1.1.length then bif c7 (List.length x.2.2.1+1) 40 then again (IntKind.wrap .i64 (x.1+1),x.2.1,x.2.2.1++[(t.1.getD x.1.toNat [],3,t_1.1.getD x.1.toNat 0)],PUnit.unit) else none else none else none else some ((x.2.1,x.2.2.1),0, PUnit.unit)) (0,x1,[],PUnit.unit)
def cH (x0:(List (ByteArray×Int))×List (ByteArray×(List (ByteArray×Int×Int×Int))×Bool)) (x1:List Int):Option (((List Int)×List ((List Int)×Int×Int))×Int×Unit):=nM lpK jnK a6 bh x0 x1
abbrev t45:=((List (ByteArray×Int))×List (ByteArray×(List (ByteArray×Int×Int×Int))×Bool))->(List Int)->Option (((List Int)×List ((List Int)×Int×Int))×Int×Unit)
def k45 (cH:t45):Ctr:=⟨[T25,(.sl i64)],[],[],.tup [T32,i64],fun x _ _=>cH x.1 x.2.1⟩
def c45:Ctr:=k45 cH
theorem e45 (lp:Lp) (jn:Jn) (a6:t87) (bh:t88):∀(x:TsS c45.as) (F:TsF c45.fs) (y:TsS c45.cs),nM lp jn a6 bh x.1 x.2.1=cb lp jn (cx [(88,k88 bh),(87,k87 a6)] [(134,bL)]) al 4 45 f45 c45 x F y:=fun x F y=>by kernel_rfl
theorem QP:c45.ok prog 45:=Ctr.of_den (ap (ah (ah (b7) (by kernel_rfl) QX) (by kernel_rfl) QW)) aX (hl:=al) (d:=4) func45 rfl (by decide) (e45 lpK jnK a6 bh)
def ni (_:Lp) (_:Jn) (x0:Int) (x1:Int):Option (Int×Int×Unit) :=
 
 let v4:Int:=2 ^ 32;
 let v5:Int:=Int.fdiv x0 v4;
 let v6:Int:=Int.fdiv x1 v4;
 let v7:Bool:=decide ((0:Int)<=32);
 let v8:Int:=IntKind.wrap .u64 (↑(Nat.land (Int.toNat (x1 % Int.ofNat 18446744073709551616)) (Int.toNat (4294967295 % Int.ofNat 18446744073709551616))) : Int);
 let v9:Int:=IntKind.wrap .u64 (↑(Nat.land (Int.toNat (x0 % Int.ofNat 18446744073709551616)) (Int.toNat (4294967295 % Int.ofNat 18446744073709551616))) : Int);
 let v10:Int:=IntKind.wrap .u64 (IntKind.wrap .u64 (v5*v8)+Int.fdiv (IntKind.wrap .u64 (v9*v8)) v4);bif v7 then bif v7 then bif v7 then bif v7 then bif v7 then some (IntKind.wrap .u64 (IntKind.wrap .u64 (IntKind.wrap .u64 (v5*v6)+Int.fdiv v10 v4)+Int.fdiv (IntKind.wrap .u64 (IntKind.wrap .u64 (↑(Nat.land (Int.toNat (v10 % Int.ofNat 18446744073709551616)) (Int.toNat (4294967295 % Int.ofNat 18446744073709551616))):Int)+IntKind.wrap .u64 (v9 * v6))) v4),IntKind.wrap .u64 (x0*x1),PUnit.unit) else none else none else none else none else none
def a5 (x0:Int) (x1:Int):Option (Int×Int×Unit):=ni lpK jnK x0 x1
abbrev zM:=(Int)->(Int)->Option (Int×Int×Unit)
def JX (a5:zM):Ctr:=⟨[(.int .u64),(.int .u64)],[],[],.tup [(.int .u64),(.int .u64)],fun x _ _=>a5 x.1 x.2.1⟩
def KI:Ctr:=JX a5
theorem Ty (lp:Lp) (jn:Jn):∀(x:TsS KI.as) (F:TsF KI.fs) (y:TsS KI.cs),ni lp jn x.1 x.2.1=cb lp jn (cx [] [(134,bL)]) al 4 122 f122 KI x F y:=fun x F y=>by kernel_rfl
theorem Eh:KI.ok prog 122:=Ctr.of_den (ap (b7)) aX (hl:=al) (d:=4) func122 rfl (by decide) (Ty lpK jnK)
def rR (_:Lp) (_:Jn) (x0:Int) (x1:Int):Option (Int×Int×Unit) :=
 
 let v4:Int:=IntKind.wrap .u64 (IntKind.wrap .u64 x0*IntKind.wrap .u64 x1);bif decide ((0:Int)<=32) then some (IntKind.wrap IntKind.u32 (Int.fdiv v4 (2 ^ 32)),IntKind.wrap IntKind.u32 v4,PUnit.unit) else none
def gX (x0:Int) (x1:Int):Option (Int×Int×Unit):=rR lpK jnK x0 x1
def QH (gX:(Int)->(Int)->Option (Int×Int×Unit)):Ctr:=⟨[(.int .u32),(.int .u32)],[],[],.tup [(.int .u32),(.int .u32)],fun x _ _=>gX x.1 x.2.1⟩
def HO:Ctr:=QH gX
theorem SN (lp:Lp) (jn:Jn):∀(x:TsS HO.as) (F:TsF HO.fs) (y:TsS HO.cs),rR lp jn x.1 x.2.1=cb lp jn (cx [] [(134,bL)]) al 4 137 f137 HO x F y:=fun x F y=>by kernel_rfl
theorem Qn:HO.ok prog 137:=Ctr.of_den (ap (b7)) aX (hl:=al) (d:=4) func137 rfl (by decide) (SN lpK jnK)
def rc (_:Lp) (_:Jn) (a5:zM) (_:(Int)->(Int)->Option (Int×Int×Unit)) (x0:Int) (x1:Int):Option (Int×Int×Unit) :=
 aa (a5 x0 x1) fun (t:Int×Int×PUnit)=>some (t.1,t.2.1,PUnit.unit)
def gx (x0:Int) (x1:Int):Option (Int×Int×Unit):=rc lpK jnK a5 gX x0 x1
abbrev t90:=(Int)->(Int)->Option (Int×Int×Unit)
def k90 (gx:t90):Ctr:=⟨[(.int .u64),(.int .u64)],[],[],.tup [(.int .u64),(.int .u64)],fun x _ _=>gx x.1 x.2.1⟩
def c90:Ctr:=k90 gx
theorem e90 (lp:Lp) (jn:Jn) (a5:zM) (gX:(Int)->(Int)->Option (Int×Int×Unit)):∀(x:TsS c90.as) (F:TsF c90.fs) (y:TsS c90.cs),rc lp jn a5 gX x.1 x.2.1=cb lp jn (cx [(137,QH gX),(122,JX a5)] [(134,bL)]) al 4 90 f90 c90 x F y:=fun x F y=>by kernel_rfl
theorem Tz:c90.ok prog 90:=Ctr.of_den (ap (ah (ah (b7) (by kernel_rfl) Eh) (by kernel_rfl) Qn)) aX (hl:=al) (d:=4) func90 rfl (by decide) (e90 lpK jnK a5 gX)
def iJ (lp:Lp) (jn:Jn) (gx:t90) (x0:List Int) (x1:Int):Option (List Int) :=
 jn PUnit (List Int) (fun (_:PUnit)=>aa (gx (IntKind.wrap .u64 (↑x0.length:Int)) (IntKind.wrap .u64 x1)) fun (t:Int×Int×PUnit) =>
 let v6:List Int:=List.take (Int.toNat (IntKind.wrap .i64 t.2.1)) x0;
 let v7:List Int:=List.replicate (Int.toNat (IntKind.wrap .i64 t.2.1)) 0;
 let v8:Bool:=decide (t.1>0);
 let v9:Bool:=!v8;bif !v9||v9 then bif v8||v9 then jn PUnit (List Int) (fun (_:PUnit)=>bif decide (0<=IntKind.wrap .i64 t.2.1)&&c7 (Int.toNat (IntKind.wrap .i64 t.2.1)) 8 then lp (Int×List Int×PUnit) (List Int) (fun (again:Int×List Int×PUnit->Option (List Int)) (x:Int×List Int×PUnit) =>
 let v13:List Int:=List.take x.1.toNat x.2.1;
 let v14:List Int:=List.take (Int.toNat (↑x.2.1.length:Int) - Int.toNat x.1) (List.drop 0 v13);bif decide (x.1<(↑x.2.1.length:Int)) then bif slB x.1 (↑x.2.1.length:Int) x.2.1.length then bif slB 0 x.1 x.2.1.length then bif Nat.ble x.1.toNat (Int.toNat (↑x.2.1.length:Int))&&(Nat.ble (Int.toNat (↑x.2.1.length:Int)) x.2.1.length&&Nat.ble x.1.toNat x.2.1.length) then again (IntKind.wrap IntKind.i64 (x.1+(↑v14.length:Int)),v13++v14++List.drop (Int.toNat x.1+List.length v14) x.2.1,PUnit.unit) else none else none else none else some x.2.1) ((↑v6.length:Int),List.take 0 v7++v6++List.drop (0+List.length v6) v7,PUnit.unit) else none) fun (j:PUnit->Option (List Int))=>bif bif v8 then true else decide (t.2.1>9223372036854775807) then none else j PUnit.unit else none else none) fun (j:PUnit->Option (List Int))=>bif decide (x1<0) then none else j PUnit.unit
def cq (x0:List Int) (x1:Int):Option (List Int):=iJ lpK jnK gx x0 x1
abbrev t46:=(List Int)->(Int)->Option (List Int)
def k46 (cq:t46):Ctr:=⟨[(.sl i64),i64],[],[],.one (.sl i64),fun x _ _=>cq x.1 x.2.1⟩
def c46:Ctr:=k46 cq
theorem e46 (lp:Lp) (jn:Jn) (gx:t90):∀(x:TsS c46.as) (F:TsF c46.fs) (y:TsS c46.cs),iJ lp jn gx x.1 x.2.1=cb lp jn (cx [(90,k90 gx)] [(134,bL)]) al 4 46 f46 c46 x F y:=fun x F y=>by kernel_rfl
theorem S4:c46.ok prog 46:=Ctr.of_den (ap (ah (b7) (by kernel_rfl) Tz)) aX (hl:=al) (d:=4) func46 rfl (by decide) (e46 lpK jnK gx)
def kG (_:Lp) (_:Jn) (cH:t45) (cq:t46) (x0:(List (ByteArray×Int))×List (ByteArray×(List (ByteArray×Int×Int×Int))×Bool)):Option (((List Int)×List ((List Int)×Int×Int))×Int×Unit) :=
 aa (cq [1] (↑x0.2.length:Int)) fun (t:List Int)=>aa (cH x0 t) fun (t:(List Int×List (List Int×Int×Int))×Int×PUnit)=>some (t.1,t.2.1,PUnit.unit)
def aU (x0:(List (ByteArray×Int))×List (ByteArray×(List (ByteArray×Int×Int×Int))×Bool)):Option (((List Int)×List ((List Int)×Int×Int))×Int×Unit):=kG lpK jnK cH cq x0
abbrev t11:=((List (ByteArray×Int))×List (ByteArray×(List (ByteArray×Int×Int×Int))×Bool))->Option (((List Int)×List ((List Int)×Int×Int))×Int×Unit)
def k11 (aU:t11):Ctr:=⟨[T25],[],[],.tup [T32,i64],fun x _ _=>aU x.1⟩
def c11:Ctr:=k11 aU
theorem e11 (lp:Lp) (jn:Jn) (cH:t45) (cq:t46):∀(x:TsS c11.as) (F:TsF c11.fs) (y:TsS c11.cs),kG lp jn cH cq x.1=cb lp jn (cx [(46,k46 cq),(45,k45 cH)] [(134,bL)]) al 4 11 f11 c11 x F y:=fun x F y=>by kernel_rfl
theorem QE:c11.ok prog 11:=Ctr.of_den (ap (ah (ah (b7) (by kernel_rfl) QP) (by kernel_rfl) S4)) aX (hl:=al) (d:=4) func11 rfl (by decide) (e11 lpK jnK cH cq)
def iq (_:Lp) (_:Jn) (x0:Int) (y0:Int):Option Bool :=
 
 let v4:Bool:=decide (x0<IntKind.wrap .i64 (0 - y0));
 let v5:Bool:=!v4;
 let v6:Bool:=!v5||v5;bif v6&&v6 then bif v4||v5 then some (bif v4 then true else decide (x0>y0)) else none else none
def bQ (x0:Int) (y0:Int):Option Bool:=iq lpK jnK x0 y0
abbrev Qw:=(Int)->(Int)->Option (Bool)
def KM:Ctr:=⟨[i64],[],[i64],.one .bool,fun x _ y=>bQ x.1 y.1⟩
theorem Tu (lp:Lp) (jn:Jn):∀(x:TsS KM.as) (F:TsF KM.fs) (y:TsS KM.cs),iq lp jn x.1 y.1=cb lp jn (cx [] [(134,bL)]) al 4 139 f139 KM x F y:=fun x F y=>by kernel_rfl
theorem QT:KM.ok prog 139:=Ctr.of_den (ap (b7)) aX (hl:=al) (d:=4) func139 rfl (by decide) (Tu lpK jnK)
def ja (_:Lp) (_:Jn) (bQ:Qw) (x0:Int):Option ((Int×Unit)->Option Bool) :=
 some fun (x:Int×PUnit)=>bQ x.1 x0
def cN (x0:Int):Option ((Int×Unit)->Option Bool):=ja lpK jnK bQ x0
abbrev Qq:=(Int)->Option ((Int×Unit)->Option Bool)
def Pf:FCtr:=⟨[i64],[i64],.bool,fun x=>cN x.1⟩
theorem SL (lp:Lp) (jn:Jn) (bQ:Qw):∀x:TsS Pf.as,ja lp jn bQ x.1=O6 lp jn (cx [(139,⟨[i64],[],[i64],.one .bool,fun x _ y=>bQ x.1 y.1⟩)] [(134,bL)]) al 4 138 f138 Pf x:=fun x=>by kernel_rfl
theorem Ol:Pf.ok prog 138:=FCtr.of_den (ap (ah (b7) (by kernel_rfl) QT)) aX (hl:=al) (d:=4) func138 rfl (by decide) (SL lpK jnK bQ)
def gu (lp:Lp) (_:Jn) (x0:List Int) (f0:((Int×Unit)->Option Bool)):Option Int :=
 lp (Int×PUnit) Int (fun (again:Int×PUnit->Option Int) (x:Int×PUnit)=>bif decide (x.1<(↑x0.length:Int)) then bif inB x.1 x0.length then aa (f0 (x0.getD x.1.toNat 0,PUnit.unit)) fun (t:Bool)=>bif t then some x.1 else again (IntKind.wrap .i64 (x.1+1),PUnit.unit) else none else some (-1)) (0,PUnit.unit)
def bz (x0:List Int) (f0:((Int×Unit)->Option Bool)):Option Int:=gu lpK jnK x0 f0
abbrev Pa:=(List Int)->(((Int×Unit)->Option Bool))->Option (Int)
def Rj (bz:Pa):Ctr:=⟨[(.sl i64)],[([i64],.bool)],[],.one i64,fun x F _=>bz x.1 F.1⟩
def HV:Ctr:=Rj bz
theorem TU (lp:Lp) (jn:Jn):∀(x:TsS HV.as) (F:TsF HV.fs) (y:TsS HV.cs),gu lp jn x.1 F.1=cb lp jn (cx [] [(134,bL)]) al 4 173 f173 HV x F y:=fun x F y=>by kernel_rfl
theorem RX:HV.ok prog 173:=Ctr.of_den (ap (b7)) aX (hl:=al) (d:=4) func173 rfl (by decide) (TU lpK jnK)
def fo (_:Lp) (_:Jn) (bz:Pa) (x0:List Int) (f0:((Int×Unit)->Option Bool)):Option Bool :=
 aa (bz x0 f0) fun (t:Int)=>some (decide (t>=0))
def aw (x0:List Int) (f0:((Int×Unit)->Option Bool)):Option Bool:=fo lpK jnK bz x0 f0
abbrev J7:=(List Int)->(((Int×Unit)->Option Bool))->Option (Bool)
def OP (aw:J7):Ctr:=⟨[(.sl i64)],[([i64],.bool)],[],.one .bool,fun x F _=>aw x.1 F.1⟩
def JH:Ctr:=OP aw
theorem Tf (lp:Lp) (jn:Jn) (bz:Pa):∀(x:TsS JH.as) (F:TsF JH.fs) (y:TsS JH.cs),fo lp jn bz x.1 F.1=cb lp jn (cx [(173,Rj bz)] [(134,bL)]) al 4 140 f140 JH x F y:=fun x F y=>by kernel_rfl
theorem NU:JH.ok prog 140:=Ctr.of_den (ap (ah (b7) (by kernel_rfl) RX)) aX (hl:=al) (d:=4) func140 rfl (by decide) (Tf lpK jnK bz)
def jt (lp:Lp) (_:Jn) (x0:List ((List Int)×Int×Int)) (f0:((((List Int)×Int×Int)×Unit)->Option Bool)):Option Int :=
 lp (Int×PUnit) Int (fun (again:Int×PUnit->Option Int) (x:Int×PUnit)=>bif decide (x.1<(↑x0.length:Int)) then bif inB x.1 x0.length then aa (f0 (x0.getD x.1.toNat ([],0,0),PUnit.unit)) fun (t:Bool)=>bif t then some x.1 else again (IntKind.wrap .i64 (x.1+1),PUnit.unit) else none else some (-1)) (0,PUnit.unit)
def b8 (x0:List ((List Int)×Int×Int)) (f0:((((List Int)×Int×Int)×Unit)->Option Bool)):Option Int:=jt lpK jnK x0 f0
abbrev OX:=(List ((List Int)×Int×Int))->(((((List Int)×Int×Int)×Unit)->Option Bool))->Option (Int)
def Qp (b8:OX):Ctr:=⟨[(.sl T86)],[([T86],.bool)],[],.one i64,fun x F _=>b8 x.1 F.1⟩
def JP:Ctr:=Qp b8
theorem SJ (lp:Lp) (jn:Jn):∀(x:TsS JP.as) (F:TsF JP.fs) (y:TsS JP.cs),jt lp jn x.1 F.1=cb lp jn (cx [] [(134,bL)]) al 4 174 f174 JP x F y:=fun x F y=>by kernel_rfl
theorem R0:JP.ok prog 174:=Ctr.of_den (ap (b7)) aX (hl:=al) (d:=4) func174 rfl (by decide) (SJ lpK jnK)
def im (_:Lp) (_:Jn) (b8:OX) (x0:List ((List Int)×Int×Int)) (f0:((((List Int)×Int×Int)×Unit)->Option Bool)):Option Bool :=
 aa (b8 x0 f0) fun (t:Int)=>some (decide (t>=0))
def ce (x0:List ((List Int)×Int×Int)) (f0:((((List Int)×Int×Int)×Unit)->Option Bool)):Option Bool:=im lpK jnK b8 x0 f0
def Rf (ce:(List ((List Int)×Int×Int))->(((((List Int)×Int×Int)×Unit)->Option Bool))->Option (Bool)):Ctr:=⟨[(.sl T86)],[([T86],.bool)],[],.one .bool,fun x F _=>ce x.1 F.1⟩
def HH:Ctr:=Rf ce
theorem To (lp:Lp) (jn:Jn) (b8:OX):∀(x:TsS HH.as) (F:TsF HH.fs) (y:TsS HH.cs),im lp jn b8 x.1 F.1=cb lp jn (cx [(174,Qp b8)] [(134,bL)]) al 4 141 f141 HH x F y:=fun x F y=>by kernel_rfl
theorem QL:HH.ok prog 141:=Ctr.of_den (ap (ah (b7) (by kernel_rfl) R0)) aX (hl:=al) (d:=4) func141 rfl (by decide) (To lpK jnK b8)
def kA (lp:Lp) (_:Jn) (aw:J7) (_:(List ((List Int)×Int×Int))->(((((List Int)×Int×Int)×Unit)->Option Bool))->Option (Bool)) (cN:Qq) (x0:(List Int)×List ((List Int)×Int×Int)):Option Bool :=
 
 let v3:Bool:=decide ((↑x0.1.length:Int)<1);
 let v4:Bool:=!v3;
 let v5:Bool:=bif v3 then true else decide ((↑x0.1.length:Int)>12);
 let v6:Bool:=!v4||v4;
 let v7:Bool:=!v5;
 let v8:Bool:=bif v5 then true else decide ((↑x0.2.length:Int)>6);
 let v9:Bool:=!v8;
 let v10:Bool:=!v7||v7;
 let v11:Bool:=!v9||v9;bif v6 then bif v6 then bif v6 then bif v3||v4 then bif v10 then bif v10 then bif v10 then bif v5||v7 then bif v11 then bif v11 then aa (bif v9 then cN 1048576 else some fun (_:Int×PUnit)=>none) fun (t:Int×PUnit->Option Bool)=>bif v11&&v11 then aa (bif v9 then aw x0.1 t else some false) fun (t:Bool)=>bif v8||v9 then bif bif v8 then true else t then some false else lp (Int×PUnit) Bool (fun (again:Int×PUnit->Option Bool) (x:Int×PUnit) =>
 let v16:List Int×Int×Int:=x0.2.getD x.1.toNat ([],0,0);
 let v17:Bool:=decide (v16.2.1<1);
 let v18:Bool:=decide (v16.2.1>3);
 let v19:Bool:=!decide ((↑v16.1.length:Int)=(↑x0.1.length:Int));
 let v20:Bool:=!v19;
 let v21:Bool:=!v20||v20;bif decide (x.1<(↑x0.2.length:Int)) then bif inB x.1 x0.2.length then bif v21 then bif v21 then aa (bif v20 then cN 1048576 else some fun (_:Int×PUnit)=>none) fun (t:Int×PUnit->Option Bool)=>bif v21&&v21 then aa (bif v20 then aw v16.1 t else some false) fun (t:Bool) =>
 let v24:Bool:=bif v19 then true else t;
 let v25:Bool:=!v24;
 let v26:Bool:=bif v24 then true else v17;
 let v27:Bool:=!v26;
 let v28:Bool:=bif v26 then true else v18;
 let v29:Bool:=!v25||v25;
 let v30:Bool:=!v28;
 let v31:Bool:=!v27||v27;
 let v32:Bool:=!v30||v30;bif v19||v20 then bif v29 then bif v29 then bif v24||v25 then bif v31 then bif v31 then bif v26||v27 then bif v32 then aa (bif v30 then cN 1073741824 else some fun (_:Int×PUnit)=>none) fun (t:Int×PUnit->Option Bool)=>bif v32 then bif v32&&v32 then aa (bif v30 then t (v16.2.2, PUnit.unit) else some false) fun (t:Bool)=>bif v28||v30 then bif bif v28 then true else t then some !decide (x.1>=0) else again (IntKind.wrap .i64 (x.1+(1 : Int)),PUnit.unit) else none else none else none else none else none else none else none else none else none else none else none else none else none else none else none else some !decide ((-1:Int)>=0)) (0,PUnit.unit) else none else none else none else none else none else none else none else none else none else none else none else none
def bj (x0:(List Int)×List ((List Int)×Int×Int)):Option Bool:=kA lpK jnK aw ce cN x0
abbrev t91:=((List Int)×List ((List Int)×Int×Int))->Option (Bool)
def k91 (bj:t91):Ctr:=⟨[T32],[],[],.one .bool,fun x _ _=>bj x.1⟩
def c91:Ctr:=k91 bj
theorem e91 (lp:Lp) (jn:Jn) (aw:J7) (ce:(List ((List Int)×Int×Int))->(((((List Int)×Int×Int)×Unit)->Option Bool))->Option (Bool)) (cN:Qq):∀(x:TsS c91.as) (F:TsF c91.fs) (y:TsS c91.cs),kA lp jn aw ce cN x.1=cb lp jn (AO Db Dh (P8 [(138,⟨[i64],[i64],.bool,fun x=>cN x.1⟩)] (kM prog shs xj its [(141,Rf ce),(140,OP aw)] [(134,bL)]))) al 4 91 f91 c91 x F y:=fun x F y=>by kernel_rfl
theorem Rr:c91.ok prog 91:=Ctr.of_den (ap (Mh (ah (ah (b7) (by kernel_rfl) NU) (by kernel_rfl) QL) (Gj (by kernel_rfl) Ol (J6)))) aX (hl:=al) (d:=4) func91 rfl (by decide) (e91 lpK jnK aw ce cN)
def jA (lp:Lp) (_:Jn) (x0:List (Int×Int)) (f0:(((Int×Int)×Unit)->Option Bool)):Option Int :=
 lp (Int×PUnit) Int (fun (again:Int×PUnit->Option Int) (x:Int×PUnit)=>bif decide (x.1<(↑x0.length:Int)) then bif inB x.1 x0.length then aa (f0 (x0.getD x.1.toNat (0,0),PUnit.unit)) fun (t:Bool)=>bif t then some x.1 else again (IntKind.wrap .i64 (x.1+1),PUnit.unit) else none else some (-1)) (0,PUnit.unit)
def cm (x0:List (Int×Int)) (f0:(((Int×Int)×Unit)->Option Bool)):Option Int:=jA lpK jnK x0 f0
abbrev t74:=(List (Int×Int))->((((Int×Int)×Unit)->Option Bool))->Option (Int)
def k74 (cm:t74):Ctr:=⟨[(.sl T49)],[([T49],.bool)],[],.one i64,fun x F _=>cm x.1 F.1⟩
def c74:Ctr:=k74 cm
theorem e74 (lp:Lp) (jn:Jn):∀(x:TsS c74.as) (F:TsF c74.fs) (y:TsS c74.cs),jA lp jn x.1 F.1=cb lp jn (cx [] [(134,bL)]) al 4 74 f74 c74 x F y:=fun x F y=>by kernel_rfl
theorem SC:c74.ok prog 74:=Ctr.of_den (ap (b7)) aX (hl:=al) (d:=4) func74 rfl (by decide) (e74 lpK jnK)
def iy (_:Lp) (_:Jn) (cm:t74) (x0:List (Int×Int)) (f0:(((Int×Int)×Unit)->Option Bool)):Option Bool :=
 aa (cm x0 f0) fun (t:Int)=>some (decide (t>=0))
def ao (x0:List (Int×Int)) (f0:(((Int×Int)×Unit)->Option Bool)):Option Bool:=iy lpK jnK cm x0 f0
abbrev t32:=(List (Int×Int))->((((Int×Int)×Unit)->Option Bool))->Option (Bool)
def k32 (ao:t32):Ctr:=⟨[(.sl T49)],[([T49],.bool)],[],.one .bool,fun x F _=>ao x.1 F.1⟩
def c32:Ctr:=k32 ao
theorem e32 (lp:Lp) (jn:Jn) (cm:t74):∀(x:TsS c32.as) (F:TsF c32.fs) (y:TsS c32.cs),iy lp jn cm x.1 F.1=cb lp jn (cx [(74,k74 cm)] [(134,bL)]) al 4 32 f32 c32 x F y:=fun x F y=>by kernel_rfl
theorem SR:c32.ok prog 32:=Ctr.of_den (ap (ah (b7) (by kernel_rfl) SC)) aX (hl:=al) (d:=4) func32 rfl (by decide) (e32 lpK jnK cm)
def l9 (_:Lp) (_:Jn) (au:t72) (x0:Int×Int):Option Bool :=
 aa (au x0) fun (t:Bool)=>some !t
def dS (x0:Int×Int):Option Bool:=l9 lpK jnK au x0
abbrev Rn:=(Int×Int)->Option (Bool)
def HL:Ctr:=⟨[T49],[],[],.one .bool,fun x _ _=>dS x.1⟩
theorem Sb (lp:Lp) (jn:Jn) (au:t72):∀(x:TsS HL.as) (F:TsF HL.fs) (y:TsS HL.cs),l9 lp jn au x.1=cb lp jn (cx [(72,k72 au)] [(134,bL)]) al 4 143 f143 HL x F y:=fun x F y=>by kernel_rfl
theorem Qx:HL.ok prog 143:=Ctr.of_den (ap (ah (b7) (by kernel_rfl) IG)) aX (hl:=al) (d:=4) func143 rfl (by decide) (Sb lpK jnK au)
def ol (_:Lp) (_:Jn) (ao:t32) (dS:Rn) (x0:List (Int×Int)):Option Bool :=
 aa (ao x0 fun (x:(Int×Int)×PUnit)=>dS x.1) fun (t:Bool)=>some !t
def e7 (x0:List (Int×Int)):Option Bool:=ol lpK jnK ao dS x0
abbrev t92:=(List (Int×Int))->Option (Bool)
def c92:Ctr:=⟨[(.sl T49)],[],[],.one .bool,fun x _ _=>e7 x.1⟩
theorem e92 (lp:Lp) (jn:Jn) (ao:t32) (dS:Rn):∀(x:TsS c92.as) (F:TsF c92.fs) (y:TsS c92.cs),ol lp jn ao dS x.1=cb lp jn (cx [(143,⟨[T49],[],[],.one .bool,fun x _ _=>dS x.1⟩),(32,k32 ao)] [(134,bL)]) al 4 92 f92 c92 x F y:=fun x F y=>by kernel_rfl
theorem TK:c92.ok prog 92:=Ctr.of_den (ap (ah (ah (b7) (by kernel_rfl) SR) (by kernel_rfl) Qx)) aX (hl:=al) (d:=4) func92 rfl (by decide) (e92 lpK jnK ao dS)
def og (_:Lp) (_:Jn) (a5:zM) (x0:Int) (x1:Int):Option (Int×Int) :=
 aa (a5 x0 x1) fun (t:Int×Int×PUnit)=>some (t.1,t.2.1)
def aV (x0:Int) (x1:Int):Option (Int×Int):=og lpK jnK a5 x0 x1
abbrev t76:=(Int)->(Int)->Option (Int×Int)
def k76 (aV:t76):Ctr:=⟨[(.int .u64),(.int .u64)],[],[],.one mB,fun x _ _=>aV x.1 x.2.1⟩
def c76:Ctr:=k76 aV
theorem e76 (lp:Lp) (jn:Jn) (a5:zM):∀(x:TsS c76.as) (F:TsF c76.fs) (y:TsS c76.cs),og lp jn a5 x.1 x.2.1=cb lp jn (cx [(122,JX a5)] [(134,bL)]) al 4 76 f76 c76 x F y:=fun x F y=>by kernel_rfl
theorem OT:c76.ok prog 76:=Ctr.of_den (ap (ah (b7) (by kernel_rfl) Eh)) aX (hl:=al) (d:=4) func76 rfl (by decide) (e76 lpK jnK a5)
def kV (_:Lp) (_:Jn) (x0:Int×Int) (x1:Int×Int):Option (Int×Int) :=
 bif decide ((0:Int)<=0)&&decide ((0:Int)<=1) then bif decide (0<=mu x0.2 x1.2 0)&&decide (mu x0.2 x1.2 0<=1) then some (uo x0.1 x1.1 (mu x0.2 x1.2 0),uo x0.2 x1.2 0) else none else none
def fe (x0:Int×Int) (x1:Int×Int):Option (Int×Int):=kV lpK jnK x0 x1
abbrev t78:=(Int×Int)->(Int×Int)->Option (Int×Int)
def c78:Ctr:=⟨[mB,mB],[],[],.one mB,fun x _ _=>fe x.1 x.2.1⟩
theorem e78 (lp:Lp) (jn:Jn):∀(x:TsS c78.as) (F:TsF c78.fs) (y:TsS c78.cs),kV lp jn x.1 x.2.1=cb lp jn (cx [] [(134,bL)]) al 4 78 f78 c78 x F y:=fun x F y=>by kernel_rfl
theorem SX:c78.ok prog 78:=Ctr.of_den (ap (b7)) aX (hl:=al) (d:=4) func78 rfl (by decide) (e78 lpK jnK)
def rL (_:Lp) (_:Jn) (x0:Int×Int) (x1:Int×Int):Option Bool :=
 
 let v4:Bool:=decide (x0.1=x1.1);
 let v5:Bool:=decide (x0.1<x1.1);
 let v6:Bool:=!v5;
 let v7:Bool:=!v6;
 let v8:Bool:=v6&&v4;
 let v9:Bool:=v7||v6;
 let v10:Bool:=!v8||v8;bif v9 then bif v9 then bif v9&&v9 then bif v9 then bif v10 then bif v10 then bif v10&&v10 then bif (v7||v9)&&(v7||(!v4||(v7||v8))) then bif v5 || v6 then some (bif v5 then true else bif v4 then decide (x0.2<x1.2) else false) else none else none else none else none else none else none else none else none else none
def cQ (x0:Int×Int) (x1:Int×Int):Option Bool:=rL lpK jnK x0 x1
abbrev t79:=(Int×Int)->(Int×Int)->Option (Bool)
def k79 (cQ:t79):Ctr:=⟨[mB,mB],[],[],.one .bool,fun x _ _=>cQ x.1 x.2.1⟩
def c79:Ctr:=k79 cQ
theorem e79 (lp:Lp) (jn:Jn):∀(x:TsS c79.as) (F:TsF c79.fs) (y:TsS c79.cs),rL lp jn x.1 x.2.1=cb lp jn (cx [] [(134,bL)]) al 4 79 f79 c79 x F y:=fun x F y=>by kernel_rfl
theorem Qj:c79.ok prog 79:=Ctr.of_den (ap (b7)) aX (hl:=al) (d:=4) func79 rfl (by decide) (e79 lpK jnK)
def j9 (_:Lp) (_:Jn) (x0:Int×Int) (x1:Int×Int):Option (Int×Int) :=
 bif decide ((0:Int)<=0)&&decide ((0:Int)<=1) then bif decide (0<=lz x0.2 x1.2 0)&&decide (lz x0.2 x1.2 0<=1) then some (q8 x0.1 x1.1 (lz x0.2 x1.2 0),q8 x0.2 x1.2 0) else none else none
def dU (x0:Int×Int) (x1:Int×Int):Option (Int×Int):=j9 lpK jnK x0 x1
abbrev t80:=(Int×Int)->(Int×Int)->Option (Int×Int)
def c80:Ctr:=⟨[mB,mB],[],[],.one mB,fun x _ _=>dU x.1 x.2.1⟩
theorem e80 (lp:Lp) (jn:Jn):∀(x:TsS c80.as) (F:TsF c80.fs) (y:TsS c80.cs),j9 lp jn x.1 x.2.1=cb lp jn (cx [] [(134,bL)]) al 4 80 f80 c80 x F y:=fun x F y=>by kernel_rfl
theorem S3:c80.ok prog 80:=Ctr.of_den (ap (b7)) aX (hl:=al) (d:=4) func80 rfl (by decide) (e80 lpK jnK)
def sA (_:Lp) (jn:Jn) (x0:Int):Option Int :=
 jn (Int×Int×PUnit) Int (fun (x:Int×Int×PUnit)=>jn (Int×Int×PUnit) Int (fun (x:Int×Int×PUnit) =>
 let v5:Int:=IntKind.wrap IntKind.u8 x.1;
 let v6:Int:=IntKind.wrap IntKind.u8 (Int.fdiv x.1 (2 ^ 8));bif decide (x.1>=256) then bif decide ((0:Int)<=8) then bif inB v6 256 then some (IntKind.wrap .i64 (IntKind.wrap .i64 (x.2.1+8)+IntKind.wrap .i64 (eU { data:=List.toArray (List.append (List.append [(0:UInt8),(1 : UInt8),(2:UInt8),(2:UInt8),(3:UInt8),(3:UInt8),(3:UInt8),(3:UInt8),(4:UInt8),(4:UInt8),(4:UInt8),(4:UInt8),(4:UInt8),(4:UInt8),(4:UInt8),(4 : UInt8),(5:UInt8),(5:UInt8),(5:UInt8),(5:UInt8),(5:UInt8),(5:UInt8),(5:UInt8),(5:UInt8),(5:UInt8),(5:UInt8),(5:UInt8),(5:UInt8),(5:UInt8),(5 : UInt8),(5:UInt8),(5:UInt8),(6:UInt8),(6:UInt8),(6:UInt8),(6:UInt8),(6:UInt8),(6:UInt8),(6:UInt8),(6:UInt8),(6:UInt8),(6:UInt8),(6:UInt8),(6 : UInt8),(6:UInt8),(6:UInt8),(6:UInt8),(6:UInt8),(6:UInt8),(6:UInt8),(6:UInt8),(6:UInt8),(6:UInt8),(6:UInt8),(6:UInt8),(6:UInt8),(6:UInt8),(6 : UInt8),(6:UInt8),(6:UInt8),(6:UInt8),(6:UInt8),(6:UInt8),(6:UInt8)] [(7:UInt8),(7:UInt8),(7:UInt8),(7:UInt8),(7:UInt8),(7:UInt8),(7:UInt8),(7 : UInt8),(7:UInt8),(7:UInt8),(7:UInt8),(7:UInt8),(7:UInt8),(7:UInt8),(7:UInt8),(7:UInt8),(7:UInt8),(7:UInt8),(7:UInt8),(7:UInt8),(7:UInt8),(7 : UInt8),(7:UInt8),(7:UInt8),(7:UInt8),(7:UInt8),(7:UInt8),(7:UInt8),(7:UInt8),(7:UInt8),(7:UInt8),(7:UInt8),(7:UInt8),(7:UInt8),(7:UInt8),(7 : UInt8),(7:UInt8),(7:UInt8),(7:UInt8),(7:UInt8),(7:UInt8),(7:UInt8),(7:UInt8),(7:UInt8),(7:UInt8),(7:UInt8),(7:UInt8),(7:UInt8),(7:UInt8),(7 : UInt8),(7:UInt8),(7:UInt8),(7:UInt8),(7:UInt8),(7:UInt8),(7:UInt8),(7:UInt8),(7:UInt8),(7:UInt8),(7:UInt8),(7:UInt8),(7:UInt8),(7:UInt8),(7 : UInt8)]) (List.append [(8:UInt8),(8:UInt8),(8:UInt8),(8:UInt8),(8:UInt8),(8:UInt8),(8:UInt8),(8:UInt8),(8:UInt8),(8:UInt8),(8:UInt8),(8:UInt8),(8 : UInt8),(8:UInt8),(8:UInt8),(8:UInt8),(8:UInt8),(8:UInt8),(8:UInt8),(8:UInt8),(8:UInt8),(8:UInt8),(8:UInt8),(8:UInt8),(8:UInt8),(8:UInt8),(8 : UInt8),(8:UInt8),(8:UInt8),(8:UInt8),(8:UInt8),(8:UInt8),(8:UInt8),(8:UInt8),(8:UInt8),(8:UInt8),(8:UInt8),(8:UInt8),(8:UInt8),(8:UInt8),(8 : UInt8),(8:UInt8),(8:UInt8),(8:UInt8),(8:UInt8),(8:UInt8),(8:UInt8),(8:UInt8),(8:UInt8),(8:UInt8),(8:UInt8),(8:UInt8),(8:UInt8),(8:UInt8),(8 : UInt8),(8:UInt8),(8:UInt8),(8:UInt8),(8:UInt8),(8:UInt8),(8:UInt8),(8:UInt8),(8:UInt8),(8:UInt8)] [(8:UInt8),(8:UInt8),(8:UInt8),(8:UInt8),(8 : UInt8),(8:UInt8),(8:UInt8),(8:UInt8),(8:UInt8),(8:UInt8),(8:UInt8),(8:UInt8),(8:UInt8),(8:UInt8),(8:UInt8),(8:UInt8),(8:UInt8),(8:UInt8),(8 : UInt8),(8:UInt8),(8:UInt8),(8:UInt8),(8:UInt8),(8:UInt8),(8:UInt8),(8:UInt8),(8:UInt8),(8:UInt8),(8:UInt8),(8:UInt8),(8:UInt8),(8:UInt8),(8 : UInt8),(8:UInt8),(8:UInt8),(8:UInt8),(8:UInt8),(8:UInt8),(8:UInt8),(8:UInt8),(8:UInt8),(8:UInt8),(8:UInt8),(8:UInt8),(8:UInt8),(8:UInt8),(8 : UInt8),(8:UInt8),(8:UInt8),(8:UInt8),(8:UInt8),(8:UInt8),(8:UInt8),(8:UInt8),(8:UInt8),(8:UInt8),(8:UInt8),(8:UInt8),(8:UInt8),(8:UInt8),(8 : UInt8),(8:UInt8),(8:UInt8),(8:UInt8)])) } v6.toNat))) else none else none else bif inB v5 256 then some (IntKind.wrap .i64 (x.2.1+IntKind.wrap IntKind.i64 (eU { data:=List.toArray (List.append (List.append [(0:UInt8),(1:UInt8),(2:UInt8),(2:UInt8),(3:UInt8),(3:UInt8),(3:UInt8),(3:UInt8),(4 : UInt8),(4:UInt8),(4:UInt8),(4:UInt8),(4:UInt8),(4:UInt8),(4:UInt8),(4:UInt8),(5:UInt8),(5:UInt8),(5:UInt8),(5:UInt8),(5:UInt8),(5:UInt8),(5 : UInt8),(5:UInt8),(5:UInt8),(5:UInt8),(5:UInt8),(5:UInt8),(5:UInt8),(5:UInt8),(5:UInt8),(5:UInt8),(6:UInt8),(6:UInt8),(6:UInt8),(6:UInt8),(6 : UInt8),(6:UInt8),(6:UInt8),(6:UInt8),(6:UInt8),(6:UInt8),(6:UInt8),(6:UInt8),(6:UInt8),(6:UInt8),(6:UInt8),(6:UInt8),(6:UInt8),(6:UInt8),(6 : UInt8),(6:UInt8),(6:UInt8),(6:UInt8),(6:UInt8),(6:UInt8),(6:UInt8),(6:UInt8),(6:UInt8),(6:UInt8),(6:UInt8),(6:UInt8),(6:UInt8),(6:UInt8)] [(7 : UInt8),(7:UInt8),(7:UInt8),(7:UInt8),(7:UInt8),(7:UInt8),(7:UInt8),(7:UInt8),(7:UInt8),(7:UInt8),(7:UInt8),(7:UInt8),(7:UInt8),(7:UInt8),(7 : UInt8),(7:UInt8),(7:UInt8),(7:UInt8),(7:UInt8),(7:UInt8),(7:UInt8),(7:UInt8),(7:UInt8),(7:UInt8),(7:UInt8),(7:UInt8),(7:UInt8),(7:UInt8),(7 : UInt8),(7:UInt8),(7:UInt8),(7:UInt8),(7:UInt8),(7:UInt8),(7:UInt8),(7:UInt8),(7:UInt8),(7:UInt8),(7:UInt8),(7:UInt8),(7:UInt8),(7:UInt8),(7 : UInt8),(7:UInt8),(7:UInt8),(7:UInt8),(7:UInt8),(7:UInt8),(7:UInt8),(7:UInt8),(7:UInt8),(7:UInt8),(7:UInt8),(7:UInt8),(7:UInt8),(7:UInt8),(7 : UInt8),(7:UInt8),(7:UInt8),(7:UInt8),(7:UInt8),(7:UInt8),(7:UInt8),(7:UInt8)]) (List.append [(8:UInt8),(8:UInt8),(8:UInt8),(8:UInt8),(8:UInt8),(8 : UInt8),(8:UInt8),(8:UInt8),(8:UInt8),(8:UInt8),(8:UInt8),(8:UInt8),(8:UInt8),(8:UInt8),(8:UInt8),(8:UInt8),(8:UInt8),(8:UInt8),(8:UInt8),(8 : UInt8),(8:UInt8),(8:UInt8),(8:UInt8),(8:UInt8),(8:UInt8),(8:UInt8),(8:UInt8),(8:UInt8),(8:UInt8),(8:UInt8),(8:UInt8),(8:UInt8),(8:UInt8),(8 : UInt8),(8:UInt8),(8:UInt8),(8:UInt8),(8:UInt8),(8:UInt8),(8:UInt8),(8:UInt8),(8:UInt8),(8:UInt8),(8:UInt8),(8:UInt8),(8:UInt8),(8:UInt8),(8 : UInt8),(8:UInt8),(8:UInt8),(8:UInt8),(8:UInt8),(8:UInt8),(8:UInt8),(8:UInt8),(8:UInt8),(8:UInt8),(8:UInt8),(8:UInt8),(8:UInt8),(8:UInt8),(8 : UInt8),(8:UInt8),(8:UInt8)] [(8:UInt8),(8:UInt8),(8:UInt8),(8:UInt8),(8:UInt8),(8:UInt8),(8:UInt8),(8:UInt8),(8:UInt8),(8:UInt8),(8:UInt8),(8 : UInt8),(8:UInt8),(8:UInt8),(8:UInt8),(8:UInt8),(8:UInt8),(8:UInt8),(8:UInt8),(8:UInt8),(8:UInt8),(8:UInt8),(8:UInt8),(8:UInt8),(8:UInt8),(8 : UInt8),(8:UInt8),(8:UInt8),(8:UInt8),(8:UInt8),(8:UInt8),(8:UInt8),(8:UInt8),(8:UInt8),(8:UInt8),(8:UInt8),(8:UInt8),(8:UInt8),(8:UInt8),(8 : UInt8),(8:UInt8),(8:UInt8),(8:UInt8),(8:UInt8),(8:UInt8),(8:UInt8),(8:UInt8),(8:UInt8),(8:UInt8),(8:UInt8),(8:UInt8),(8:UInt8),(8:UInt8),(8 : UInt8),(8:UInt8),(8:UInt8),(8:UInt8),(8:UInt8),(8:UInt8),(8:UInt8),(8:UInt8),(8:UInt8),(8:UInt8),(8:UInt8)])) } v5.toNat))) else none) fun (j:Int × Int×PUnit->Option Int)=>bif decide (x.1>=65536) then bif decide ((0:Int)<=16) then j (Int.fdiv x.1 (2 ^ 16),IntKind.wrap .i64 (x.2.1+16),PUnit.unit) else none else j (x.1,x.2.1,PUnit.unit)) fun (j:Int×Int×PUnit->Option Int)=>bif decide (x0>=4294967296) then bif decide (0<=32) then j (Int.fdiv x0 (2 ^ 32),32,PUnit.unit) else none else j (x0,0,PUnit.unit)
def fI (x0:Int):Option Int:=sA lpK jnK x0
abbrev Rb:=(Int)->Option (Int)
def Hl:Ctr:=⟨[(.int .u64)],[],[],.one i64,fun x _ _=>fI x.1⟩
theorem Si (lp:Lp) (jn:Jn):∀(x:TsS Hl.as) (F:TsF Hl.fs) (y:TsS Hl.cs),sA lp jn x.1=cb lp jn (cx [] [(134,bL)]) al 4 181 f181 Hl x F y:=fun x F y=>by kernel_rfl
theorem Q6:Hl.ok prog 181:=Ctr.of_den (ap (b7)) aX (hl:=al) (d:=4) func181 rfl (by decide) (Si lpK jnK)
def gI (_:Lp) (_:Jn) (fI:Rb) (x0:Int):Option Int :=
 aa (fI x0) fun (t:Int)=>some (IntKind.wrap .i64 (64 - t))
def cA (x0:Int):Option Int:=gI lpK jnK fI x0
abbrev QG:=(Int)->Option (Int)
def J4:Ctr:=⟨[(.int .u64)],[],[],.one i64,fun x _ _=>cA x.1⟩
theorem Tl (lp:Lp) (jn:Jn) (fI:Rb):∀(x:TsS J4.as) (F:TsF J4.fs) (y:TsS J4.cs),gI lp jn fI x.1=cb lp jn (cx [(181,⟨[(.int .u64)],[],[],.one i64,fun x _ _=>fI x.1⟩)] [(134,bL)]) al 4 165 f165 J4 x F y:=fun x F y=>by kernel_rfl
theorem Rq:J4.ok prog 165:=Ctr.of_den (ap (ah (b7) (by kernel_rfl) Q6)) aX (hl:=al) (d:=4) func165 rfl (by decide) (Tl lpK jnK fI)
def nS (lp:Lp) (jn:Jn) (cA:QG) (x0:Int) (x1:Int) (x2:Int):Option (Int×Int×Unit) :=
 
 let v5:Bool:=nzB x2;
 let v6:Int:=2 ^ 32;
 let v7:Bool:=decide ((0:Int)<=32);jn PUnit (Int×Int×PUnit) (fun (_:PUnit)=>jn PUnit (Int×Int×PUnit) (fun (_:PUnit)=>bif decide (x0=0) then bif v5 then bif v5 then some (IntKind.wrap .u64 (Int.tdiv x1 x2),Int.tmod x1 x2,PUnit.unit) else none else none else aa (cA x2) fun (t:Int) =>
 let v11:Int:=IntKind.wrap .u64 t;
 let v12:Bool:=decide (0<=v11);
 let v13:Int:=2 ^ min v11.toNat 64;
 let v14:Int:=IntKind.wrap .u64 (x2*v13);
 let v15:Int:=IntKind.wrap .u64 (x1*v13);
 let v16:Int:=Int.fdiv v14 v6;
 let v17:Int:=Int.fdiv v15 v6;
 let v18:Bool:=nzB v16;
 let v19:Int:=IntKind.wrap .u64 (↑(Nat.land (Int.toNat (v15 % Int.ofNat 18446744073709551616)) (Int.toNat (4294967295 % Int.ofNat 18446744073709551616))) : Int);
 let v20:Int:=IntKind.wrap .u64 (↑(Nat.land (Int.toNat (v14 % Int.ofNat 18446744073709551616)) (Int.toNat (4294967295 % Int.ofNat 18446744073709551616))) : Int);
 let v21:Int:=IntKind.wrap .u64 (↑(Nat.lor (Int.toNat (IntKind.wrap .u64 (x0*v13) % Int.ofNat 18446744073709551616)) (Int.toNat (Int.fdiv x1 (2 ^ min (Int.toNat (IntKind.wrap .u64 (64 - v11))) 64) % Int.ofNat 18446744073709551616))):Int);
 let v22:Int:=IntKind.wrap .u64 (Int.tdiv v21 v16);bif v12 then bif v7 then bif v12 then bif decide (0<=IntKind.wrap .u64 (64 - v11)) then bif v12 then bif v7 then bif v18 then jn (Int×PUnit) (Int×Int×PUnit) (fun (x:Int×PUnit) =>
 let v24:Int:=IntKind.wrap .u64 (IntKind.wrap .u64 (IntKind.wrap .u64 (v21*4294967296)+v17) - IntKind.wrap .u64 (x.1*v14));
 let v25:Int:=IntKind.wrap .u64 (Int.tdiv v24 v16);bif v18 then jn (Int×PUnit) (Int×Int×PUnit) (fun (x_1:Int×PUnit)=>bif v12 then some (IntKind.wrap .u64 (IntKind.wrap .u64 (x.1*4294967296)+x_1.1),Int.fdiv (IntKind.wrap .u64 (IntKind.wrap .u64 (IntKind.wrap .u64 (v24*4294967296) + v19) - IntKind.wrap .u64 (x_1.1*v14))) v13,PUnit.unit) else none) fun (j:Int×PUnit->Option (Int×Int×PUnit))=>lp (Int×Int×PUnit) (Int×Int×PUnit) (fun (again:Int×Int×PUnit->Option (Int×Int×PUnit)) (x:Int×Int×PUnit) =>
 let v29:Int×PUnit:=(IntKind.wrap .u64 (x.2.1 - 1),PUnit.unit);
 let v30:Bool:=decide (x.2.1>=4294967296);
 let v31:Bool:=!v30;
 let v32:Bool:=!v31||v31;
 let v33:Bool:=v32&&v32;bif v33 then bif v32 then bif v33 then bif v33 then bif v30||v31 then bif bif v30 then true else decide (IntKind.wrap .u64 (x.2.1*v20) > IntKind.wrap .u64 (IntKind.wrap .u64 (4294967296*x.1)+v19)) then bif decide (IntKind.wrap .u64 (x.1+v16)>=4294967296) then j v29 else again (IntKind.wrap .u64 (x.1+v16),v29) else j (x.2.1,PUnit.unit) else none else none else none else none else none) (IntKind.wrap .u64 (v24 - IntKind.wrap IntKind.u64 (v25*v16)),v25,PUnit.unit) else none) fun (j:Int×PUnit->Option (Int×Int×PUnit))=>lp (Int×Int×PUnit) (Int×Int×PUnit) (fun (again:Int×Int×PUnit -> Option (Int×Int×PUnit)) (x:Int×Int×PUnit) =>
 let v26:Int:=IntKind.wrap .u64 (x.1 - 1);
 let v27:Bool:=decide (x.1>=4294967296);
 let v28:Bool:=!v27;
 let v29:Bool:=!v28||v28;
 let v30:Bool:=v29&&v29;bif v30 then bif v29 then bif v30 then bif v30 then bif v27||v28 then bif bif v27 then true else decide (IntKind.wrap .u64 (x.1*v20) > IntKind.wrap .u64 (IntKind.wrap .u64 (4294967296*x.2.1)+v17)) then bif decide (IntKind.wrap .u64 (x.2.1+v16)>=4294967296) then j (v26,PUnit.unit) else again (v26,IntKind.wrap .u64 (x.2.1+v16),PUnit.unit) else j (x.1,PUnit.unit) else none else none else none else none else none) (v22, IntKind.wrap .u64 (v21 - IntKind.wrap .u64 (v22*v16)),PUnit.unit) else none else none else none else none else none else none else none) fun (j:PUnit->Option (Int × Int×PUnit))=>bif decide (x2<=x0) then none else j PUnit.unit) fun (j:PUnit->Option (Int×Int×PUnit))=>bif decide (x2=0) then none else j PUnit.unit
def bH (x0:Int) (x1:Int) (x2:Int):Option (Int×Int×Unit):=nS lpK jnK cA x0 x1 x2
abbrev Cz:=(Int)->(Int)->(Int)->Option (Int×Int×Unit)
def L6 (bH:Cz):Ctr:=⟨[(.int .u64),(.int .u64),(.int .u64)],[],[],.tup [(.int .u64),(.int .u64)],fun x _ _=>bH x.1 x.2.1 x.2.2.1⟩
def Je:Ctr:=L6 bH
theorem Sw (lp:Lp) (jn:Jn) (cA:QG):∀(x:TsS Je.as) (F:TsF Je.fs) (y:TsS Je.cs),nS lp jn cA x.1 x.2.1 x.2.2.1=cb lp jn (cx [(165,⟨[(.int .u64)],[],[],.one i64,fun x _ _=>cA x.1⟩)] [(134,bL)]) al 4 125 f125 Je x F y:=fun x F y=>by kernel_rfl
theorem HX:Je.ok prog 125:=Ctr.of_den (ap (ah (b7) (by kernel_rfl) Rq)) aX (hl:=al) (d:=4) func125 rfl (by decide) (Sw lpK jnK cA)
def rS (_:Lp) (_:Jn) (bH:Cz) (x0:Int×Int) (x1:Int):Option ((Int×Int)×Int×Unit) :=
 
 let v4:Bool:=nzB x1;bif v4 then aa (bH (Int.tmod x0.1 x1) x0.2 x1) fun (t:Int×Int×PUnit)=>bif v4 then some ((IntKind.wrap .u64 (Int.tdiv x0.1 x1), t.1),t.2.1,PUnit.unit) else none else none
def fg (x0:Int×Int) (x1:Int):Option ((Int×Int)×Int×Unit):=rS lpK jnK bH x0 x1
abbrev t81:=(Int×Int)->(Int)->Option ((Int×Int)×Int×Unit)
def k81 (fg:t81):Ctr:=⟨[mB,(.int .u64)],[],[],.tup [mB,(.int .u64)],fun x _ _=>fg x.1 x.2.1⟩
def c81:Ctr:=k81 fg
theorem e81 (lp:Lp) (jn:Jn) (bH:Cz):∀(x:TsS c81.as) (F:TsF c81.fs) (y:TsS c81.cs),rS lp jn bH x.1 x.2.1=cb lp jn (cx [(125,L6 bH)] [(134,bL)]) al 4 81 f81 c81 x F y:=fun x F y=>by kernel_rfl
theorem TI:c81.ok prog 81:=Ctr.of_den (ap (ah (b7) (by kernel_rfl) HX)) aX (hl:=al) (d:=4) func81 rfl (by decide) (e81 lpK jnK bH)
def lI (_:Lp) (_:Jn) (x0:Bool) (x1:Int) (x2:Int):Option ((Int×Int)×Int×Unit) :=
 
 let v5:Int:=IntKind.wrap .i64 x1;
 let v6:Int:=IntKind.wrap .i64 x2;
 let v7:Bool:=decide (x1>1152921504606846976);
 let v8:Bool:=!v7;bif !v8||v8 then bif v7||v8 then bif bif v7 then true else decide (x2>1152921504606846976) then some ((0,0),5,PUnit.unit) else bif x0 then some ((IntKind.wrap .i64 (0 - v5),v6),0,PUnit.unit) else some ((v5,v6),0,PUnit.unit) else none else none
def ba (x0:Bool) (x1:Int) (x2:Int):Option ((Int×Int)×Int×Unit):=lI lpK jnK x0 x1 x2
abbrev t82:=(Bool)->(Int)->(Int)->Option ((Int×Int)×Int×Unit)
def k82 (ba:t82):Ctr:=⟨[.bool,(.int .u64),(.int .u64)],[],[],.tup [T49,i64],fun x _ _=>ba x.1 x.2.1 x.2.2.1⟩
def c82:Ctr:=k82 ba
theorem e82 (lp:Lp) (jn:Jn):∀(x:TsS c82.as) (F:TsF c82.fs) (y:TsS c82.cs),lI lp jn x.1 x.2.1 x.2.2.1=cb lp jn (cx [] [(134,bL)]) al 4 82 f82 c82 x F y:=fun x F y=>by kernel_rfl
theorem Ow:c82.ok prog 82:=Ctr.of_den (ap (b7)) aX (hl:=al) (d:=4) func82 rfl (by decide) (e82 lpK jnK)
def t5 (_:Lp) (jn:Jn) (bn:t75) (aH:t77) (au:t72) (aV:t76) (fe:t78) (cQ:t79) (dU:t80) (fg:t81) (ba:t82) (x0:Int×Int) (x1:Int×Int):Option ((Int×Int)×Int×Unit) :=
 
 let v4:Int:=IntKind.wrap .u64 x0.2;
 let v5:Int:=IntKind.wrap .u64 x1.2;
 let v6:Bool:=decide (x0.1<0);aa (au x0) fun (t:Bool) =>
 let v8:Bool:=!t;
 let v9:Bool:=!v8;
 let v10:Bool:=!v9||v9;bif v10 then aa (bif v9 then au x1 else some false) fun (t:Bool)=>bif v10 then bif v8||v9 then bif bif v8 then true else !t then some (((0 : Int),0),1,PUnit.unit) else aa (bn v4 v5) fun (t:Int) =>
 let v13:Bool:=nzB t;
 let v14:Int:=IntKind.wrap .u64 (Int.tdiv v4 t);aa (aH x0.1) fun (t_1:Int)=>bif v13 then aa (aV t_1 (IntKind.wrap .u64 (Int.tdiv v5 t))) fun (t_2:Int×Int)=>aa (aH x1.1) fun (t_3:Int)=>bif v13 then aa (aV t_3 v14) fun (t_4:Int×Int)=>jn (Bool×(Int×Int)×PUnit) ((Int×Int) × Int×PUnit) (fun (x:Bool×(Int×Int)×PUnit)=>bif decide (x.2.1.1=0)&&(decide (x.2.1.2=0)&&true) then some ((0,1),(0 : Int),PUnit.unit) else aa (fg x.2.1 t) fun (t_5:(Int×Int)×Int×PUnit)=>aa (bn t t_5.2.1) fun (t:Int)=>aa (fg x.2.1 t) fun (t_6 : (Int×Int)×Int×PUnit) =>
 let v23:Bool:=decide (t_6.1.1>0);
 let v24:Bool:=!v23;
 let v25:Bool:=!v24||v24;bif v13 then bif nzB t then aa (aV v14 (IntKind.wrap .u64 (Int.tdiv v5 t))) fun (t:Int×Int)=>bif v25 then bif v25 then bif v23 || v24 then bif bif v23 then true else decide (t.1>0) then some ((0,0),5,PUnit.unit) else aa (ba x.1 t_6.1.2 t.2) fun (t:(Int × Int)×Int×PUnit)=>some (t.1,t.2.1,PUnit.unit) else none else none else none else none else none) fun (j:Bool×(Int×Int)×PUnit->Option ((Int×Int)×Int×PUnit)) =>bif decide (v6=decide (x1.1<0)) then aa (fe t_2 t_4) fun (t:Int×Int)=>j (v6,t,PUnit.unit) else aa (cQ t_2 t_4) fun (t:Bool)=>jn (Bool × (Int×Int)×PUnit) ((Int×Int)×Int×PUnit) (fun (x:Bool×(Int×Int)×PUnit)=>j (x.1,x.2.1,PUnit.unit)) fun (j:Bool×(Int×Int)×PUnit->Option ((Int×Int) × Int×PUnit))=>bif t then aa (dU t_4 t_2) fun (t:Int×Int)=>j (!v6,t,PUnit.unit) else aa (dU t_2 t_4) fun (t:Int×Int)=>j (v6,t,PUnit.unit) else none else none else none else none else none
def cu (x0:Int×Int) (x1:Int×Int):Option ((Int×Int)×Int×Unit):=t5 lpK jnK bn aH au aV fe cQ dU fg ba x0 x1
abbrev t35:=(Int×Int)->(Int×Int)->Option ((Int×Int)×Int×Unit)
def k35 (cu:t35):Ctr:=⟨[T49,T49],[],[],.tup [T49,i64],fun x _ _=>cu x.1 x.2.1⟩
def c35:Ctr:=k35 cu
theorem e35 (lp:Lp) (jn:Jn) (bn:t75) (aH:t77) (au:t72) (aV:t76) (fe:t78) (cQ:t79) (dU:t80) (fg:t81) (ba:t82):∀(x:TsS c35.as) (F:TsF c35.fs) (y:TsS c35.cs),t5 lp jn bn aH au aV fe cQ dU fg ba x.1 x.2.1=cb lp jn (cx [(82,k82 ba),(81,k81 fg),(80,⟨[mB,mB],[],[],.one mB,fun x _ _=>dU x.1 x.2.1⟩),(79,k79 cQ),(78,⟨[mB,mB],[],[],.one mB,fun x _ _=>fe x.1 x.2.1⟩),(76,k76 aV),(72,k72 au),(77,k77 aH),(75,k75 bn)] [(134,bL)]) al 4 35 f35 c35 x F y:=fun x F y=>by kernel_rfl
theorem Se:c35.ok prog 35:=Ctr.of_den (ap (ah (ah (ah (ah (ah (ah (ah (ah (ah (b7) (by kernel_rfl) M1) (by kernel_rfl) IH) (by kernel_rfl) IG) (by kernel_rfl) OT) (by kernel_rfl) SX) (by kernel_rfl) Qj) (by kernel_rfl) S3) (by kernel_rfl) TI) (by kernel_rfl) Ow)) aX (hl:=al) (d:=4) func35 rfl (by decide) (e35 lpK jnK bn aH au aV fe cQ dU fg ba)
def t7 (_:Lp) (_:Jn) (bn:t75) (aH:t77) (au:t72) (aV:t76) (ba:t82) (x0:Int×Int) (x1:Int×Int):Option ((Int×Int)×Int×Unit) :=
 
 let v4:Int:=IntKind.wrap .u64 x1.2;
 let v5:Int:=IntKind.wrap .u64 x0.2;aa (au x0) fun (t:Bool) =>
 let v7:Bool:=!t;
 let v8:Bool:=!v7;
 let v9:Bool:=!v8||v8;bif v9 then aa (bif v8 then au x1 else some false) fun (t:Bool)=>bif v9 then bif v7||v8 then bif bif v7 then true else !t then some (((0 : Int),0),1,PUnit.unit) else aa (aH x0.1) fun (t:Int)=>aa (bn t v4) fun (t:Int) =>
 let v13:Bool:=nzB t;aa (aH x1.1) fun (t_1:Int)=>aa (bn t_1 v5) fun (t_2:Int) =>
 let v16:Bool:=nzB t_2;aa (aH x0.1) fun (t_3:Int)=>bif v13 then aa (aH x1.1) fun (t_4:Int)=>bif v16 then aa (aV (IntKind.wrap IntKind.u64 (Int.tdiv t_3 t)) (IntKind.wrap .u64 (Int.tdiv t_4 t_2))) fun (t_5:Int×Int) =>
 let v20:Bool:=decide (t_5.1>0);
 let v21:Bool:=decide (t_5.2>0);
 let v22:Bool:=!v20;
 let v23:Bool:=!v21||v21;
 let v24:Bool:=!v22||v22;bif v16 then bif v13 then aa (aV (IntKind.wrap .u64 (Int.tdiv v5 t_2)) (IntKind.wrap .u64 (Int.tdiv v4 t))) fun (t:Int×Int) =>bif v24 then bif v24 then bif v20||v22 then bif bif v20 then true else decide (t.1>0) then some ((0,0),5,PUnit.unit) else bif v23 then bif v23 then bif v23 then bif v23 then bif v23&&v23 then bif v23 then aa (ba (bif v21 then !decide (decide (x0.1<0)=decide (x1.1<0)) else false) t_5.2 t.2) fun (t:(Int×Int)×Int×PUnit)=>some (t.1,t.2.1,PUnit.unit) else none else none else none else none else none else none else none else none else none else none else none else none else none else none else none else none
def fb (x0:Int×Int) (x1:Int×Int):Option ((Int×Int)×Int×Unit):=t7 lpK jnK bn aH au aV ba x0 x1
abbrev Ll:=(Int×Int)->(Int×Int)->Option ((Int×Int)×Int×Unit)
def Qa (fb:Ll):Ctr:=⟨[T49,T49],[],[],.tup [T49,i64],fun x _ _=>fb x.1 x.2.1⟩
def J9:Ctr:=Qa fb
theorem Tx (lp:Lp) (jn:Jn) (bn:t75) (aH:t77) (au:t72) (aV:t76) (ba:t82):∀(x:TsS J9.as) (F:TsF J9.fs) (y:TsS J9.cs),t7 lp jn bn aH au aV ba x.1 x.2.1=cb lp jn (cx [(82,k82 ba),(76,k76 aV),(72,k72 au),(77,k77 aH),(75,k75 bn)] [(134,bL)]) al 4 146 f146 J9 x F y:=fun x F y=>by kernel_rfl
theorem Ql:J9.ok prog 146:=Ctr.of_den (ap (ah (ah (ah (ah (ah (b7) (by kernel_rfl) M1) (by kernel_rfl) IH) (by kernel_rfl) IG) (by kernel_rfl) OT) (by kernel_rfl) Ow)) aX (hl:=al) (d:=4) func146 rfl (by decide) (Tx lpK jnK bn aH au aV ba)
def mo (lp:Lp) (jn:Jn) (cu:t35) (fb:Ll) (x0:Int) (x1:List Int) (x2:List (Int×Int)):Option (Int×(Int×Int)) :=
 lp (Int×Int×(Int×Int)×(Int×Int)×PUnit) (Int×Int×Int) (fun (again:Int×Int×(Int×Int)×(Int×Int)×PUnit->Option (Int×Int×Int)) (x:Int×Int×(Int×Int) × (Int×Int)×PUnit)=>bif decide (x.1<(↑x1.length:Int)) then bif inB x.1 x1.length then bif inB x.1 x2.length then aa (fb (x1.getD x.1.toNat 0,1) (x2.getD x.1.toNat (0,0))) fun (t:(Int×Int)×Int×PUnit)=>jn (Int×(Int×Int)×PUnit) (Int×Int×Int) (fun (x_1:Int×(Int×Int)×PUnit)=>bif !decide (x_1.1=0) then some (x_1.1,0,1) else again (IntKind.wrap .i64 (x.1+1), x.2.1,x.2.2.1,x_1.2.1,PUnit.unit)) fun (j:Int×(Int×Int)×PUnit->Option (Int×Int×Int))=>bif decide (t.2.1=0) then aa (cu x.2.2.2.1 t.1) fun (t:(Int×Int)×Int×PUnit)=>j (t.2.1,t.1,PUnit.unit) else j (t.2.1,t.1,PUnit.unit) else none else none else some (x.2.1, x.2.2.2.1)) (0,x0,(0,0),(0,1),PUnit.unit)
def cK (x0:Int) (x1:List Int) (x2:List (Int×Int)):Option (Int×(Int×Int)):=mo lpK jnK cu fb x0 x1 x2
abbrev t95:=(Int)->(List Int)->(List (Int×Int))->Option (Int×(Int×Int))
def k95 (cK:t95):MCtr:=⟨OQ,[(.sl i64),(.sl T49)],.one T49,fun x y=>cK x y.1 y.2.1⟩
def m95:MCtr:=k95 cK
theorem e95 (lp:Lp) (jn:Jn) (cu:t35) (fb:Ll):∀(x:m95.s.T) (y:TsS m95.as),mo lp jn cu fb x y.1 y.2.1=Oj lp jn (cx [(146,Qa fb),(35,k35 cu)] [(134,bL)]) al 4 95 f95 m95 x y:=fun x y=>by kernel_rfl
theorem TF:m95.ok prog 95:=MCtr.of_den (ap (ah (ah (b7) (by kernel_rfl) Se) (by kernel_rfl) Ql)) aX (hl:=al) (d:=4) func95 rfl (by decide) rfl (e95 lpK jnK cu fb)
def tD (_:Lp) (jn:Jn) (aH:t77) (au:t72) (aV:t76) (cQ:t79) (x0:Int×Int) (x1:Int×Int):Option (Int×Int×Unit) :=
 
 let v4:Bool:=decide (x0.1<0);aa (au x0) fun (t:Bool) =>
 let v6:Bool:=!t;
 let v7:Bool:=!v6;
 let v8:Bool:=!v7||v7;bif v8 then aa (bif v7 then au x1 else some false) fun (t:Bool)=>bif v8 then bif v6||v7 then bif bif v6 then true else !t then some ((0 : Int),1,PUnit.unit) else aa (aH x0.1) fun (t:Int)=>aa (aV t (IntKind.wrap .u64 x1.2)) fun (t:Int×Int)=>aa (aH x1.1) fun (t_1:Int)=>aa (aV t_1 (IntKind.wrap .u64 x0.2)) fun (t_2:Int×Int)=>bif !decide (v4=decide (x1.1<0)) then bif v4 then some ((-1), 0,PUnit.unit) else some (1,0,PUnit.unit) else jn ((Int×Int)×(Int×Int)×PUnit) (Int×Int×PUnit) (fun (x:(Int×Int)×(Int×Int)×PUnit)=>aa (cQ x.1 x.2.1) fun (t:Bool)=>bif t then some ((-1),0,PUnit.unit) else aa (cQ x.2.1 x.1) fun (t:Bool)=>bif t then some (1, 0,PUnit.unit) else some (0,0,PUnit.unit)) fun (j:(Int×Int)×(Int×Int)×PUnit->Option (Int×Int×PUnit))=>bif v4 then j (t_2,t,PUnit.unit) else j (t,t_2,PUnit.unit) else none else none else none
def gB (x0:Int×Int) (x1:Int×Int):Option (Int×Int×Unit):=tD lpK jnK aH au aV cQ x0 x1
abbrev t39:=(Int×Int)->(Int×Int)->Option (Int×Int×Unit)
def k39 (gB:t39):Ctr:=⟨[T49,T49],[],[],.tup [i64,i64],fun x _ _=>gB x.1 x.2.1⟩
def c39:Ctr:=k39 gB
theorem e39 (lp:Lp) (jn:Jn) (aH:t77) (au:t72) (aV:t76) (cQ:t79):∀(x:TsS c39.as) (F:TsF c39.fs) (y:TsS c39.cs),tD lp jn aH au aV cQ x.1 x.2.1=cb lp jn (cx [(79,k79 cQ),(76,k76 aV),(72,k72 au),(77,k77 aH)] [(134,bL)]) al 4 39 f39 c39 x F y:=fun x F y=>by kernel_rfl
theorem Sg:c39.ok prog 39:=Ctr.of_den (ap (ah (ah (ah (ah (b7) (by kernel_rfl) IH) (by kernel_rfl) IG) (by kernel_rfl) OT) (by kernel_rfl) Qj)) aX (hl:=al) (d:=4) func39 rfl (by decide) (e39 lpK jnK aH au aV cQ)
def qA (_:Lp) (_:Jn) (gB:t39) (x0:Int×Int) (x1:Int):Option Int :=
 aa (gB x0 (x1,1)) fun (t:Int×Int×PUnit)=>some t.1
def fX (x0:Int×Int) (x1:Int):Option Int:=qA lpK jnK gB x0 x1
abbrev Rh:=(Int×Int)->(Int)->Option (Int)
def IP:Ctr:=⟨[T49,i64],[],[],.one i64,fun x _ _=>fX x.1 x.2.1⟩
theorem TQ (lp:Lp) (jn:Jn) (gB:t39):∀(x:TsS IP.as) (F:TsF IP.fs) (y:TsS IP.cs),qA lp jn gB x.1 x.2.1=cb lp jn (cx [(39,k39 gB)] [(134,bL)]) al 4 144 f144 IP x F y:=fun x F y=>by kernel_rfl
theorem QM:IP.ok prog 144:=Ctr.of_den (ap (ah (b7) (by kernel_rfl) Sg)) aX (hl:=al) (d:=4) func144 rfl (by decide) (TQ lpK jnK gB)
def m7 (lp:Lp) (_:Jn) (x0:(List Int)×List ((List Int)×Int×Int)) (x1:Int):Option (List Int) :=
 lp (List Int×Int×PUnit) (List Int) (fun (again:List Int×Int×PUnit->Option (List Int)) (x:List Int×Int×PUnit)=>bif decide (x.2.1<(↑x0.2.length:Int)) then bif inB x.2.1 x0.2.length then bif inB x1 (List.length (x0.2.getD x.2.1.toNat ([],0,0)).1) then bif c7 (List.length x.1+(1 : Nat)) 8 then again (x.1++[List.getD (x0.2.getD x.2.1.toNat ([],0,0)).1 x1.toNat 0],IntKind.wrap .i64 (x.2.1 + 1),PUnit.unit) else none else none else none else some x.1) ([],0,PUnit.unit)
def eD (x0:(List Int)×List ((List Int)×Int×Int)) (x1:Int):Option (List Int):=m7 lpK jnK x0 x1
abbrev Q5:=((List Int)×List ((List Int)×Int×Int))->(Int)->Option (List Int)
def Hx:Ctr:=⟨[T32,i64],[],[],.one (.sl i64),fun x _ _=>eD x.1 x.2.1⟩
theorem SF (lp:Lp) (jn:Jn):∀(x:TsS Hx.as) (F:TsF Hx.fs) (y:TsS Hx.cs),m7 lp jn x.1 x.2.1=cb lp jn (cx [] [(134,bL)]) al 4 145 f145 Hx x F y:=fun x F y=>by kernel_rfl
theorem QI:Hx.ok prog 145:=Ctr.of_den (ap (b7)) aX (hl:=al) (d:=4) func145 rfl (by decide) (SF lpK jnK)
def kP (_:Lp) (_:Jn) (_:Int):Option Int :=
 some 0
def dj (x0:Int):Option Int:=kP lpK jnK x0
abbrev t94:=(Int)->Option (Int)
def c94:Ctr:=⟨[i64],[],[],.one i64,fun x _ _=>dj x.1⟩
theorem e94 (lp:Lp) (jn:Jn):∀(x:TsS c94.as) (F:TsF c94.fs) (y:TsS c94.cs),kP lp jn x.1=cb lp jn (cx [] [(134,bL)]) al 4 94 f94 c94 x F y:=fun x F y=>by kernel_rfl
theorem Sj:c94.ok prog 94:=Ctr.of_den (ap (b7)) aX (hl:=al) (d:=4) func94 rfl (by decide) (e94 lpK jnK)
def m9 (lp:Lp) (_:Jn) (x0:(List Int)×List ((List Int)×Int×Int)):Option (List Int) :=
 lp (List Int×Int×PUnit) (List Int) (fun (again:List Int×Int×PUnit->Option (List Int)) (x:List Int×Int×PUnit)=>bif decide (x.2.1<(↑x0.2.length:Int)) then bif inB x.2.1 x0.2.length then bif c7 (List.length x.1+1) 8 then again (x.1++[(x0.2.getD x.2.1.toNat ([],0,(0 : Int))).2.2],IntKind.wrap .i64 (x.2.1+1),PUnit.unit) else none else none else some x.1) ([],0,PUnit.unit)
def eC (x0:(List Int)×List ((List Int)×Int×Int)):Option (List Int):=m9 lpK jnK x0
abbrev t96:=((List Int)×List ((List Int)×Int×Int))->Option (List Int)
def c96:Ctr:=⟨[T32],[],[],.one (.sl i64),fun x _ _=>eC x.1⟩
theorem e96 (lp:Lp) (jn:Jn):∀(x:TsS c96.as) (F:TsF c96.fs) (y:TsS c96.cs),m9 lp jn x.1=cb lp jn (cx [] [(134,bL)]) al 4 96 f96 c96 x F y:=fun x F y=>by kernel_rfl
theorem S2:c96.ok prog 96:=Ctr.of_den (ap (b7)) aX (hl:=al) (d:=4) func96 rfl (by decide) (e96 lpK jnK)
def mZ (lp:Lp) (_:Jn) (x0:(List Int)×List ((List Int)×Int×Int)) (x1:List (Int×Int)):Option Bool :=
 lp (Int×PUnit) Bool (fun (again:Int×PUnit->Option Bool) (x:Int×PUnit) =>
 let v6:Bool:=inB x.1 x1.length;
 let v7:Bool:=decide ((x0.2.getD x.1.toNat ([],0,0)).2.1=1);
 let v8:Bool:=decide ((x0.2.getD x.1.toNat ([],0,0)).2.1=2);
 let v9:Bool:=!v7;
 let v10:Bool:=bif v7 then decide ((x1.getD x.1.toNat (0,0)).1>0) else false;
 let v11:Bool:=!v10;
 let v12:Bool:=!v11;
 let v13:Bool:=v9||v7;
 let v14:Bool:=v11&&v8;
 let v15:Bool:=!v14;
 let v16:Bool:=v12||v11;
 let v17:Bool:=v15||v14;bif decide (x.1<(↑x0.2.length:Int)) then bif inB x.1 x0.2.length then bif v13&&(v13&&(v9||v6)) then bif v13 then bif v13 then bif v13 then bif v13 then bif v16 then bif v16 then bif v16 then bif v17&&(v17&&(v15||v6)) then bif v17 then bif v17 then bif v17 then bif (v12||v16)&&(v12||(!v8||(v12 || v14))) then bif v10||v11 then bif bif v10 then true else bif v8 then decide ((x1.getD x.1.toNat (0,0)).1<0) else false then some false else again (IntKind.wrap .i64 (x.1+1),PUnit.unit) else none else none else none else none else none else none else none else none else none else none else none else none else none else none else none else some true) (0,PUnit.unit)
def eA (x0:(List Int)×List ((List Int)×Int×Int)) (x1:List (Int×Int)):Option Bool:=mZ lpK jnK x0 x1
abbrev t97:=((List Int)×List ((List Int)×Int×Int))->(List (Int×Int))->Option (Bool)
def c97:Ctr:=⟨[T32,(.sl T49)],[],[],.one .bool,fun x _ _=>eA x.1 x.2.1⟩
theorem e97 (lp:Lp) (jn:Jn):∀(x:TsS c97.as) (F:TsF c97.fs) (y:TsS c97.cs),mZ lp jn x.1 x.2.1=cb lp jn (cx [] [(134,bL)]) al 4 97 f97 c97 x F y:=fun x F y=>by kernel_rfl
theorem TC:c97.ok prog 97:=Ctr.of_den (ap (b7)) aX (hl:=al) (d:=4) func97 rfl (by decide) (e97 lpK jnK)
def ma (lp:Lp) (_:Jn) (bj:t91) (e7:t92) (fX:Rh) (eD:Q5) (dj:t94) (eC:t96) (eA:t97) (cK:t95) (x0:(List Int)×List ((List Int)×Int×Int)) (x1:List (Int×Int)):Option (Bool×Int×Unit) :=
 aa (bj x0) fun (t:Bool) =>
 let v5:Bool:=!t;
 let v6:Bool:=!v5;
 let v7:Bool:=!v6||v6;bif v7 then aa (bif v6 then e7 x1 else some false) fun (t:Bool)=>bif v7 then bif v5||v6 then bif bif v5 then true else !t then some (false, 1,PUnit.unit) else bif !decide ((↑x1.length:Int)=(↑x0.2.length:Int)) then some (false,3,PUnit.unit) else lp (Bool×Int×Int×PUnit) (Bool × Int×PUnit) (fun (again:Bool×Int×Int×PUnit->Option (Bool×Int×PUnit)) (x:Bool×Int×Int×PUnit)=>bif decide (x.2.1<(↑x0.1.length:Int)) then aa (eD x0 x.2.1) fun (t:List Int)=>aa (cK x.2.2.1 t x1) fun (t:Int×Int×Int)=>aa (dj x.2.1) fun (t_1:Int)=>aa (fX t.2 t_1) fun (t_2:Int) =>
 let v15:Bool:=decide (t_2<=0);bif !v15||v15 then again (bif v15 then x.1 else false,IntKind.wrap .i64 (x.2.1+1),t.1,PUnit.unit) else none else aa (eC x0) fun (t:List Int)=>aa (cK x.2.2.1 t x1) fun (t:Int×Int×Int) =>
 let v13:Bool:=decide (t.2.1>0);
 let v14:Bool:=!v13||v13;bif v14&&v14 then aa (bif v13 then eA x0 x1 else some false) fun (t_1:Bool) =>
 let v16:Bool:=bif v13 then t_1 else false;
 let v17:Bool:=bif v16 then x.1 else false;
 let v18:Bool:=!v17||v17;bif v14 then bif !v16||v16 then bif v18 then bif v18 then bif v18 then some (bif v17 then decide (t.1=0) else false,t.1,PUnit.unit) else none else none else none else none else none else none) (true,0,0,PUnit.unit) else none else none else none
def cZ (x0:(List Int)×List ((List Int)×Int×Int)) (x1:List (Int×Int)):Option (Bool×Int×Unit):=ma lpK jnK bj e7 fX eD dj eC eA cK x0 x1
abbrev t47:=((List Int)×List ((List Int)×Int×Int))->(List (Int×Int))->Option (Bool×Int×Unit)
def k47 (cZ:t47):Ctr:=⟨[T32,(.sl T49)],[],[],.tup [.bool,i64],fun x _ _=>cZ x.1 x.2.1⟩
def c47:Ctr:=k47 cZ
theorem e47 (lp:Lp) (jn:Jn) (bj:t91) (e7:t92) (fX:Rh) (eD:Q5) (dj:t94) (eC:t96) (eA:t97) (cK:t95):∀(x:TsS c47.as) (F:TsF c47.fs) (y:TsS c47.cs),ma lp jn bj e7 fX eD dj eC eA cK x.1 x.2.1=cb lp jn (AO Db Dh (GL [] [(95,k95 cK)] (kM prog shs xj its [(97,⟨[T32,(.sl T49)],[],[],.one .bool,fun x _ _=>eA x.1 x.2.1⟩),(96,⟨[T32],[],[],.one (.sl i64),fun x _ _=>eC x.1⟩),(94,⟨[i64],[],[],.one i64,fun x _ _=>dj x.1⟩),(145,⟨[T32,i64],[],[],.one (.sl i64),fun x _ _=>eD x.1 x.2.1⟩),(144,⟨[T49,i64],[],[],.one i64,fun x _ _=>fX x.1 x.2.1⟩),(92,⟨[(.sl T49)],[],[],.one .bool,fun x _ _=>e7 x.1⟩),(91,k91 bj)] [(134,bL)]))) al 4 47 f47 c47 x F y:=fun x F y=>by kernel_rfl
theorem TP:c47.ok prog 47:=Ctr.of_den (ap (rI (ah (ah (ah (ah (ah (ah (ah (b7) (by kernel_rfl) Rr) (by kernel_rfl) TK) (by kernel_rfl) QM) (by kernel_rfl) QI) (by kernel_rfl) Sj) (by kernel_rfl) S2) (by kernel_rfl) TC) (ot) (FV (by kernel_rfl) TF (ow)))) aX (hl:=al) (d:=4) func47 rfl (by decide) (e47 lpK jnK bj e7 fX eD dj eC eA cK)
def oI (_:Lp) (_:Jn) (aU:t11) (cZ:t47) (x0:(List (ByteArray×Int))×List (ByteArray×(List (ByteArray×Int×Int×Int))×Bool)) (x1:List (Int×Int)):Option (Bool×Int×Unit) :=
 aa (aU x0) fun (t:(List Int×List (List Int×Int×Int))×Int×PUnit)=>bif !decide (t.2.1=0) then some (false,t.2.1,PUnit.unit) else aa (cZ t.1 x1) fun (t:Bool×Int×PUnit)=>some (t.1,t.2.1,PUnit.unit)
def bC (x0:(List (ByteArray×Int))×List (ByteArray×(List (ByteArray×Int×Int×Int))×Bool)) (x1:List (Int×Int)):Option (Bool×Int×Unit):=oI lpK jnK aU cZ x0 x1
abbrev t12:=((List (ByteArray×Int))×List (ByteArray×(List (ByteArray×Int×Int×Int))×Bool))->(List (Int×Int))->Option (Bool×Int×Unit)
def k12 (bC:t12):Ctr:=⟨[T25,(.sl T49)],[],[],.tup [.bool,i64],fun x _ _=>bC x.1 x.2.1⟩
def c12:Ctr:=k12 bC
theorem e12 (lp:Lp) (jn:Jn) (aU:t11) (cZ:t47):∀(x:TsS c12.as) (F:TsF c12.fs) (y:TsS c12.cs),oI lp jn aU cZ x.1 x.2.1=cb lp jn (cx [(47,k47 cZ),(11,k11 aU)] [(134,bL)]) al 4 12 f12 c12 x F y:=fun x F y=>by kernel_rfl
theorem R7:c12.ok prog 12:=Ctr.of_den (ap (ah (ah (b7) (by kernel_rfl) QE) (by kernel_rfl) TP)) aX (hl:=al) (d:=4) func12 rfl (by decide) (e12 lpK jnK aU cZ)
def o8 (_:Lp) (_:Jn) (x0:Int):Option Int :=
 
 let v3:Int:=IntKind.wrap .u64 x0;bif decide (x0<0) then some (IntKind.wrap .u64 (0 - v3)) else some v3
def bR (x0:Int):Option Int:=o8 lpK jnK x0
abbrev I9:=(Int)->Option (Int)
def OY (bR:I9):Ctr:=⟨[i64],[],[],.one (.int .u64),fun x _ _=>bR x.1⟩
def H1:Ctr:=OY bR
theorem SQ (lp:Lp) (jn:Jn):∀(x:TsS H1.as) (F:TsF H1.fs) (y:TsS H1.cs),o8 lp jn x.1=cb lp jn (cx [] [(134,bL)]) al 4 155 f155 H1 x F y:=fun x F y=>by kernel_rfl
theorem N1:H1.ok prog 155:=Ctr.of_den (ap (b7)) aX (hl:=al) (d:=4) func155 rfl (by decide) (SQ lpK jnK)
def jS (lp:Lp) (_:Jn) (bR:I9) (x0:List Int) (x1:Int):Option Int :=
 aa (bR x1) fun (t:Int)=>lp (Int×Int×PUnit) Int (fun (again:Int×Int×PUnit->Option Int) (x:Int×Int×PUnit)=>bif decide (x.2.1<(↑x0.length : Int)) then bif inB x.2.1 x0.length then aa (bR (x0.getD x.2.1.toNat 0)) fun (t:Int)=>again (IntKind.wrap .i64 (x.1 + IntKind.wrap .i64 t),IntKind.wrap .i64 (x.2.1+1),PUnit.unit) else none else some x.1) (IntKind.wrap .i64 (1+IntKind.wrap .i64 t), 0,PUnit.unit)
def cU (x0:List Int) (x1:Int):Option Int:=jS lpK jnK bR x0 x1
abbrev Qy:=(List Int)->(Int)->Option (Int)
def Ke:Ctr:=⟨[(.sl i64),i64],[],[],.one i64,fun x _ _=>cU x.1 x.2.1⟩
theorem Sq (lp:Lp) (jn:Jn) (bR:I9):∀(x:TsS Ke.as) (F:TsF Ke.fs) (y:TsS Ke.cs),jS lp jn bR x.1 x.2.1=cb lp jn (cx [(155,OY bR)] [(134,bL)]) al 4 154 f154 Ke x F y:=fun x F y=>by kernel_rfl
theorem QB:Ke.ok prog 154:=Ctr.of_den (ap (ah (b7) (by kernel_rfl) N1)) aX (hl:=al) (d:=4) func154 rfl (by decide) (Sq lpK jnK bR)
def j4 (lp:Lp) (jn:Jn) (x0:List Int):Option Int :=
 jn PUnit Int (fun (_:PUnit)=>bif inB 0 x0.length then lp (Int×Int×PUnit) Int (fun (again:Int×Int×PUnit->Option Int) (x:Int×Int×PUnit)=>bif decide (x.2.1<(↑x0.length:Int)) then bif inB x.2.1 x0.length then again (if x0.getD x.2.1.toNat 0>x.1 then x0.getD x.2.1.toNat 0 else x.1,IntKind.wrap .i64 (x.2.1+1),PUnit.unit) else none else some x.1) (x0.getD 0 0,1,PUnit.unit) else none) fun (j:PUnit->Option Int)=>bif decide ((↑x0.length:Int)<1) then none else j PUnit.unit
def dv (x0:List Int):Option Int:=j4 lpK jnK x0
abbrev PV:=(List Int)->Option (Int)
def JG:Ctr:=⟨[(.sl i64)],[],[],.one i64,fun x _ _=>dv x.1⟩
theorem So (lp:Lp) (jn:Jn):∀(x:TsS JG.as) (F:TsF JG.fs) (y:TsS JG.cs),j4 lp jn x.1=cb lp jn (cx [] [(134,bL)]) al 4 156 f156 JG x F y:=fun x F y=>by kernel_rfl
theorem R3:JG.ok prog 156:=Ctr.of_den (ap (b7)) aX (hl:=al) (d:=4) func156 rfl (by decide) (So lpK jnK)
def lW (lp:Lp) (_:Jn) (cU:Qy) (dv:PV) (x0:(List Int)×List ((List Int)×Int×Int)):Option Bool :=
 aa (cU x0.1 0) fun (t:Int)=>lp (List Int×Int×PUnit) Bool (fun (again:List Int×Int×PUnit->Option Bool) (x:List Int×Int×PUnit) =>
 let v6:List Int×Int×Int:=x0.2.getD x.2.1.toNat ([],0,0);bif decide (x.2.1<(↑x0.2.length:Int)) then bif inB x.2.1 x0.2.length then aa (cU v6.1 v6.2.2) fun (t:Int)=>bif c7 (List.length x.1+1) 8 then again (x.1++[t],IntKind.wrap .i64 (x.2.1+1),PUnit.unit) else none else none else lp (Int×Int×PUnit) Bool (fun (again:Int×Int×PUnit->Option Bool) (x_1:Int×Int×PUnit) =>
 let v9:Int:=x.1.getD x_1.2.1.toNat 0;bif decide (x_1.2.1<(↑x.1.length:Int)) then bif inB x_1.2.1 x.1.length then bif Nat.ble (Nat.succ x_1.2.1.toNat) x.1.length then bif nzB v9 then bif decide (x_1.1>IntKind.wrap .i64 (Int.tdiv 17592186044416 v9)) then some false else again (IntKind.wrap .i64 (x_1.1*v9),IntKind.wrap .i64 (x_1.2.1+1),PUnit.unit) else none else none else none else aa (dv x.1) fun (t : Int)=>bif nzB t then some (decide (x_1.1<=IntKind.wrap .i64 (Int.tdiv 144115188075855872 t))) else none) (1,0,PUnit.unit)) ([t],0, PUnit.unit)
def cG (x0:(List Int)×List ((List Int)×Int×Int)):Option Bool:=lW lpK jnK cU dv x0
abbrev M2:=((List Int)×List ((List Int)×Int×Int))->Option (Bool)
def Q2 (cG:M2):Ctr:=⟨[T32],[],[],.one .bool,fun x _ _=>cG x.1⟩
def H9:Ctr:=Q2 cG
theorem TN (lp:Lp) (jn:Jn) (cU:Qy) (dv:PV):∀(x:TsS H9.as) (F:TsF H9.fs) (y:TsS H9.cs),lW lp jn cU dv x.1=cb lp jn (cx [(156,⟨[(.sl i64)],[],[],.one i64,fun x _ _=>dv x.1⟩),(154,⟨[(.sl i64),i64],[],[],.one i64,fun x _ _=>cU x.1 x.2.1⟩)] [(134,bL)]) al 4 108 f108 H9 x F y:=fun x F y=>by kernel_rfl
theorem Q4:H9.ok prog 108:=Ctr.of_den (ap (ah (ah (b7) (by kernel_rfl) QB) (by kernel_rfl) R3)) aX (hl:=al) (d:=4) func108 rfl (by decide) (TN lpK jnK cU dv)
def fi (lp:Lp) (_:Jn) (x0:(List (List Int))×Int×(List Int)×(List Int)×(List Int)×Int×Int) (x1:Int):Option Int :=
 lp (Int×Int×PUnit) Int (fun (again:Int×Int×PUnit->Option Int) (x:Int×Int×PUnit) =>
 let v6:Int×PUnit:=(IntKind.wrap .i64 (x.2.1+1),PUnit.unit);
 let v7:List Int:=x0.1.getD x.2.1.toNat [];bif decide (x.2.1<(↑x0.1.length:Int)) then bif inB x.2.1 x0.1.length then bif inB x.2.1 x0.2.2.1.length then bif decide (x0.2.2.1.getD x.2.1.toNat 0>=x0.2.2.2.2.2.1) then bif inB x1 v7.length then again (IntKind.wrap .i64 (x.1+v7.getD x1.toNat 0),v6) else none else again (x.1,v6) else none else none else some x.1) (0,0,PUnit.unit)
def aB (x0:(List (List Int))×Int×(List Int)×(List Int)×(List Int)×Int×Int) (x1:Int):Option Int:=fi lpK jnK x0 x1
abbrev MX:=((List (List Int))×Int×(List Int)×(List Int)×(List Int)×Int×Int)->(Int)->Option (Int)
def RE (aB:MX):PCtr:=⟨FF,[i64],.one i64,fun x y=>aB x y.1⟩
def MZ:PCtr:=RE aB
theorem R8 (lp:Lp) (jn:Jn):∀(x:MZ.s.T) (y:TsS MZ.as),fi lp jn x y.1=DZ lp jn (cx [] [(134,bL)]) al 4 126 f126 MZ x y:=fun x y=>by kernel_rfl
theorem Qf:MZ.ok prog 126:=PCtr.of_den (ap (b7)) aX (hl:=al) (d:=4) func126 rfl (by decide) (R8 lpK jnK)
def kF (_:Lp) (_:Jn) (a5:zM) (bR:I9) (x0:Int) (x1:Int):Option (Bool×Int×Int) :=
 
 let v4:Bool:=!decide (decide (x0<0)=decide (x1<0));
 let v5:Bool:=!v4;
 let v6:Bool:=v5||v4;aa (bR x0) fun (t:Int)=>aa (bR x1) fun (t_1:Int)=>aa (a5 t t_1) fun (t:Int×Int×PUnit) =>
 let v10:Bool:=!decide (t.1=0);
 let v11:Bool:=v4&&!v10;bif v6 then bif v6 then bif !v11||v11 then bif (v5||v6)&&(v5||(v10||(v5||v11))) then bif v6 then some (bif v4 then bif v10 then true else !decide (t.2.1=0) else false,t.1,t.2.1) else none else none else none else none else none
def bw (x0:Int) (x1:Int):Option (Bool×Int×Int):=kF lpK jnK a5 bR x0 x1
abbrev Hw:=(Int)->(Int)->Option (Bool×Int×Int)
def O9 (bw:Hw):Ctr:=⟨[i64,i64],[],[],.one rp,fun x _ _=>bw x.1 x.2.1⟩
def Ia:Ctr:=O9 bw
theorem Sn (lp:Lp) (jn:Jn) (a5:zM) (bR:I9):∀(x:TsS Ia.as) (F:TsF Ia.fs) (y:TsS Ia.cs),kF lp jn a5 bR x.1 x.2.1=cb lp jn (cx [(155,OY bR),(122,JX a5)] [(134,bL)]) al 4 175 f175 Ia x F y:=fun x F y=>by kernel_rfl
theorem NO:Ia.ok prog 175:=Ctr.of_den (ap (ah (ah (b7) (by kernel_rfl) Eh) (by kernel_rfl) N1)) aX (hl:=al) (d:=4) func175 rfl (by decide) (Sn lpK jnK a5 bR)
def fq (_:Lp) (_:Jn) (x0:Bool×Int×Int) (x1:Bool×Int×Int):Option Int :=
 
 let v4:Bool:=decide (x0.2.1=x1.2.1);
 let v5:Bool:=!v4;
 let v6:Bool:=v5||v4;
 let v7:Bool:=!v5||v5;
 let v8:Bool:=bif v5 then decide (x0.2.1<x1.2.1) else false;
 let v9:Bool:=!v8;
 let v10:Bool:=!v9;
 let v11:Bool:=v9&&v4;
 let v12:Bool:=v10||v9;
 let v13:Bool:=!v11||v11;bif v7 then bif v7 then bif v7&&v7 then bif v7 then bif v12 then bif v12 then bif v12&&v12 then bif v12 then bif v13 then bif v13 then bif v13&&v13 then bif (v10||v12)&&(v10||(v5||(v10||v11))) then bif v8||v9 then bif bif v8 then true else bif v4 then decide (x0.2.2<x1.2.2) else false then some (-1) else bif v6 then bif v6 then bif v6&&v6 then bif v6 then bif bif v4 then decide (x0.2.2=x1.2.2) else false then some 0 else some 1 else none else none else none else none else none else none else none else none else none else none else none else none else none else none else none else none else none
def ax (x0:Bool×Int×Int) (x1:Bool×Int×Int):Option Int:=fq lpK jnK x0 x1
abbrev Lc:=(Bool×Int×Int)->(Bool×Int×Int)->Option (Int)
def OL (ax:Lc):Ctr:=⟨[rp,rp],[],[],.one i64,fun x _ _=>ax x.1 x.2.1⟩
def Kc:Ctr:=OL ax
theorem Sa (lp:Lp) (jn:Jn):∀(x:TsS Kc.as) (F:TsF Kc.fs) (y:TsS Kc.cs),fq lp jn x.1 x.2.1=cb lp jn (cx [] [(134,bL)]) al 4 184 f184 Kc x F y:=fun x F y=>by kernel_rfl
theorem NW:Kc.ok prog 184:=Ctr.of_den (ap (b7)) aX (hl:=al) (d:=4) func184 rfl (by decide) (Sa lpK jnK)
def fV (_:Lp) (jn:Jn) (ax:Lc) (x0:Bool×Int×Int) (x1:Bool×Int×Int):Option (Bool×Int×Int) :=
 
 let v4:Bool:=!x0.1;
 let v5:Bool:=!x1.1;
 let v6:Bool:=!v4;
 let v7:Bool:=v4&&v5;
 let v8:Bool:=v6||v4;
 let v9:Bool:=!v7;
 let v10:Bool:=v9||v7;
 let v11:Bool:=!decide (x1.2.1=0);
 let v12:Bool:=v7&&!v11;
 let v13:Bool:=decide ((0:Int)<=0)&&decide ((0:Int)<=1);
 let v14:Bool:=!v12||v12;bif !decide (x0.1=x1.1) then bif v13 then bif decide (0<=mu x0.2.2 x1.2.2 0)&&decide (mu x0.2.2 x1.2.2 (0 : Int)<=1) then bif v8 then bif v8 then bif v8 then bif v10 then bif v10 then bif v10 then bif v14 then bif v14 then bif (v9||v10)&&(v9||(v11||(v9||v12))) then bif (v6 || v8)&&(v6||(!v5||(v6||v7))) then bif x0.1||v4 then some (bif x0.1 then true else bif v5 then bif v11 then true else !decide (x1.2.2=0) else false,uo x0.2.1 x1.2.1 (mu x0.2.2 x1.2.2 0),uo x0.2.2 x1.2.2 0) else none else none else none else none else none else none else none else none else none else none else none else none else none else aa (ax x0 x1) fun (t:Int)=>jn (Bool×(Bool×Int×Int)×(Bool×Int×Int)×PUnit) (Bool×Int×Int) (fun (x:Bool×(Bool×Int×Int)×(Bool×Int×Int)×PUnit) =>
 let v17:Bool:=!x.1;
 let v18:Bool:=v17||x.1;
 let v19:Bool:=!decide (q8 x.2.1.2.1 x.2.2.1.2.1 (lz x.2.1.2.2 x.2.2.1.2.2 0)=0);
 let v20:Bool:=x.1&&!v19;bif v13 then bif decide (0<=lz x.2.1.2.2 x.2.2.1.2.2 0)&&decide (lz x.2.1.2.2 x.2.2.1.2.2 (0 : Int)<=1) then bif v18 then bif v18 then bif !v20||v20 then bif (v17||v18)&&(v17||(v19||(v17||v20))) then bif v18 then some (bif x.1 then bif v19 then true else !decide (q8 x.2.1.2.2 x.2.2.1.2.2 0=0) else false,q8 x.2.1.2.1 x.2.2.1.2.1 (lz x.2.1.2.2 x.2.2.1.2.2 (0 : Int)),q8 x.2.1.2.2 x.2.2.1.2.2 0) else none else none else none else none else none else none else none) fun (j:Bool×(Bool×Int×Int)×(Bool×Int × Int)×PUnit->Option (Bool×Int×Int))=>bif decide (t<0) then j (v4,x1,x0,PUnit.unit) else j (x0.1,x0,x1,PUnit.unit)
def bu (x0:Bool×Int×Int) (x1:Bool×Int×Int):Option (Bool×Int×Int):=fV lpK jnK ax x0 x1
abbrev Om:=(Bool×Int×Int)->(Bool×Int×Int)->Option (Bool×Int×Int)
def RS (bu:Om):Ctr:=⟨[rp,rp],[],[],.one rp,fun x _ _=>bu x.1 x.2.1⟩
def Ji:Ctr:=RS bu
theorem Su (lp:Lp) (jn:Jn) (ax:Lc):∀(x:TsS Ji.as) (F:TsF Ji.fs) (y:TsS Ji.cs),fV lp jn ax x.1 x.2.1=cb lp jn (cx [(184,OL ax)] [(134,bL)]) al 4 176 f176 Ji x F y:=fun x F y=>by kernel_rfl
theorem P1:Ji.ok prog 176:=Ctr.of_den (ap (ah (b7) (by kernel_rfl) NW)) aX (hl:=al) (d:=4) func176 rfl (by decide) (Su lpK jnK ax)
def gg (_:Lp) (_:Jn) (bH:Cz) (x0:Bool×Int×Int) (x1:Int):Option Int :=
 aa (bH x0.2.1 x0.2.2 (IntKind.wrap .u64 x1)) fun (t:Int×Int×PUnit) =>
 let v5:Int:=IntKind.wrap .i64 t.1;bif x0.1 then some (IntKind.wrap .i64 (0 - v5)) else some v5
def bM (x0:Bool×Int×Int) (x1:Int):Option Int:=gg lpK jnK bH x0 x1
abbrev R6:=(Bool×Int×Int)->(Int)->Option (Int)
def JU:Ctr:=⟨[rp,i64],[],[],.one i64,fun x _ _=>bM x.1 x.2.1⟩
theorem TA (lp:Lp) (jn:Jn) (bH:Cz):∀(x:TsS JU.as) (F:TsF JU.fs) (y:TsS JU.cs),gg lp jn bH x.1 x.2.1=cb lp jn (cx [(125,L6 bH)] [(134,bL)]) al 4 177 f177 JU x F y:=fun x F y=>by kernel_rfl
theorem RH:JU.ok prog 177:=Ctr.of_den (ap (ah (b7) (by kernel_rfl) HX)) aX (hl:=al) (d:=4) func177 rfl (by decide) (TA lpK jnK bH)
def gL (lp:Lp) (_:Jn) (bw:Hw) (bu:Om) (bM:R6) (x0:List Nat×List (Option (List Int))) (x1:Int) (x2:List Int) (x3:List Int) (x4:List Int) (x5:Int) (x6:Int) (x7:Int) (x8:Int):Option ((List Nat×List (Option (List Int)))×Int×(List Int)×(List Int)×(List Int)×Int×Int×Unit) :=
 
 let v11:List Int×List Int×List Int×Int×Int×PUnit:=(x2.set x7.toNat x8,x3,x4,x5,x6,PUnit.unit);bif inB x7 x0.1.length then bif Nat.ble (Nat.succ x7.toNat) x0.1.length then bif inB x8 (List.length (af x0.2 (x0.1.getD x7.toNat 0))) then bif Nat.ble (Nat.succ x8.toNat) (List.length (af x0.2 (x0.1.getD x7.toNat 0))) then lp (Int×(List Nat×List (Option (List Int)))×PUnit) ((List Nat×List (Option (List Int)))×Int×List Int×List Int×List Int×Int×Int×PUnit) (fun (again:Int×(List Nat×List (Option (List Int)))×PUnit->Option ((List Nat×List (Option (List Int)))×Int×List Int×List Int×List Int×Int×Int×PUnit)) (x:Int×(List Nat×List (Option (List Int)))×PUnit) =>
 let v14:Int:=IntKind.wrap .i64 (x.1+1);
 let v15:(List Nat×List (Option (List Int)))×PUnit:=(x.2.1,PUnit.unit);
 let v16:Int×(List Nat×List (Option (List Int)))×PUnit:=(0,v15);bif decide (x.1<(↑x0.1.length:Int)) then bif inB x.1 x.2.1.1.length then bif Nat.ble (Nat.succ x.1.toNat) x.2.1.1.length then bif decide (x.1=x7) then again (v14,v15) else bif inB x8 (List.length (af x.2.1.2 (x.2.1.1.getD x.1.toNat 0))) then bif Nat.ble (Nat.succ x8.toNat) (List.length (af x.2.1.2 (x.2.1.1.getD x.1.toNat 0))) then bif dM x.2.1.2 (x.2.1.1.getD x.1.toNat 0) then lp (Int×(List Nat×List (Option (List Int)))×PUnit) ((List Nat×List (Option (List Int)))×Int × List Int×List Int×List Int×Int×Int×PUnit) (fun (again_1:Int×(List Nat×List (Option (List Int)))×PUnit->Option ((List Nat×List (Option (List Int)))×Int×List Int × List Int×List Int×Int×Int×PUnit)) (x_1:Int×(List Nat×List (Option (List Int)))×PUnit)=>bif decide (x_1.1<(↑(List.length (af x.2.1.2 (x.2.1.1.getD x.1.toNat 0))):Int)) then bif inB x_1.1 (List.length (af x_1.2.1.2 (x.2.1.1.getD x.1.toNat 0))) then bif Nat.ble (Nat.succ x_1.1.toNat) (List.length (af x_1.2.1.2 (x.2.1.1.getD x.1.toNat 0))) then aa (bw (List.getD (af x_1.2.1.2 (x.2.1.1.getD x.1.toNat 0)) x_1.1.toNat 0) (List.getD (af x0.2 (x0.1.getD x7.toNat 0)) x8.toNat 0)) fun (t:Bool×Int×Int)=>bif inB x7 x_1.2.1.1.length then bif Nat.ble (Nat.succ x7.toNat) x_1.2.1.1.length then bif inB x_1.1 (List.length (af x_1.2.1.2 (x_1.2.1.1.getD x7.toNat 0))) then bif Nat.ble (Nat.succ x_1.1.toNat) (List.length (af x_1.2.1.2 (x_1.2.1.1.getD x7.toNat 0))) then aa (bw (List.getD (af x.2.1.2 (x.2.1.1.getD x.1.toNat 0)) x8.toNat 0) (List.getD (af x_1.2.1.2 (x_1.2.1.1.getD x7.toNat 0)) x_1.1.toNat 0)) fun (t_1:Bool×Int×Int)=>aa (bu t t_1) fun (t:Bool × Int×Int)=>aa (bM t x1) fun (t:Int)=>bif inB x_1.1 (List.length (af x_1.2.1.2 (x.2.1.1.getD x.1.toNat 0))) then bif Nat.ble (Nat.succ x_1.1.toNat) (List.length (af x_1.2.1.2 (x.2.1.1.getD x.1.toNat 0))) then again_1 (IntKind.wrap .i64 (x_1.1+(1 : Int)),(x_1.2.1.1,x_1.2.1.2.set (x.2.1.1.getD x.1.toNat 0) (some (List.set (af x_1.2.1.2 (x.2.1.1.getD x.1.toNat 0)) x_1.1.toNat t))),PUnit.unit) else none else none else none else none else none else none else none else none else again (v14,x_1.2.1,PUnit.unit)) v16 else none else none else none else none else none else bif inB x7 x2.length then bif Nat.ble (Nat.succ x7.toNat) x2.length then bif decide (List.getD (af x0.2 (x0.1.getD x7.toNat 0)) x8.toNat 0<0) then lp (Int×(List Nat×List (Option (List Int)))×PUnit) ((List Nat×List (Option (List Int))) × Int×List Int×List Int×List Int×Int×Int×PUnit) (fun (again:Int×(List Nat×List (Option (List Int)))×PUnit->Option ((List Nat×List (Option (List Int)))×Int×List Int×List Int×List Int×Int×Int×PUnit)) (x_1:Int×(List Nat×List (Option (List Int)))×PUnit)=>bif decide (x_1.1<(↑x.2.1.1.length:Int)) then bif inB x_1.1 x_1.2.1.1.length then bif Nat.ble (Nat.succ x_1.1.toNat) x_1.2.1.1.length then bif dM x_1.2.1.2 (x_1.2.1.1.getD x_1.1.toNat 0) then lp (Int×(List Nat×List (Option (List Int)))×PUnit) ((List Nat×List (Option (List Int)))×Int×List Int×List Int×List Int×Int×Int×PUnit) (fun (again_1:Int×(List Nat×List (Option (List Int)))×PUnit->Option ((List Nat×List (Option (List Int)))×Int×List Int×List Int×List Int×Int×Int×PUnit)) (x:Int × (List Nat×List (Option (List Int)))×PUnit)=>bif decide (x.1<(↑(List.length (af x_1.2.1.2 (x_1.2.1.1.getD x_1.1.toNat 0))):Int)) then bif inB x.1 (List.length (af x.2.1.2 (x_1.2.1.1.getD x_1.1.toNat 0))) then bif Nat.ble (Nat.succ x.1.toNat) (List.length (af x.2.1.2 (x_1.2.1.1.getD x_1.1.toNat 0))) then bif inB x.1 (List.length (af x.2.1.2 (x_1.2.1.1.getD x_1.1.toNat 0))) then bif Nat.ble (Nat.succ x.1.toNat) (List.length (af x.2.1.2 (x_1.2.1.1.getD x_1.1.toNat 0))) then again_1 (IntKind.wrap .i64 (x.1+(1 : Int)),(x.2.1.1,x.2.1.2.set (x_1.2.1.1.getD x_1.1.toNat 0) (some (List.set (af x.2.1.2 (x_1.2.1.1.getD x_1.1.toNat 0)) x.1.toNat (IntKind.wrap .i64 (0 - List.getD (af x.2.1.2 (x_1.2.1.1.getD x_1.1.toNat 0)) x.1.toNat 0))))),PUnit.unit) else none else none else none else none else again (IntKind.wrap .i64 (x_1.1+1),x.2.1,PUnit.unit)) (0,x_1.2.1, PUnit.unit) else none else none else none else some (x_1.2.1,IntKind.wrap .i64 (0 - List.getD (af x0.2 (x0.1.getD x7.toNat 0)) x8.toNat 0),v11)) v16 else some (x.2.1,List.getD (af x0.2 (x0.1.getD x7.toNat 0)) x8.toNat 0,v11) else none else none) (0,x0, PUnit.unit) else none else none else none else none
def aJ (x0:List Nat×List (Option (List Int))) (x1:Int) (x2:List Int) (x3:List Int) (x4:List Int) (x5:Int) (x6:Int) (x7:Int) (x8:Int):Option ((List Nat×List (Option (List Int)))×Int×(List Int)×(List Int)×(List Int)×Int×Int×Unit):=gL lpK jnK bw bu bM x0 x1 x2 x3 x4 x5 x6 x7 x8
abbrev H8:=(List Nat×List (Option (List Int)))->(Int)->(List Int)->(List Int)->(List Int)->(Int)->(Int)->(Int)->(Int)->Option ((List Nat×List (Option (List Int)))×Int×(List Int)×(List Int)×(List Int)×Int×Int×Unit)
def Pq (aJ:H8):SCtr:=⟨[.b [.x (.tab 29 .ref 3 i64),.d i64,.row 3 i64,.row 3 i64,.row 3 i64,.d i64,.d i64],.d i64,.d i64],[],fun x=>aJ x.1 x.2.1 x.2.2.1 x.2.2.2.1 x.2.2.2.2.1 x.2.2.2.2.2.1 x.2.2.2.2.2.2.1 x.2.2.2.2.2.2.2.1 x.2.2.2.2.2.2.2.2.1⟩
def O3:SCtr:=Pq aJ
theorem S9 (lp:Lp) (jn:Jn) (bw:Hw) (bu:Om) (bM:R6):∀x:TsR (rhI 0 O3.ks),gL lp jn bw bu bM x.1 x.2.1 x.2.2.1 x.2.2.2.1 x.2.2.2.2.1 x.2.2.2.2.2.1 x.2.2.2.2.2.2.1 x.2.2.2.2.2.2.2.1 x.2.2.2.2.2.2.2.2.1=Ir lp jn (Dn.look []) (cx [(177,⟨[rp,i64],[],[],.one i64,fun x _ _=>bM x.1 x.2.1⟩),(176,RS bu),(175,O9 bw)] [(134,bL)]) al 4 157 f157 O3 x:=fun x=>by kernel_rfl
theorem Oc:O3.ok prog 157:=SCtr.of_den (ap (ah (ah (ah (b7) (by kernel_rfl) NO) (by kernel_rfl) P1) (by kernel_rfl) RH)) aX (r0) (hl:=al) (d:=4) func157 rfl (by decide) (S9 lpK jnK bw bu bM)
set_option maxRecDepth 100000
def gM (_:Lp) (_:Jn) (ax:Lc) (x0:Bool×Int×Int) (x1:Bool×Int×Int):Option Int :=
 
 let v4:Bool:=!decide (x0.1=x1.1);
 let v5:Bool:=!v4||v4;bif v5 then bif v5 then bif bif v4 then x0.1 else false then some (-1) else bif v4 then some 1 else bif x0.1 then aa (ax x1 x0) fun (t:Int)=>some t else aa (ax x0 x1) fun (t:Int)=>some t else none else none
def cg (x0:Bool×Int×Int) (x1:Bool×Int×Int):Option Int:=gM lpK jnK ax x0 x1
abbrev RQ:=(Bool×Int×Int)->(Bool×Int×Int)->Option (Int)
def JN:Ctr:=⟨[rp,rp],[],[],.one i64,fun x _ _=>cg x.1 x.2.1⟩
theorem Tt (lp:Lp) (jn:Jn) (ax:Lc):∀(x:TsS JN.as) (F:TsF JN.fs) (y:TsS JN.cs),gM lp jn ax x.1 x.2.1=cb lp jn (cx [(184,OL ax)] [(134,bL)]) al 4 178 f178 JN x F y:=fun x F y=>by kernel_rfl
theorem Rx:JN.ok prog 178:=Ctr.of_den (ap (ah (b7) (by kernel_rfl) NW)) aX (hl:=al) (d:=4) func178 rfl (by decide) (Tt lpK jnK ax)
def fW (lp:Lp) (_:Jn) (bw:Hw) (cg:RQ) (x0:(List (List Int))×Int×(List Int)×(List Int)×(List Int)×Int×Int) (x1:Int):Option Int :=
 lp (Int×Int×PUnit) Int (fun (again:Int×Int×PUnit->Option Int) (x:Int×Int×PUnit) =>
 let v6:Int×PUnit:=(IntKind.wrap .i64 (x.2.1+1),PUnit.unit);
 let v7:Bool:=inB x.1 x0.1.length;
 let v8:List Int:=x0.1.getD x.1.toNat [];
 let v9:List Int:=x0.1.getD x.2.1.toNat [];
 let v10:Bool:=inB x1 v9.length;bif decide (x.2.1<(↑x0.1.length:Int)) then bif inB x.2.1 x0.1.length then bif v10 then bif decide (v9.getD x1.toNat 0<=0) then again (x.1,v6) else bif decide (x.1<0) then again (x.2.1,v6) else bif inB x0.2.2.2.2.2.2 v9.length then bif v7 then bif inB x1 v8.length then aa (bw (v9.getD x0.2.2.2.2.2.2.toNat 0) (v8.getD x1.toNat 0)) fun (t:Bool × Int×Int)=>bif v7 then bif inB x0.2.2.2.2.2.2 v8.length then bif v10 then aa (bw (v8.getD x0.2.2.2.2.2.2.toNat 0) (v9.getD x1.toNat 0)) fun (t_1:Bool×Int×Int)=>aa (cg t t_1) fun (t:Int) =>
 let v14:Bool:=decide (t=0);
 let v15:Bool:=decide (t<0);
 let v16:Bool:=!v15;
 let v17:Bool:=!v16;
 let v18:Bool:=v16&&v14;
 let v19:Bool:=!v18;
 let v20:Bool:=v17||v16;
 let v21:Bool:=v19||v18;bif v20 then bif v20 then bif v21 then bif v21 then bif v21 then bif v21&&(v21&&(v19||inB x.2.1 x0.2.2.1.length)) then bif v21 then bif v21 then bif v21 then bif v21 then bif v21&&(v21&&(v19||inB x.1 x0.2.2.1.length)) then bif v21 then bif v21&&v21 then bif (v17||v20)&&(v17||(!v14 || (v17||v18))) then bif v15||v16 then bif bif v15 then true else bif v14 then decide (x0.2.2.1.getD x.2.1.toNat 0<x0.2.2.1.getD x.1.toNat 0) else false then again (x.2.1,v6) else again (x.1,v6) else none else none else none else none else none else none else none else none else none else none else none else none else none else none else none else none else none else none else none else none else none else none else none else some x.1) ((-1),0,PUnit.unit)
def aG (x0:(List (List Int))×Int×(List Int)×(List Int)×(List Int)×Int×Int) (x1:Int):Option Int:=fW lpK jnK bw cg x0 x1
abbrev Iu:=((List (List Int))×Int×(List Int)×(List Int)×(List Int)×Int×Int)->(Int)->Option (Int)
def OZ (aG:Iu):PCtr:=⟨FF,[i64],.one i64,fun x y=>aG x y.1⟩
def LW:PCtr:=OZ aG
theorem SP (lp:Lp) (jn:Jn) (bw:Hw) (cg:RQ):∀(x:LW.s.T) (y:TsS LW.as),fW lp jn bw cg x y.1=DZ lp jn (cx [(178,⟨[rp,rp],[],[],.one i64,fun x _ _=>cg x.1 x.2.1⟩),(175,O9 bw)] [(134,bL)]) al 4 158 f158 LW x y:=fun x y=>by kernel_rfl
theorem NP:LW.ok prog 158:=PCtr.of_den (ap (ah (ah (b7) (by kernel_rfl) NO) (by kernel_rfl) Rx)) aX (hl:=al) (d:=4) func158 rfl (by decide) (SP lpK jnK bw cg)
def gG (lp:Lp) (_:Jn) (aJ:H8) (aB:MX) (aG:Iu) (x0:List Nat×List (Option (List Int))) (x1:Int) (x2:List Int) (x3:List Int) (x4:List Int) (x5:Int) (x6:Int):Option ((List Nat×List (Option (List Int)))×Int×(List Int)×(List Int)×(List Int)×Int×Int×Bool×Unit) :=
 lp ((List Nat×List (Option (List Int)))×Int×List Int×List Int×List Int×Int×Int×PUnit) ((List Nat×List (Option (List Int)))×Int×List Int×List Int×List Int×Int × Int×Bool×PUnit) (fun (again:(List Nat×List (Option (List Int)))×Int×List Int×List Int×List Int×Int×Int×PUnit->Option ((List Nat×List (Option (List Int)))×Int × List Int×List Int×List Int×Int×Int×Bool×PUnit)) (x:(List Nat×List (Option (List Int)))×Int×List Int×List Int×List Int×Int×Int×PUnit)=>lp (Int×Int × PUnit) ((List Nat×List (Option (List Int)))×Int×List Int×List Int×List Int×Int×Int×Bool×PUnit) (fun (again_1:Int×Int×PUnit->Option ((List Nat×List (Option (List Int)))×Int×List Int×List Int×List Int×Int×Int×Bool×PUnit)) (x_1:Int×Int×PUnit) =>
 let v13:Bool:=decide (x_1.1<0);
 let v14:Int×PUnit:=(IntKind.wrap .i64 (x_1.2.1+1),PUnit.unit);
 let v15:Bool:=decide (x_1.2.1<x.2.2.2.2.2.1);
 let v16:Bool:=!v15||v15;bif v16 then bif v16 then bif bif v15 then v13 else false then aa (bif List.all x.1.1 fun (x_2:Nat)=>dM x.1.2 x_2 then aB (List.map (fun (x_2:Nat)=>af x.1.2 x_2) x.1.1,x.2.1,x.2.2.1,x.2.2.2.1,x.2.2.2.2.1,x.2.2.2.2.2.1, x.2.2.2.2.2.2.1) x_1.2.1 else none) fun (t:Int)=>bif decide (t>0) then again_1 (x_1.2.1,v14) else again_1 (x_1.1,v14) else bif v13 then aa (bif List.all x.1.1 fun (x_2:Nat)=>dM x.1.2 x_2 then aB (List.map (fun (x_2:Nat)=>af x.1.2 x_2) x.1.1,x.2.1,x.2.2.1, x.2.2.2.1,x.2.2.2.2.1,x.2.2.2.2.2.1,x.2.2.2.2.2.2.1) x.2.2.2.2.2.2.1 else none) fun (t:Int)=>bif decide (t>0) then some (x.1,x.2.1,x.2.2.1,x.2.2.2.1,x.2.2.2.2.1,x.2.2.2.2.2.1,x.2.2.2.2.2.2.1,false,PUnit.unit) else lp (Int×(List Nat×List (Option (List Int)))×Int×List Int×List Int×List Int×Int×Int×PUnit) ((List Nat×List (Option (List Int)))×Int×List Int×List Int×List Int×Int×Int × Bool×PUnit) (fun (again:Int×(List Nat×List (Option (List Int)))×Int×List Int×List Int×List Int×Int×Int×PUnit->Option ((List Nat×List (Option (List Int)))×Int × List Int×List Int×List Int×Int×Int×Bool×PUnit)) (x_2:Int×(List Nat×List (Option (List Int)))×Int×List Int×List Int×List Int×Int×Int×PUnit)=>bif decide (x_2.1<(↑x.1.1.length:Int)) then lp (Int×(List Nat×List (Option (List Int)))×Int×List Int×List Int×List Int×Int×Int×PUnit) ((List Nat×List (Option (List Int)))×Int×List Int×List Int×List Int×Int×Int×Bool×PUnit) (fun (again_2:Int×(List Nat×List (Option (List Int)))×Int×List Int×List Int×List Int×Int×Int×PUnit->Option ((List Nat×List (Option (List Int)))×Int×List Int×List Int×List Int×Int×Int×Bool×PUnit)) (x:Int×(List Nat×List (Option (List Int)))×Int×List Int×List Int×List Int×Int×Int×PUnit) =>
 let v22:Int:=IntKind.wrap .i64 (x.1+1);
 let v23:Bool:=decide (x.1<x.2.2.2.2.2.2.1);
 let v24:Bool:=!v23;
 let v25:Bool:=v24||v23;
 let v26:(List Nat×List (Option (List Int)))×Int×List Int×List Int×List Int×Int×Int×PUnit:=(x.2.1,x.2.2.1,x.2.2.2.1,x.2.2.2.2.1, x.2.2.2.2.2.1,x.2.2.2.2.2.2.1,x.2.2.2.2.2.2.2.1,PUnit.unit);bif v25 then bif v25 then bif v25 then bif v25&&(v25&&(v24||inB x_2.1 x.2.2.2.1.length)) then bif v25&&(v24||Nat.ble (Nat.succ x_2.1.toNat) x.2.2.2.1.length) then bif v25 then bif v25 then bif v25 then bif v25 && v25 then bif v25 then bif bif v23 then decide (x.2.2.2.1.getD x_2.1.toNat 0>=x.2.2.2.2.2.2.1) else false then bif inB x_2.1 x.2.1.1.length then bif Nat.ble (Nat.succ x_2.1.toNat) x.2.1.1.length then bif inB x.1 (List.length (af x.2.1.2 (x.2.1.1.getD x_2.1.toNat 0))) then bif Nat.ble (Nat.succ x.1.toNat) (List.length (af x.2.1.2 (x.2.1.1.getD x_2.1.toNat 0))) then bif !decide (List.getD (af x.2.1.2 (x.2.1.1.getD x_2.1.toNat 0)) x.1.toNat 0=0) then aa (aJ x.2.1 x.2.2.1 x.2.2.2.1 x.2.2.2.2.1 x.2.2.2.2.2.1 x.2.2.2.2.2.2.1 x.2.2.2.2.2.2.2.1 x_2.1 x.1) fun (y:(List Nat×List (Option (List Int)))×Int×List Int×List Int×List Int×Int×Int×PUnit)=>again_2 (v22,y.1,y.2.1,y.2.2.1,y.2.2.2.1,y.2.2.2.2.1,y.2.2.2.2.2.1, y.2.2.2.2.2.2.1,PUnit.unit) else again_2 (v22,v26) else none else none else none else none else again (IntKind.wrap .i64 (x_2.1+1),v26) else none else none else none else none else none else none else none else none else none else none) (0,x_2.2.1,x_2.2.2.1,x_2.2.2.2.1,x_2.2.2.2.2.1, x_2.2.2.2.2.2.1,x_2.2.2.2.2.2.2.1,x_2.2.2.2.2.2.2.2.1,PUnit.unit) else some (x_2.2.1,x_2.2.2.1,x_2.2.2.2.1, x_2.2.2.2.2.1,x_2.2.2.2.2.2.1,x_2.2.2.2.2.2.2.1,x_2.2.2.2.2.2.2.2.1,true,PUnit.unit)) (0,x.1,x.2.1, x.2.2.1,x.2.2.2.1,x.2.2.2.2.1,x.2.2.2.2.2.1,x.2.2.2.2.2.2.1,PUnit.unit) else aa (bif List.all x.1.1 fun (x_2:Nat) => dM x.1.2 x_2 then aG (List.map (fun (x_2:Nat)=>af x.1.2 x_2) x.1.1,x.2.1,x.2.2.1,x.2.2.2.1,x.2.2.2.2.1, x.2.2.2.2.2.1,x.2.2.2.2.2.2.1) x_1.1 else none) fun (t:Int)=>aa (aJ x.1 x.2.1 x.2.2.1 x.2.2.2.1 x.2.2.2.2.1 x.2.2.2.2.2.1 x.2.2.2.2.2.2.1 t x_1.1) fun (y:(List Nat×List (Option (List Int)))×Int×List Int×List Int×List Int×Int × Int×PUnit)=>again (y.1,y.2.1,y.2.2.1,y.2.2.2.1,y.2.2.2.2.1,y.2.2.2.2.2.1,y.2.2.2.2.2.2.1,PUnit.unit) else none else none) ((-1),0,PUnit.unit)) (x0,x1,x2,x3,x4,x5,x6,PUnit.unit)
def a9 (x0:List Nat×List (Option (List Int))) (x1:Int) (x2:List Int) (x3:List Int) (x4:List Int) (x5:Int) (x6:Int):Option ((List Nat×List (Option (List Int)))×Int×(List Int)×(List Int)×(List Int)×Int×Int×Bool×Unit):=gG lpK jnK aJ aB aG x0 x1 x2 x3 x4 x5 x6
abbrev Na:=(List Nat×List (Option (List Int)))->(Int)->(List Int)->(List Int)->(List Int)->(Int)->(Int)->Option ((List Nat×List (Option (List Int)))×Int×(List Int)×(List Int)×(List Int)×Int×Int×Bool×Unit)
def PW (a9:Na):SCtr:=⟨[.b [.x (.tab 29 .ref 3 i64),.d i64,.row 3 i64,.row 3 i64,.row 3 i64,.d i64,.d i64]],[(false,[.d .bool])],fun x=>a9 x.1 x.2.1 x.2.2.1 x.2.2.2.1 x.2.2.2.2.1 x.2.2.2.2.2.1 x.2.2.2.2.2.2.1⟩
def OV:SCtr:=PW a9
theorem SU (lp:Lp) (jn:Jn) (aJ:H8) (aB:MX) (aG:Iu):∀x:TsR (rhI 0 OV.ks),gG lp jn aJ aB aG x.1 x.2.1 x.2.2.1 x.2.2.2.1 x.2.2.2.2.1 x.2.2.2.2.2.1 x.2.2.2.2.2.2.1=Ir lp jn (Dn.look [(157,Pq aJ)]) (AO Db Dh (GL [(158,OZ aG),(126,RE aB)] [] (kM prog shs xj its [] [(134,bL)]))) al 4 110 f110 OV x:=fun x=>by kernel_rfl
theorem R5:OV.ok prog 110:=SCtr.of_den (ap (rI (b7) (jJ (by kernel_rfl) NP (jJ (by kernel_rfl) Qf (ot))) (ow))) aX (pE Oc (r0)) (hl:=al) (d:=4) func110 rfl (by decide) (SU lpK jnK aJ aB aG)
def hH (_:Lp) (_:Jn) (x0:(List (List Int))×Int×(List Int)×(List Int)×(List Int)×Int×Int) (x1:Int):Option Int :=
 bif decide (x1<(↑x0.2.2.2.2.1.length:Int)) then bif inB x1 x0.2.2.2.2.1.length then some (x0.2.2.2.2.1.getD x1.toNat 0) else none else some 0
def aK (x0:(List (List Int))×Int×(List Int)×(List Int)×(List Int)×Int×Int) (x1:Int):Option Int:=hH lpK jnK x0 x1
abbrev It:=((List (List Int))×Int×(List Int)×(List Int)×(List Int)×Int×Int)->(Int)->Option (Int)
def Ov (aK:It):PCtr:=⟨FF,[i64],.one i64,fun x y=>aK x y.1⟩
def MH:PCtr:=Ov aK
theorem Sc (lp:Lp) (jn:Jn):∀(x:MH.s.T) (y:TsS MH.as),hH lp jn x y.1=DZ lp jn (cx [] [(134,bL)]) al 4 112 f112 MH x y:=fun x y=>by kernel_rfl
theorem N2:MH.ok prog 112:=PCtr.of_den (ap (b7)) aX (hl:=al) (d:=4) func112 rfl (by decide) (Sc lpK jnK)
def fT (lp:Lp) (_:Jn) (aK:It) (x0:(List (List Int))×Int×(List Int)×(List Int)×(List Int)×Int×Int) (x1:Int):Option Int :=
 aa (aK x0 x1) fun (t:Int)=>lp (Int×Int×PUnit) Int (fun (again:Int×Int×PUnit->Option Int) (x:Int×Int×PUnit) =>
 let v7:List Int:=x0.1.getD x.2.1.toNat [];bif decide (x.2.1<(↑x0.1.length:Int)) then bif inB x.2.1 x0.1.length then bif inB x.2.1 x0.2.2.1.length then aa (aK x0 (x0.2.2.1.getD x.2.1.toNat 0)) fun (t:Int)=>bif inB x1 v7.length then again (IntKind.wrap .i64 (x.1 - IntKind.wrap .i64 (t*v7.getD x1.toNat 0)),IntKind.wrap .i64 (x.2.1+1),PUnit.unit) else none else none else none else some x.1) (IntKind.wrap .i64 (t*x0.2.1),0,PUnit.unit)
def bE (x0:(List (List Int))×Int×(List Int)×(List Int)×(List Int)×Int×Int) (x1:Int):Option Int:=fT lpK jnK aK x0 x1
abbrev RV:=((List (List Int))×Int×(List Int)×(List Int)×(List Int)×Int×Int)->(Int)->Option (Int)
def Nj:PCtr:=⟨FF,[i64],.one i64,fun x y=>bE x y.1⟩
theorem SO (lp:Lp) (jn:Jn) (aK:It):∀(x:Nj.s.T) (y:TsS Nj.as),fT lp jn aK x y.1=DZ lp jn (AO Db Dh (GL [(112,Ov aK)] [] (kM prog shs xj its [] [(134,bL)]))) al 4 159 f159 Nj x y:=fun x y=>by kernel_rfl
theorem Q3:Nj.ok prog 159:=PCtr.of_den (ap (rI (b7) (jJ (by kernel_rfl) N2 (ot)) (ow))) aX (hl:=al) (d:=4) func159 rfl (by decide) (SO lpK jnK aK)
def fS (lp:Lp) (_:Jn) (aJ:H8) (aG:Iu) (bE:RV) (x0:List Nat×List (Option (List Int))) (x1:Int) (x2:List Int) (x3:List Int) (x4:List Int) (x5:Int) (x6:Int):Option ((List Nat×List (Option (List Int)))×Int×(List Int)×(List Int)×(List Int)×Int×Int×Bool×Unit) :=
 lp ((List Nat×List (Option (List Int)))×Int×List Int×List Int×List Int×Int×Int×PUnit) ((List Nat×List (Option (List Int)))×Int×List Int×List Int×List Int×Int × Int×Bool×PUnit) (fun (again:(List Nat×List (Option (List Int)))×Int×List Int×List Int×List Int×Int×Int×PUnit->Option ((List Nat×List (Option (List Int)))×Int × List Int×List Int×List Int×Int×Int×Bool×PUnit)) (x:(List Nat×List (Option (List Int)))×Int×List Int×List Int×List Int×Int×Int×PUnit)=>lp (Int×Int × PUnit) ((List Nat×List (Option (List Int)))×Int×List Int×List Int×List Int×Int×Int×Bool×PUnit) (fun (again_1:Int×Int×PUnit->Option ((List Nat×List (Option (List Int)))×Int×List Int×List Int×List Int×Int×Int×Bool×PUnit)) (x_1:Int×Int×PUnit) =>
 let v13:Bool:=decide (x_1.1<0);
 let v14:Int×PUnit:=(IntKind.wrap .i64 (x_1.2.1+1),PUnit.unit);
 let v15:Bool:=decide (x_1.2.1<x.2.2.2.2.2.1);
 let v16:Bool:=!v15||v15;bif v16 then bif v16 then bif bif v15 then v13 else false then aa (bif List.all x.1.1 fun (x_2:Nat)=>dM x.1.2 x_2 then bE (List.map (fun (x_2:Nat)=>af x.1.2 x_2) x.1.1,x.2.1,x.2.2.1,x.2.2.2.1,x.2.2.2.2.1,x.2.2.2.2.2.1, x.2.2.2.2.2.2.1) x_1.2.1 else none) fun (t:Int)=>bif decide (t<0) then again_1 (x_1.2.1,v14) else again_1 (x_1.1,v14) else bif v13 then some (x.1,x.2.1,x.2.2.1,x.2.2.2.1,x.2.2.2.2.1,x.2.2.2.2.2.1,x.2.2.2.2.2.2.1,true,PUnit.unit) else aa (bif List.all x.1.1 fun (x_2:Nat)=>dM x.1.2 x_2 then aG (List.map (fun (x_2:Nat)=>af x.1.2 x_2) x.1.1,x.2.1,x.2.2.1,x.2.2.2.1, x.2.2.2.2.1,x.2.2.2.2.2.1,x.2.2.2.2.2.2.1) x_1.1 else none) fun (t:Int)=>bif decide (t<0) then some (x.1,x.2.1, x.2.2.1,x.2.2.2.1,x.2.2.2.2.1,x.2.2.2.2.2.1,x.2.2.2.2.2.2.1,false,PUnit.unit) else aa (aJ x.1 x.2.1 x.2.2.1 x.2.2.2.1 x.2.2.2.2.1 x.2.2.2.2.2.1 x.2.2.2.2.2.2.1 t x_1.1) fun (y:(List Nat×List (Option (List Int)))×Int×List Int × List Int×List Int×Int×Int×PUnit)=>again (y.1,y.2.1,y.2.2.1,y.2.2.2.1,y.2.2.2.2.1,y.2.2.2.2.2.1,y.2.2.2.2.2.2.1, PUnit.unit) else none else none) ((-1),0,PUnit.unit)) (x0,x1,x2,x3,x4,x5,x6,PUnit.unit)
def br (x0:List Nat×List (Option (List Int))) (x1:Int) (x2:List Int) (x3:List Int) (x4:List Int) (x5:Int) (x6:Int):Option ((List Nat×List (Option (List Int)))×Int×(List Int)×(List Int)×(List Int)×Int×Int×Bool×Unit):=fS lpK jnK aJ aG bE x0 x1 x2 x3 x4 x5 x6
abbrev Oz:=(List Nat×List (Option (List Int)))->(Int)->(List Int)->(List Int)->(List Int)->(Int)->(Int)->Option ((List Nat×List (Option (List Int)))×Int×(List Int)×(List Int)×(List Int)×Int×Int×Bool×Unit)
def Q9 (br:Oz):SCtr:=⟨[.b [.x (.tab 29 .ref 3 i64),.d i64,.row 3 i64,.row 3 i64,.row 3 i64,.d i64,.d i64]],[(false,[.d .bool])],fun x=>br x.1 x.2.1 x.2.2.1 x.2.2.2.1 x.2.2.2.2.1 x.2.2.2.2.2.1 x.2.2.2.2.2.2.1⟩
def PN:SCtr:=Q9 br
theorem TJ (lp:Lp) (jn:Jn) (aJ:H8) (aG:Iu) (bE:RV):∀x:TsR (rhI 0 PN.ks),fS lp jn aJ aG bE x.1 x.2.1 x.2.2.1 x.2.2.2.1 x.2.2.2.2.1 x.2.2.2.2.2.1 x.2.2.2.2.2.2.1=Ir lp jn (Dn.look [(157,Pq aJ)]) (AO Db Dh (GL [(159,⟨FF,[i64],.one i64,fun x y=>bE x y.1⟩),(158,OZ aG)] [] (kM prog shs xj its [] [(134,bL)]))) al 4 111 f111 PN x:=fun x=>by kernel_rfl
theorem QU:PN.ok prog 111:=SCtr.of_den (ap (rI (b7) (jJ (by kernel_rfl) Q3 (jJ (by kernel_rfl) NP (ot))) (ow))) aX (pE Oc (r0)) (hl:=al) (d:=4) func111 rfl (by decide) (TJ lpK jnK aJ aG bE)
def nO (_:Lp) (_:Jn) (bn:t75) (aH:t77) (ba:t82) (x0:Int) (x1:Int):Option ((Int×Int)×Int×Unit) :=
 
 let v4:Bool:=!decide (x0=0);
 let v5:Bool:=!v4||v4;bif decide (x1=0) then some ((0,0),16,PUnit.unit) else aa (aH x0) fun (t:Int)=>aa (aH x1) fun (t_1:Int)=>aa (bn t t_1) fun (t_2:Int) =>
 let v9:Bool:=nzB t_2;bif v5 then bif v5 then bif v5&&v5 then bif v5 then bif v9 then bif v9 then aa (ba (bif v4 then !decide (decide (x0<0)=decide (x1<(0 : Int))) else false) (IntKind.wrap .u64 (Int.tdiv t t_2)) (IntKind.wrap .u64 (Int.tdiv t_1 t_2))) fun (t:(Int×Int)×Int×PUnit)=>some (t.1,t.2.1, PUnit.unit) else none else none else none else none else none else none
def cI (x0:Int) (x1:Int):Option ((Int×Int)×Int×Unit):=nO lpK jnK bn aH ba x0 x1
abbrev G8:=(Int)->(Int)->Option ((Int×Int)×Int×Unit)
def OO (cI:G8):Ctr:=⟨[i64,i64],[],[],.tup [T49,i64],fun x _ _=>cI x.1 x.2.1⟩
def HN:Ctr:=OO cI
theorem Ti (lp:Lp) (jn:Jn) (bn:t75) (aH:t77) (ba:t82):∀(x:TsS HN.as) (F:TsF HN.fs) (y:TsS HN.cs),nO lp jn bn aH ba x.1 x.2.1=cb lp jn (cx [(82,k82 ba),(77,k77 aH),(75,k75 bn)] [(134,bL)]) al 4 136 f136 HN x F y:=fun x F y=>by kernel_rfl
theorem NZ:HN.ok prog 136:=Ctr.of_den (ap (ah (ah (ah (b7) (by kernel_rfl) M1) (by kernel_rfl) IH) (by kernel_rfl) Ow)) aX (hl:=al) (d:=4) func136 rfl (by decide) (Ti lpK jnK bn aH ba)
def g9 (_:Lp) (_:Jn) (cI:G8) (x0:(List (List Int))×Int×(List Int)×(List Int)×(List Int)×Int×Int) (x1:Int):Option (Int×Int) :=
 aa (cI x1 x0.2.1) fun (t:(Int×Int)×Int×PUnit)=>some t.1
def aZ (x0:(List (List Int))×Int×(List Int)×(List Int)×(List Int)×Int×Int) (x1:Int):Option (Int×Int):=g9 lpK jnK cI x0 x1
abbrev NA:=((List (List Int))×Int×(List Int)×(List Int)×(List Int)×Int×Int)->(Int)->Option (Int×Int)
def Rt (aZ:NA):PCtr:=⟨FF,[i64],.one T49,fun x y=>aZ x y.1⟩
def LO:PCtr:=Rt aZ
theorem Td (lp:Lp) (jn:Jn) (cI:G8):∀(x:LO.s.T) (y:TsS LO.as),g9 lp jn cI x y.1=DZ lp jn (cx [(136,OO cI)] [(134,bL)]) al 4 113 f113 LO x y:=fun x y=>by kernel_rfl
theorem P9:LO.ok prog 113:=PCtr.of_den (ap (ah (b7) (by kernel_rfl) NZ)) aX (hl:=al) (d:=4) func113 rfl (by decide) (Td lpK jnK cI)
def iG (lp:Lp) (jn:Jn) (bj:t91) (cG:M2) (ay:BG) (a9:Na) (br:Oz) (aK:It) (aZ:NA) (x0:(List Int)×List ((List Int)×Int×Int)):Option (((Int×Int)×(List (Int×Int))×List (Int×Int))×Int×Unit) :=
 aa (bj x0) fun (t:Bool)=>bif !t then some (((0,0),[],[]),1,PUnit.unit) else aa (cG x0) fun (t:Bool)=>bif !t then some ((((0 : Int),0),[],[]),5,PUnit.unit) else lp (Int×Int×PUnit) (((Int×Int)×List (Int×Int)×List (Int×Int))×Int×PUnit) (fun (again:Int×Int×PUnit -> Option (((Int×Int)×List (Int×Int)×List (Int×Int))×Int×PUnit)) (x:Int×Int×PUnit) =>
 let v7:Int×PUnit:=(IntKind.wrap .i64 (x.2.1+1),PUnit.unit);
 let v8:Int:=IntKind.wrap .i64 ((↑x0.1.length:Int)+x.1);bif decide (x.2.1<(↑x0.2.length:Int)) then bif inB x.2.1 x0.2.length then bif !decide ((x0.2.getD x.2.1.toNat ([],0,0)).2.1=3) then again (IntKind.wrap .i64 (x.1+1),v7) else again (x.1, v7) else none else aa (ay x0.1) fun (t:List Int)=>lp (Int×Int×(List Nat×List (Option (List Int)))×Int×List Int×List Int×List Int×Int×Int × PUnit) (((Int×Int)×List (Int×Int)×List (Int×Int))×Int×PUnit) (fun (again:Int×Int×(List Nat×List (Option (List Int)))×Int×List Int×List Int×List Int×Int × Int×PUnit->Option (((Int×Int)×List (Int×Int)×List (Int×Int))×Int×PUnit)) (x:Int×Int×(List Nat×List (Option (List Int)))×Int×List Int×List Int×List Int × Int×Int×PUnit) =>
 let v12:Int:=IntKind.wrap .i64 (x.1+1);
 let v13:List Int×Int×Int:=x0.2.getD x.2.1.toNat ([],0,0);
 let v14:List Int:=List.replicate (Int.toNat (IntKind.wrap .i64 (x.2.2.2.2.2.2.2.2.1+1))) 0;
 let v15:Bool:=inB x.1 (Int.toNat (IntKind.wrap .i64 (x.2.2.2.2.2.2.2.2.1+1)));
 let v16:Bool:=Nat.ble (Nat.succ x.1.toNat) (Int.toNat (IntKind.wrap .i64 (x.2.2.2.2.2.2.2.2.1+1)));
 let v17:Int:=IntKind.wrap .i64 (x.2.2.2.2.2.2.2.1+x.2.1);
 let v18:List Int:=List.take (Int.toNat (IntKind.wrap .i64 (x.2.2.2.2.2.2.2.2.1+1))) v13.1;
 let v19:List Int:=List.set (List.take 0 v14++v18++List.drop (0+List.length v18) v14) x.2.2.2.2.2.2.2.2.1.toNat v13.2.2;bif decide (x.2.1<(↑x0.2.length:Int)) then bif inB x.2.1 x0.2.length then bif decide (0<=IntKind.wrap .i64 (x.2.2.2.2.2.2.2.2.1+(1 : Int)))&&c7 (Int.toNat (IntKind.wrap .i64 (x.2.2.2.2.2.2.2.2.1+1))) 8 then bif inB x.2.2.2.2.2.2.2.2.1 (Int.toNat (IntKind.wrap .i64 (x.2.2.2.2.2.2.2.2.1+1))) then bif Nat.ble (Nat.succ x.2.2.2.2.2.2.2.2.1.toNat) (Int.toNat (IntKind.wrap IntKind.i64 (x.2.2.2.2.2.2.2.2.1+1))) then jn (Int×List Int×PUnit) (((Int×Int)×List (Int×Int)×List (Int×Int))×Int×PUnit) (fun (x_1:Int × List Int×PUnit) =>
 let v21:List Int×PUnit:=(x_1.2.1,PUnit.unit);jn (Int×List Int×PUnit) (((Int×Int)×List (Int×Int)×List (Int×Int))×Int×PUnit) (fun (x_2:Int×List Int × PUnit)=>bif inB v17 x_2.2.1.length then bif Nat.ble (Nat.succ v17.toNat) x_2.2.1.length then bif c7 (List.length x.2.2.1.1+1) (24 : Nat) then bif c7 (List.length x.2.2.2.2.2.1+1) 8 then bif c7 (List.length x.2.2.2.2.1+1) 8 then again (x_1.1, IntKind.wrap .i64 (x.2.1+1),(x.2.2.1.1++[List.length x.2.2.1.2+0],x.2.2.1.2++[some (x_2.2.1.set v17.toNat (1 : Int))]),x.2.2.2.1,x.2.2.2.2.1++[v17],x.2.2.2.2.2.1++[x_2.1],x.2.2.2.2.2.2.1,x.2.2.2.2.2.2.2.1, x.2.2.2.2.2.2.2.2.1,PUnit.unit) else none else none else none else none else none) fun (j:Int×List Int×PUnit->Option (((Int×Int)×List (Int×Int)×List (Int×Int))×Int×PUnit))=>bif decide (v13.2.2<0) then lp (Int×List Int×PUnit) (((Int×Int)×List (Int×Int)×List (Int×Int))×Int×PUnit) (fun (again : Int×List Int×PUnit->Option (((Int×Int)×List (Int×Int)×List (Int×Int))×Int×PUnit)) (x:Int×List Int×PUnit) =>
 let v25:Bool:=inB x.1 x.2.1.length;
 let v26:Bool:=Nat.ble (Nat.succ x.1.toNat) x.2.1.length;bif decide (x.1<(↑x_1.2.1.length:Int)) then bif v25 then bif v26 then bif v25 then bif v26 then again (IntKind.wrap .i64 (x.1+1),x.2.1.set x.1.toNat (IntKind.wrap .i64 (0 - x.2.1.getD x.1.toNat 0)), PUnit.unit) else none else none else none else none else j ((-1),x.2.1,PUnit.unit)) (0,v21) else j (1,v21)) fun (j:Int×List Int×PUnit->Option (((Int × Int)×List (Int×Int)×List (Int×Int))×Int×PUnit))=>bif decide (v13.2.1=1) then bif v15 then bif v16 then j (v12,v19.set x.1.toNat 1, PUnit.unit) else none else none else jn (Int×List Int×PUnit) (((Int×Int)×List (Int×Int)×List (Int×Int))×Int×PUnit) (fun (x:Int×List Int×PUnit)=>j (x.1, x.2.1,PUnit.unit)) fun (j:Int×List Int×PUnit->Option (((Int×Int)×List (Int×Int)×List (Int×Int))×Int×PUnit))=>bif decide (v13.2.1=2) then bif v15 then bif v16 then j (v12,v19.set x.1.toNat (-1),PUnit.unit) else none else none else j (x.1,v19,PUnit.unit) else none else none else none else none else aa (a9 x.2.2.1 x.2.2.2.1 x.2.2.2.2.1 x.2.2.2.2.2.1 x.2.2.2.2.2.2.1 x.2.2.2.2.2.2.2.1 x.2.2.2.2.2.2.2.2.1) fun (y:(List Nat×List (Option (List Int)))×Int×List Int×List Int×List Int×Int×Int×Bool×PUnit)=>bif !y.2.2.2.2.2.2.2.1 then some (((0,0),[],[]),22,PUnit.unit) else aa (br y.1 y.2.1 y.2.2.1 y.2.2.2.1 y.2.2.2.2.1 y.2.2.2.2.2.1 y.2.2.2.2.2.2.1) fun (y:(List Nat×List (Option (List Int)))×Int×List Int×List Int×List Int×Int×Int×Bool × PUnit)=>bif !y.2.2.2.2.2.2.2.1 then some (((0,0),[],[]),21,PUnit.unit) else bif decide (0<=(↑x0.1.length:Int))&&c7 (Int.toNat (↑x0.1.length:Int)) 8 then lp (Int×Int×List Int×PUnit) (((Int×Int)×List (Int×Int)×List (Int×Int))×Int×PUnit) (fun (again:Int×Int × List Int×PUnit->Option (((Int×Int)×List (Int×Int)×List (Int×Int))×Int×PUnit)) (x:Int×Int×List Int×PUnit) =>
 let v24:Int:=IntKind.wrap .i64 (x.2.1+1);
 let v25:Bool:=inB x.2.1 y.1.1.length;
 let v26:Bool:=Nat.ble (Nat.succ x.2.1.toNat) y.1.1.length;
 let v27:Int:=y.2.2.1.getD x.2.1.toNat 0;bif decide (x.2.1<(↑y.2.2.1.length:Int)) then bif inB x.2.1 y.2.2.1.length then bif Nat.ble (Nat.succ x.2.1.toNat) y.2.2.1.length then aa (bif List.all y.1.1 fun (x:Nat)=>dM y.1.2 x then aK (List.map (fun (x:Nat)=>af y.1.2 x) y.1.1,y.2.1,y.2.2.1,y.2.2.2.1,y.2.2.2.2.1,y.2.2.2.2.2.1,y.2.2.2.2.2.2.1) v27 else none) fun (t:Int)=>bif v25 then bif v26 then bif inB y.2.2.2.2.2.2.1 (List.length (af y.1.2 (y.1.1.getD x.2.1.toNat 0))) then bif Nat.ble (Nat.succ y.2.2.2.2.2.2.1.toNat) (List.length (af y.1.2 (y.1.1.getD x.2.1.toNat 0))) then bif decide (v27<(↑x.2.2.1.length:Int)) then bif v25 then bif v26 then bif inB y.2.2.2.2.2.2.1 (List.length (af y.1.2 (y.1.1.getD x.2.1.toNat 0))) then bif Nat.ble (Nat.succ y.2.2.2.2.2.2.1.toNat) (List.length (af y.1.2 (y.1.1.getD x.2.1.toNat 0))) then bif inB v27 x.2.2.1.length then bif Nat.ble (Nat.succ v27.toNat) x.2.2.1.length then again (IntKind.wrap .i64 (x.1+IntKind.wrap .i64 (t*List.getD (af y.1.2 (y.1.1.getD x.2.1.toNat 0)) y.2.2.2.2.2.2.1.toNat 0)),v24,x.2.2.1.set v27.toNat (List.getD (af y.1.2 (y.1.1.getD x.2.1.toNat 0)) y.2.2.2.2.2.2.1.toNat 0),PUnit.unit) else none else none else none else none else none else none else again (IntKind.wrap .i64 (x.1+IntKind.wrap .i64 (t*List.getD (af y.1.2 (y.1.1.getD x.2.1.toNat 0)) y.2.2.2.2.2.2.1.toNat 0)),v24,x.2.2.1,PUnit.unit) else none else none else none else none else none else none else aa (bif List.all y.1.1 fun (x:Nat) =>dM y.1.2 x then aZ (List.map (fun (x:Nat)=>af y.1.2 x) y.1.1,y.2.1,y.2.2.1,y.2.2.2.1,y.2.2.2.2.1, y.2.2.2.2.2.1,y.2.2.2.2.2.2.1) x.1 else none) fun (t:Int×Int)=>lp (Int×(Int×Int)×List (Int×Int)×List (Int×Int)×PUnit) (((Int×Int) × List (Int×Int)×List (Int×Int))×Int×PUnit) (fun (again:Int×(Int×Int)×List (Int×Int)×List (Int×Int)×PUnit->Option (((Int×Int)×List (Int×Int)×List (Int × Int))×Int×PUnit)) (x_1:Int×(Int×Int)×List (Int×Int)×List (Int×Int)×PUnit) =>
 let v31:List (Int×Int)×PUnit:=(x_1.2.2.2.1,PUnit.unit);bif decide (x_1.1<(↑x.2.2.1.length:Int)) then bif inB x_1.1 x.2.2.1.length then bif Nat.ble (Nat.succ x_1.1.toNat) x.2.2.1.length then aa (bif List.all y.1.1 fun (x:Nat)=>dM y.1.2 x then aZ (List.map (fun (x : Nat)=>af y.1.2 x) y.1.1,y.2.1,y.2.2.1,y.2.2.2.1,y.2.2.2.2.1,y.2.2.2.2.2.1,y.2.2.2.2.2.2.1) (x.2.2.1.getD x_1.1.toNat 0) else none) fun (t:Int×Int)=>bif c7 (List.length x_1.2.2.1+1) 16 then again (IntKind.wrap .i64 (x_1.1+1),x_1.2.1,x_1.2.2.1++[t],v31) else none else none else none else lp (Int×(Int×Int)×List (Int×Int)×List (Int×Int)×PUnit) (((Int×Int) × List (Int×Int)×List (Int×Int))×Int×PUnit) (fun (again:Int×(Int×Int)×List (Int×Int)×List (Int×Int)×PUnit->Option (((Int×Int)×List (Int×Int)×List (Int × Int))×Int×PUnit)) (x:Int×(Int×Int)×List (Int×Int)×List (Int×Int)×PUnit) =>
 let v34:Int:=IntKind.wrap .i64 (y.2.2.2.2.2.1+x.1);bif decide (x.1<(↑x0.2.length:Int)) then lp (Int×Int×PUnit) (((Int×Int)×List (Int × Int)×List (Int×Int))×Int×PUnit) (fun (again_1:Int×Int×PUnit->Option (((Int×Int)×List (Int×Int)×List (Int×Int))×Int×PUnit)) (x_2:Int×Int×PUnit)=>bif decide (x_2.2.1<(↑y.2.2.1.length:Int)) then bif inB x_2.2.1 y.2.2.1.length then bif Nat.ble (Nat.succ x_2.2.1.toNat) y.2.2.1.length then aa (bif List.all y.1.1 fun (x:Nat)=>dM y.1.2 x then aK (List.map (fun (x:Nat)=>af y.1.2 x) y.1.1,y.2.1, y.2.2.1,y.2.2.2.1,y.2.2.2.2.1,y.2.2.2.2.2.1,y.2.2.2.2.2.2.1) (y.2.2.1.getD x_2.2.1.toNat 0) else none) fun (t:Int)=>bif inB x_2.2.1 y.1.1.length then bif Nat.ble (Nat.succ x_2.2.1.toNat) y.1.1.length then bif inB v34 (List.length (af y.1.2 (y.1.1.getD x_2.2.1.toNat 0))) then bif Nat.ble (Nat.succ v34.toNat) (List.length (af y.1.2 (y.1.1.getD x_2.2.1.toNat (0 : Nat)))) then again_1 (IntKind.wrap .i64 (x_2.1+IntKind.wrap .i64 (t*List.getD (af y.1.2 (y.1.1.getD x_2.2.1.toNat 0)) v34.toNat 0)),IntKind.wrap .i64 (x_2.2.1+1),PUnit.unit) else none else none else none else none else none else none else bif inB x.1 y.2.2.2.1.length then bif Nat.ble (Nat.succ x.1.toNat) y.2.2.2.1.length then aa (bif List.all y.1.1 fun (x:Nat)=>dM y.1.2 x then aZ (List.map (fun (x:Nat)=>af y.1.2 x) y.1.1,y.2.1,y.2.2.1,y.2.2.2.1,y.2.2.2.2.1,y.2.2.2.2.2.1, y.2.2.2.2.2.2.1) (IntKind.wrap .i64 (y.2.2.2.1.getD x.1.toNat 0*x_2.1)) else none) fun (t:Int×Int)=>bif c7 (List.length x.2.2.2.1+1) 16 then again (IntKind.wrap .i64 (x.1+1),x.2.1,x.2.2.1,x.2.2.2.1++[t],PUnit.unit) else none else none else none) (0,0,PUnit.unit) else some ((x.2.1,x.2.2.1,x.2.2.2.1),0,PUnit.unit)) (0,x_1.2.1,x_1.2.2.1,v31)) ((0 : Int),t,[],[],PUnit.unit)) (0,0,List.replicate (Int.toNat (↑x0.1.length:Int)) 0,PUnit.unit) else none) ((↑x0.1.length:Int),(0 : Int),([],[]),1,[],[],t,v8,IntKind.wrap .i64 (v8+(↑x0.2.length:Int)),PUnit.unit)) (0,0,PUnit.unit)
def av (x0:(List Int)×List ((List Int)×Int×Int)):Option (((Int×Int)×(List (Int×Int))×List (Int×Int))×Int×Unit):=iG lpK jnK bj cG ay a9 br aK aZ x0
abbrev t58:=((List Int)×List ((List Int)×Int×Int))->Option (((Int×Int)×(List (Int×Int))×List (Int×Int))×Int×Unit)
def k58 (av:t58):Ctr:=⟨[T32],[],[],.tup [T96,i64],fun x _ _=>av x.1⟩
def c58:Ctr:=k58 av
theorem e58 (lp:Lp) (jn:Jn) (bj:t91) (cG:M2) (ay:BG) (a9:Na) (br:Oz) (aK:It) (aZ:NA):∀(x:TsS c58.as) (F:TsF c58.fs) (y:TsS c58.cs),iG lp jn bj cG ay a9 br aK aZ x.1=Od lp jn (Dn.look [(111,Q9 br),(110,PW a9)]) (AO Db Dh (GL [(113,Rt aZ),(112,Ov aK)] [] (kM prog shs xj its [(108,Q2 cG),(91,k91 bj)] [(134,MP ay)]))) al 4 58 f58 c58 x F y:=fun x F y=>by kernel_rfl
theorem PT:c58.ok prog 58:=Ctr.of_denS (ap (rI (ah (ah (b7) (by kernel_rfl) Rr) (by kernel_rfl) Q4) (jJ (by kernel_rfl) P9 (jJ (by kernel_rfl) N2 (ot))) (ow))) aX (pE QU (pE R5 (r0))) (hl:=al) (d:=4) func58 rfl (by decide) (e58 lpK jnK bj cG ay a9 br aK aZ)
def nk (_:Lp) (_:Jn) (aU:t11) (av:t58) (x0:(List (ByteArray×Int))×List (ByteArray×(List (ByteArray×Int×Int×Int))×Bool)):Option ((List (Int×Int))×Int×Unit) :=
 aa (aU x0) fun (t:(List Int×List (List Int×Int×Int))×Int×PUnit)=>bif !decide (t.2.1=0) then some ([],t.2.1,PUnit.unit) else aa (av t.1) fun (t:((Int×Int)×List (Int×Int)×List (Int×Int))×Int×PUnit)=>bif !decide (t.2.1=0) then some ([],t.2.1,PUnit.unit) else some (t.1.2.1,0,PUnit.unit)
def aN (x0:(List (ByteArray×Int))×List (ByteArray×(List (ByteArray×Int×Int×Int))×Bool)):Option ((List (Int×Int))×Int×Unit):=nk lpK jnK aU av x0
abbrev t19:=((List (ByteArray×Int))×List (ByteArray×(List (ByteArray×Int×Int×Int))×Bool))->Option ((List (Int×Int))×Int×Unit)
def k19 (aN:t19):Ctr:=⟨[T25],[],[],.tup [(.sl T49),i64],fun x _ _=>aN x.1⟩
def c19:Ctr:=k19 aN
theorem e19 (lp:Lp) (jn:Jn) (aU:t11) (av:t58):∀(x:TsS c19.as) (F:TsF c19.fs) (y:TsS c19.cs),nk lp jn aU av x.1=cb lp jn (cx [(58,k58 av),(11,k11 aU)] [(134,bL)]) al 4 19 f19 c19 x F y:=fun x F y=>by kernel_rfl
theorem QY:c19.ok prog 19:=Ctr.of_den (ap (ah (ah (b7) (by kernel_rfl) QE) (by kernel_rfl) PT)) aX (hl:=al) (d:=4) func19 rfl (by decide) (e19 lpK jnK aU av)
def gJ (lp:Lp) (_:Jn) (x0:List (ByteArray×(List (ByteArray×Int×Int×Int))×Bool)) (f0:(((ByteArray×(List (ByteArray×Int×Int×Int))×Bool)×Unit)->Option Bool)):Option Int :=
 lp (Int×PUnit) Int (fun (again:Int×PUnit->Option Int) (x:Int×PUnit)=>bif decide (x.1<(↑x0.length:Int)) then bif inB x.1 x0.length then aa (f0 (x0.getD x.1.toNat ({ data:={ toList:=[] } },[],false),PUnit.unit)) fun (t:Bool)=>bif t then some x.1 else again (IntKind.wrap .i64 (x.1+1), PUnit.unit) else none else some (-1)) (0,PUnit.unit)
def bI (x0:List (ByteArray×(List (ByteArray×Int×Int×Int))×Bool)) (f0:(((ByteArray×(List (ByteArray×Int×Int×Int))×Bool)×Unit)->Option Bool)):Option Int:=gJ lpK jnK x0 f0
abbrev t60:=(List (ByteArray×(List (ByteArray×Int×Int×Int))×Bool))->((((ByteArray×(List (ByteArray×Int×Int×Int))×Bool)×Unit)->Option Bool))->Option (Int)
def k60 (bI:t60):Ctr:=⟨[(.sl T75)],[([T75],.bool)],[],.one i64,fun x F _=>bI x.1 F.1⟩
def c60:Ctr:=k60 bI
theorem e60 (lp:Lp) (jn:Jn):∀(x:TsS c60.as) (F:TsF c60.fs) (y:TsS c60.cs),gJ lp jn x.1 F.1=cb lp jn (cx [] [(134,bL)]) al 4 60 f60 c60 x F y:=fun x F y=>by kernel_rfl
theorem Sp:c60.ok prog 60:=Ctr.of_den (ap (b7)) aX (hl:=al) (d:=4) func60 rfl (by decide) (e60 lpK jnK)
def kJ (_:Lp) (_:Jn) (x0:ByteArray×(List (ByteArray×Int×Int×Int))×Bool) (y0:ByteArray):Option Bool :=
 some (List.beq (ByteArray.toList x0.1) (ByteArray.toList y0))
def dH (x0:ByteArray×(List (ByteArray×Int×Int×Int))×Bool) (y0:ByteArray):Option Bool:=kJ lpK jnK x0 y0
abbrev t61:=(ByteArray×(List (ByteArray×Int×Int×Int))×Bool)->(ByteArray)->Option (Bool)
def c61:Ctr:=⟨[T75],[],[.str],.one .bool,fun x _ y=>dH x.1 y.1⟩
theorem e61 (lp:Lp) (jn:Jn):∀(x:TsS c61.as) (F:TsF c61.fs) (y:TsS c61.cs),kJ lp jn x.1 y.1=cb lp jn (cx [] [(134,bL)]) al 4 61 f61 c61 x F y:=fun x F y=>by kernel_rfl
theorem Tv:c61.ok prog 61:=Ctr.of_den (ap (b7)) aX (hl:=al) (d:=4) func61 rfl (by decide) (e61 lpK jnK)
def pf (_:Lp) (_:Jn) (cH:t45) (x0:(List (ByteArray×Int))×List (ByteArray×(List (ByteArray×Int×Int×Int))×Bool)) (x1:Int) (x2:Int):Option (((List Int)×List ((List Int)×Int×Int))×Int×Unit) :=
 bif decide (0<=(↑x0.2.length:Int))&&c7 (Int.toNat (↑x0.2.length:Int)) 8 then bif inB x1 (Int.toNat (↑x0.2.length:Int)) then bif Nat.ble (Nat.succ x1.toNat) (Int.toNat (↑x0.2.length:Int)) then aa (cH x0 (List.set (List.replicate (Int.toNat (↑x0.2.length:Int)) 0) x1.toNat x2)) fun (t:(List Int×List (List Int×Int×Int))×Int×PUnit)=>some (t.1,t.2.1,PUnit.unit) else none else none else none
def da (x0:(List (ByteArray×Int))×List (ByteArray×(List (ByteArray×Int×Int×Int))×Bool)) (x1:Int) (x2:Int):Option (((List Int)×List ((List Int)×Int×Int))×Int×Unit):=pf lpK jnK cH x0 x1 x2
abbrev t62:=((List (ByteArray×Int))×List (ByteArray×(List (ByteArray×Int×Int×Int))×Bool))->(Int)->(Int)->Option (((List Int)×List ((List Int)×Int×Int))×Int×Unit)
def k62 (da:t62):Ctr:=⟨[T25,i64,i64],[],[],.tup [T32,i64],fun x _ _=>da x.1 x.2.1 x.2.2.1⟩
def c62:Ctr:=k62 da
theorem e62 (lp:Lp) (jn:Jn) (cH:t45):∀(x:TsS c62.as) (F:TsF c62.fs) (y:TsS c62.cs),pf lp jn cH x.1 x.2.1 x.2.2.1=cb lp jn (cx [(45,k45 cH)] [(134,bL)]) al 4 62 f62 c62 x F y:=fun x F y=>by kernel_rfl
theorem Ri:c62.ok prog 62:=Ctr.of_den (ap (ah (b7) (by kernel_rfl) QP)) aX (hl:=al) (d:=4) func62 rfl (by decide) (e62 lpK jnK cH)
def mG (_:Lp) (_:Jn) (aF:t59) (av:t58) (bI:t60) (dH:t61) (da:t62) (x0:(List (ByteArray×Int))×List (ByteArray×(List (ByteArray×Int×Int×Int))×Bool)) (x1:ByteArray):Option ((Int×Int)×Int×Unit) :=
 aa (aF x0) fun (t:Bool)=>bif !t then some ((0,0),1,PUnit.unit) else aa (bI x0.2 fun (x:(ByteArray×List (ByteArray × Int×Int×Int)×Bool)×PUnit)=>dH x.1 x1) fun (t:Int)=>bif decide (t<0) then some ((0,0),9,PUnit.unit) else aa (da x0 t 1) fun (t:(List Int×List (List Int×Int×Int))×Int×PUnit)=>bif !decide (t.2.1=0) then some ((0,0),t.2.1,PUnit.unit) else aa (av t.1) fun (t:((Int×Int)×List (Int×Int)×List (Int×Int))×Int×PUnit)=>bif !decide (t.2.1=0) then some ((0,0), t.2.1,PUnit.unit) else some (t.1.1,0,PUnit.unit)
def bv (x0:(List (ByteArray×Int))×List (ByteArray×(List (ByteArray×Int×Int×Int))×Bool)) (x1:ByteArray):Option ((Int×Int)×Int×Unit):=mG lpK jnK aF av bI dH da x0 x1
abbrev t20:=((List (ByteArray×Int))×List (ByteArray×(List (ByteArray×Int×Int×Int))×Bool))->(ByteArray)->Option ((Int×Int)×Int×Unit)
def k20 (bv:t20):Ctr:=⟨[T25,.str],[],[],.tup [T49,i64],fun x _ _=>bv x.1 x.2.1⟩
def c20:Ctr:=k20 bv
theorem e20 (lp:Lp) (jn:Jn) (aF:t59) (av:t58) (bI:t60) (dH:t61) (da:t62):∀(x:TsS c20.as) (F:TsF c20.fs) (y:TsS c20.cs),mG lp jn aF av bI dH da x.1 x.2.1=cb lp jn (cx [(62,k62 da),(61,⟨[T75],[],[.str],.one .bool,fun x _ y=>dH x.1 y.1⟩),(60,k60 bI),(58,k58 av),(59,k59 aF)] [(134,bL)]) al 4 20 f20 c20 x F y:=fun x F y=>by kernel_rfl
theorem Qe:c20.ok prog 20:=Ctr.of_den (ap (ah (ah (ah (ah (ah (b7) (by kernel_rfl) MQ) (by kernel_rfl) PT) (by kernel_rfl) Sp) (by kernel_rfl) Tv) (by kernel_rfl) Ri)) aX (hl:=al) (d:=4) func20 rfl (by decide) (e20 lpK jnK aF av bI dH da)
def ka (lp:Lp) (_:Jn) (aF:t59) (av:t58) (da:t62) (x0:(List (ByteArray×Int))×List (ByteArray×(List (ByteArray×Int×Int×Int))×Bool)):Option ((List ByteArray)×Int×Unit) :=
 aa (aF x0) fun (t:Bool)=>bif !t then some ([],1,PUnit.unit) else lp (List ByteArray×Int×PUnit) (List ByteArray×Int×PUnit) (fun (again:List ByteArray × Int×PUnit->Option (List ByteArray×Int×PUnit)) (x:List ByteArray×Int×PUnit) =>
 let v6:Int×PUnit:=(IntKind.wrap .i64 (x.2.1+1),PUnit.unit);bif decide (x.2.1<(↑x0.2.length:Int)) then bif inB x.2.1 x0.2.length then aa (da x0 x.2.1 (-1)) fun (t:(List Int×List (List Int×Int×Int))×Int×PUnit)=>bif !decide (t.2.1=0) then some ([],t.2.1, PUnit.unit) else aa (av t.1) fun (t:((Int×Int)×List (Int×Int)×List (Int×Int))×Int×PUnit)=>bif decide (t.2.1=21) then again (x.1,v6) else bif !decide (t.2.1=0) then some ([],t.2.1,PUnit.unit) else bif decide (t.1.1.1=0) then bif c7 (List.length x.1+1) 16 then again (x.1++[(x0.2.getD x.2.1.toNat ({ data:={ toList:=[] } },[],false)).1],v6) else none else again (x.1,v6) else none else some (x.1,0, PUnit.unit)) ([],0,PUnit.unit)
def aW (x0:(List (ByteArray×Int))×List (ByteArray×(List (ByteArray×Int×Int×Int))×Bool)):Option ((List ByteArray)×Int×Unit):=ka lpK jnK aF av da x0
abbrev t21:=((List (ByteArray×Int))×List (ByteArray×(List (ByteArray×Int×Int×Int))×Bool))->Option ((List ByteArray)×Int×Unit)
def k21 (aW:t21):Ctr:=⟨[T25],[],[],.tup [(.sl .str),i64],fun x _ _=>aW x.1⟩
def c21:Ctr:=k21 aW
theorem e21 (lp:Lp) (jn:Jn) (aF:t59) (av:t58) (da:t62):∀(x:TsS c21.as) (F:TsF c21.fs) (y:TsS c21.cs),ka lp jn aF av da x.1=cb lp jn (cx [(62,k62 da),(58,k58 av),(59,k59 aF)] [(134,bL)]) al 4 21 f21 c21 x F y:=fun x F y=>by kernel_rfl
theorem Qi:c21.ok prog 21:=Ctr.of_den (ap (ah (ah (ah (b7) (by kernel_rfl) MQ) (by kernel_rfl) PT) (by kernel_rfl) Ri)) aX (hl:=al) (d:=4) func21 rfl (by decide) (e21 lpK jnK aF av da)
def qm (_:Lp) (_:Jn) (x0:Int):Option (Int×Int) :=
 some (x0,1)
def bU (x0:Int):Option (Int×Int):=qm lpK jnK x0
abbrev t34:=(Int)->Option (Int×Int)
def k34 (bU:t34):Ctr:=⟨[i64],[],[],.one T49,fun x _ _=>bU x.1⟩
def c34:Ctr:=k34 bU
theorem e34 (lp:Lp) (jn:Jn):∀(x:TsS c34.as) (F:TsF c34.fs) (y:TsS c34.cs),qm lp jn x.1=cb lp jn (cx [] [(134,bL)]) al 4 34 f34 c34 x F y:=fun x F y=>by kernel_rfl
theorem RY:c34.ok prog 34:=Ctr.of_den (ap (b7)) aX (hl:=al) (d:=4) func34 rfl (by decide) (e34 lpK jnK)
def qx (lp:Lp) (_:Jn) (bU:t34) (x0:List Int):Option ((List (ByteArray×Int))×List (ByteArray×(List (ByteArray×Int×Int×Int))×Bool)) :=
 lp (Int×List (ByteArray×Int)×List (ByteArray×List (ByteArray×Int×Int×Int)×Bool)×PUnit) (List (ByteArray×Int)×List (ByteArray×List (ByteArray×Int×Int×Int)×Bool)) (fun (again:Int×List (ByteArray×Int)×List (ByteArray×List (ByteArray×Int×Int×Int)×Bool)×PUnit->Option (List (ByteArray×Int)×List (ByteArray×List (ByteArray×Int×Int×Int)×Bool))) (x:Int×List (ByteArray×Int)×List (ByteArray×List (ByteArray×Int×Int×Int)×Bool)×PUnit) => bif decide (x.1<(↑x0.length:Int)) then bif inB x.1 x0.length then aa (bU 1) fun (t:Int×Int)=>aa (bU 1) fun (t_1:Int×Int)=>bif c7 (List.length x.2.2.1+1) 48 then again (IntKind.wrap .i64 (x.1+1),x.2.1,x.2.2.1++[({ data:=#[114] }++uF [IntKind.wrap IntKind.u8 (IntKind.wrap .i64 (49+x.1))],[({ data:=#[98] },x0.getD x.1.toNat 0,t),({ data:={ toList:=[] } },0,t_1)],false)],PUnit.unit) else none else none else some (x.2.1,x.2.2.1)) (0,[({ data:=#[98] },10)],[],PUnit.unit)
def dR (x0:List Int):Option ((List (ByteArray×Int))×List (ByteArray×(List (ByteArray×Int×Int×Int))×Bool)):=qx lpK jnK bU x0
abbrev t43:=(List Int)->Option ((List (ByteArray×Int))×List (ByteArray×(List (ByteArray×Int×Int×Int))×Bool))
def c43:Ctr:=⟨[(.sl i64)],[],[],.one T25,fun x _ _=>dR x.1⟩
theorem e43 (lp:Lp) (jn:Jn) (bU:t34):∀(x:TsS c43.as) (F:TsF c43.fs) (y:TsS c43.cs),qx lp jn bU x.1=cb lp jn (cx [(34,k34 bU)] [(134,bL)]) al 4 43 f43 c43 x F y:=fun x F y=>by kernel_rfl
theorem TM:c43.ok prog 43:=Ctr.of_den (ap (ah (b7) (by kernel_rfl) RY)) aX (hl:=al) (d:=4) func43 rfl (by decide) (e43 lpK jnK bU)
def qg (_:Lp) (_:Jn) (bC:t12) (aN:t19) (bv:t20) (aW:t21) (bU:t34) (dR:t43):Option Bool :=
 aa (dR [1,1,(-1)]) fun (t:List (ByteArray×Int)×List (ByteArray×List (ByteArray×Int×Int×Int)×Bool))=>aa (aN t) fun (t:List (Int×Int)×Int×PUnit) =>
 let v4:Bool:=decide (t.2.1=0);
 let v5:Bool:=!v4||v4;
 let v6:Bool:=bif v4 then decide ((↑t.1.length:Int)=3) else false;
 let v7:Bool:=!v6||v6;aa (dR [1,1,(-1)]) fun (t:List (ByteArray×Int)×List (ByteArray×List (ByteArray×Int×Int×Int)×Bool))=>aa (aW t) fun (t:List ByteArray×Int×PUnit) =>
 let v10:Bool:=bif v6 then decide (t.2.1=0) else false;
 let v11:Bool:=!v10||v10;
 let v12:Bool:=bif v10 then decide ((↑t.1.length:Int)=0) else false;
 let v13:Bool:=!v12||v12;aa (dR [1,1,(-1)]) fun (t:List (ByteArray×Int)×List (ByteArray×List (ByteArray×Int×Int×Int)×Bool)) => aa (bv t { data:={ toList:=[{ toBitVec:={ toFin:=⟨114,Nat.mod_lt 114 (BitVec.ofNat._proof_1 8)⟩ } },{ toBitVec:={ toFin:=⟨49, Nat.mod_lt 49 (BitVec.ofNat._proof_1 8)⟩ } }] } }) fun (t:(Int×Int)×Int×PUnit) =>
 let v16:Bool:=bif v12 then decide (t.2.1=0) else false;
 let v17:Bool:=!v16||v16;aa (dR [(-1)]) fun (t_1:List (ByteArray×Int)×List (ByteArray×List (ByteArray×Int×Int×Int)×Bool))=>aa (bU (1 : Int)) fun (t_2:Int×Int)=>aa (bC t_1 [t_2]) fun (t_3:Bool×Int×PUnit)=>aa (dR [(-1)]) fun (t_4:List (ByteArray×Int)×List (ByteArray × List (ByteArray×Int×Int×Int)×Bool))=>aa (aN t_4) fun (t_5:List (Int×Int)×Int×PUnit)=>bif v5 then bif v5 then bif v5 then bif v7 then bif v7 then bif v11 then bif v11 then bif v11 then bif v13 then bif v13 then aa (bif v16 then bU 0 else some (0,0)) fun (t_6:Int×Int) =>
 let v24:Bool:=bif v16 then decide (t.1.1=t_6.1)&&(decide (t.1.2=t_6.2)&&true) else false;
 let v25:Bool:=bif v24 then decide (t_3.2.1=0) else false;
 let v26:Bool:=bif v25 then t_3.1 else false;
 let v27:Bool:=!v24||v24;
 let v28:Bool:=!v26||v26;bif v17&&v17 then bif v17 then bif v27 then bif v27 then bif !v25||v25 then bif v28 then bif v28 then some (bif v26 then decide (t_5.2.1=(22 : Int)) else false) else none else none else none else none else none else none else none else none else none else none else none else none else none else none else none else none else none
def aP:Option Bool:=qg lpK jnK bC aN bv aW bU dR
abbrev t9:=Option (Bool)
def k9 (aP:t9):Ctr:=⟨[],[],[],.one .bool,fun _ _ _=>aP⟩
def c9:Ctr:=k9 aP
theorem e9 (lp:Lp) (jn:Jn) (bC:t12) (aN:t19) (bv:t20) (aW:t21) (bU:t34) (dR:t43):∀(x:TsS c9.as) (F:TsF c9.fs) (y:TsS c9.cs),qg lp jn bC aN bv aW bU dR=cb lp jn (cx [(43,⟨[(.sl i64)],[],[],.one T25,fun x _ _=>dR x.1⟩),(34,k34 bU),(21,k21 aW),(20,k20 bv),(19,k19 aN),(12,k12 bC)] [(134,bL)]) al 4 9 f9 c9 x F y:=fun x F y=>by kernel_rfl
theorem ok9:c9.ok prog 9:=Ctr.of_den (ap (ah (ah (ah (ah (ah (ah (b7) (by kernel_rfl) R7) (by kernel_rfl) QY) (by kernel_rfl) Qe) (by kernel_rfl) Qi) (by kernel_rfl) RY) (by kernel_rfl) TM)) aX (hl:=al) (d:=4) func9 rfl (by decide) (e9 lpK jnK bC aN bv aW bU dR)
def mD (lp:Lp) (_:Jn) (x0:(List (ByteArray×Int))×List (ByteArray×(List (ByteArray×Int×Int×Int))×Bool)):Option Bool :=
 
 let v3:Bool:=decide ((↑x0.1.length:Int)>9);
 let v4:Bool:=!v3;
 let v5:Bool:=!v4||v4;bif v5 then bif v5 then bif v5 then bif v3||v4 then bif bif v3 then true else decide ((↑x0.2.length:Int)>9) then some false else lp (Int × PUnit) Bool (fun (again:Int×PUnit->Option Bool) (x:Int×PUnit)=>bif decide (x.1<(↑x0.1.length:Int)) then bif inB x.1 x0.1.length then bif decide ((↑(ByteArray.size (x0.1.getD x.1.toNat ({ data:={ toList:=[] } },0)).1):Int)>60) then some false else again (IntKind.wrap .i64 (x.1 + 1),PUnit.unit) else none else lp (Int×PUnit) Bool (fun (again:Int×PUnit->Option Bool) (x:Int×PUnit) =>
 let v10:Bool:=inB x.1 x0.2.length;
 let v11:Bool:=decide ((↑(ByteArray.size (x0.2.getD x.1.toNat ({ data:={ toList:=[] } },[],false)).1):Int)>60);
 let v12:Bool:=!v11;
 let v13:Bool:=!v12;
 let v14:Bool:=v13||v12;bif decide (x.1<(↑x0.2.length:Int)) then bif v10 then bif v14 then bif v14&&(v14&&(v13||v10)) then bif v14 then bif v14 then bif v14 then bif v14 then bif v11||v12 then bif bif v11 then true else decide ((↑(List.length (x0.2.getD x.1.toNat ({ data:={ toList:=[] } },[],false)).2.1):Int) > 13) then some false else lp (Int×PUnit) Bool (fun (again_1:Int×PUnit->Option Bool) (x_1:Int×PUnit)=>bif v10 then bif decide (x_1.1<(↑(List.length (x0.2.getD x.1.toNat ({ data:={ toList:=[] } },[],false)).2.1):Int)) then bif v10 then bif inB x_1.1 (List.length (x0.2.getD x.1.toNat ({ data:={ toList:=[] } },[],false)).2.1) then bif decide ((↑(ByteArray.size (List.getD (x0.2.getD x.1.toNat ({ data:={ toList:=[] } },[],false)).2.1 x_1.1.toNat ({ data:={ toList:=[] } },0,0,0)).1):Int)>60) then some false else again_1 (IntKind.wrap .i64 (x_1.1+1), PUnit.unit) else none else none else again (IntKind.wrap .i64 (x.1+1),PUnit.unit) else none) (0,PUnit.unit) else none else none else none else none else none else none else none else none else some true) (0,PUnit.unit)) (0,PUnit.unit) else none else none else none else none
def eW (x0:(List (ByteArray×Int))×List (ByteArray×(List (ByteArray×Int×Int×Int))×Bool)):Option Bool:=mD lpK jnK x0
abbrev t44:=((List (ByteArray×Int))×List (ByteArray×(List (ByteArray×Int×Int×Int))×Bool))->Option (Bool)
def c44:Ctr:=⟨[T25],[],[],.one .bool,fun x _ _=>eW x.1⟩
theorem e44 (lp:Lp) (jn:Jn):∀(x:TsS c44.as) (F:TsF c44.fs) (y:TsS c44.cs),mD lp jn x.1=cb lp jn (cx [] [(134,bL)]) al 4 44 f44 c44 x F y:=fun x F y=>by kernel_rfl
theorem S8:c44.ok prog 44:=Ctr.of_den (ap (b7)) aX (hl:=al) (d:=4) func44 rfl (by decide) (e44 lpK jnK)
def pb (_:Lp) (_:Jn) (eW:t44) (x0:(List (ByteArray×Int))×List (ByteArray×(List (ByteArray×Int×Int×Int))×Bool)) (x1:List (Int×Int)):Option Bool :=
 aa (eW x0) fun (t:Bool) =>
 let v5:Bool:=!t||t;bif v5 then bif v5 then bif v5 then some (bif t then decide ((↑x1.length:Int)<=10) else false) else none else none else none
def bi (x0:(List (ByteArray×Int))×List (ByteArray×(List (ByteArray×Int×Int×Int))×Bool)) (x1:List (Int×Int)):Option Bool:=pb lpK jnK eW x0 x1
abbrev t10:=((List (ByteArray×Int))×List (ByteArray×(List (ByteArray×Int×Int×Int))×Bool))->(List (Int×Int))->Option (Bool)
def k10 (bi:t10):Ctr:=⟨[T25,(.sl T49)],[],[],.one .bool,fun x _ _=>bi x.1 x.2.1⟩
def c10:Ctr:=k10 bi
theorem e10 (lp:Lp) (jn:Jn) (eW:t44):∀(x:TsS c10.as) (F:TsF c10.fs) (y:TsS c10.cs),pb lp jn eW x.1 x.2.1=cb lp jn (cx [(44,⟨[T25],[],[],.one .bool,fun x _ _=>eW x.1⟩)] [(134,bL)]) al 4 10 f10 c10 x F y:=fun x F y=>by kernel_rfl
theorem Ss:c10.ok prog 10:=Ctr.of_den (ap (ah (b7) (by kernel_rfl) S8)) aX (hl:=al) (d:=4) func10 rfl (by decide) (e10 lpK jnK eW)
def sX (lp:Lp) (_:Jn) (x0:(List (ByteArray×Int))×List (ByteArray×(List (ByteArray×Int×Int×Int))×Bool)) (x1:ByteArray):Option Int :=
 lp (Int×PUnit) Int (fun (again:Int×PUnit->Option Int) (x:Int×PUnit)=>bif decide (x.1<(↑x0.2.length:Int)) then bif inB x.1 x0.2.length then bif List.beq (ByteArray.toList (x0.2.getD x.1.toNat ({ data:={ toList:=[] } },[],false)).1) (ByteArray.toList x1) then some x.1 else again (IntKind.wrap .i64 (x.1+1),PUnit.unit) else none else some (-1)) (0,PUnit.unit)
def cY (x0:(List (ByteArray×Int))×List (ByteArray×(List (ByteArray×Int×Int×Int))×Bool)) (x1:ByteArray):Option Int:=sX lpK jnK x0 x1
abbrev t22:=((List (ByteArray×Int))×List (ByteArray×(List (ByteArray×Int×Int×Int))×Bool))->(ByteArray)->Option (Int)
def k22 (cY:t22):Ctr:=⟨[T25,.str],[],[],.one i64,fun x _ _=>cY x.1 x.2.1⟩
def vM (_:Lp) (_:Jn) (x0:Int):Option Bool :=
 
 let v3:Bool:=decide (x0>=97);
 let v4:Bool:=decide (x0>=65);
 let v5:Bool:=!v3||v3;
 let v6:Bool:=bif v3 then decide (x0<=122) else false;
 let v7:Bool:=!v6;
 let v8:Bool:=!v7;
 let v9:Bool:=v7&&v4;
 let v10:Bool:=v8||v7;bif v5 then bif v5 then bif v10 then bif v10 then bif !v9||v9 then bif (v8||v10)&&(v8||(!v4||(v8||v9))) then bif v6||v7 then some (bif v6 then true else bif v4 then decide (x0<=90) else false) else none else none else none else none else none else none else none
def ig (x0:Int):Option Bool:=vM lpK jnK x0
abbrev t98:=(Int)->Option (Bool)
def wX (_:Lp) (_:Jn) (x0:Int):Option Bool :=
 
 let v3:Bool:=decide (x0>=48);
 let v4:Bool:=!v3||v3;bif v4 then bif v4 then some (bif v3 then decide (x0<=57) else false) else none else none
def oQ (x0:Int):Option Bool:=wX lpK jnK x0
abbrev Tr:=(Int)->Option (Bool)
def Ak (lp:Lp) (_:Jn) (ig:t98) (oQ:Tr) (x0:ByteArray) (x1:Int):Option Int :=
 lp (Int×PUnit) Int (fun (again:Int×PUnit->Option Int) (x:Int×PUnit) =>
 let v6:Bool:=inB x.1 (ByteArray.size x0);
 let v7:Int:=eU x0 x.1.toNat;
 let v8:Bool:=decide (x.1<(↑(ByteArray.size x0):Int));
 let v9:Bool:=!v8;
 let v10:Bool:=v9||v8;
 let v11:Bool:=v9||v10;bif v10&&(v10&&(v9||v6)) then bif v10 then aa (bif v8 then ig v7 else some false) fun (t:Bool) =>
 let v13:Bool:=v8&&!t;
 let v14:Bool:=!v13;
 let v15:Bool:=v14||v13;bif v10 then bif v15&&(v15&&(v14||v6)) then bif v15 then aa (bif v13 then oQ v7 else some false) fun (t_1:Bool) =>
 let v17:Bool:=bif t then true else t_1;
 let v18:Bool:=v8&&!v17;
 let v19:Bool:=!v18;
 let v20:Bool:=v19||v18;bif v11&&(v9||(t||(v9||v13))) then bif v10 then bif v20&&(v20&&(v19||v6)) then bif v20 then bif v11&&(v9||(v17||(v9||v18))) then bif v10 then bif bif v8 then bif v17 then true else decide (v7=95) else false then again (IntKind.wrap .i64 (x.1+1),PUnit.unit) else some x.1 else none else none else none else none else none else none else none else none else none else none else none) (x1,PUnit.unit)
def q9 (x0:ByteArray) (x1:Int):Option Int:=Ak lpK jnK ig oQ x0 x1
abbrev t99:=(ByteArray)->(Int)->Option (Int)
def vU (_:Lp) (_:Jn) (ig:t98) (q9:t99) (x0:ByteArray):Option Bool :=
 
 let v3:Bool:=decide ((↑(ByteArray.size x0):Int)=0);
 let v4:Bool:=!v3;
 let v5:Bool:=!v4||v4;
 let v6:Bool:=bif v3 then true else decide ((↑(ByteArray.size x0):Int)>20);
 let v7:Bool:=!v6;
 let v8:Bool:=!v7;
 let v9:Bool:=v8||v7;bif v5 then bif v5 then bif v3||v4 then bif v9&&(v8||inB 0 (ByteArray.size x0)) then bif v9 then aa (bif v7 then ig (eU x0 (0 : Nat)) else some false) fun (t:Bool)=>bif v9 then bif v6||v7 then bif bif v6 then true else !t then some false else aa (q9 x0 0) fun (t:Int)=>some (decide (t = (↑(ByteArray.size x0):Int))) else none else none else none else none else none else none else none
def k0 (x0:ByteArray):Option Bool:=vU lpK jnK ig q9 x0
abbrev t48:=(ByteArray)->Option (Bool)
def rC (lp:Lp) (_:Jn) (x0:(List (ByteArray×Int))×List (ByteArray×(List (ByteArray×Int×Int×Int))×Bool)) (x1:ByteArray):Option Int :=
 lp (Int×PUnit) Int (fun (again:Int×PUnit->Option Int) (x:Int×PUnit)=>bif decide (x.1<(↑x0.1.length:Int)) then bif inB x.1 x0.1.length then bif List.beq (ByteArray.toList (x0.1.getD x.1.toNat ({ data:={ toList:=[] } },0)).1) (ByteArray.toList x1) then some x.1 else again (IntKind.wrap .i64 (x.1+1),PUnit.unit) else none else some (-1)) (0,PUnit.unit)
def eL (x0:(List (ByteArray×Int))×List (ByteArray×(List (ByteArray×Int×Int×Int))×Bool)) (x1:ByteArray):Option Int:=rC lpK jnK x0 x1
abbrev t49:=((List (ByteArray×Int))×List (ByteArray×(List (ByteArray×Int×Int×Int))×Bool))->(ByteArray)->Option (Int)
def CY (_:Lp) (_:Jn) (x0:Int):Option (Int×Int) :=
 some (x0,1)
def eQ (x0:Int):Option (Int×Int):=CY lpK jnK x0
abbrev t73:=(Int)->Option (Int×Int)
def yE (_:Lp) (_:Jn) (x0:Int×Int):Option (Int×Int) :=
 
 let v3:Int:=2 ^ 1;
 let v4:Bool:=decide ((0:Int)<=1);bif v4 then bif v4 then bif decide ((0:Int)<=63) then some (Int.fdiv x0.1 v3,IntKind.wrap .u64 (Int.fdiv x0.2 v3 + IntKind.wrap .u64 (x0.1*2 ^ 63))) else none else none else none
def jE (x0:Int×Int):Option (Int×Int):=yE lpK jnK x0
abbrev Sk:=(Int×Int)->Option (Int×Int)
def zb (_:Lp) (_:Jn) (x0:Int×Int) (x1:Int×Int):Option Bool :=
 
 let v4:Bool:=decide (x0.1=x1.1);
 let v5:Bool:=decide (x0.1<x1.1);
 let v6:Bool:=!v5;
 let v7:Bool:=!v6;
 let v8:Bool:=v6&&v4;
 let v9:Bool:=v7||v6;
 let v10:Bool:=!v8||v8;bif v9 then bif v9 then bif v9&&v9 then bif v9 then bif v10 then bif v10 then bif v10&&v10 then bif (v7||v9)&&(v7||(!v4||(v7||v8))) then bif v5 || v6 then some (bif v5 then true else bif v4 then decide (x0.2<x1.2) else false) else none else none else none else none else none else none else none else none else none
def eP (x0:Int×Int) (x1:Int×Int):Option Bool:=zb lpK jnK x0 x1
abbrev Np:=(Int×Int)->(Int×Int)->Option (Bool)
def w4 (_:Lp) (_:Jn) (x0:Int×Int) (x1:Int×Int):Option (Int×Int) :=
 
 let v4:Int:=IntKind.wrap .u64 (x0.1 - x1.1);
 let v5:Int:=IntKind.wrap .u64 (x0.2 - x1.2);bif decide (x0.2<x1.2) then some (IntKind.wrap .u64 (v4 - 1),v5) else some (v4,v5)
def eE (x0:Int×Int) (x1:Int×Int):Option (Int×Int):=w4 lpK jnK x0 x1
abbrev O7:=(Int×Int)->(Int×Int)->Option (Int×Int)
def yY (_:Lp) (_:Jn) (x0:Int×Int) (x1:Int×Int):Option (Int×Int) :=
 
 let v4:Int:=IntKind.wrap .u64 (x0.1+x1.1);
 let v5:Int:=IntKind.wrap .u64 (x0.2+x1.2);bif decide (v5<x0.2) then some (IntKind.wrap .u64 (v4+1),v5) else some (v4,v5)
def jG (x0:Int×Int) (x1:Int×Int):Option (Int×Int):=yY lpK jnK x0 x1
abbrev Qv:=(Int×Int)->(Int×Int)->Option (Int×Int)
def BP (lp:Lp) (_:Jn) (jE:Sk) (eP:Np) (eE:O7) (jG:Qv) (x0:Int×Int) (x1:Int×Int):Option (Int×Int) :=
 bif decide (x0.1=0)&&(decide (x0.2=0)&&true) then some x1 else lp (Int×(Int×Int)×(Int×Int)×PUnit) (Int×Int) (fun (again:Int×(Int×Int)×(Int × Int)×PUnit->Option (Int×Int)) (x:Int×(Int×Int)×(Int×Int)×PUnit) =>
 let v6:Bool:=decide (IntKind.wrap .u64 (↑(Nat.land (Int.toNat (x.2.1.2 % Int.ofNat 18446744073709551616)) (Int.toNat (1 % Int.ofNat (18446744073709551616 : Nat)))):Int)=0);
 let v7:Bool:=!v6||v6;bif v7 then bif v7 then bif v7 then bif v7 then bif bif v6 then decide (IntKind.wrap .u64 (↑(Nat.land (Int.toNat (x.2.2.1.2 % Int.ofNat 18446744073709551616)) (Int.toNat (1 % Int.ofNat 18446744073709551616))):Int)=0) else false then aa (jE x.2.1) fun (t:Int×Int) => aa (jE x.2.2.1) fun (t_1:Int×Int)=>again (IntKind.wrap .i64 (x.1+1),t,t_1,PUnit.unit) else lp ((Int×Int)×(Int×Int)×PUnit) (Int × Int) (fun (again:(Int×Int)×(Int×Int)×PUnit->Option (Int×Int)) (x_1:(Int×Int)×(Int×Int)×PUnit) =>
 let v10:(Int×Int)×PUnit:=(x_1.2.1,PUnit.unit);bif !(decide (x_1.1.1=0)&&(decide (x_1.1.2=0)&&true)) then lp ((Int×Int)×PUnit) (Int×Int) (fun (again_1:(Int×Int)×PUnit->Option (Int×Int)) (x:(Int×Int)×PUnit)=>bif decide (IntKind.wrap .u64 (↑(Nat.land (Int.toNat (x.1.2 % Int.ofNat 18446744073709551616)) (Int.toNat (1 % Int.ofNat 18446744073709551616))):Int)=0) then aa (jE x.1) fun (t:Int×Int)=>again_1 (t, PUnit.unit) else lp ((Int×Int)×PUnit) (Int×Int) (fun (again_2:(Int×Int)×PUnit->Option (Int×Int)) (x_2:(Int×Int)×PUnit)=>bif decide (IntKind.wrap .u64 (↑(Nat.land (Int.toNat (x_2.1.2 % Int.ofNat 18446744073709551616)) (Int.toNat (1 % Int.ofNat 18446744073709551616))):Int)=0) then aa (jE x_2.1) fun (t:Int×Int)=>again_2 (t,PUnit.unit) else aa (eP x.1 x_2.1) fun (t:Bool)=>bif t then aa (eE x_2.1 x.1) fun (t:Int × Int)=>again (t,x.1,PUnit.unit) else aa (eE x.1 x_2.1) fun (t:Int×Int)=>again (t,x_2.1,PUnit.unit)) v10) (x_1.1,PUnit.unit) else lp (Int×(Int×Int) × PUnit) (Int×Int) (fun (again:Int×(Int×Int)×PUnit->Option (Int×Int)) (x:Int×(Int×Int)×PUnit)=>bif decide (x.1>0) then aa (jG x.2.1 x.2.1) fun (t:Int×Int)=>again (IntKind.wrap .i64 (x.1 - 1),t,PUnit.unit) else some x.2.1) (x.1,v10)) (x.2.1,x.2.2.1,PUnit.unit) else none else none else none else none) (0,x0,x1,PUnit.unit)
def lj (x0:Int×Int) (x1:Int×Int):Option (Int×Int):=BP lpK jnK jE eP eE jG x0 x1
abbrev QV:=(Int×Int)->(Int×Int)->Option (Int×Int)
def zO (_:Lp) (_:Jn) (x0:Int):Option Int :=
 
 let v3:Int:=IntKind.wrap .u64 x0;bif decide (x0<0) then some (IntKind.wrap .u64 (0 - v3)) else some v3
def bB (x0:Int):Option Int:=zO lpK jnK x0
abbrev Kq:=(Int)->Option (Int)
def wZ (_:Lp) (_:Jn) (lj:QV) (bB:Kq) (x0:Int×Int):Option Bool :=
 
 let v3:Bool:=decide (x0.2<1);
 let v4:Bool:=!v3;
 let v5:Bool:=bif v3 then true else decide (x0.2>1152921504606846976);
 let v6:Bool:=!v4||v4;
 let v7:Bool:=!v5;
 let v8:Bool:=bif v5 then true else decide (x0.1<(-1152921504606846976));
 let v9:Bool:=!v8;
 let v10:Bool:=!v7||v7;
 let v11:Bool:=!v9||v9;bif v6 then bif v6 then bif v3||v4 then bif v10 then bif v10 then bif v5||v7 then bif v11 then bif v11 then bif v8||v9 then bif bif v8 then true else decide (x0.1>1152921504606846976) then some false else aa (bB x0.1) fun (t:Int)=>aa (bB x0.2) fun (t_1:Int)=>aa (lj (0, t) (0,t_1)) fun (t:Int×Int)=>some (decide (t.1=0)&&(decide (t.2=1)&&true)) else none else none else none else none else none else none else none else none else none
def iZ (x0:Int×Int):Option Bool:=wZ lpK jnK lj bB x0
abbrev t52:=(Int×Int)->Option (Bool)
def rJ (_:Lp) (_:Jn) (iZ:t52) (x0:Int×Int):Option Bool :=
 aa (iZ x0) fun (t:Bool) =>
 let v4:Bool:=!t||t;
 let v5:Bool:=bif t then decide (x0.1>=x0.2) else false;
 let v6:Bool:=!v5||v5;bif v4 then bif v4 then bif v4&&v4 then bif v4 then bif v6 then bif v6 then bif v6 then some (bif v5 then decide (x0.1<=100) else false) else none else none else none else none else none else none else none
def kE (x0:Int×Int):Option Bool:=rJ lpK jnK iZ x0
abbrev Sl:=(Int×Int)->Option (Bool)
def yR (_:Lp) (_:Jn) (eL:t49) (eQ:t73) (kE:Sl) (x0:(List (ByteArray×Int))×List (ByteArray×(List (ByteArray×Int×Int×Int))×Bool)) (x1:ByteArray×Int×Int×Int) (x2:Bool):Option Bool :=
 
 let v5:Bool:=!x2||x2;
 let v6:Bool:=decide (x1.2.1=0);
 let v7:Bool:=decide (x1.2.1=1);
 let v8:Bool:=decide (x1.2.1=2);
 let v9:Bool:=!v7;
 let v10:Bool:=!v8;
 let v11:Bool:=bif v8 then true else v6;
 let v12:Bool:=!v9||v9;
 let v13:Bool:=!v10||v10;
 let v14:Bool:=!v11;
 let v15:Bool:=!v14||v14;bif v5 then aa (bif x2 then eQ 1 else some (0,0)) fun (t:Int×Int) =>
 let v17:Bool:=bif x2 then !(decide (x1.2.2.1=t.1)&&(decide (x1.2.2.2=t.2)&&true)) else false;
 let v18:Bool:=!v17;
 let v19:Bool:=!v18||v18;bif v5&&v5 then bif v5 then bif v19 then bif v19 then aa (bif v18 then kE x1.2.2 else some false) fun (t:Bool)=>bif v19 then bif v17||v18 then bif bif v17 then true else !t then some false else bif List.beq (ByteArray.toList x1.1) (ByteArray.toList { data:=#[] }) then some v6 else aa (eL x0 x1.1) fun (t:Int)=>bif decide (t<0) then some false else bif x2 then bif v12 then bif v12 then bif v7||v9 then some (bif v7 then true else decide (x1.2.1=(-1 : Int))) else none else none else none else bif v13 then bif v13 then bif v8||v10 then bif v15 then bif v15 then bif v11||v14 then some (bif v11 then true else decide (x1.2.1 = (-2))) else none else none else none else none else none else none else none else none else none else none else none else none else none
def qC (x0:(List (ByteArray×Int))×List (ByteArray×(List (ByteArray×Int×Int×Int))×Bool)) (x1:ByteArray×Int×Int×Int) (x2:Bool):Option Bool:=yR lpK jnK eL eQ kE x0 x1 x2
abbrev SE:=((List (ByteArray×Int))×List (ByteArray×(List (ByteArray×Int×Int×Int))×Bool))->(ByteArray×Int×Int×Int)->(Bool)->Option (Bool)
def yU (lp:Lp) (_:Jn) (qC:SE) (x0:(List (ByteArray×Int))×List (ByteArray×(List (ByteArray×Int×Int×Int))×Bool)) (x1:ByteArray×(List (ByteArray×Int×Int×Int))×Bool):Option Bool :=
 
 let v4:Bool:=!x1.2.2;
 let v5:Bool:=!v4;
 let v6:Bool:=!v5;
 let v7:Int:=IntKind.wrap .i64 ((↑x1.2.1.length:Int) - 1);
 let v8:Bool:=v6||v5;
 let v9:Bool:=decide ((↑x1.2.1.length:Int)<2);
 let v10:Bool:=!v9;
 let v11:Bool:=!v10||v10;bif v11 then bif v11 then bif v11 then bif v9||v10 then bif bif v9 then true else decide ((↑x1.2.1.length:Int)>10) then some false else lp (Int×PUnit) Bool (fun (again:Int×PUnit->Option Bool) (x:Int×PUnit) =>
 let v14:Bool:=decide (x.1=0);
 let v15:Bool:=!v14;
 let v16:Bool:=!v15||v15;bif decide (x.1<(↑x1.2.1.length:Int)) then bif inB x.1 x1.2.1.length then bif v16 then bif v16 then bif v16 then bif v16 && v16 then bif v14||v15 then aa (qC x0 (x1.2.1.getD x.1.toNat ({ data:={ toList:=[] } },0,0,0)) (bif v14 then true else decide (x.1=v7))) fun (t:Bool)=>bif !t then some false else again (IntKind.wrap .i64 (x.1+1),PUnit.unit) else none else none else none else none else none else none else bif v8 then bif v8 then bif v8 then bif v8 then bif v8&&(v8&&(v6||inB v7 x1.2.1.length)) then bif v8 then bif v8 then bif v8 then bif v4||v5 then some (bif v4 then true else List.beq (ByteArray.toList (x1.2.1.getD v7.toNat ({ data:={ toList:=[] } },0,0,0)).1) (ByteArray.toList { data:=#[] })) else none else none else none else none else none else none else none else none else none) (0,PUnit.unit) else none else none else none else none
def qZ (x0:(List (ByteArray×Int))×List (ByteArray×(List (ByteArray×Int×Int×Int))×Bool)) (x1:ByteArray×(List (ByteArray×Int×Int×Int))×Bool):Option Bool:=yU lpK jnK qC x0 x1
abbrev t50:=((List (ByteArray×Int))×List (ByteArray×(List (ByteArray×Int×Int×Int))×Bool))->(ByteArray×(List (ByteArray×Int×Int×Int))×Bool)->Option (Bool)
def xb (lp:Lp) (_:Jn) (cY:t22) (k0:t48) (eL:t49) (qZ:t50) (x0:(List (ByteArray×Int))×List (ByteArray×(List (ByteArray×Int×Int×Int))×Bool)):Option Bool :=
 
 let v3:Bool:=decide ((↑x0.1.length:Int)<1);
 let v4:Bool:=!v3;
 let v5:Bool:=bif v3 then true else decide ((↑x0.1.length:Int)>6);
 let v6:Bool:=!v4||v4;
 let v7:Bool:=!v5;
 let v8:Bool:=bif v5 then true else decide ((↑x0.2.length:Int)<1);
 let v9:Bool:=!v8;
 let v10:Bool:=!v7||v7;
 let v11:Bool:=!v9||v9;bif v6 then bif v6 then bif v6 then bif v3||v4 then bif v10 then bif v10 then bif v10 then bif v5||v7 then bif v11 then bif v11 then bif v11 then bif v8 || v9 then bif bif v8 then true else decide ((↑x0.2.length:Int)>6) then some false else lp (Int×PUnit) Bool (fun (again:Int×PUnit->Option Bool) (x:Int × PUnit)=>bif decide (x.1<(↑x0.1.length:Int)) then bif inB x.1 x0.1.length then aa (k0 (x0.1.getD x.1.toNat ({ data:={ toList := [] } },0)).1) fun (t:Bool) =>
 let v15:Bool:=!t;
 let v16:Bool:=!v15;
 let v17:Bool:=!v16||v16;
 let v18:Bool:=v17&&v17;bif v17 then bif v18 then aa (bif v16 then eL x0 (x0.1.getD x.1.toNat ({ data:={ toList:=[] } },0)).1 else some 0) fun (t:Int) =>
 let v20:Bool:=bif v15 then true else !decide (t=x.1);
 let v21:Bool:=!v20;
 let v22:Bool:=!v21||v21;
 let v23:Bool:=bif v20 then true else decide ((x0.1.getD x.1.toNat ({ data:={ toList:=[] } },0)).2<0);
 let v24:Bool:=!v23;
 let v25:Bool:=!v24||v24;bif v18 then bif v15||v16 then bif v22 then bif v22 then bif v20||v21 then bif v25 then bif v25 then bif v23||v24 then bif bif v23 then true else decide ((x0.1.getD x.1.toNat ({ data:={ toList:=[] } },0)).2>16777216) then some false else again (IntKind.wrap .i64 (x.1+1), PUnit.unit) else none else none else none else none else none else none else none else none else none else none else none else lp (Int×Int×PUnit) Bool (fun (again:Int×Int × PUnit->Option Bool) (x:Int×Int×PUnit) =>
 let v16:Int×PUnit:=(IntKind.wrap .i64 (x.2.1+1),PUnit.unit);
 let v17:ByteArray×List (ByteArray×Int×Int×Int)×Bool:=x0.2.getD x.2.1.toNat ({ data:={ toList:=[] } },[],false);bif decide (x.2.1<(↑x0.2.length:Int)) then bif inB x.2.1 x0.2.length then aa (k0 v17.1) fun (t:Bool) =>
 let v19:Bool:=!t;
 let v20:Bool:=!v19;
 let v21:Bool:=!v20||v20;
 let v22:Bool:=v21&&v21;bif v21 then bif v22 then aa (bif v20 then cY x0 v17.1 else some 0) fun (t:Int) =>
 let v24:Bool:=bif v19 then true else !decide (t=x.2.1);
 let v25:Bool:=!v24;
 let v26:Bool:=!v25||v25;bif v22 then bif v19||v20 then bif v26 then bif v26&&v26 then aa (bif v25 then eL x0 v17.1 else some 0) fun (t:Int) =>
 let v28:Bool:=bif v24 then true else decide (t>=0);
 let v29:Bool:=!v28;
 let v30:Bool:=!v29||v29;bif v26 then bif v24||v25 then bif v30&&v30 then aa (bif v29 then qZ x0 v17 else some false) fun (t:Bool)=>bif v30 then bif v28||v29 then bif bif v28 then true else !t then some false else bif v17.2.2 then again (IntKind.wrap .i64 (x.1+1),v16) else again (x.1,v16) else none else none else none else none else none else none else none else none else none else none else none else none else some (decide (x.1<=1))) (0,0,PUnit.unit)) (0, PUnit.unit) else none else none else none else none else none else none else none else none else none else none else none else none
def cd (x0:(List (ByteArray×Int))×List (ByteArray×(List (ByteArray×Int×Int×Int))×Bool)):Option Bool:=xb lpK jnK cY k0 eL qZ x0
abbrev t13:=((List (ByteArray×Int))×List (ByteArray×(List (ByteArray×Int×Int×Int))×Bool))->Option (Bool)
def k13 (cd:t13):Ctr:=⟨[T25],[],[],.one .bool,fun x _ _=>cd x.1⟩
def zl (lp:Lp) (_:Jn) (x0:(List Int)×List ((List Int)×Int×Int)) (x1:(List Int)×List ((List Int)×Int×Int)):Option Bool :=
 
 let v4:Bool:=!decide ((↑x0.1.length:Int)=(↑x1.1.length:Int));
 let v5:Bool:=!v4;
 let v6:Bool:=!v5||v5;bif v6 then bif v6 then bif v6 then bif v6 then bif v6&&v6 then bif v4||v5 then bif bif v4 then true else !decide ((↑x0.2.length:Int) = (↑x1.2.length:Int)) then some false else lp (Int×PUnit) Bool (fun (again:Int×PUnit->Option Bool) (x:Int×PUnit)=>bif decide (x.1<(↑x0.1.length : Int)) then bif inB x.1 x0.1.length then bif inB x.1 x1.1.length then bif !decide (x0.1.getD x.1.toNat 0=x1.1.getD x.1.toNat 0) then some false else again (IntKind.wrap .i64 (x.1+1),PUnit.unit) else none else none else lp (Int×PUnit) Bool (fun (again:Int×PUnit->Option Bool) (x:Int×PUnit) =>
 let v11:Bool:=!decide ((x0.2.getD x.1.toNat ([],0,0)).2.1=(x1.2.getD x.1.toNat ([],0,0)).2.1);
 let v12:Bool:=!v11;
 let v13:Bool:=bif v11 then true else !decide ((x0.2.getD x.1.toNat ([],0,0)).2.2=(x1.2.getD x.1.toNat ([],0,(0 : Int))).2.2);
 let v14:Bool:=!v12||v12;
 let v15:Bool:=!v13;
 let v16:Bool:=!v15||v15;bif decide (x.1<(↑x0.2.length:Int)) then bif inB x.1 x0.2.length then bif inB x.1 x1.2.length then bif v14 then bif v14 then bif v14&&v14 then bif v11||v12 then bif v16 then bif v16 then bif v16 then bif v16 then bif v16&&v16 then bif v13||v15 then bif bif v13 then true else !decide ((↑(List.length (x0.2.getD x.1.toNat ([],0,0)).1):Int)=(↑(List.length (x1.2.getD x.1.toNat ([],0,0)).1):Int)) then some false else lp (Int×PUnit) Bool (fun (again_1:Int×PUnit->Option Bool) (x_1:Int×PUnit)=>bif decide (x_1.1<(↑(List.length (x0.2.getD x.1.toNat ([],0,0)).1):Int)) then bif inB x_1.1 (List.length (x0.2.getD x.1.toNat ([],0,0)).1) then bif inB x_1.1 (List.length (x1.2.getD x.1.toNat ([],0,0)).1) then bif !decide (List.getD (x0.2.getD x.1.toNat ([],0,0)).1 x_1.1.toNat 0=List.getD (x1.2.getD x.1.toNat ([],0,0)).1 x_1.1.toNat 0) then some false else again_1 (IntKind.wrap .i64 (x_1.1 + 1),PUnit.unit) else none else none else again (IntKind.wrap .i64 (x.1+1),PUnit.unit)) (0,PUnit.unit) else none else none else none else none else none else none else none else none else none else none else none else none else some true) (0,PUnit.unit)) (0,PUnit.unit) else none else none else none else none else none else none
def iM (x0:(List Int)×List ((List Int)×Int×Int)) (x1:(List Int)×List ((List Int)×Int×Int)):Option Bool:=zl lpK jnK x0 x1
abbrev t14:=((List Int)×List ((List Int)×Int×Int))->((List Int)×List ((List Int)×Int×Int))->Option (Bool)
def y7 (lp:Lp) (_:Jn) (x0:ByteArray×(List (ByteArray×Int×Int×Int))×Bool) (x1:ByteArray):Option Int :=
 lp (Int×Int×PUnit) Int (fun (again:Int×Int×PUnit->Option Int) (x:Int×Int×PUnit) =>
 let v6:Int×PUnit:=(IntKind.wrap .i64 (x.2.1+1),PUnit.unit);
 let v7:Bool:=inB x.2.1 x0.2.1.length;
 let v8:ByteArray×Int×Int×Int:=x0.2.1.getD x.2.1.toNat ({ data:={ toList:=[] } },0,0,0);bif decide (x.2.1<(↑x0.2.1.length:Int)) then bif v7 then bif List.beq (ByteArray.toList v8.1) (ByteArray.toList x1) then bif v7 then again (IntKind.wrap .i64 (x.1+v8.2.1),v6) else none else again (x.1,v6) else none else some x.1) (0,0,PUnit.unit)
def qJ (x0:ByteArray×(List (ByteArray×Int×Int×Int))×Bool) (x1:ByteArray):Option Int:=y7 lpK jnK x0 x1
abbrev Ta:=(ByteArray×(List (ByteArray×Int×Int×Int))×Bool)->(ByteArray)->Option (Int)
def uW (lp:Lp) (_:Jn) (qJ:Ta) (x0:(List (ByteArray×Int))×List (ByteArray×(List (ByteArray×Int×Int×Int))×Bool)):Option (List (List Int)) :=
 lp ((List Nat×List (Option (List Int)))×Int×PUnit) (List (List Int)) (fun (again:(List Nat×List (Option (List Int)))×Int×PUnit->Option (List (List Int))) (x:(List Nat × List (Option (List Int)))×Int×PUnit)=>bif decide (x.2.1<(↑x0.1.length:Int)) then lp (List Int×Int×PUnit) (List (List Int)) (fun (again_1:List Int×Int × PUnit->Option (List (List Int))) (x_1:List Int×Int×PUnit)=>bif decide (x_1.2.1<(↑x0.2.length:Int)) then bif inB x_1.2.1 x0.2.length then bif inB x.2.1 x0.1.length then aa (qJ (x0.2.getD x_1.2.1.toNat ({ data:={ toList:=[] } },[],false)) (x0.1.getD x.2.1.toNat ({ data:={ toList:=[] } },0)).1) fun (t:Int)=>bif c7 (List.length x_1.1+1) 8 then again_1 (x_1.1++[t],IntKind.wrap .i64 (x_1.2.1 + 1),PUnit.unit) else none else none else none else bif c7 (List.length x.1.1+1) 24 then again ((x.1.1++[List.length x.1.2+0], x.1.2++[some x_1.1]),IntKind.wrap .i64 (x.2.1+1),PUnit.unit) else none) ([],0,PUnit.unit) else bif List.all x.1.1 fun (x_1:Nat)=>dM x.1.2 x_1 then some (List.map (fun (x_1:Nat)=>af x.1.2 x_1) x.1.1) else none) (([],[]),0,PUnit.unit)
def ii (x0:(List (ByteArray×Int))×List (ByteArray×(List (ByteArray×Int×Int×Int))×Bool)):Option (List (List Int)):=uW lpK jnK qJ x0
abbrev t51:=((List (ByteArray×Int))×List (ByteArray×(List (ByteArray×Int×Int×Int))×Bool))->Option (List (List Int))
def oj (lp:Lp) (_:Jn) (ii:t51) (x0:(List (ByteArray×Int))×List (ByteArray×(List (ByteArray×Int×Int×Int))×Bool)) (x1:List Int):Option ((List Int)×List ((List Int)×Int×Int)) :=
 aa (ii x0) fun (t:List (List Int))=>lp (Int×List Int×List (List Int×Int×Int)×PUnit) (List Int×List (List Int×Int×Int)) (fun (again:Int×List Int×List (List Int×Int×Int)×PUnit->Option (List Int×List (List Int×Int×Int))) (x:Int×List Int×List (List Int×Int×Int)×PUnit)=>bif decide (x.1<(↑x0.1.length:Int)) then bif inB x.1 t.length then bif inB x.1 x0.1.length then bif c7 (List.length x.2.2.1+1) 40 then again (IntKind.wrap IntKind.i64 (x.1+1),x.2.1,x.2.2.1++[(t.getD x.1.toNat [],3,(x0.1.getD x.1.toNat ({ data:={ toList:=[] } },(0 : Int))).2)],PUnit.unit) else none else none else none else some (x.2.1,x.2.2.1)) (0,x1,[],PUnit.unit)
def aL (x0:(List (ByteArray×Int))×List (ByteArray×(List (ByteArray×Int×Int×Int))×Bool)) (x1:List Int):Option ((List Int)×List ((List Int)×Int×Int)):=oj lpK jnK ii x0 x1
abbrev t15:=((List (ByteArray×Int))×List (ByteArray×(List (ByteArray×Int×Int×Int))×Bool))->(List Int)->Option ((List Int)×List ((List Int)×Int×Int))
def k15 (aL:t15):Ctr:=⟨[T25,(.sl i64)],[],[],.one T32,fun x _ _=>aL x.1 x.2.1⟩
def c15:Ctr:=k15 aL
theorem e15 (lp:Lp) (jn:Jn) (ii:t51):∀(x:TsS c15.as) (F:TsF c15.fs) (y:TsS c15.cs),oj lp jn ii x.1 x.2.1=cb lp jn (cx [(51,⟨[T25],[],[],.one (.sl (.sl i64)),fun x _ _=>ii x.1⟩)] [(134,bL)]) al 4 15 f15 c15 x F y:=fun x F y=>by kernel_rfl
def rz (lp:Lp) (_:Jn) (x0:(List (ByteArray×Int))×List (ByteArray×(List (ByteArray×Int×Int×Int))×Bool)):Option (List Int) :=
 lp (List Int×Int×PUnit) (List Int) (fun (again:List Int×Int×PUnit->Option (List Int)) (x:List Int×Int×PUnit)=>bif decide (x.2.1<(↑x0.2.length:Int)) then bif c7 (List.length x.1+1) 8 then again (x.1++[1],IntKind.wrap .i64 (x.2.1+1),PUnit.unit) else none else some x.1) ([],(0 : Int),PUnit.unit)
def cz (x0:(List (ByteArray×Int))×List (ByteArray×(List (ByteArray×Int×Int×Int))×Bool)):Option (List Int):=rz lpK jnK x0
abbrev t16:=((List (ByteArray×Int))×List (ByteArray×(List (ByteArray×Int×Int×Int))×Bool))->Option (List Int)
def k16 (cz:t16):Ctr:=⟨[T25],[],[],.one (.sl i64),fun x _ _=>cz x.1⟩
def c16:Ctr:=k16 cz
theorem e16 (lp:Lp) (jn:Jn):∀(x:TsS c16.as) (F:TsF c16.fs) (y:TsS c16.cs),rz lp jn x.1=cb lp jn (cx [] [(134,bL)]) al 4 16 f16 c16 x F y:=fun x F y=>by kernel_rfl
def BF (lp:Lp) (_:Jn) (iZ:t52) (x0:List (Int×Int)):Option Bool :=
 lp (Int×PUnit) Bool (fun (again:Int×PUnit->Option Bool) (x:Int×PUnit)=>bif decide (x.1<(↑x0.length:Int)) then bif inB x.1 x0.length then aa (iZ (x0.getD x.1.toNat (0,0))) fun (t:Bool)=>bif !t then some false else again (IntKind.wrap .i64 (x.1+1),PUnit.unit) else none else some true) (0,PUnit.unit)
def jF (x0:List (Int×Int)):Option Bool:=BF lpK jnK iZ x0
abbrev t17:=(List (Int×Int))->Option (Bool)
def c17:Ctr:=⟨[(.sl T49)],[],[],.one .bool,fun x _ _=>jF x.1⟩
def AB (lp:Lp) (_:Jn) (eP:Np) (eE:O7) (x0:Int×Int) (x1:Int×Int):Option ((Int×Int)×(Int×Int)×Unit) :=
 
 let v4:Bool:=nzB x1.2;
 let v5:Int:=2 ^ 63;
 let v6:Int:=2 ^ 1;
 let v7:Bool:=decide (x0.1=0);
 let v8:Bool:=decide ((0:Int)<=63);
 let v9:Bool:=decide ((0:Int)<=1);
 let v10:Bool:=!v7||v7;bif v10 then bif v10 then bif v10 then bif bif v7 then decide (x1.1=0) else false then bif v4 then bif v4 then some ((0,IntKind.wrap IntKind.u64 (Int.tdiv x0.2 x1.2)),(0,Int.tmod x0.2 x1.2),PUnit.unit) else none else none else lp (Int×(Int×Int)×(Int×Int)×(Int×Int)×PUnit) ((Int×Int) × (Int×Int)×PUnit) (fun (again:Int×(Int×Int)×(Int×Int)×(Int×Int)×PUnit->Option ((Int×Int)×(Int×Int)×PUnit)) (x:Int×(Int×Int)×(Int×Int)×(Int × Int)×PUnit) =>
 let v13:Int:=IntKind.wrap .i64 (x.1+1);
 let v14:Int:=IntKind.wrap .u64 (x.2.2.1.2*v6);
 let v15:Int:=IntKind.wrap .u64 (IntKind.wrap .u64 (x.2.2.1.1*v6)+Int.fdiv x.2.2.1.2 v5);
 let v16:Bool:=decide (Int.fdiv x.2.2.2.1.1 v5>0);
 let v17:Bool:=!v16;
 let v18:Int×Int:=(IntKind.wrap .u64 (IntKind.wrap .u64 (x.2.1.1*v6)+Int.fdiv x.2.1.2 v5),IntKind.wrap .u64 (x.2.1.2*v6));
 let v19:Int×Int:=(IntKind.wrap .u64 (IntKind.wrap .u64 (x.2.2.2.1.1*v6)+Int.fdiv x.2.2.2.1.2 v5),IntKind.wrap .u64 (IntKind.wrap IntKind.u64 (x.2.2.2.1.2*v6)+Int.fdiv x.2.1.1 v5));
 let v20:Bool:=!v17||v17;bif decide (x.1<128) then bif v8 then bif v9 then bif v8 then bif v9 then bif v8 then bif v9 then bif v8 then bif v9 then bif v9 then bif v8 then bif v9 then bif v20&&v20 then aa (bif v17 then eP v19 x1 else some false) fun (t:Bool)=>bif v20 then bif v16||v17 then bif bif v16 then true else !t then aa (eE v19 x1) fun (t:Int×Int)=>again (v13,v18,(v15,IntKind.wrap .u64 (v14+1)),t,PUnit.unit) else again (v13,v18,(v15,v14),v19,PUnit.unit) else none else none else none else none else none else none else none else none else none else none else none else none else none else none else some (x.2.2.1,x.2.2.2.1, PUnit.unit)) (0,x0,(0,0),(0,0),PUnit.unit) else none else none else none
def pF (x0:Int×Int) (x1:Int×Int):Option ((Int×Int)×(Int×Int)×Unit):=AB lpK jnK eP eE x0 x1
abbrev Te:=(Int×Int)->(Int×Int)->Option ((Int×Int)×(Int×Int)×Unit)
def Am (_:Lp) (_:Jn) (lj:QV) (pF:Te) (x0:Int×Int) (x1:Bool) (x2:Int×Int):Option ((Int×Int)×Int×Unit) :=
 bif decide (x2.1=0)&&(decide (x2.2=0)&&true) then some ((0,0),16,PUnit.unit) else aa (lj x0 x2) fun (t:Int×Int)=>aa (pF x0 t) fun (t_1:(Int×Int)×(Int×Int)×PUnit) =>
 let v7:Int:=IntKind.wrap .i64 t_1.1.2;
 let v8:Bool:=decide (t_1.1.1>0);
 let v9:Bool:=!v8;
 let v10:Bool:=bif v8 then true else decide (t_1.1.2>1152921504606846976);
 let v11:Bool:=!v9||v9;
 let v12:Bool:=!v10;
 let v13:Bool:=!v12||v12;aa (pF x2 t) fun (t:(Int×Int)×(Int×Int)×PUnit) =>
 let v15:Int:=IntKind.wrap .i64 t.1.2;
 let v16:Bool:=bif v10 then true else decide (t.1.1>0);
 let v17:Bool:=!v16;
 let v18:Bool:=!v17||v17;bif v11 then bif v11 then bif v8||v9 then bif v13 then bif v13 then bif v10||v12 then bif v18 then bif v18 then bif v16||v17 then bif bif v16 then true else decide (t.1.2>1152921504606846976) then some ((0,0),5,PUnit.unit) else bif x1 then some ((IntKind.wrap .i64 (0 - v7), v15),0,PUnit.unit) else some ((v7,v15),0,PUnit.unit) else none else none else none else none else none else none else none else none else none
def fh (x0:Int×Int) (x1:Bool) (x2:Int×Int):Option ((Int×Int)×Int×Unit):=Am lpK jnK lj pF x0 x1 x2
abbrev Oi:=(Int×Int)->(Bool)->(Int×Int)->Option ((Int×Int)×Int×Unit)
def Be (_:Lp) (_:Jn) (x0:Int) (x1:Int):Option (Int×Int) :=
 
 let v4:Int:=2 ^ 32;
 let v5:Int:=Int.fdiv x0 v4;
 let v6:Int:=Int.fdiv x1 v4;
 let v7:Bool:=decide ((0:Int)<=32);
 let v8:Int:=IntKind.wrap .u64 (↑(Nat.land (Int.toNat (x1 % Int.ofNat 18446744073709551616)) (Int.toNat (4294967295 % Int.ofNat 18446744073709551616))) : Int);
 let v9:Int:=IntKind.wrap .u64 (↑(Nat.land (Int.toNat (x0 % Int.ofNat 18446744073709551616)) (Int.toNat (4294967295 % Int.ofNat 18446744073709551616))) : Int);
 let v10:Int:=IntKind.wrap .u64 (v9*v8);
 let v11:Int:=IntKind.wrap .u64 (IntKind.wrap .u64 (v5*v8)+Int.fdiv v10 v4);
 let v12:Int:=IntKind.wrap .u64 (IntKind.wrap .u64 (v9*v6)+IntKind.wrap .u64 (↑(Nat.land (Int.toNat (v11 % Int.ofNat 18446744073709551616)) (Int.toNat (4294967295 % Int.ofNat 18446744073709551616))):Int));bif v7 then bif v7 then bif v7 then bif v7 then bif v7 then bif v7 then some (IntKind.wrap .u64 (IntKind.wrap .u64 (IntKind.wrap .u64 (v5*v6)+Int.fdiv v11 v4)+Int.fdiv v12 v4),IntKind.wrap .u64 (IntKind.wrap .u64 (v12*v4)+IntKind.wrap IntKind.u64 (↑(Nat.land (Int.toNat (v10 % Int.ofNat 18446744073709551616)) (Int.toNat (4294967295 % Int.ofNat 18446744073709551616))):Int))) else none else none else none else none else none else none
def fa (x0:Int) (x1:Int):Option (Int×Int):=Be lpK jnK x0 x1
abbrev Pe:=(Int)->(Int)->Option (Int×Int)
def wY (_:Lp) (_:Jn) (bB:Kq) (fh:Oi) (fa:Pe) (x0:Int×Int) (x1:Int×Int):Option ((Int×Int)×Int×Unit) :=
 aa (bB x0.1) fun (t:Int)=>aa (bB x1.1) fun (t_1:Int)=>aa (fa t t_1) fun (t:Int×Int)=>aa (bB x0.2) fun (t_2:Int)=>aa (bB x1.2) fun (t_3:Int)=>aa (fa t_2 t_3) fun (t_4:Int×Int)=>aa (fh t (!decide (decide (x0.1<0)=decide (x1.1<0))) t_4) fun (t:(Int×Int)×Int×PUnit)=>some (t.1,t.2.1,PUnit.unit)
def oT (x0:Int×Int) (x1:Int×Int):Option ((Int×Int)×Int×Unit):=wY lpK jnK bB fh fa x0 x1
abbrev Tj:=(Int×Int)->(Int×Int)->Option ((Int×Int)×Int×Unit)
def Cv (_:Lp) (_:Jn) (eP:Np) (eE:O7) (jG:Qv) (bB:Kq) (fh:Oi) (fa:Pe) (x0:Int×Int) (x1:Int×Int):Option ((Int×Int)×Int×Unit) :=
 
 let v4:Bool:=decide (x0.1<0);aa (bB x0.1) fun (t:Int)=>aa (bB x1.2) fun (t_1:Int)=>aa (fa t t_1) fun (t:Int×Int)=>aa (bB x1.1) fun (t_2:Int)=>aa (bB x0.2) fun (t_3:Int)=>aa (fa t_2 t_3) fun (t_4:Int×Int)=>aa (bB x0.2) fun (t_5:Int)=>aa (bB x1.2) fun (t_6:Int)=>aa (fa t_5 t_6) fun (t_7:Int×Int)=>bif decide (v4=decide (x1.1<0)) then aa (jG t t_4) fun (t:Int×Int) =>aa (fh t v4 t_7) fun (t:(Int×Int)×Int×PUnit)=>some (t.1,t.2.1,PUnit.unit) else aa (eP t t_4) fun (t_8:Bool)=>bif t_8 then aa (eE t_4 t) fun (t:Int×Int)=>aa (fh t (decide (x1.1<0)) t_7) fun (t:(Int×Int)×Int×PUnit)=>some (t.1,t.2.1,PUnit.unit) else aa (eE t t_4) fun (t:Int×Int)=>aa (fh t v4 t_7) fun (t:(Int×Int)×Int×PUnit)=>some (t.1,t.2.1,PUnit.unit)
def sF (x0:Int×Int) (x1:Int×Int):Option ((Int×Int)×Int×Unit):=Cv lpK jnK eP eE jG bB fh fa x0 x1
abbrev TG:=(Int×Int)->(Int×Int)->Option ((Int×Int)×Int×Unit)
def Ci (lp:Lp) (_:Jn) (eQ:t73) (oT:Tj) (sF:TG) (x0:List Int) (x1:List (Int×Int)):Option ((Int×Int)×Int×Unit) :=
 aa (eQ 0) fun (t:Int×Int)=>lp (Int×(Int×Int)×(Int×Int)×PUnit) ((Int×Int)×Int×PUnit) (fun (again:Int×(Int×Int)×(Int×Int)×PUnit->Option ((Int×Int)×Int×PUnit)) (x:Int×(Int×Int)×(Int×Int)×PUnit)=>bif decide (x.1<(↑x0.length:Int)) then bif inB x.1 x0.length then aa (eQ (x0.getD x.1.toNat 0)) fun (t:Int×Int)=>bif inB x.1 x1.length then aa (oT t (x1.getD x.1.toNat (0,0))) fun (t:(Int×Int)×Int×PUnit)=>bif !decide (t.2.1=0) then some ((0,0),t.2.1,PUnit.unit) else aa (sF x.2.2.1 t.1) fun (t:(Int × Int)×Int×PUnit)=>bif !decide (t.2.1=0) then some ((0,0),t.2.1,PUnit.unit) else again (IntKind.wrap .i64 (x.1+1), x.2.1,t.1,PUnit.unit) else none else none else some (x.2.2.1,0,PUnit.unit)) (0,(0,0),t,PUnit.unit)
def lr (x0:List Int) (x1:List (Int×Int)):Option ((Int×Int)×Int×Unit):=Ci lpK jnK eQ oT sF x0 x1
abbrev t54:=(List Int)->(List (Int×Int))->Option ((Int×Int)×Int×Unit)
def vu (lp:Lp) (_:Jn) (x0:(List Int)×List ((List Int)×Int×Int)) (x1:Int):Option (List Int) :=
 lp (List Int×Int×PUnit) (List Int) (fun (again:List Int×Int×PUnit->Option (List Int)) (x:List Int×Int×PUnit)=>bif decide (x.2.1<(↑x0.2.length:Int)) then bif inB x.2.1 x0.2.length then bif inB x1 (List.length (x0.2.getD x.2.1.toNat ([],0,0)).1) then bif c7 (List.length x.1+(1 : Nat)) 8 then again (x.1++[List.getD (x0.2.getD x.2.1.toNat ([],0,0)).1 x1.toNat 0],IntKind.wrap .i64 (x.2.1 + 1),PUnit.unit) else none else none else none else some x.1) ([],0,PUnit.unit)
def nC (x0:(List Int)×List ((List Int)×Int×Int)) (x1:Int):Option (List Int):=vu lpK jnK x0 x1
abbrev S0:=((List Int)×List ((List Int)×Int×Int))->(Int)->Option (List Int)
def AY (_:Lp) (_:Jn) (eP:Np) (bB:Kq) (fa:Pe) (x0:Int×Int) (x1:Int×Int):Option Int :=
 
 let v4:Bool:=decide (x0.1<0);
 let v5:Bool:=decide (x0.1>=0);
 let v6:Bool:=!v4||v4;
 let v7:Bool:=!v5||v5;aa (bB x0.1) fun (t:Int)=>aa (bB x1.2) fun (t_1:Int)=>aa (fa t t_1) fun (t:Int×Int)=>aa (bB x1.1) fun (t_2:Int)=>aa (bB x0.2) fun (t_3:Int)=>aa (fa t_2 t_3) fun (t_4:Int×Int)=>bif v6 then bif v6 then bif v6 then bif bif v4 then decide (x1.1>=0) else false then some (-1) else bif v7 then bif v7 then bif v7 then bif bif v5 then decide (x1.1<0) else false then some 1 else bif decide (t.1=t_4.1)&&(decide (t.2=t_4.2)&&true) then some 0 else aa (eP t t_4) fun (t:Bool)=>bif decide (t=v5) then some (-1) else some 1 else none else none else none else none else none else none
def lh (x0:Int×Int) (x1:Int×Int):Option Int:=AY lpK jnK eP bB fa x0 x1
abbrev RA:=(Int×Int)->(Int×Int)->Option (Int)
def wW (lp:Lp) (_:Jn) (eQ:t73) (lr:t54) (nC:S0) (lh:RA) (x0:(List Int)×List ((List Int)×Int×Int)) (x1:List (Int×Int)) (x2:List Int):Option (Bool×Int×Unit) :=
 lp (Bool×Int×PUnit) (Bool×Int×PUnit) (fun (again:Bool×Int×PUnit->Option (Bool×Int×PUnit)) (x:Bool×Int×PUnit) =>
 let v7:Bool:=!x.1;
 let v8:Bool:=v7||x.1;bif decide (x.2.1<(↑x2.length:Int)) then aa (nC x0 x.2.1) fun (t:List Int)=>aa (lr t x1) fun (t:(Int×Int) × Int×PUnit)=>bif !decide (t.2.1=0) then some (false,t.2.1,PUnit.unit) else bif v8&&(v8&&(v7||inB x.2.1 x2.length)) then bif v8 then bif v8 then aa (bif x.1 then eQ (x2.getD x.2.1.toNat 0) else some (0,0)) fun (t_1:Int×Int)=>bif v8&&v8 then aa (bif x.1 then lh t.1 t_1 else some 0) fun (t:Int)=>bif v8 then bif v8 then again (bif x.1 then decide (t<=0) else false,IntKind.wrap .i64 (x.2.1+(1 : Int)),PUnit.unit) else none else none else none else none else none else none else some (x.1,0,PUnit.unit)) (true,0,PUnit.unit)
def oW (x0:(List Int)×List ((List Int)×Int×Int)) (x1:List (Int×Int)) (x2:List Int):Option (Bool×Int×Unit):=wW lpK jnK eQ lr nC lh x0 x1 x2
abbrev t53:=((List Int)×List ((List Int)×Int×Int))->(List (Int×Int))->(List Int)->Option (Bool×Int×Unit)
end
end Go.Proofs.YtfknoaclabfdlaaGreat
