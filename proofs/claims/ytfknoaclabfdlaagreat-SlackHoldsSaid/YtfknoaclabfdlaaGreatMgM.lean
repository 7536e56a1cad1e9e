/- r15: the shapes of its types, and the places of its loops. r15: what its functions answer (printed by a program), and that they do. r15: what its functions answer (printed by a program), and that they do; part 2. -/
import Derived.Test.YtfknoaclabfdlaaGreatProg
import Derived.KernelRfl
import Derived.Test.YtfknoaclabfdlaaGreatMgL

namespace Go.Proofs.YtfknoaclabfdlaaGreat
open Tryz Dn Dn.Sh
abbrev i64:Sh:=.int .i64
abbrev T66:Sh:=.agg (.pair .str i64)
abbrev T49:Sh:=.agg (.pair i64 i64)
abbrev MO:Sh:=.agg (.pair .str (.pair i64 T49))
abbrev T75:Sh:=.agg (.pair .str (.pair (.sl MO) .bool))
abbrev T25:Sh:=.agg (.pair (.sl T66) (.sl T75))
abbrev T86:Sh:=.agg (.pair (.sl i64) (.pair i64 i64))
abbrev T32:Sh:=.agg (.pair (.sl i64) (.sl T86))
abbrev T96:Sh:=.agg (.pair T49 (.pair (.sl T49) (.sl T49)))
abbrev l7:Sh:=.agg (.pair (.int .u64) (.int .u64))
abbrev M1:Sh:=.agg i64
abbrev vS:Sh:=.agg (.pair (.int .u64) (.int .u64))
abbrev D9:Sh:=.agg (.pair (.sl (.sl i64)) (.pair i64 (.pair (.sl i64) (.pair (.sl i64) (.pair (.sl i64) (.pair i64 i64))))))
abbrev q5:Sh:=.agg (.pair .bool (.pair (.int .u64) (.int .u64)))
def shs:TypeId→Option Sh
 | 3=>some i64
 | 4=>some .bool
 | 5=>some (.int .u8)
 | 9=>some .str
 | 29=>some (.sl i64)
 | 49=>some T49
 | 66=>some T66
 | 75=>some T75
 | 86=>some T86
 | 134=>some MO
 | _=>none
def Ho:Nat→Option Hd
 | 2=>some ⟨[(3,false,[.d i64])],[],[]⟩
 | _=>none
def GS:Nat→Option Hd
 | 2=>some ⟨[(8,false,[.d i64])],[],[]⟩
 | _=>none
def Ls:Nat→Option Hd
 | 1=>some ⟨[(0,false,[.d (.int .u64)]),(1,false,[.d (.int .u64)])],[],[]⟩
 | _=>none
def GC:Nat→Option Hd
 | 5=>some ⟨[(17,false,[.d i64])],[],[]⟩
 | _=>none
def Kj:Nat→Option Hd
 | 6=>some ⟨[(27,false,[.d i64])],[],[(3,some 0,.x (.map 158 .str .bool))]⟩
 | 13=>some ⟨[(7,false,[.d i64]),(46,false,[.d i64])],[],[(3,some 0,.x (.map 158 .str .bool))]⟩
 | _=>none
def J5:Nat→Option Hd
 | 5=>some ⟨[(20,false,[.d i64])],[],[(4,none,.x (.tab 29 .ref 3 i64))]⟩
 | 10=>some ⟨[(34,false,[.d i64])],[],[(4,none,.x (.tab 29 .ref 3 i64))]⟩
 | 13=>some ⟨[(42,false,[.d i64])],[],[(4,none,.x (.tab 29 .ref 3 i64))]⟩
 | _=>none
def KW:Nat→Option Hd
 | 5=>some ⟨[(4,false,[.row 3 i64]),(13,false,[.d i64])],[],[]⟩
 | _=>none
def Lc:Nat→Option Hd
 | 9=>some ⟨[(34,false,[.d i64])],[(9,[.d (.sl i64),.row 86 T86])],[]⟩
 | _=>none
def KS:Nat→Option Hd
 | 8=>some ⟨[(8,false,[.d i64])],[],[(7,none,.row 3 i64)]⟩
 | _=>none
def JJ:Nat→Option Hd
 | 1000002=>some ⟨[],[],[]⟩
 | 1000005=>some ⟨[],[],[]⟩
 | _=>none
def Gb:Nat→Option Hd
 | 2=>some ⟨[(8,false,[.d i64])],[],[]⟩
 | _=>none
def Jw:Nat→Option Hd
 | 2=>some ⟨[(8,false,[.d i64])],[],[]⟩
 | _=>none
def JT:Nat→Option Hd
 | 2=>some ⟨[(8,false,[.d i64])],[],[]⟩
 | _=>none
def IK:Nat→Option Hd
 | 1000002=>some ⟨[(0,false,[.d (.int .u64)]),(2,false,[.d i64])],[],[]⟩
 | 1000005=>some ⟨[(0,false,[.d (.int .u64)]),(2,false,[.d i64])],[],[]⟩
 | _=>none
def I7:Nat→Option Hd
 | 17=>some ⟨[(15,false,[.d (.int .u64)]),(16,false,[.d (.int .u64)])],[],[]⟩
 | 24=>some ⟨[(16,false,[.d (.int .u64)]),(18,false,[.d (.int .u64)])],[],[]⟩
 | _=>none
def HC:Nat→Option Hd
 | 0=>some ⟨[(15,false,[.d (.int .u64)])],[],[]⟩
 | 2=>some ⟨[(18,false,[.d (.int .u64)])],[],[]⟩
 | 1000002=>some ⟨[],[],[]⟩
 | 1000004=>some ⟨[],[],[]⟩
 | _=>none
def LC:Nat→Option Hd
 | 1000008=>some ⟨[(9,false,[.d .bool])],[(10,[.d l7])],[]⟩
 | 1000010=>some ⟨[(9,false,[.d .bool])],[(10,[.d l7])],[]⟩
 | _=>none
def J9:Nat→Option Hd
 | 3=>some ⟨[(15,false,[.d i64])],[(0,[.d M1]),(6,[.d T49]),(7,[.d T49])],[]⟩
 | _=>none
def Kb:Nat→Option Hd
 | 1000007=>some ⟨[(11,false,[.d i64])],[(10,[.d T49])],[]⟩
 | _=>none
def Kh:Nat→Option Hd
 | 1000009=>some ⟨[],[(6,[.d l7]),(7,[.d l7])],[]⟩
 | _=>none
def GP:Nat→Option Hd
 | 3=>some ⟨[(5,false,[.row 3 i64]),(11,false,[.d i64])],[],[]⟩
 | _=>none
def LJ:Nat→Option Hd
 | 3=>some ⟨[(9,false,[.d .bool]),(14,false,[.d i64])],[(0,[.d M1])],[]⟩
 | _=>none
def KZ:Nat→Option Hd
 | 3=>some ⟨[(3,false,[.row 3 i64]),(9,false,[.d i64])],[],[]⟩
 | _=>none
def Lg:Nat→Option Hd
 | 2=>some ⟨[(10,false,[.d i64])],[],[]⟩
 | _=>none
def Jb:Nat→Option Hd
 | 3=>some ⟨[(5,false,[.d i64]),(14,false,[.d i64])],[],[]⟩
 | _=>none
def Gp:Nat→Option Hd
 | 5=>some ⟨[(3,false,[.d i64]),(4,false,[.d i64])],[],[]⟩
 | _=>none
def Gq:Nat→Option Hd
 | 1000002=>some ⟨[],[],[]⟩
 | _=>none
def IH:Nat→Option Hd
 | 4=>some ⟨[(4,false,[.row 3 i64]),(18,false,[.d i64])],[],[]⟩
 | 10=>some ⟨[(7,false,[.d i64]),(34,false,[.d i64])],[],[]⟩
 | _=>none
def HM:Nat→Option Hd
 | 4=>some ⟨[(5,false,[.d i64]),(24,false,[.d i64])],[],[]⟩
 | 12=>some ⟨[(9,false,[.d i64]),(51,false,[.d i64])],[(46,[.x (.tab 29 .ref 3 i64),.d i64,.row 3 i64,.row 3 i64,.row 3 i64,.d i64,.d i64])],[]⟩
 | 28=>some ⟨[(95,false,[.d i64])],[],[(12,none,.row 3 i64)]⟩
 | _=>none
def Jy:Nat→Option Hd
 | 1000019=>some ⟨[(9,false,[.d i64])],[],[(12,none,.row 3 i64)]⟩
 | 1000022=>some ⟨[(9,false,[.d i64])],[],[(12,none,.row 3 i64)]⟩
 | 1000026=>some ⟨[(13,false,[.d i64])],[],[(12,none,.row 3 i64)]⟩
 | _=>none
def GL:Nat→Option Hd
 | 3=>some ⟨[(5,false,[.d i64]),(13,false,[.d i64])],[],[]⟩
 | _=>none
def Hc:Nat→Option Hd
 | 1000008=>some ⟨[(10,false,[.d .bool])],[(2,[.d q5]),(3,[.d q5])],[]⟩
 | _=>none
def HU:Nat→Option Hd
 | 2=>some ⟨[(29,false,[.d i64])],[],[(0,some 0,.x (.tab 29 .ref 3 i64))]⟩
 | 7=>some ⟨[(43,false,[.d i64])],[],[(0,some 0,.x (.tab 29 .ref 3 i64))]⟩
 | 17=>some ⟨[(98,false,[.d i64])],[],[(0,some 0,.x (.tab 29 .ref 3 i64))]⟩
 | 20=>some ⟨[(104,false,[.d i64])],[],[(0,some 0,.x (.tab 29 .ref 3 i64))]⟩
 | _=>none
def GH:Nat→Option Hd
 | 3=>some ⟨[(5,false,[.d i64]),(14,false,[.d i64])],[],[]⟩
 | _=>none
def HI:Nat→Option Hd
 | 1=>some ⟨[],[(0,[.x (.tab 29 .ref 3 i64),.d i64,.row 3 i64,.row 3 i64,.row 3 i64,.d i64,.d i64])],[]⟩
 | 3=>some ⟨[(3,false,[.d i64]),(4,false,[.d i64])],[],[]⟩
 | 12=>some ⟨[(44,false,[.d i64])],[(0,[.x (.tab 29 .ref 3 i64),.d i64,.row 3 i64,.row 3 i64,.row 3 i64,.d i64,.d i64])],[]⟩
 | 15=>some ⟨[(6,false,[.d i64])],[(0,[.x (.tab 29 .ref 3 i64),.d i64,.row 3 i64,.row 3 i64,.row 3 i64,.d i64,.d i64])],[]⟩
 | _=>none
def It:Nat→Option Hd
 | 3=>some ⟨[(5,false,[.d i64]),(21,false,[.d i64])],[],[]⟩
 | _=>none
def Hz:Nat→Option Hd
 | 1=>some ⟨[],[(0,[.x (.tab 29 .ref 3 i64),.d i64,.row 3 i64,.row 3 i64,.row 3 i64,.d i64,.d i64])],[]⟩
 | 3=>some ⟨[(3,false,[.d i64]),(4,false,[.d i64])],[],[]⟩
 | _=>none
def LF:Nat→Option Hd
 | 14=>some ⟨[(6,false,[.d i64]),(43,false,[.d i64])],[],[(7,none,.row 3 i64)]⟩
 | 22=>some ⟨[(94,false,[.d i64])],[(5,[.d T49,.row 49 T49,.row 49 T49])],[]⟩
 | 27=>some ⟨[(110,false,[.d i64])],[(5,[.d T49,.row 49 T49,.row 49 T49])],[]⟩
 | 31=>some ⟨[(13,false,[.d i64]),(118,false,[.d i64])],[],[]⟩
 | _=>none
def KP:Nat→Option Hd
 | 2=>some ⟨[(8,false,[.d i64])],[],[]⟩
 | _=>none
def JN:Nat→Option Hd
 | 5=>some ⟨[(4,false,[.row 9 .str]),(16,false,[.d i64])],[],[]⟩
 | _=>none
def Km:Nat→Option Hd
 | 3=>some ⟨[(11,false,[.d i64])],[(3,[.d (.sl T66),.row 75 T75])],[]⟩
 | _=>none
def KM:Nat→Option Hd
 | 4=>some ⟨[(3,false,[.d i64])],[],[]⟩
 | 9=>some ⟨[(4,false,[.d i64])],[],[]⟩
 | 14=>some ⟨[(5,false,[.d i64])],[],[]⟩
 | _=>none
def Ly:Nat→Option Hd
 | 2=>some ⟨[(5,false,[.d i64])],[],[]⟩
 | _=>none
def J7:Nat→Option Hd
 | 1=>some ⟨[(1,false,[.d i64])],[],[]⟩
 | _=>none
def Kr:Nat→Option Hd
 | 2=>some ⟨[(5,false,[.d i64])],[],[]⟩
 | _=>none
def Ju:Nat→Option Hd
 | 4=>some ⟨[(5,false,[.d i64])],[(2,[.d vS]),(3,[.d vS])],[]⟩
 | 6=>some ⟨[],[(2,[.d vS]),(3,[.d vS])],[]⟩
 | 7=>some ⟨[],[(2,[.d vS])],[]⟩
 | 9=>some ⟨[],[(3,[.d vS])],[]⟩
 | 14=>some ⟨[(5,false,[.d i64])],[(3,[.d vS])],[]⟩
 | _=>none
def Lb:Nat→Option Hd
 | 4=>some ⟨[(5,false,[.d i64])],[],[]⟩
 | _=>none
def Kk:Nat→Option Hd
 | 4=>some ⟨[(3,false,[.d i64])],[],[]⟩
 | 11=>some ⟨[(5,false,[.d i64]),(6,false,[.d i64])],[],[]⟩
 | _=>none
def KB:Nat→Option Hd
 | 4=>some ⟨[(5,false,[.d i64])],[],[]⟩
 | 9=>some ⟨[(6,false,[.d i64])],[],[]⟩
 | 15=>some ⟨[(9,false,[.d i64])],[],[]⟩
 | _=>none
def GF:Nat→Option Hd
 | 3=>some ⟨[(5,false,[.d i64]),(6,false,[.d i64])],[],[]⟩
 | _=>none
def KL:Nat→Option Hd
 | 3=>some ⟨[(3,false,[.x (.tab 29 .ref 3 i64)]),(4,false,[.d i64])],[],[]⟩
 | 7=>some ⟨[(5,false,[.row 3 i64]),(6,false,[.d i64])],[],[]⟩
 | _=>none
def Kq:Nat→Option Hd
 | 4=>some ⟨[(7,false,[.d i64])],[(5,[.d (.sl i64),.row 86 T86])],[]⟩
 | _=>none
def Ks:Nat→Option Hd
 | 3=>some ⟨[(3,false,[.row 3 i64]),(4,false,[.d i64])],[],[]⟩
 | _=>none
def Kp:Nat→Option Hd
 | 2=>some ⟨[(3,false,[.d i64])],[],[]⟩
 | _=>none
def FJ:Nat→Option Hd
 | 5=>some ⟨[(8,false,[.d i64])],[(2,[.d vS]),(6,[.d vS]),(7,[.d vS])],[]⟩
 | _=>none
def Lw:Nat→Option Hd
 | 3=>some ⟨[(7,false,[.d i64])],[(4,[.d T49]),(6,[.d T49])],[]⟩
 | _=>none
def GI:Nat→Option Hd
 | 3=>some ⟨[(5,false,[.row 3 i64]),(6,false,[.d i64])],[],[]⟩
 | _=>none
def K7:Nat→Option Hd
 | 3=>some ⟨[(8,false,[.d .bool]),(9,false,[.d i64])],[],[]⟩
 | _=>none
def La:Nat→Option Hd
 | 3=>some ⟨[(3,false,[.row 3 i64]),(4,false,[.d i64])],[],[]⟩
 | _=>none
def JW:Nat→Option Hd
 | 2=>some ⟨[(5,false,[.d i64])],[],[]⟩
 | _=>none
def HG:Nat→Option Hd
 | 3=>some ⟨[(3,false,[.d i64]),(4,false,[.d i64])],[],[]⟩
 | 8=>some ⟨[(5,false,[.row 3 i64]),(6,false,[.d i64])],[],[]⟩
 | 12=>some ⟨[(7,false,[.d i64]),(8,false,[.d i64])],[],[]⟩
 | _=>none
def Hr:Nat→Option Hd
 | 3=>some ⟨[(6,false,[.d i64]),(7,false,[.d i64])],[],[]⟩
 | _=>none
def J1:Nat→Option Hd
 | 5=>some ⟨[(6,false,[.d i64]),(7,false,[.d i64])],[],[]⟩
 | _=>none
def F8:Nat→Option Hd
 | 3=>some ⟨[(8,false,[.d i64])],[],[(3,some 0,.x (.tab 29 .ref 3 i64))]⟩
 | 8=>some ⟨[(10,false,[.d i64])],[],[(3,some 0,.x (.tab 29 .ref 3 i64))]⟩
 | _=>none
def K5:Nat→Option Hd
 | 2=>some ⟨[],[(1,[.x (.tab 29 .ref 3 i64),.row 3 i64,.d i64,.d i64]),(2,[.x (.tab 29 .ref 3 i64),.row 3 i64,.d i64,.d i64])],[]⟩
 | 3=>some ⟨[(5,false,[.d i64])],[],[]⟩
 | 9=>some ⟨[(6,false,[.d i64]),(8,false,[.d i64])],[],[]⟩
 | _=>none
def LD:Nat→Option Hd
 | 1=>some ⟨[(4,false,[.d i64])],[],[(0,none,.row 3 i64)]⟩
 | _=>none
def Lt:Nat→Option Hd
 | 5=>some ⟨[(7,false,[.d i64])],[(5,[.x (.tab 29 .ref 3 i64),.row 3 i64,.d i64,.d i64])],[(6,none,.row 3 i64)]⟩
 | 16=>some ⟨[(9,false,[.d i64])],[],[(8,none,.row 3 i64)]⟩
 | 20=>some ⟨[(10,false,[.d i64])],[],[(6,none,.row 3 i64)]⟩
 | _=>none
def Ld:Nat→Option Hd
 | 1000010=>some ⟨[],[],[(8,none,.row 3 i64)]⟩
 | 1000012=>some ⟨[],[],[(8,none,.row 3 i64)]⟩
 | 1000015=>some ⟨[],[],[(8,none,.row 3 i64)]⟩
 | _=>none
def KQ:Nat→Option Hd
 | 2=>some ⟨[(3,false,[.d i64])],[(1,[.x (.tab 29 .ref 3 i64),.row 3 i64,.d i64,.d i64])],[]⟩
 | 6=>some ⟨[(4,false,[.d i64])],[],[]⟩
 | 11=>some ⟨[(5,false,[.d i64])],[],[(1,some 0,.x (.tab 29 .ref 3 i64))]⟩
 | _=>none
def JU:Nat→Option Hd
 | 9=>some ⟨[(9,false,[.d i64])],[],[(4,some 0,.x (.tab 29 .ref 3 i64))]⟩
 | 13=>some ⟨[(10,false,[.d i64]),(11,false,[.d i64])],[],[]⟩
 | _=>none
def LK:Nat→Option Hd
 | 7=>some ⟨[(20,false,[.d i64])],[(2,[.d T49]),(4,[.d T49])],[]⟩
 | _=>none
def JQ:Nat→Option Hd
 | 3=>some ⟨[(4,false,[.row 9 .str]),(5,false,[.d i64])],[],[]⟩
 | _=>none
def LA:Nat→Option Hd
 | 4=>some ⟨[(13,false,[.d i64])],[],[]⟩
 | _=>none
def MV:Nat→Option Hd
 | 1000023=>some ⟨[],[],[]⟩
 | _=>none
def KI:Nat→Option Hd
 | 3=>some ⟨[(4,false,[.d i64])],[(3,[.row 66 T66,.row 75 T75])],[]⟩
 | _=>none
def MS:Nat→Option Hd
 | 7=>some ⟨[(39,false,[.d i64])],[],[]⟩
 | _=>none
def M8:Nat→Option Hd
 | 1000014=>some ⟨[],[],[]⟩
 | _=>none
def KJ:Nat→Option Hd
 | 10=>some ⟨[(5,false,[.row 49 T49]),(20,false,[.d i64])],[],[]⟩
 | _=>none
def KY:Nat→Option Hd
 | 7=>some ⟨[(8,false,[.row 49 T49]),(9,false,[.d i64]),(25,false,[.d i64])],[],[]⟩
 | 11=>some ⟨[(31,false,[.d i64])],[(11,[.d T49])],[]⟩
 | _=>none
def Kz:Nat→Option Hd
 | 2=>some ⟨[(3,false,[.d i64])],[],[]⟩
 | _=>none
def Lx:Nat→Option Hd
 | 2=>some ⟨[(8,false,[.d i64])],[],[]⟩
 | _=>none
def MG:Nat→Option Hd
 | 25=>some ⟨[(123,false,[.d i64])],[],[]⟩
 | _=>none
def M5:Nat→Option Hd
 | 1000020=>some ⟨[],[],[]⟩
 | _=>none
def H5:Nat→Option Hd
 | 2=>some ⟨[(8,false,[.d i64])],[],[]⟩
 | _=>none
def Ha:Nat→Option Hd
 | 1000007=>some ⟨[(12,false,[.d (.int .u64)]),(13,false,[.d (.int .u64)]),(18,false,[.d .bool])],[],[]⟩
 | 1000008=>some ⟨[(12,false,[.d (.int .u64)]),(13,false,[.d (.int .u64)]),(14,false,[.d (.int .u64)]),(15,false,[.d (.int .u64)]),(18,false,[.d .bool])],[],[]⟩
 | _=>none
def H1:Nat→Option Hd
 | 3=>some ⟨[(20,false,[.d i64])],[(5,[.x (.tab 29 .ref 3 i64),.d i64,.row 3 i64,.row 3 i64,.d .bool])],[]⟩
 | 9=>some ⟨[(40,false,[.d i64])],[(5,[.x (.tab 29 .ref 3 i64),.d i64,.row 3 i64,.row 3 i64,.d .bool])],[]⟩
 | 14=>some ⟨[(10,false,[.d i64]),(11,false,[.d i64])],[],[]⟩
 | 19=>some ⟨[(10,false,[.d i64])],[(5,[.x (.tab 29 .ref 3 i64),.d i64,.row 3 i64,.row 3 i64,.d .bool])],[]⟩
 | 26=>some ⟨[(130,false,[.d i64])],[],[(5,some 0,.x (.tab 29 .ref 3 i64))]⟩
 | 31=>some ⟨[(144,false,[.d i64])],[],[(5,some 0,.x (.tab 29 .ref 3 i64))]⟩
 | _=>none
def JI:Nat→Option Hd
 | 10=>some ⟨[(7,false,[.x (.tab 29 .ref 3 i64)]),(37,false,[.d i64])],[],[]⟩
 | 16=>some ⟨[(64,false,[.d i64])],[],[]⟩
 | 25=>some ⟨[(13,false,[.row 49 T49]),(80,false,[.d i64])],[],[]⟩
 | _=>none
def J3:Nat→Option Hd
 | 4=>some ⟨[(13,false,[.d i64])],[],[]⟩
 | _=>none
def MW:Nat→Option Hd
 | 16=>some ⟨[(9,false,[.row 9 .str]),(59,false,[.d i64])],[],[]⟩
 | _=>none
def Mi:Nat→Option Hd
 | 1000019=>some ⟨[(9,false,[.row 9 .str])],[],[]⟩
 | _=>none
def ao:FuncId→Hint
 | 161=>{loop:=Ho}
 | 167=>{loop:=GS}
 | 75=>{loop:=Ls}
 | 117=>{loop:=GC}
 | 59=>{loop:=Kj}
 | 87=>{loop:=J5}
 | 88=>{loop:=KW}
 | 45=>{loop:=Lc}
 | 46=>{loop:=KS,join:=JJ}
 | 173=>{loop:=Gb}
 | 174=>{loop:=Jw}
 | 74=>{loop:=JT}
 | 181=>{join:=IK}
 | 125=>{loop:=I7,join:=HC}
 | 35=>{join:=LC}
 | 95=>{loop:=J9,join:=Kb}
 | 39=>{join:=Kh}
 | 145=>{loop:=GP}
 | 93=>{loop:=LJ}
 | 96=>{loop:=KZ}
 | 97=>{loop:=Lg}
 | 154=>{loop:=Jb}
 | 156=>{loop:=Gp,join:=Gq}
 | 108=>{loop:=IH}
 | 109=>{loop:=HM,join:=Jy}
 | 126=>{loop:=GL}
 | 176=>{join:=Hc}
 | 157=>{loop:=HU}
 | 158=>{loop:=GH}
 | 110=>{loop:=HI}
 | 159=>{loop:=It}
 | 111=>{loop:=Hz}
 | 58=>{loop:=LF}
 | 60=>{loop:=KP}
 | 21=>{loop:=JN}
 | 43=>{loop:=Km}
 | 44=>{loop:=KM}
 | 22=>{loop:=Ly}
 | 99=>{loop:=J7}
 | 49=>{loop:=Kr}
 | 102=>{loop:=Ju}
 | 50=>{loop:=Lb}
 | 13=>{loop:=Kk}
 | 14=>{loop:=KB}
 | 101=>{loop:=GF}
 | 51=>{loop:=KL}
 | 15=>{loop:=Kq}
 | 16=>{loop:=Ks}
 | 17=>{loop:=Kp}
 | 164=>{loop:=FJ}
 | 54=>{loop:=Lw}
 | 104=>{loop:=GI}
 | 53=>{loop:=K7}
 | 55=>{loop:=La}
 | 57=>{loop:=JW}
 | 118=>{loop:=HG}
 | 119=>{loop:=Hr}
 | 63=>{loop:=J1}
 | 120=>{loop:=F8}
 | 66=>{loop:=K5}
 | 69=>{loop:=LD}
 | 67=>{loop:=Lt,join:=Ld}
 | 68=>{loop:=KQ}
 | 26=>{loop:=JU}
 | 27=>{loop:=LK}
 | 28=>{loop:=JQ}
 | 29=>{loop:=LA}
 | 4=>{join:=MV}
 | 31=>{loop:=KI}
 | 5=>{loop:=MS,join:=M8}
 | 83=>{loop:=KJ}
 | 84=>{loop:=KY}
 | 38=>{loop:=Kz}
 | 86=>{loop:=Lx}
 | 7=>{loop:=MG,join:=M5}
 | 182=>{loop:=H5}
 | 172=>{join:=Ha}
 | 135=>{loop:=H1}
 | 89=>{loop:=JI}
 | 42=>{loop:=J3}
 | 8=>{loop:=MW,join:=Mi}
 | _=>{}
def Ao (p : String) : Bool := p == "program.go:104" || p == "ref.go:45"
def Am:TypeId→Option XP
 | 87=>some (.tab 29 .ref 3 i64)
 | 88=>some (.tab 29 .ref 3 i64)
 | _=>none
def uB:List Nat:=[115,174,141,142,93,109,157,110,111,120,66,69,67,68]
def its:List (Nat×ICtr):=[]
theorem O1:JA prog its:=Ei
end Go.Proofs.YtfknoaclabfdlaaGreat

namespace Go.Proofs.YtfknoaclabfdlaaGreat
noncomputable section
open Tryz Dn Dn.Sh
set_option maxRecDepth 100000
theorem aS:prog.follows .mixedOrders=true:=by kernel_rfl
theorem MA:zS prog uB=true:=by kernel_rfl
theorem q0:(jQ prog shs uB its [] []).ok:=D4 MA O1
abbrev cx (l) (r):=xS Am Ao (jQ prog shs uB its l r)
def fX (_:Lp) (_:Jn) (x0:List Int):Option (List Int) :=
 bif dt (0+List.length x0) 8 then some x0 else none
def aX (x0:List Int):Option (List Int):=fX lpK jnK x0
abbrev HE:=(List Int)→Option (List Int)
def MH (aX:HE):RCtr:=⟨[(.sl i64)],3,i64,fun x=>aX x.1⟩
def bH:RCtr:=MH aX
theorem QJ (lp:Lp) (jn:Jn):∀x:TsS bH.as,fX lp jn x.1=Eu lp jn (cx [] []) ao 4 134 f134 bH.t bH.e (zn bH.as x true):=fun x=>by kernel_rfl
theorem NJ:bH.ok prog 134:=RCtr.of_den_nil (c:=bH) (au (q0)) aS (hl:=ao) (d:=4) rfl func134 rfl (by decide) (QJ lpK jnK) fun x h=>by
 obtain ⟨l,u⟩:=x
 simp only at h
 subst h
 kernel_rfl
theorem b6:(jQ prog shs uB its [] [(134,bH)]).ok:=ET q0 (by kernel_rfl) NJ
def jk (_:Lp) (_:Jn) (x0:Int) (x1:Int) (x2:Int):Option Bool :=
 
 let v5:Bool:=decide (x0≥x1);
 let v6:Bool:=!v5||v5;bif v6&&v6 then bif v6 then some (bif v5 then decide (x0≤x2) else false) else none else none
def a7 (x0:Int) (x1:Int) (x2:Int):Option Bool:=jk lpK jnK x0 x1 x2
abbrev Im:=(Int)→(Int)→(Int)→Option (Bool)
def MR (a7:Im):Ctr:=⟨[i64,i64,i64],[],[],.one .bool,fun x _ _=>a7 x.1 x.2.1 x.2.2.1⟩
def Jq:Ctr:=MR a7
theorem P2 (lp:Lp) (jn:Jn):∀(x:TsS Jq.as) (F:TsF Jq.fs) (y:TsS Jq.cs),jk lp jn x.1 x.2.1 x.2.2.1=cd lp jn (cx [] [(134,bH)]) ao 4 114 f114 Jq x F y:=fun x F y=>by kernel_rfl
theorem LQ:Jq.ok prog 114:=Ctr.of_den (au (b6)) aS (hl:=ao) (d:=4) func114 rfl (by decide) (P2 lpK jnK)
def jK (_:Lp) (_:Jn) (x0:Int):Option Bool :=
 
 let v3:Bool:=decide (x0≥97);
 let v4:Bool:=decide (x0≥65);
 let v5:Bool:=!v3||v3;
 let v6:Bool:=bif v3 then decide (x0≤122) else false;
 let v7:Bool:=!v6;
 let v8:Bool:=!v7;
 let v9:Bool:=v7&&v4;
 let v10:Bool:=v8||v7;bif v5 then bif v5 then bif v10 then bif v10 then bif !v9||v9 then bif (v8||v10)&&(v8||(!v4||(v8||v9))) then bif v6||v7 then some (bif v6 then true else bif v4 then decide (x0≤90) else false) else none else none else none else none else none else none else none
def bm (x0:Int):Option Bool:=jK lpK jnK x0
abbrev G6:=(Int)→Option (Bool)
def Nl (bm:G6):Ctr:=⟨[(.int .u8)],[],[],.one .bool,fun x _ _=>bm x.1⟩
def FL:Ctr:=Nl bm
theorem Px (lp:Lp) (jn:Jn):∀(x:TsS FL.as) (F:TsF FL.fs) (y:TsS FL.cs),jK lp jn x.1=cd lp jn (cx [] [(134,bH)]) ao 4 160 f160 FL x F y:=fun x F y=>by kernel_rfl
theorem LU:FL.ok prog 160:=Ctr.of_den (au (b6)) aS (hl:=ao) (d:=4) func160 rfl (by decide) (Px lpK jnK)
def kl (_:Lp) (_:Jn) (x0:Int):Option Bool :=
 
 let v3:Bool:=decide (x0≥48);
 let v4:Bool:=!v3||v3;bif v4 then bif v4 then some (bif v3 then decide (x0≤57) else false) else none else none
def dE (x0:Int):Option Bool:=kl lpK jnK x0
abbrev Oo:=(Int)→Option (Bool)
def IL:Ctr:=⟨[(.int .u8)],[],[],.one .bool,fun x _ _=>dE x.1⟩
theorem PX (lp:Lp) (jn:Jn):∀(x:TsS IL.as) (F:TsF IL.fs) (y:TsS IL.cs),kl lp jn x.1=cd lp jn (cx [] [(134,bH)]) ao 4 179 f179 IL x F y:=fun x F y=>by kernel_rfl
theorem OY:IL.ok prog 179:=Ctr.of_den (au (b6)) aS (hl:=ao) (d:=4) func179 rfl (by decide) (PX lpK jnK)
def lg (lp:Lp) (_:Jn) (bm:G6) (dE:Oo) (x0:ByteArray):Option Int :=
 lp (Int×PUnit) Int (fun (again:Int×PUnit→Option Int) (x:Int×PUnit) =>
 let v5:Bool:=inB x.1 (ByteArray.size x0);
 let v6:Int:=eF x0 x.1.toNat;
 let v7:Bool:=decide (x.1<(↑(ByteArray.size x0):Int));
 let v8:Bool:=!v7;
 let v9:Bool:=v8||v7;
 let v10:Bool:=v8||v9;bif v9&&(v9&&(v8||v5)) then bif v9 then af (bif v7 then bm v6 else some false) fun (t:Bool) =>
 let v12:Bool:=v7&&!t;
 let v13:Bool:=!v12;
 let v14:Bool:=v13||v12;bif v9 then bif v14&&(v14&&(v13||v5)) then bif v14 then af (bif v12 then dE v6 else some false) fun (t_1:Bool) =>
 let v16:Bool:=bif t then true else t_1;
 let v17:Bool:=v7&&!v16;
 let v18:Bool:=!v17;
 let v19:Bool:=v18||v17;bif v10&&(v8||(t||(v8||v12))) then bif v9 then bif v19&&(v19&&(v18||v5)) then bif v19 then bif v10&&(v8||(v16||(v8||v17))) then bif v9 then bif bif v7 then bif v16 then true else decide (v6=95) else false then again (IntKind.wrap .i64 (x.1+1),PUnit.unit) else some x.1 else none else none else none else none else none else none else none else none else none else none else none) (0,PUnit.unit)
def dI (x0:ByteArray):Option Int:=lg lpK jnK bm dE x0
abbrev OP:=(ByteArray)→Option (Int)
def Gu:Ctr:=⟨[.str],[],[],.one i64,fun x _ _=>dI x.1⟩
theorem P8 (lp:Lp) (jn:Jn) (bm:G6) (dE:Oo):∀(x:TsS Gu.as) (F:TsF Gu.fs) (y:TsS Gu.cs),lg lp jn bm dE x.1=cd lp jn (cx [(179,⟨[(.int .u8)],[],[],.one .bool,fun x _ _=>dE x.1⟩),(160,Nl bm)] [(134,bH)]) ao 4 161 f161 Gu x F y:=fun x F y=>by kernel_rfl
theorem N4:Gu.ok prog 161:=Ctr.of_den (au (ai (ai (b6) (by kernel_rfl) LU) (by kernel_rfl) OY)) aS (hl:=ao) (d:=4) func161 rfl (by decide) (P8 lpK jnK bm dE)
def jl (_:Lp) (_:Jn) (bm:G6) (dI:OP) (x0:ByteArray):Option Bool :=
 
 let v3:Bool:=!List.beq (ByteArray.toList x0) (ByteArray.toList { data:=#[] });
 let v4:Bool:=!v3||v3;
 let v5:Bool:=bif v3 then decide ((↑(ByteArray.size x0):Int)≤20) else false;
 let v6:Bool:=!v5;
 let v7:Bool:=v6||v5;bif v4 then bif v4 then bif v4 then bif v7&&(v6||inB 0 (ByteArray.size x0)) then bif v7 then af (bif v5 then bm (eF x0 0) else some false) fun (t:Bool) =>
 let v9:Bool:=bif v5 then t else false;
 let v10:Bool:=!v9||v9;bif v7 then bif v10 then af (bif v9 then dI x0 else some 0) fun (t:Int)=>bif v10 then bif v10&&v10 then bif v10 then some (bif v9 then decide (t=(↑(ByteArray.size x0):Int)) else false) else none else none else none else none else none else none else none else none else none else none
def cG (x0:ByteArray):Option Bool:=jl lpK jnK bm dI x0
abbrev Om:=(ByteArray)→Option (Bool)
def Gd:Ctr:=⟨[.str],[],[],.one .bool,fun x _ _=>cG x.1⟩
theorem QV (lp:Lp) (jn:Jn) (bm:G6) (dI:OP):∀(x:TsS Gd.as) (F:TsF Gd.fs) (y:TsS Gd.cs),jl lp jn bm dI x.1=cd lp jn (cx [(161,⟨[.str],[],[],.one i64,fun x _ _=>dI x.1⟩),(160,Nl bm)] [(134,bH)]) ao 4 116 f116 Gd x F y:=fun x F y=>by kernel_rfl
theorem O8:Gd.ok prog 116:=Ctr.of_den (au (ai (ai (b6) (by kernel_rfl) LU) (by kernel_rfl) N4)) aS (hl:=ao) (d:=4) func116 rfl (by decide) (QV lpK jnK bm dI)
def fS (lp:Lp) (_:Jn) (x0:List (ByteArray×Int)) (f0:(((ByteArray×Int)×Unit)→Option Bool)):Option Int :=
 lp (Int×PUnit) Int (fun (again:Int×PUnit→Option Int) (x:Int×PUnit)=>bif decide (x.1<(↑x0.length:Int)) then bif inB x.1 x0.length then af (f0 (x0.getD x.1.toNat ({ data:={ toList:=[] } },0),PUnit.unit)) fun (t:Bool)=>bif t then some x.1 else again (IntKind.wrap .i64 (x.1+1), PUnit.unit) else none else some (-1)) (0,PUnit.unit)
def bF (x0:List (ByteArray×Int)) (f0:(((ByteArray×Int)×Unit)→Option Bool)):Option Int:=fS lpK jnK x0 f0
abbrev NE:=(List (ByteArray×Int))→((((ByteArray×Int)×Unit)→Option Bool))→Option (Int)
def Pe (bF:NE):Ctr:=⟨[(.sl T66)],[([T66],.bool)],[],.one i64,fun x F _=>bF x.1 F.1⟩
def G1:Ctr:=Pe bF
theorem Q2 (lp:Lp) (jn:Jn):∀(x:TsS G1.as) (F:TsF G1.fs) (y:TsS G1.cs),fS lp jn x.1 F.1=cd lp jn (cx [] [(134,bH)]) ao 4 167 f167 G1 x F y:=fun x F y=>by kernel_rfl
theorem OH:G1.ok prog 167:=Ctr.of_den (au (b6)) aS (hl:=ao) (d:=4) func167 rfl (by decide) (Q2 lpK jnK)
def jC (_:Lp) (_:Jn) (x0:ByteArray×Int) (y0:ByteArray):Option Bool :=
 some (List.beq (ByteArray.toList x0.1) (ByteArray.toList y0))
def dH (x0:ByteArray×Int) (y0:ByteArray):Option Bool:=jC lpK jnK x0 y0
abbrev N5:=(ByteArray×Int)→(ByteArray)→Option (Bool)
def GM:Ctr:=⟨[T66],[],[.str],.one .bool,fun x _ y=>dH x.1 y.1⟩
theorem Qt (lp:Lp) (jn:Jn):∀(x:TsS GM.as) (F:TsF GM.fs) (y:TsS GM.cs),jC lp jn x.1 y.1=cd lp jn (cx [] [(134,bH)]) ao 4 168 f168 GM x F y:=fun x F y=>by kernel_rfl
theorem Pm:GM.ok prog 168:=Ctr.of_den (au (b6)) aS (hl:=ao) (d:=4) func168 rfl (by decide) (Qt lpK jnK)
def ll (_:Lp) (_:Jn) (bF:NE) (dH:N5) (x0:(List (ByteArray×Int))×List (ByteArray×(List (ByteArray×Int×Int×Int))×Bool)) (x1:ByteArray):Option Int :=
 af (bF x0.1 fun (x:(ByteArray×Int)×PUnit)=>dH x.1 x1) fun (t:Int)=>some t
def bK (x0:(List (ByteArray×Int))×List (ByteArray×(List (ByteArray×Int×Int×Int))×Bool)) (x1:ByteArray):Option Int:=ll lpK jnK bF dH x0 x1
abbrev IU:=((List (ByteArray×Int))×List (ByteArray×(List (ByteArray×Int×Int×Int))×Bool))→(ByteArray)→Option (Int)
def Nr (bK:IU):Ctr:=⟨[T25,.str],[],[],.one i64,fun x _ _=>bK x.1 x.2.1⟩
def FY:Ctr:=Nr bK
theorem Qg (lp:Lp) (jn:Jn) (bF:NE) (dH:N5):∀(x:TsS FY.as) (F:TsF FY.fs) (y:TsS FY.cs),ll lp jn bF dH x.1 x.2.1=cd lp jn (cx [(168,⟨[T66],[],[.str],.one .bool,fun x _ y=>dH x.1 y.1⟩),(167,Pe bF)] [(134,bH)]) ao 4 131 f131 FY x F y:=fun x F y=>by kernel_rfl
theorem Mf:FY.ok prog 131:=Ctr.of_den (au (ai (ai (b6) (by kernel_rfl) OH) (by kernel_rfl) Pm)) aS (hl:=ao) (d:=4) func131 rfl (by decide) (Qg lpK jnK bF dH)
def oC (lp:Lp) (_:Jn) (x0:Int) (x1:Int):Option Int :=
 lp (Int×Int×PUnit) Int (fun (again:Int×Int×PUnit→Option Int) (x:Int×Int×PUnit)=>bif !decide (x.2.1=0) then bif nzB x.2.1 then again (x.2.1, Int.tmod x.1 x.2.1,PUnit.unit) else none else some x.1) (x0,x1,PUnit.unit)
def ba (x0:Int) (x1:Int):Option Int:=oC lpK jnK x0 x1
abbrev t75:=(Int)→(Int)→Option (Int)
def k75 (ba:t75):Ctr:=⟨[(.int .u64),(.int .u64)],[],[],.one (.int .u64),fun x _ _=>ba x.1 x.2.1⟩
def c75:Ctr:=k75 ba
theorem e75 (lp:Lp) (jn:Jn):∀(x:TsS c75.as) (F:TsF c75.fs) (y:TsS c75.cs),oC lp jn x.1 x.2.1=cd lp jn (cx [] [(134,bH)]) ao 4 75 f75 c75 x F y:=fun x F y=>by kernel_rfl
theorem KG:c75.ok prog 75:=Ctr.of_den (au (b6)) aS (hl:=ao) (d:=4) func75 rfl (by decide) (e75 lpK jnK)
def ni (_:Lp) (_:Jn) (x0:Int):Option Int :=
 
 let v3:Int:=IntKind.wrap .u64 x0;bif decide (x0<0) then some (IntKind.wrap .u64 (0 - v3)) else some v3
def aB (x0:Int):Option Int:=ni lpK jnK x0
abbrev t77:=(Int)→Option (Int)
def k77 (aB:t77):Ctr:=⟨[i64],[],[],.one (.int .u64),fun x _ _=>aB x.1⟩
def c77:Ctr:=k77 aB
theorem e77 (lp:Lp) (jn:Jn):∀(x:TsS c77.as) (F:TsF c77.fs) (y:TsS c77.cs),ni lp jn x.1=cd lp jn (cx [] [(134,bH)]) ao 4 77 f77 c77 x F y:=fun x F y=>by kernel_rfl
theorem F7:c77.ok prog 77:=Ctr.of_den (au (b6)) aS (hl:=ao) (d:=4) func77 rfl (by decide) (e77 lpK jnK)
def ma (_:Lp) (_:Jn) (ba:t75) (aB:t77) (x0:Int×Int):Option Bool :=
 
 let v3:Bool:=decide (x0.2≥1);
 let v4:Bool:=!v3||v3;
 let v5:Bool:=bif v3 then decide (x0.2≤1152921504606846976) else false;
 let v6:Bool:=bif v5 then decide (x0.1≥(-1152921504606846976)) else false;
 let v7:Bool:=!v5||v5;
 let v8:Bool:=bif v6 then decide (x0.1≤1152921504606846976) else false;
 let v9:Bool:=!v6||v6;
 let v10:Bool:=!v8||v8;bif v4 then bif v4 then bif v4 then bif v7 then bif v7 then bif v7 then bif v9 then bif v9 then bif v9 then bif v10 then bif v10 then af (bif v8 then aB x0.1 else some 0) fun (t:Int)=>bif v10 then bif v10 then bif v10&&v10 then af (bif v8 then ba t (IntKind.wrap .u64 x0.2) else some (0 : Int)) fun (t:Int)=>bif v10 then bif v10 then some (bif v8 then decide (t=1) else false) else none else none else none else none else none else none else none else none else none else none else none else none else none else none else none else none
def ap (x0:Int×Int):Option Bool:=ma lpK jnK ba aB x0
abbrev t72:=(Int×Int)→Option (Bool)
def k72 (ap:t72):Ctr:=⟨[T49],[],[],.one .bool,fun x _ _=>ap x.1⟩
def c72:Ctr:=k72 ap
theorem e72 (lp:Lp) (jn:Jn) (ba:t75) (aB:t77):∀(x:TsS c72.as) (F:TsF c72.fs) (y:TsS c72.cs),ma lp jn ba aB x.1=cd lp jn (cx [(77,k77 aB),(75,k75 ba)] [(134,bH)]) ao 4 72 f72 c72 x F y:=fun x F y=>by kernel_rfl
theorem Cd:c72.ok prog 72:=Ctr.of_den (au (ai (ai (b6) (by kernel_rfl) KG) (by kernel_rfl) F7)) aS (hl:=ao) (d:=4) func72 rfl (by decide) (e72 lpK jnK ba aB)
def kf (_:Lp) (_:Jn) (ap:t72) (x0:Int×Int):Option Bool :=
 af (ap x0) fun (t:Bool) =>
 let v4:Bool:=!t||t;
 let v5:Bool:=bif t then decide (x0.1≥x0.2) else false;
 let v6:Bool:=!v5||v5;bif v4 then bif v4 then bif v4&&v4 then bif v4 then bif v6 then bif v6 then bif v6 then some (bif v5 then decide (x0.1≤100) else false) else none else none else none else none else none else none else none
def dC (x0:Int×Int):Option Bool:=kf lpK jnK ap x0
abbrev NO:=(Int×Int)→Option (Bool)
def Jp:Ctr:=⟨[T49],[],[],.one .bool,fun x _ _=>dC x.1⟩
theorem QI (lp:Lp) (jn:Jn) (ap:t72):∀(x:TsS Jp.as) (F:TsF Jp.fs) (y:TsS Jp.cs),kf lp jn ap x.1=cd lp jn (cx [(72,k72 ap)] [(134,bH)]) ao 4 180 f180 Jp x F y:=fun x F y=>by kernel_rfl
theorem Pq:Jp.ok prog 180:=Ctr.of_den (au (ai (b6) (by kernel_rfl) Cd)) aS (hl:=ao) (d:=4) func180 rfl (by decide) (QI lpK jnK ap)
def lE (_:Lp) (_:Jn) (bK:IU) (dC:NO) (x0:(List (ByteArray×Int))×List (ByteArray×(List (ByteArray×Int×Int×Int))×Bool)) (x1:ByteArray×Int×Int×Int) (x2:Bool):Option Bool :=
 
 let v5:Bool:=!x2;
 let v6:Bool:=v5||x2;
 let v7:Bool:=decide (x1.2.1=0);
 let v8:Bool:=decide (x1.2.1=1);
 let v9:Bool:=decide (x1.2.1=2);
 let v10:Bool:=!v8;
 let v11:Bool:=!v9;
 let v12:Bool:=bif v9 then true else v7;
 let v13:Bool:=!v10||v10;
 let v14:Bool:=!v11||v11;
 let v15:Bool:=!v12;
 let v16:Bool:=bif x2 then !(decide (x1.2.2.1=1)&&(decide (x1.2.2.2=1)&&true)) else false;
 let v17:Bool:=!v16;
 let v18:Bool:=!v17;
 let v19:Bool:=v17&&v5;
 let v20:Bool:=!v15||v15;
 let v21:Bool:=v18||v17;
 let v22:Bool:=!v19||v19;bif v6 then bif v6&&v6 then bif v6 then bif v21 then bif v21 then bif v22 then bif v22 then af (bif v19 then dC x1.2.2 else some false) fun (t:Bool)=>bif v22 then bif (v18||v21)&&(v18||(!v5||(v18||v19))) then bif v16||v17 then bif bif v16 then true else bif v5 then !t else false then some false else bif List.beq (ByteArray.toList x1.1) (ByteArray.toList { data:=#[] }) then some v7 else af (bK x0 x1.1) fun (t:Int)=>bif decide (t<0) then some false else bif x2 then bif v13 then bif v13 then bif v8||v10 then some (bif v8 then true else decide (x1.2.1=(-1))) else none else none else none else bif v14 then bif v14 then bif v9||v11 then bif v20 then bif v20 then bif v12||v15 then some (bif v12 then true else decide (x1.2.1=(-2))) else none else none else none else none else none else none else none else none else none else none else none else none else none else none else none else none
def dl (x0:(List (ByteArray×Int))×List (ByteArray×(List (ByteArray×Int×Int×Int))×Bool)) (x1:ByteArray×Int×Int×Int) (x2:Bool):Option Bool:=lE lpK jnK bK dC x0 x1 x2
abbrev MF:=((List (ByteArray×Int))×List (ByteArray×(List (ByteArray×Int×Int×Int))×Bool))→(ByteArray×Int×Int×Int)→(Bool)→Option (Bool)
def N2 (dl:MF):Ctr:=⟨[T25,MO,.bool],[],[],.one .bool,fun x _ _=>dl x.1 x.2.1 x.2.2.1⟩
def HD:Ctr:=N2 dl
theorem QY (lp:Lp) (jn:Jn) (bK:IU) (dC:NO):∀(x:TsS HD.as) (F:TsF HD.fs) (y:TsS HD.cs),lE lp jn bK dC x.1 x.2.1 x.2.2.1=cd lp jn (cx [(180,⟨[T49],[],[],.one .bool,fun x _ _=>dC x.1⟩),(131,Nr bK)] [(134,bH)]) ao 4 162 f162 HD x F y:=fun x F y=>by kernel_rfl
theorem Pp:HD.ok prog 162:=Ctr.of_den (au (ai (ai (b6) (by kernel_rfl) Mf) (by kernel_rfl) Pq)) aS (hl:=ao) (d:=4) func162 rfl (by decide) (QY lpK jnK bK dC)
def lm (lp:Lp) (_:Jn) (a7:Im) (dl:MF) (x0:(List (ByteArray×Int))×List (ByteArray×(List (ByteArray×Int×Int×Int))×Bool)) (x1:ByteArray×(List (ByteArray×Int×Int×Int))×Bool):Option Bool :=
 
 let v4:Bool:=!x1.2.2;
 let v5:Bool:=!v4;
 let v6:Bool:=!v5;
 let v7:Int:=IntKind.wrap .i64 ((↑x1.2.1.length:Int) - 1);
 let v8:Bool:=v6||v5;af (a7 (↑x1.2.1.length:Int) 2 10) fun (t:Bool)=>bif !t then some false else lp (Int×PUnit) Bool (fun (again : Int×PUnit→Option Bool) (x:Int×PUnit) =>
 let v12:Bool:=decide (x.1=0);
 let v13:Bool:=!v12;
 let v14:Bool:=!v13||v13;bif decide (x.1<(↑x1.2.1.length:Int)) then bif inB x.1 x1.2.1.length then bif v14 then bif v14&&v14 then bif v12||v13 then af (dl x0 (x1.2.1.getD x.1.toNat ({ data:={ toList:=[] } },0,0,0)) (bif v12 then true else decide (x.1=v7))) fun (t : Bool)=>bif !t then some false else again (IntKind.wrap .i64 (x.1+1),PUnit.unit) else none else none else none else none else bif v8 then bif v8 then bif v8&&(v8 && (v6||inB v7 x1.2.1.length)) then bif v8 then bif v8 then bif v8 then bif v4||v5 then some (bif v4 then true else List.beq (ByteArray.toList (x1.2.1.getD v7.toNat ({ data:={ toList:=[] } },0,0,0)).1) (ByteArray.toList { data:=#[] })) else none else none else none else none else none else none else none) (0,PUnit.unit)
def dR (x0:(List (ByteArray×Int))×List (ByteArray×(List (ByteArray×Int×Int×Int))×Bool)) (x1:ByteArray×(List (ByteArray×Int×Int×Int))×Bool):Option Bool:=lm lpK jnK a7 dl x0 x1
abbrev Pf:=((List (ByteArray×Int))×List (ByteArray×(List (ByteArray×Int×Int×Int))×Bool))→(ByteArray×(List (ByteArray×Int×Int×Int))×Bool)→Option (Bool)
def Iu:Ctr:=⟨[T25,T75],[],[],.one .bool,fun x _ _=>dR x.1 x.2.1⟩
theorem PY (lp:Lp) (jn:Jn) (a7:Im) (dl:MF):∀(x:TsS Iu.as) (F:TsF Iu.fs) (y:TsS Iu.cs),lm lp jn a7 dl x.1 x.2.1=cd lp jn (cx [(162,N2 dl),(114,MR a7)] [(134,bH)]) ao 4 117 f117 Iu x F y:=fun x F y=>by kernel_rfl
theorem Oe:Iu.ok prog 117:=Ctr.of_den (au (ai (ai (b6) (by kernel_rfl) LQ) (by kernel_rfl) Pp)) aS (hl:=ao) (d:=4) func117 rfl (by decide) (PY lpK jnK a7 dl)
def j8 (lp:Lp) (_:Jn) (a7:Im) (cG:Om) (dR:Pf) (x0:(List (ByteArray×Int))×List (ByteArray×(List (ByteArray×Int×Int×Int))×Bool)):Option Bool :=
 af (a7 (↑x0.1.length:Int) 1 6) fun (t:Bool) =>
 let v4:Bool:=!t;
 let v5:Bool:=!v4;
 let v6:Bool:=!v5||v5;bif v6 then bif v6 then bif v6 then af (bif v5 then a7 (↑x0.2.length:Int) 1 6 else some false) fun (t:Bool)=>bif v6 then bif v4||v5 then bif bif v4 then true else !t then some false else lp (Int×List (ByteArray×Bool)×PUnit) Bool (fun (again:Int×List (ByteArray×Bool)×PUnit→Option Bool) (x:Int×List (ByteArray×Bool)×PUnit) =>
 let v10:ByteArray×Int:=x0.1.getD x.1.toNat ({ data:={ toList:=[] } },0);bif decide (x.1<(↑x0.1.length:Int)) then bif inB x.1 x0.1.length then af (cG v10.1) fun (t:Bool) =>
 let v12:Bool:=!t||t;bif v12&&v12 then bif v12 then bif v12 then bif (!!!bif t then !gL str Sh.bool v10.1 false x.2.1 else false)||!!bif t then !gL str Sh.bool v10.1 false x.2.1 else false then bif (!!!bif t then !gL str Sh.bool v10.1 false x.2.1 else false)||!!bif t then !gL str Sh.bool v10.1 false x.2.1 else false then af (bif !!bif t then !gL str Sh.bool v10.1 false x.2.1 else false then a7 v10.2 0 16777216 else some false) fun (t_1:Bool)=>bif (!!!bif t then !gL str Sh.bool v10.1 false x.2.1 else false)||!!bif t then !gL str Sh.bool v10.1 false x.2.1 else false then bif (!bif t then !gL str Sh.bool v10.1 false x.2.1 else false)||!!bif t then !gL str Sh.bool v10.1 false x.2.1 else false then bif bif !bif t then !gL str Sh.bool v10.1 false x.2.1 else false then true else !t_1 then some false else again (IntKind.wrap .i64 (x.1+1),nH str Sh.bool v10.1 true x.2.1,PUnit.unit) else none else none else none else none else none else none else none else none else lp (Int×Int×List (ByteArray×Bool)×PUnit) Bool (fun (again:Int×Int×List (ByteArray×Bool)×PUnit→Option Bool) (x:Int×Int×List (ByteArray×Bool)×PUnit) =>
 let v13:ByteArray×List (ByteArray×Int×Int×Int)×Bool:=x0.2.getD x.2.1.toNat ({ data:={ toList:=[] } },[],false);bif decide (x.2.1<(↑x0.2.length:Int)) then bif inB x.2.1 x0.2.length then af (cG v13.1) fun (t:Bool) =>
 let v15:Bool:=!t||t;bif v15&&v15 then bif v15 then bif v15 then bif ((!!!bif t then !gL str Sh.bool v13.1 false x.2.2.1 else false)||!!bif t then !gL str Sh.bool v13.1 false x.2.2.1 else false)&&((!!!bif t then !gL str Sh.bool v13.1 false x.2.2.1 else false)||!!bif t then !gL str Sh.bool v13.1 false x.2.2.1 else false) then af (bif !!bif t then !gL str Sh.bool v13.1 false x.2.2.1 else false then dR x0 v13 else some false) fun (t_1:Bool)=>bif (!!!bif t then !gL str Sh.bool v13.1 false x.2.2.1 else false)||!!bif t then !gL str Sh.bool v13.1 false x.2.2.1 else false then bif (!bif t then !gL str Sh.bool v13.1 false x.2.2.1 else false)||!!bif t then !gL str Sh.bool v13.1 false x.2.2.1 else false then bif bif !bif t then !gL str Sh.bool v13.1 false x.2.2.1 else false then true else !t_1 then some false else bif v13.2.2 then again (IntKind.wrap .i64 (x.1+1),IntKind.wrap .i64 (x.2.1+1),nH str Sh.bool v13.1 true x.2.2.1,PUnit.unit) else again (x.1,IntKind.wrap .i64 (x.2.1+1),nH str Sh.bool v13.1 true x.2.2.1,PUnit.unit) else none else none else none else none else none else none else none else some (decide (x.1≤1))) (0,0,x.2.1,PUnit.unit)) (0,[],PUnit.unit) else none else none else none else none else none
def ay (x0:(List (ByteArray×Int))×List (ByteArray×(List (ByteArray×Int×Int×Int))×Bool)):Option Bool:=j8 lpK jnK a7 cG dR x0
abbrev t59:=((List (ByteArray×Int))×List (ByteArray×(List (ByteArray×Int×Int×Int))×Bool))→Option (Bool)
def k59 (ay:t59):Ctr:=⟨[T25],[],[],.one .bool,fun x _ _=>ay x.1⟩
def c59:Ctr:=k59 ay
theorem e59 (lp:Lp) (jn:Jn) (a7:Im) (cG:Om) (dR:Pf):∀(x:TsS c59.as) (F:TsF c59.fs) (y:TsS c59.cs),j8 lp jn a7 cG dR x.1=cd lp jn (cx [(117,⟨[T25,T75],[],[],.one .bool,fun x _ _=>dR x.1 x.2.1⟩),(116,⟨[.str],[],[],.one .bool,fun x _ _=>cG x.1⟩),(114,MR a7)] [(134,bH)]) ao 4 59 f59 c59 x F y:=fun x F y=>by kernel_rfl
theorem Lm:c59.ok prog 59:=Ctr.of_den (au (ai (ai (ai (b6) (by kernel_rfl) LQ) (by kernel_rfl) O8) (by kernel_rfl) Oe)) aS (hl:=ao) (d:=4) func59 rfl (by decide) (e59 lpK jnK a7 cG dR)
def mo (lp:Lp) (_:Jn) (bK:IU) (ay:t59) (x0:(List (ByteArray×Int))×List (ByteArray×(List (ByteArray×Int×Int×Int))×Bool)):Option ((List (List Int))×Int×Unit) :=
 af (ay x0) fun (t:Bool)=>bif !t then some ([],1,PUnit.unit) else bif decide (0≤(↑x0.1.length:Int))&&dt (Int.toNat (↑x0.1.length : Int)) 24 then lp (Int×(List Nat×List (Option (List Int)))×PUnit) (List (List Int)×Int×PUnit) (fun (again:Int×(List Nat×List (Option (List Int)))×PUnit → Option (List (List Int)×Int×PUnit)) (x:Int×(List Nat×List (Option (List Int)))×PUnit)=>bif decide (x.1<(↑(List.length (Nat.brecOn (motive:=fun (x:Nat)=>Nat→List Nat) (Int.toNat (↑x0.1.length:Int)) (fun (x:Nat) (f:Nat.below (motive:=fun (x:Nat)=>Nat→List (T ref)) x) (x_1:Nat)=>(match (motive:=(x:Nat)→Nat→Nat.below (motive:=fun (x:Nat)=>Nat→List (T ref)) x→List Nat) x,x_1 with | 0,x=>fun (_:PUnit)=>[] | Nat.succ n,k=>fun (x:(Nat→List Nat) ×' Nat.rec PUnit (fun (n:Nat) (n_ih:Type)=>(fun (x:Nat)=>Nat→List (T ref)) n ×' n_ih) n)=>(k+0) ::x.1 (k+1)) f) 0)):Int)) then bif decide (0 ≤ (↑x0.2.length:Int))&&dt (Int.toNat (↑x0.2.length:Int)) 8 then bif inB x.1 x.2.1.1.length then bif Nat.ble (Nat.succ x.1.toNat) x.2.1.1.length then again (IntKind.wrap .i64 (x.1+1),(x.2.1.1.set x.1.toNat x.2.1.2.length,x.2.1.2++[some (List.replicate (Int.toNat (↑x0.2.length:Int)) 0)]),PUnit.unit) else none else none else none else lp (Int×(List Nat×List (Option (List Int)))×PUnit) (List (List Int)×Int×PUnit) (fun (again:Int×(List Nat×List (Option (List Int)))×PUnit→Option (List (List Int)×Int×PUnit)) (x:Int×(List Nat×List (Option (List Int))) × PUnit)=>bif decide (x.1<(↑x0.2.length:Int)) then bif inB x.1 x0.2.length then lp (Int×(List Nat×List (Option (List Int)))×PUnit) (List (List Int)×Int × PUnit) (fun (again_1:Int×(List Nat×List (Option (List Int)))×PUnit→Option (List (List Int)×Int×PUnit)) (x_1:Int×(List Nat×List (Option (List Int)))×PUnit) =>
 let v10:Int:=IntKind.wrap .i64 (x_1.1+1);
 let v11:(List Nat×List (Option (List Int)))×PUnit:=(x_1.2.1,PUnit.unit);
 let v12:ByteArray×Int×Int×Int:=List.getD (x0.2.getD x.1.toNat ({ data:={ toList:=[] } },[],false)).2.1 x_1.1.toNat ({ data:={ toList:=[] } },0,0,0);bif decide (x_1.1<(↑(List.length (x0.2.getD x.1.toNat ({ data:={ toList:=[] } },[],false)).2.1):Int)) then bif inB x_1.1 (List.length (x0.2.getD x.1.toNat ({ data:={ toList:=[] } },[],false)).2.1) then af (bK x0 v12.1) fun (t:Int)=>bif decide (t≥(0 : Int)) then bif inB t x_1.2.1.1.length then bif Nat.ble (Nat.succ t.toNat) x_1.2.1.1.length then bif inB x.1 (List.length (ah x_1.2.1.2 (x_1.2.1.1.getD t.toNat 0))) then bif Nat.ble (Nat.succ x.1.toNat) (List.length (ah x_1.2.1.2 (x_1.2.1.1.getD t.toNat (0 : Nat)))) then bif inB x.1 (List.length (ah x_1.2.1.2 (x_1.2.1.1.getD t.toNat 0))) then bif Nat.ble (Nat.succ x.1.toNat) (List.length (ah x_1.2.1.2 (x_1.2.1.1.getD t.toNat 0))) then again_1 (v10,(x_1.2.1.1,x_1.2.1.2.set (x_1.2.1.1.getD t.toNat 0) (some (List.set (ah x_1.2.1.2 (x_1.2.1.1.getD t.toNat 0)) x.1.toNat (IntKind.wrap .i64 (List.getD (ah x_1.2.1.2 (x_1.2.1.1.getD t.toNat 0)) x.1.toNat 0+v12.2.1))))),PUnit.unit) else none else none else none else none else none else none else again_1 (v10,v11) else none else again (IntKind.wrap .i64 (x.1+1),v11)) (0,x.2.1,PUnit.unit) else none else bif List.all x.2.1.1 fun (x_1:Nat)=>eC x.2.1.2 x_1 then some (List.map (fun (x_1:Nat)=>ah x.2.1.2 x_1) x.2.1.1,0,PUnit.unit) else none) (0,x.2.1,PUnit.unit)) (0, (Nat.brecOn (motive:=fun (x:Nat)=>Nat→List Nat) (Int.toNat (↑x0.1.length:Int)) (fun (x:Nat) (f:Nat.below (motive:=fun (x:Nat)=>Nat→List (T ref)) x) (x_1:Nat)=>(match (motive:=(x:Nat)→Nat→Nat.below (motive:=fun (x:Nat)=>Nat→List (T ref)) x→List Nat) x,x_1 with | 0,x=>fun (_:PUnit)=>[] | Nat.succ n,k=>fun (x:(Nat→List Nat) ×' Nat.rec PUnit (fun (n:Nat) (n_ih:Type)=>(fun (x:Nat)=>Nat→List (T ref)) n ×' n_ih) n)=>(k+0) ::x.1 (k+1)) f) 0,List.replicate (Int.toNat (↑x0.1.length:Int)) (some [])),PUnit.unit) else none
def bn (x0:(List (ByteArray×Int))×List (ByteArray×(List (ByteArray×Int×Int×Int))×Bool)):Option ((List (List Int))×Int×Unit):=mo lpK jnK bK ay x0
abbrev t87:=((List (ByteArray×Int))×List (ByteArray×(List (ByteArray×Int×Int×Int))×Bool))→Option ((List (List Int))×Int×Unit)
def k87 (bn:t87):Ctr:=⟨[T25],[],[],.tup [(.sl (.sl i64)),i64],fun x _ _=>bn x.1⟩
def c87:Ctr:=k87 bn
theorem e87 (lp:Lp) (jn:Jn) (bK:IU) (ay:t59):∀(x:TsS c87.as) (F:TsF c87.fs) (y:TsS c87.cs),mo lp jn bK ay x.1=cd lp jn (cx [(59,k59 ay),(131,Nr bK)] [(134,bH)]) ao 4 87 f87 c87 x F y:=fun x F y=>by kernel_rfl
theorem OI:c87.ok prog 87:=Ctr.of_den (au (ai (ai (b6) (by kernel_rfl) Mf) (by kernel_rfl) Lm)) aS (hl:=ao) (d:=4) func87 rfl (by decide) (e87 lpK jnK bK ay)
def iH (lp:Lp) (_:Jn) (ay:t59) (x0:(List (ByteArray×Int))×List (ByteArray×(List (ByteArray×Int×Int×Int))×Bool)):Option ((List Int)×Int×Unit) :=
 af (ay x0) fun (t:Bool)=>bif !t then some ([],1,PUnit.unit) else lp (List Int×Int×PUnit) (List Int×Int×PUnit) (fun (again:List Int×Int×PUnit → Option (List Int×Int×PUnit)) (x:List Int×Int×PUnit)=>bif decide (x.2.1<(↑x0.1.length:Int)) then bif inB x.2.1 x0.1.length then bif dt (List.length x.1+1) 8 then again (x.1++[(x0.1.getD x.2.1.toNat ({ data:={ toList:=[] } },0)).2],IntKind.wrap .i64 (x.2.1+1),PUnit.unit) else none else none else some (x.1,0,PUnit.unit)) ([],0,PUnit.unit)
def ci (x0:(List (ByteArray×Int))×List (ByteArray×(List (ByteArray×Int×Int×Int))×Bool)):Option ((List Int)×Int×Unit):=iH lpK jnK ay x0
abbrev t88:=((List (ByteArray×Int))×List (ByteArray×(List (ByteArray×Int×Int×Int))×Bool))→Option ((List Int)×Int×Unit)
def k88 (ci:t88):Ctr:=⟨[T25],[],[],.tup [(.sl i64),i64],fun x _ _=>ci x.1⟩
def c88:Ctr:=k88 ci
theorem e88 (lp:Lp) (jn:Jn) (ay:t59):∀(x:TsS c88.as) (F:TsF c88.fs) (y:TsS c88.cs),iH lp jn ay x.1=cd lp jn (cx [(59,k59 ay)] [(134,bH)]) ao 4 88 f88 c88 x F y:=fun x F y=>by kernel_rfl
theorem QC:c88.ok prog 88:=Ctr.of_den (au (ai (b6) (by kernel_rfl) Lm)) aS (hl:=ao) (d:=4) func88 rfl (by decide) (e88 lpK jnK ay)
def kD (lp:Lp) (_:Jn) (bn:t87) (ci:t88) (x0:(List (ByteArray×Int))×List (ByteArray×(List (ByteArray×Int×Int×Int))×Bool)) (x1:List Int):Option (((List Int)×List ((List Int)×Int×Int))×Int×Unit) :=
 af (bn x0) fun (t:List (List Int)×Int×PUnit)=>bif !decide (t.2.1=0) then some (([],[]),t.2.1,PUnit.unit) else af (ci x0) fun (t_1 : List Int×Int×PUnit)=>bif !decide (t_1.2.1=0) then some (([],[]),t_1.2.1,PUnit.unit) else lp (Int×List Int×List (List Int×Int×Int)×PUnit) ((List Int×List (List Int×Int×Int))×Int×PUnit) (fun (again:Int×List Int×List (List Int×Int×Int)×PUnit→Option ((List Int×List (List Int×Int×Int))×Int×PUnit)) (x:Int×List Int×List (List Int×Int×Int)×PUnit)=>bif decide (x.1<(↑t.1.length:Int)) then bif inB x.1 t.1.length then bif inB x.1 t_1.1.length then bif dt (List.length x.2.2.1+1) 40 then again (IntKind.wrap .i64 (x.1+1),x.2.1,x.2.2.1++[(t.1.getD x.1.toNat [],3,t_1.1.getD x.1.toNat 0)],PUnit.unit) else none else none else none else some ((x.2.1,x.2.2.1),0, PUnit.unit)) (0,x1,[],PUnit.unit)
def ce (x0:(List (ByteArray×Int))×List (ByteArray×(List (ByteArray×Int×Int×Int))×Bool)) (x1:List Int):Option (((List Int)×List ((List Int)×Int×Int))×Int×Unit):=kD lpK jnK bn ci x0 x1
abbrev t45:=((List (ByteArray×Int))×List (ByteArray×(List (ByteArray×Int×Int×Int))×Bool))→(List Int)→Option (((List Int)×List ((List Int)×Int×Int))×Int×Unit)
def k45 (ce:t45):Ctr:=⟨[T25,(.sl i64)],[],[],.tup [T32,i64],fun x _ _=>ce x.1 x.2.1⟩
def c45:Ctr:=k45 ce
theorem e45 (lp:Lp) (jn:Jn) (bn:t87) (ci:t88):∀(x:TsS c45.as) (F:TsF c45.fs) (y:TsS c45.cs),kD lp jn bn ci x.1 x.2.1=cd lp jn (cx [(88,k88 ci),(87,k87 bn)] [(134,bH)]) ao 4 45 f45 c45 x F y:=fun x F y=>by kernel_rfl
theorem Ph:c45.ok prog 45:=Ctr.of_den (au (ai (ai (b6) (by kernel_rfl) OI) (by kernel_rfl) QC)) aS (hl:=ao) (d:=4) func45 rfl (by decide) (e45 lpK jnK bn ci)
def mZ (_:Lp) (_:Jn) (x0:Int) (x1:Int):Option (Int×Int×Unit) :=
 
 let v4:Int:=2 ^ 32;
 let v5:Int:=Int.fdiv x0 v4;
 let v6:Int:=Int.fdiv x1 v4;
 let v7:Bool:=decide ((0:Int)≤32);
 let v8:Int:=IntKind.wrap .u64 (↑(Nat.land (Int.toNat (x1 % Int.ofNat 18446744073709551616)) (Int.toNat (4294967295 % Int.ofNat 18446744073709551616))) : Int);
 let v9:Int:=IntKind.wrap .u64 (↑(Nat.land (Int.toNat (x0 % Int.ofNat 18446744073709551616)) (Int.toNat (4294967295 % Int.ofNat 18446744073709551616))) : Int);
 let v10:Int:=IntKind.wrap .u64 (IntKind.wrap .u64 (v5*v8)+Int.fdiv (IntKind.wrap .u64 (v9*v8)) v4);bif v7 then bif v7 then bif v7 then bif v7 then bif v7 then some (IntKind.wrap .u64 (IntKind.wrap .u64 (IntKind.wrap .u64 (v5*v6)+Int.fdiv v10 v4)+Int.fdiv (IntKind.wrap .u64 (IntKind.wrap .u64 (↑(Nat.land (Int.toNat (v10 % Int.ofNat 18446744073709551616)) (Int.toNat (4294967295 % Int.ofNat 18446744073709551616))):Int)+IntKind.wrap .u64 (v9 * v6))) v4),IntKind.wrap .u64 (x0*x1),PUnit.unit) else none else none else none else none else none
def bG (x0:Int) (x1:Int):Option (Int×Int×Unit):=mZ lpK jnK x0 x1
abbrev BR:=(Int)→(Int)→Option (Int×Int×Unit)
def LB (bG:BR):Ctr:=⟨[(.int .u64),(.int .u64)],[],[],.tup [(.int .u64),(.int .u64)],fun x _ _=>bG x.1 x.2.1⟩
def Gh:Ctr:=LB bG
theorem QL (lp:Lp) (jn:Jn):∀(x:TsS Gh.as) (F:TsF Gh.fs) (y:TsS Gh.cs),mZ lp jn x.1 x.2.1=cd lp jn (cx [] [(134,bH)]) ao 4 122 f122 Gh x F y:=fun x F y=>by kernel_rfl
theorem Jh:Gh.ok prog 122:=Ctr.of_den (au (b6)) aS (hl:=ao) (d:=4) func122 rfl (by decide) (QL lpK jnK)
def rb (_:Lp) (_:Jn) (x0:Int) (x1:Int):Option (Int×Int×Unit) :=
 
 let v4:Int:=IntKind.wrap .u64 (IntKind.wrap .u64 x0*IntKind.wrap .u64 x1);bif decide ((0:Int)≤32) then some (IntKind.wrap IntKind.u32 (Int.fdiv v4 (2 ^ 32)),IntKind.wrap IntKind.u32 v4,PUnit.unit) else none
def gA (x0:Int) (x1:Int):Option (Int×Int×Unit):=rb lpK jnK x0 x1
def N0 (gA:(Int)→(Int)→Option (Int×Int×Unit)):Ctr:=⟨[(.int .u32),(.int .u32)],[],[],.tup [(.int .u32),(.int .u32)],fun x _ _=>gA x.1 x.2.1⟩
def I0:Ctr:=N0 gA
theorem PO (lp:Lp) (jn:Jn):∀(x:TsS I0.as) (F:TsF I0.fs) (y:TsS I0.cs),rb lp jn x.1 x.2.1=cd lp jn (cx [] [(134,bH)]) ao 4 137 f137 I0 x F y:=fun x F y=>by kernel_rfl
theorem OQ:I0.ok prog 137:=Ctr.of_den (au (b6)) aS (hl:=ao) (d:=4) func137 rfl (by decide) (PO lpK jnK)
def ql (_:Lp) (_:Jn) (bG:BR) (_:(Int)→(Int)→Option (Int×Int×Unit)) (x0:Int) (x1:Int):Option (Int×Int×Unit) :=
 af (bG x0 x1) fun (t:Int×Int×PUnit)=>some (t.1,t.2.1,PUnit.unit)
def gg (x0:Int) (x1:Int):Option (Int×Int×Unit):=ql lpK jnK bG gA x0 x1
abbrev t90:=(Int)→(Int)→Option (Int×Int×Unit)
def k90 (gg:t90):Ctr:=⟨[(.int .u64),(.int .u64)],[],[],.tup [(.int .u64),(.int .u64)],fun x _ _=>gg x.1 x.2.1⟩
def c90:Ctr:=k90 gg
theorem e90 (lp:Lp) (jn:Jn) (bG:BR) (gA:(Int)→(Int)→Option (Int×Int×Unit)):∀(x:TsS c90.as) (F:TsF c90.fs) (y:TsS c90.cs),ql lp jn bG gA x.1 x.2.1=cd lp jn (cx [(137,N0 gA),(122,LB bG)] [(134,bH)]) ao 4 90 f90 c90 x F y:=fun x F y=>by kernel_rfl
theorem PL:c90.ok prog 90:=Ctr.of_den (au (ai (ai (b6) (by kernel_rfl) Jh) (by kernel_rfl) OQ)) aS (hl:=ao) (d:=4) func90 rfl (by decide) (e90 lpK jnK bG gA)
def ii (lp:Lp) (jn:Jn) (gg:t90) (x0:List Int) (x1:Int):Option (List Int) :=
 jn PUnit (List Int) (fun (_:PUnit)=>af (gg (IntKind.wrap .u64 (↑x0.length:Int)) (IntKind.wrap .u64 x1)) fun (t:Int×Int×PUnit) =>
 let v6:List Int:=List.take (Int.toNat (IntKind.wrap .i64 t.2.1)) x0;
 let v7:List Int:=List.replicate (Int.toNat (IntKind.wrap .i64 t.2.1)) 0;
 let v8:Bool:=decide (t.1>0);
 let v9:Bool:=!v8;bif !v9||v9 then bif v8||v9 then jn PUnit (List Int) (fun (_:PUnit)=>bif decide (0≤IntKind.wrap .i64 t.2.1)&&dt (Int.toNat (IntKind.wrap .i64 t.2.1)) 8 then lp (Int×List Int×PUnit) (List Int) (fun (again:Int×List Int×PUnit→Option (List Int)) (x:Int×List Int×PUnit) =>
 let v13:List Int:=List.take x.1.toNat x.2.1;
 let v14:List Int:=List.take (Int.toNat (↑x.2.1.length:Int) - Int.toNat x.1) (List.drop 0 v13);bif decide (x.1<(↑x.2.1.length:Int)) then bif slB x.1 (↑x.2.1.length:Int) x.2.1.length then bif slB 0 x.1 x.2.1.length then bif Nat.ble x.1.toNat (Int.toNat (↑x.2.1.length:Int))&&(Nat.ble (Int.toNat (↑x.2.1.length:Int)) x.2.1.length&&Nat.ble x.1.toNat x.2.1.length) then again (IntKind.wrap IntKind.i64 (x.1+(↑v14.length:Int)),v13++v14++List.drop (Int.toNat x.1+List.length v14) x.2.1,PUnit.unit) else none else none else none else some x.2.1) ((↑v6.length:Int),List.take 0 v7++v6++List.drop (0+List.length v6) v7,PUnit.unit) else none) fun (j:PUnit→Option (List Int))=>bif bif v8 then true else decide (t.2.1>9223372036854775807) then none else j PUnit.unit else none else none) fun (j:PUnit→Option (List Int))=>bif decide (x1<0) then none else j PUnit.unit
def cb (x0:List Int) (x1:Int):Option (List Int):=ii lpK jnK gg x0 x1
abbrev t46:=(List Int)→(Int)→Option (List Int)
def k46 (cb:t46):Ctr:=⟨[(.sl i64),i64],[],[],.one (.sl i64),fun x _ _=>cb x.1 x.2.1⟩
def c46:Ctr:=k46 cb
theorem e46 (lp:Lp) (jn:Jn) (gg:t90):∀(x:TsS c46.as) (F:TsF c46.fs) (y:TsS c46.cs),ii lp jn gg x.1 x.2.1=cd lp jn (cx [(90,k90 gg)] [(134,bH)]) ao 4 46 f46 c46 x F y:=fun x F y=>by kernel_rfl
theorem PC:c46.ok prog 46:=Ctr.of_den (au (ai (b6) (by kernel_rfl) PL)) aS (hl:=ao) (d:=4) func46 rfl (by decide) (e46 lpK jnK gg)
def hH (_:Lp) (_:Jn) (ce:t45) (cb:t46) (x0:(List (ByteArray×Int))×List (ByteArray×(List (ByteArray×Int×Int×Int))×Bool)):Option (((List Int)×List ((List Int)×Int×Int))×Int×Unit) :=
 af (cb [1] (↑x0.2.length:Int)) fun (t:List Int)=>af (ce x0 t) fun (t:(List Int×List (List Int×Int×Int))×Int×PUnit)=>some (t.1,t.2.1,PUnit.unit)
def ax (x0:(List (ByteArray×Int))×List (ByteArray×(List (ByteArray×Int×Int×Int))×Bool)):Option (((List Int)×List ((List Int)×Int×Int))×Int×Unit):=hH lpK jnK ce cb x0
abbrev t11:=((List (ByteArray×Int))×List (ByteArray×(List (ByteArray×Int×Int×Int))×Bool))→Option (((List Int)×List ((List Int)×Int×Int))×Int×Unit)
def k11 (ax:t11):Ctr:=⟨[T25],[],[],.tup [T32,i64],fun x _ _=>ax x.1⟩
def c11:Ctr:=k11 ax
theorem e11 (lp:Lp) (jn:Jn) (ce:t45) (cb:t46):∀(x:TsS c11.as) (F:TsF c11.fs) (y:TsS c11.cs),hH lp jn ce cb x.1=cd lp jn (cx [(46,k46 cb),(45,k45 ce)] [(134,bH)]) ao 4 11 f11 c11 x F y:=fun x F y=>by kernel_rfl
theorem Ny:c11.ok prog 11:=Ctr.of_den (au (ai (ai (b6) (by kernel_rfl) Ph) (by kernel_rfl) PC)) aS (hl:=ao) (d:=4) func11 rfl (by decide) (e11 lpK jnK ce cb)
def gU (_:Lp) (_:Jn) (x0:Int) (y0:Int):Option Bool :=
 
 let v4:Bool:=decide (x0<IntKind.wrap .i64 (0 - y0));
 let v5:Bool:=!v4;
 let v6:Bool:=!v5||v5;bif v6&&v6 then bif v4||v5 then some (bif v4 then true else decide (x0>y0)) else none else none
def bJ (x0:Int) (y0:Int):Option Bool:=gU lpK jnK x0 y0
abbrev ON:=(Int)→(Int)→Option (Bool)
def IR:Ctr:=⟨[i64],[],[i64],.one .bool,fun x _ y=>bJ x.1 y.1⟩
theorem P4 (lp:Lp) (jn:Jn):∀(x:TsS IR.as) (F:TsF IR.fs) (y:TsS IR.cs),gU lp jn x.1 y.1=cd lp jn (cx [] [(134,bH)]) ao 4 139 f139 IR x F y:=fun x F y=>by kernel_rfl
theorem OL:IR.ok prog 139:=Ctr.of_den (au (b6)) aS (hl:=ao) (d:=4) func139 rfl (by decide) (P4 lpK jnK)
def iZ (_:Lp) (_:Jn) (bJ:ON) (x0:Int):Option ((Int×Unit)→Option Bool) :=
 some fun (x:Int×PUnit)=>bJ x.1 x0
def cz (x0:Int):Option ((Int×Unit)→Option Bool):=iZ lpK jnK bJ x0
abbrev Pb:=(Int)→Option ((Int×Unit)→Option Bool)
def MN:FCtr:=⟨[i64],[i64],.bool,fun x=>cz x.1⟩
theorem Qa (lp:Lp) (jn:Jn) (bJ:ON):∀x:TsS MN.as,iZ lp jn bJ x.1=M4 lp jn (cx [(139,⟨[i64],[],[i64],.one .bool,fun x _ y=>bJ x.1 y.1⟩)] [(134,bH)]) ao 4 138 f138 MN x:=fun x=>by kernel_rfl
theorem MP:MN.ok prog 138:=FCtr.of_den (au (ai (b6) (by kernel_rfl) OL)) aS (hl:=ao) (d:=4) func138 rfl (by decide) (Qa lpK jnK bJ)
def fQ (lp:Lp) (_:Jn) (x0:List Int) (f0:((Int×Unit)→Option Bool)):Option Int :=
 lp (Int×PUnit) Int (fun (again:Int×PUnit→Option Int) (x:Int×PUnit)=>bif decide (x.1<(↑x0.length:Int)) then bif inB x.1 x0.length then af (f0 (x0.getD x.1.toNat 0,PUnit.unit)) fun (t:Bool)=>bif t then some x.1 else again (IntKind.wrap .i64 (x.1+1),PUnit.unit) else none else some (-1)) (0,PUnit.unit)
def bu (x0:List Int) (f0:((Int×Unit)→Option Bool)):Option Int:=fQ lpK jnK x0 f0
abbrev Mr:=(List Int)→(((Int×Unit)→Option Bool))→Option (Int)
def Ou (bu:Mr):Ctr:=⟨[(.sl i64)],[([i64],.bool)],[],.one i64,fun x F _=>bu x.1 F.1⟩
def Gw:Ctr:=Ou bu
theorem PE (lp:Lp) (jn:Jn):∀(x:TsS Gw.as) (F:TsF Gw.fs) (y:TsS Gw.cs),fQ lp jn x.1 F.1=cd lp jn (cx [] [(134,bH)]) ao 4 173 f173 Gw x F y:=fun x F y=>by kernel_rfl
theorem O4:Gw.ok prog 173:=Ctr.of_den (au (b6)) aS (hl:=ao) (d:=4) func173 rfl (by decide) (PE lpK jnK)
def ff (_:Lp) (_:Jn) (bu:Mr) (x0:List Int) (f0:((Int×Unit)→Option Bool)):Option Bool :=
 af (bu x0 f0) fun (t:Int)=>some (decide (t≥0))
def aQ (x0:List Int) (f0:((Int×Unit)→Option Bool)):Option Bool:=ff lpK jnK bu x0 f0
abbrev NN:=(List Int)→(((Int×Unit)→Option Bool))→Option (Bool)
def Oh (aQ:NN):Ctr:=⟨[(.sl i64)],[([i64],.bool)],[],.one .bool,fun x F _=>aQ x.1 F.1⟩
def HW:Ctr:=Oh aQ
theorem Qz (lp:Lp) (jn:Jn) (bu:Mr):∀(x:TsS HW.as) (F:TsF HW.fs) (y:TsS HW.cs),ff lp jn bu x.1 F.1=cd lp jn (cx [(173,Ou bu)] [(134,bH)]) ao 4 140 f140 HW x F y:=fun x F y=>by kernel_rfl
theorem N1:HW.ok prog 140:=Ctr.of_den (au (ai (b6) (by kernel_rfl) O4)) aS (hl:=ao) (d:=4) func140 rfl (by decide) (Qz lpK jnK bu)
def i9 (lp:Lp) (_:Jn) (x0:List ((List Int)×Int×Int)) (f0:((((List Int)×Int×Int)×Unit)→Option Bool)):Option Int :=
 lp (Int×PUnit) Int (fun (again:Int×PUnit→Option Int) (x:Int×PUnit)=>bif decide (x.1<(↑x0.length:Int)) then bif inB x.1 x0.length then af (f0 (x0.getD x.1.toNat ([],0,0),PUnit.unit)) fun (t:Bool)=>bif t then some x.1 else again (IntKind.wrap .i64 (x.1+1),PUnit.unit) else none else some (-1)) (0,PUnit.unit)
def bW (x0:List ((List Int)×Int×Int)) (f0:((((List Int)×Int×Int)×Unit)→Option Bool)):Option Int:=i9 lpK jnK x0 f0
abbrev ND:=(List ((List Int)×Int×Int))→(((((List Int)×Int×Int)×Unit)→Option Bool))→Option (Int)
def O6 (bW:ND):Ctr:=⟨[(.sl T86)],[([T86],.bool)],[],.one i64,fun x F _=>bW x.1 F.1⟩
def Io:Ctr:=O6 bW
theorem QX (lp:Lp) (jn:Jn):∀(x:TsS Io.as) (F:TsF Io.fs) (y:TsS Io.cs),i9 lp jn x.1 F.1=cd lp jn (cx [] [(134,bH)]) ao 4 174 f174 Io x F y:=fun x F y=>by kernel_rfl
theorem NZ:Io.ok prog 174:=Ctr.of_den (au (b6)) aS (hl:=ao) (d:=4) func174 rfl (by decide) (QX lpK jnK)
def gP (_:Lp) (_:Jn) (bW:ND) (x0:List ((List Int)×Int×Int)) (f0:((((List Int)×Int×Int)×Unit)→Option Bool)):Option Bool :=
 af (bW x0 f0) fun (t:Int)=>some (decide (t≥0))
def b7 (x0:List ((List Int)×Int×Int)) (f0:((((List Int)×Int×Int)×Unit)→Option Bool)):Option Bool:=gP lpK jnK bW x0 f0
def Ov (b7:(List ((List Int)×Int×Int))→(((((List Int)×Int×Int)×Unit)→Option Bool))→Option (Bool)):Ctr:=⟨[(.sl T86)],[([T86],.bool)],[],.one .bool,fun x F _=>b7 x.1 F.1⟩
def FX:Ctr:=Ov b7
theorem PV (lp:Lp) (jn:Jn) (bW:ND):∀(x:TsS FX.as) (F:TsF FX.fs) (y:TsS FX.cs),gP lp jn bW x.1 F.1=cd lp jn (cx [(174,O6 bW)] [(134,bH)]) ao 4 141 f141 FX x F y:=fun x F y=>by kernel_rfl
theorem Pa:FX.ok prog 141:=Ctr.of_den (au (ai (b6) (by kernel_rfl) NZ)) aS (hl:=ao) (d:=4) func141 rfl (by decide) (PV lpK jnK bW)
def ki (lp:Lp) (_:Jn) (aQ:NN) (_:(List ((List Int)×Int×Int))→(((((List Int)×Int×Int)×Unit)→Option Bool))→Option (Bool)) (cz:Pb) (x0:(List Int)×List ((List Int)×Int×Int)):Option Bool :=
 
 let v3:Bool:=decide ((↑x0.1.length:Int)<1);
 let v4:Bool:=!v3;
 let v5:Bool:=bif v3 then true else decide ((↑x0.1.length:Int)>12);
 let v6:Bool:=!v4||v4;
 let v7:Bool:=!v5;
 let v8:Bool:=bif v5 then true else decide ((↑x0.2.length:Int)>6);
 let v9:Bool:=!v8;
 let v10:Bool:=!v7||v7;
 let v11:Bool:=!v9||v9;bif v6 then bif v6 then bif v6 then bif v3||v4 then bif v10 then bif v10 then bif v10 then bif v5||v7 then bif v11 then bif v11 then af (bif v9 then cz 1048576 else some fun (_:Int×PUnit)=>none) fun (t:Int×PUnit→Option Bool)=>bif v11&&v11 then af (bif v9 then aQ x0.1 t else some false) fun (t:Bool)=>bif v8||v9 then bif bif v8 then true else t then some false else lp (Int×PUnit) Bool (fun (again:Int×PUnit→Option Bool) (x:Int×PUnit) =>
 let v16:List Int×Int×Int:=x0.2.getD x.1.toNat ([],0,0);
 let v17:Bool:=decide (v16.2.1<1);
 let v18:Bool:=decide (v16.2.1>3);
 let v19:Bool:=!decide ((↑v16.1.length:Int)=(↑x0.1.length:Int));
 let v20:Bool:=!v19;
 let v21:Bool:=!v20||v20;bif decide (x.1<(↑x0.2.length:Int)) then bif inB x.1 x0.2.length then bif v21 then bif v21 then af (bif v20 then cz 1048576 else some fun (_:Int×PUnit)=>none) fun (t:Int×PUnit→Option Bool)=>bif v21&&v21 then af (bif v20 then aQ v16.1 t else some false) fun (t:Bool) =>
 let v24:Bool:=bif v19 then true else t;
 let v25:Bool:=!v24;
 let v26:Bool:=bif v24 then true else v17;
 let v27:Bool:=!v26;
 let v28:Bool:=bif v26 then true else v18;
 let v29:Bool:=!v25||v25;
 let v30:Bool:=!v28;
 let v31:Bool:=!v27||v27;
 let v32:Bool:=!v30||v30;bif v19||v20 then bif v29 then bif v29 then bif v24||v25 then bif v31 then bif v31 then bif v26||v27 then bif v32 then af (bif v30 then cz 1073741824 else some fun (_:Int×PUnit)=>none) fun (t:Int×PUnit→Option Bool)=>bif v32 then bif v32&&v32 then af (bif v30 then t (v16.2.2, PUnit.unit) else some false) fun (t:Bool)=>bif v28||v30 then bif bif v28 then true else t then some !decide (x.1≥0) else again (IntKind.wrap .i64 (x.1+(1 : Int)),PUnit.unit) else none else none else none else none else none else none else none else none else none else none else none else none else none else none else none else some !decide ((-1:Int)≥0)) (0,PUnit.unit) else none else none else none else none else none else none else none else none else none else none else none else none
def aV (x0:(List Int)×List ((List Int)×Int×Int)):Option Bool:=ki lpK jnK aQ b7 cz x0
abbrev t91:=((List Int)×List ((List Int)×Int×Int))→Option (Bool)
def k91 (aV:t91):Ctr:=⟨[T32],[],[],.one .bool,fun x _ _=>aV x.1⟩
def c91:Ctr:=k91 aV
theorem e91 (lp:Lp) (jn:Jn) (aQ:NN) (b7:(List ((List Int)×Int×Int))→(((((List Int)×Int×Int)×Unit)→Option Bool))→Option (Bool)) (cz:Pb):∀(x:TsS c91.as) (F:TsF c91.fs) (y:TsS c91.cs),ki lp jn aQ b7 cz x.1=cd lp jn (xS Am Ao (NT [(138,⟨[i64],[i64],.bool,fun x=>cz x.1⟩)] (jQ prog shs uB its [(141,Ov b7),(140,Oh aQ)] [(134,bH)]))) ao 4 91 f91 c91 x F y:=fun x F y=>by kernel_rfl
theorem Nz:c91.ok prog 91:=Ctr.of_den (au (KV (ai (ai (b6) (by kernel_rfl) N1) (by kernel_rfl) Pa) (EB (by kernel_rfl) MP (Ie)))) aS (hl:=ao) (d:=4) func91 rfl (by decide) (e91 lpK jnK aQ b7 cz)
def eX (lp:Lp) (_:Jn) (x0:List (Int×Int)) (f0:(((Int×Int)×Unit)→Option Bool)):Option Int :=
 lp (Int×PUnit) Int (fun (again:Int×PUnit→Option Int) (x:Int×PUnit)=>bif decide (x.1<(↑x0.length:Int)) then bif inB x.1 x0.length then af (f0 (x0.getD x.1.toNat (0,0),PUnit.unit)) fun (t:Bool)=>bif t then some x.1 else again (IntKind.wrap .i64 (x.1+1),PUnit.unit) else none else some (-1)) (0,PUnit.unit)
def bi (x0:List (Int×Int)) (f0:(((Int×Int)×Unit)→Option Bool)):Option Int:=eX lpK jnK x0 f0
abbrev t74:=(List (Int×Int))→((((Int×Int)×Unit)→Option Bool))→Option (Int)
def k74 (bi:t74):Ctr:=⟨[(.sl T49)],[([T49],.bool)],[],.one i64,fun x F _=>bi x.1 F.1⟩
def c74:Ctr:=k74 bi
theorem e74 (lp:Lp) (jn:Jn):∀(x:TsS c74.as) (F:TsF c74.fs) (y:TsS c74.cs),eX lp jn x.1 F.1=cd lp jn (cx [] [(134,bH)]) ao 4 74 f74 c74 x F y:=fun x F y=>by kernel_rfl
theorem PS:c74.ok prog 74:=Ctr.of_den (au (b6)) aS (hl:=ao) (d:=4) func74 rfl (by decide) (e74 lpK jnK)
def dQ (_:Lp) (_:Jn) (bi:t74) (x0:List (Int×Int)) (f0:(((Int×Int)×Unit)→Option Bool)):Option Bool :=
 af (bi x0 f0) fun (t:Int)=>some (decide (t≥0))
def aj (x0:List (Int×Int)) (f0:(((Int×Int)×Unit)→Option Bool)):Option Bool:=dQ lpK jnK bi x0 f0
abbrev t32:=(List (Int×Int))→((((Int×Int)×Unit)→Option Bool))→Option (Bool)
def k32 (aj:t32):Ctr:=⟨[(.sl T49)],[([T49],.bool)],[],.one .bool,fun x F _=>aj x.1 F.1⟩
def c32:Ctr:=k32 aj
theorem e32 (lp:Lp) (jn:Jn) (bi:t74):∀(x:TsS c32.as) (F:TsF c32.fs) (y:TsS c32.cs),dQ lp jn bi x.1 F.1=cd lp jn (cx [(74,k74 bi)] [(134,bH)]) ao 4 32 f32 c32 x F y:=fun x F y=>by kernel_rfl
theorem Nf:c32.ok prog 32:=Ctr.of_den (au (ai (b6) (by kernel_rfl) PS)) aS (hl:=ao) (d:=4) func32 rfl (by decide) (e32 lpK jnK bi)
def iG (_:Lp) (_:Jn) (ap:t72) (x0:Int×Int):Option Bool :=
 af (ap x0) fun (t:Bool)=>some !t
def cK (x0:Int×Int):Option Bool:=iG lpK jnK ap x0
abbrev Oi:=(Int×Int)→Option (Bool)
def HL:Ctr:=⟨[T49],[],[],.one .bool,fun x _ _=>cK x.1⟩
theorem QR (lp:Lp) (jn:Jn) (ap:t72):∀(x:TsS HL.as) (F:TsF HL.fs) (y:TsS HL.cs),iG lp jn ap x.1=cd lp jn (cx [(72,k72 ap)] [(134,bH)]) ao 4 143 f143 HL x F y:=fun x F y=>by kernel_rfl
theorem Ox:HL.ok prog 143:=Ctr.of_den (au (ai (b6) (by kernel_rfl) Cd)) aS (hl:=ao) (d:=4) func143 rfl (by decide) (QR lpK jnK ap)
def kg (_:Lp) (_:Jn) (aj:t32) (cK:Oi) (x0:List (Int×Int)):Option Bool :=
 af (aj x0 fun (x:(Int×Int)×PUnit)=>cK x.1) fun (t:Bool)=>some !t
def dD (x0:List (Int×Int)):Option Bool:=kg lpK jnK aj cK x0
abbrev t92:=(List (Int×Int))→Option (Bool)
def c92:Ctr:=⟨[(.sl T49)],[],[],.one .bool,fun x _ _=>dD x.1⟩
theorem e92 (lp:Lp) (jn:Jn) (aj:t32) (cK:Oi):∀(x:TsS c92.as) (F:TsF c92.fs) (y:TsS c92.cs),kg lp jn aj cK x.1=cd lp jn (cx [(143,⟨[T49],[],[],.one .bool,fun x _ _=>cK x.1⟩),(32,k32 aj)] [(134,bH)]) ao 4 92 f92 c92 x F y:=fun x F y=>by kernel_rfl
theorem QM:c92.ok prog 92:=Ctr.of_den (au (ai (ai (b6) (by kernel_rfl) Nf) (by kernel_rfl) Ox)) aS (hl:=ao) (d:=4) func92 rfl (by decide) (e92 lpK jnK aj cK)
def j9 (_:Lp) (_:Jn) (bG:BR) (x0:Int) (x1:Int):Option (Int×Int) :=
 af (bG x0 x1) fun (t:Int×Int×PUnit)=>some (t.1,t.2.1)
def aH (x0:Int) (x1:Int):Option (Int×Int):=j9 lpK jnK bG x0 x1
abbrev t76:=(Int)→(Int)→Option (Int×Int)
def k76 (aH:t76):Ctr:=⟨[(.int .u64),(.int .u64)],[],[],.one l7,fun x _ _=>aH x.1 x.2.1⟩
def c76:Ctr:=k76 aH
theorem e76 (lp:Lp) (jn:Jn) (bG:BR):∀(x:TsS c76.as) (F:TsF c76.fs) (y:TsS c76.cs),j9 lp jn bG x.1 x.2.1=cd lp jn (cx [(122,LB bG)] [(134,bH)]) ao 4 76 f76 c76 x F y:=fun x F y=>by kernel_rfl
theorem MQ:c76.ok prog 76:=Ctr.of_den (au (ai (b6) (by kernel_rfl) Jh)) aS (hl:=ao) (d:=4) func76 rfl (by decide) (e76 lpK jnK bG)
def kK (_:Lp) (_:Jn) (x0:Int×Int) (x1:Int×Int):Option (Int×Int) :=
 bif decide ((0:Int)≤0)&&decide ((0:Int)≤1) then bif decide (0≤nI x0.2 x1.2 0)&&decide (nI x0.2 x1.2 0≤1) then some (vW x0.1 x1.1 (nI x0.2 x1.2 0),vW x0.2 x1.2 0) else none else none
def eU (x0:Int×Int) (x1:Int×Int):Option (Int×Int):=kK lpK jnK x0 x1
abbrev t78:=(Int×Int)→(Int×Int)→Option (Int×Int)
def c78:Ctr:=⟨[l7,l7],[],[],.one l7,fun x _ _=>eU x.1 x.2.1⟩
theorem e78 (lp:Lp) (jn:Jn):∀(x:TsS c78.as) (F:TsF c78.fs) (y:TsS c78.cs),kK lp jn x.1 x.2.1=cd lp jn (cx [] [(134,bH)]) ao 4 78 f78 c78 x F y:=fun x F y=>by kernel_rfl
theorem PJ:c78.ok prog 78:=Ctr.of_den (au (b6)) aS (hl:=ao) (d:=4) func78 rfl (by decide) (e78 lpK jnK)
def m0 (_:Lp) (_:Jn) (x0:Int×Int) (x1:Int×Int):Option Bool :=
 
 let v4:Bool:=decide (x0.1=x1.1);
 let v5:Bool:=decide (x0.1<x1.1);
 let v6:Bool:=!v5;
 let v7:Bool:=!v6;
 let v8:Bool:=v6&&v4;
 let v9:Bool:=v7||v6;
 let v10:Bool:=!v8||v8;bif v9 then bif v9 then bif v9&&v9 then bif v9 then bif v10 then bif v10 then bif v10&&v10 then bif (v7||v9)&&(v7||(!v4||(v7||v8))) then bif v5 || v6 then some (bif v5 then true else bif v4 then decide (x0.2<x1.2) else false) else none else none else none else none else none else none else none else none else none
def cm (x0:Int×Int) (x1:Int×Int):Option Bool:=m0 lpK jnK x0 x1
abbrev t79:=(Int×Int)→(Int×Int)→Option (Bool)
def k79 (cm:t79):Ctr:=⟨[l7,l7],[],[],.one .bool,fun x _ _=>cm x.1 x.2.1⟩
def c79:Ctr:=k79 cm
theorem e79 (lp:Lp) (jn:Jn):∀(x:TsS c79.as) (F:TsF c79.fs) (y:TsS c79.cs),m0 lp jn x.1 x.2.1=cd lp jn (cx [] [(134,bH)]) ao 4 79 f79 c79 x F y:=fun x F y=>by kernel_rfl
theorem Pt:c79.ok prog 79:=Ctr.of_den (au (b6)) aS (hl:=ao) (d:=4) func79 rfl (by decide) (e79 lpK jnK)
def jL (_:Lp) (_:Jn) (x0:Int×Int) (x1:Int×Int):Option (Int×Int) :=
 bif decide ((0:Int)≤0)&&decide ((0:Int)≤1) then bif decide (0≤ms x0.2 x1.2 0)&&decide (ms x0.2 x1.2 0≤1) then some (r8 x0.1 x1.1 (ms x0.2 x1.2 0),r8 x0.2 x1.2 0) else none else none
def dJ (x0:Int×Int) (x1:Int×Int):Option (Int×Int):=jL lpK jnK x0 x1
abbrev t80:=(Int×Int)→(Int×Int)→Option (Int×Int)
def c80:Ctr:=⟨[l7,l7],[],[],.one l7,fun x _ _=>dJ x.1 x.2.1⟩
theorem e80 (lp:Lp) (jn:Jn):∀(x:TsS c80.as) (F:TsF c80.fs) (y:TsS c80.cs),jL lp jn x.1 x.2.1=cd lp jn (cx [] [(134,bH)]) ao 4 80 f80 c80 x F y:=fun x F y=>by kernel_rfl
theorem QT:c80.ok prog 80:=Ctr.of_den (au (b6)) aS (hl:=ao) (d:=4) func80 rfl (by decide) (e80 lpK jnK)
def rD (_:Lp) (jn:Jn) (x0:Int):Option Int :=
 jn (Int×Int×PUnit) Int (fun (x:Int×Int×PUnit)=>jn (Int×Int×PUnit) Int (fun (x:Int×Int×PUnit) =>
 let v5:Int:=IntKind.wrap IntKind.u8 x.1;
 let v6:Int:=IntKind.wrap IntKind.u8 (Int.fdiv x.1 (2 ^ 8));bif decide (x.1≥256) then bif decide ((0:Int)≤8) then bif inB v6 256 then some (IntKind.wrap .i64 (IntKind.wrap .i64 (x.2.1+8)+IntKind.wrap .i64 (eF { data:=List.toArray (List.append (List.append [(0:UInt8),(1 : UInt8),(2:UInt8),(2:UInt8),(3:UInt8),(3:UInt8),(3:UInt8),(3:UInt8),(4:UInt8),(4:UInt8),(4:UInt8),(4:UInt8),(4:UInt8),(4:UInt8),(4:UInt8),(4 : UInt8),(5:UInt8),(5:UInt8),(5:UInt8),(5:UInt8),(5:UInt8),(5:UInt8),(5:UInt8),(5:UInt8),(5:UInt8),(5:UInt8),(5:UInt8),(5:UInt8),(5:UInt8),(5 : UInt8),(5:UInt8),(5:UInt8),(6:UInt8),(6:UInt8),(6:UInt8),(6:UInt8),(6:UInt8),(6:UInt8),(6:UInt8),(6:UInt8),(6:UInt8),(6:UInt8),(6:UInt8),(6 : UInt8),(6:UInt8),(6:UInt8),(6:UInt8),(6:UInt8),(6:UInt8),(6:UInt8),(6:UInt8),(6:UInt8),(6:UInt8),(6:UInt8),(6:UInt8),(6:UInt8),(6:UInt8),(6 : UInt8),(6:UInt8),(6:UInt8),(6:UInt8),(6:UInt8),(6:UInt8),(6:UInt8)] [(7:UInt8),(7:UInt8),(7:UInt8),(7:UInt8),(7:UInt8),(7:UInt8),(7:UInt8),(7 : UInt8),(7:UInt8),(7:UInt8),(7:UInt8),(7:UInt8),(7:UInt8),(7:UInt8),(7:UInt8),(7:UInt8),(7:UInt8),(7:UInt8),(7:UInt8),(7:UInt8),(7:UInt8),(7 : UInt8),(7:UInt8),(7:UInt8),(7:UInt8),(7:UInt8),(7:UInt8),(7:UInt8),(7:UInt8),(7:UInt8),(7:UInt8),(7:UInt8),(7:UInt8),(7:UInt8),(7:UInt8),(7 : UInt8),(7:UInt8),(7:UInt8),(7:UInt8),(7:UInt8),(7:UInt8),(7:UInt8),(7:UInt8),(7:UInt8),(7:UInt8),(7:UInt8),(7:UInt8),(7:UInt8),(7:UInt8),(7 : UInt8),(7:UInt8),(7:UInt8),(7:UInt8),(7:UInt8),(7:UInt8),(7:UInt8),(7:UInt8),(7:UInt8),(7:UInt8),(7:UInt8),(7:UInt8),(7:UInt8),(7:UInt8),(7 : UInt8)]) (List.append [(8:UInt8),(8:UInt8),(8:UInt8),(8:UInt8),(8:UInt8),(8:UInt8),(8:UInt8),(8:UInt8),(8:UInt8),(8:UInt8),(8:UInt8),(8:UInt8),(8 : UInt8),(8:UInt8),(8:UInt8),(8:UInt8),(8:UInt8),(8:UInt8),(8:UInt8),(8:UInt8),(8:UInt8),(8:UInt8),(8:UInt8),(8:UInt8),(8:UInt8),(8:UInt8),(8 : UInt8),(8:UInt8),(8:UInt8),(8:UInt8),(8:UInt8),(8:UInt8),(8:UInt8),(8:UInt8),(8:UInt8),(8:UInt8),(8:UInt8),(8:UInt8),(8:UInt8),(8:UInt8),(8 : UInt8),(8:UInt8),(8:UInt8),(8:UInt8),(8:UInt8),(8:UInt8),(8:UInt8),(8:UInt8),(8:UInt8),(8:UInt8),(8:UInt8),(8:UInt8),(8:UInt8),(8:UInt8),(8 : UInt8),(8:UInt8),(8:UInt8),(8:UInt8),(8:UInt8),(8:UInt8),(8:UInt8),(8:UInt8),(8:UInt8),(8:UInt8)] [(8:UInt8),(8:UInt8),(8:UInt8),(8:UInt8),(8 : UInt8),(8:UInt8),(8:UInt8),(8:UInt8),(8:UInt8),(8:UInt8),(8:UInt8),(8:UInt8),(8:UInt8),(8:UInt8),(8:UInt8),(8:UInt8),(8:UInt8),(8:UInt8),(8 : UInt8),(8:UInt8),(8:UInt8),(8:UInt8),(8:UInt8),(8:UInt8),(8:UInt8),(8:UInt8),(8:UInt8),(8:UInt8),(8:UInt8),(8:UInt8),(8:UInt8),(8:UInt8),(8 : UInt8),(8:UInt8),(8:UInt8),(8:UInt8),(8:UInt8),(8:UInt8),(8:UInt8),(8:UInt8),(8:UInt8),(8:UInt8),(8:UInt8),(8:UInt8),(8:UInt8),(8:UInt8),(8 : UInt8),(8:UInt8),(8:UInt8),(8:UInt8),(8:UInt8),(8:UInt8),(8:UInt8),(8:UInt8),(8:UInt8),(8:UInt8),(8:UInt8),(8:UInt8),(8:UInt8),(8:UInt8),(8 : UInt8),(8:UInt8),(8:UInt8),(8:UInt8)])) } v6.toNat))) else none else none else bif inB v5 256 then some (IntKind.wrap .i64 (x.2.1+IntKind.wrap IntKind.i64 (eF { data:=List.toArray (List.append (List.append [(0:UInt8),(1:UInt8),(2:UInt8),(2:UInt8),(3:UInt8),(3:UInt8),(3:UInt8),(3:UInt8),(4 : UInt8),(4:UInt8),(4:UInt8),(4:UInt8),(4:UInt8),(4:UInt8),(4:UInt8),(4:UInt8),(5:UInt8),(5:UInt8),(5:UInt8),(5:UInt8),(5:UInt8),(5:UInt8),(5 : UInt8),(5:UInt8),(5:UInt8),(5:UInt8),(5:UInt8),(5:UInt8),(5:UInt8),(5:UInt8),(5:UInt8),(5:UInt8),(6:UInt8),(6:UInt8),(6:UInt8),(6:UInt8),(6 : UInt8),(6:UInt8),(6:UInt8),(6:UInt8),(6:UInt8),(6:UInt8),(6:UInt8),(6:UInt8),(6:UInt8),(6:UInt8),(6:UInt8),(6:UInt8),(6:UInt8),(6:UInt8),(6 : UInt8),(6:UInt8),(6:UInt8),(6:UInt8),(6:UInt8),(6:UInt8),(6:UInt8),(6:UInt8),(6:UInt8),(6:UInt8),(6:UInt8),(6:UInt8),(6:UInt8),(6:UInt8)] [(7 : UInt8),(7:UInt8),(7:UInt8),(7:UInt8),(7:UInt8),(7:UInt8),(7:UInt8),(7:UInt8),(7:UInt8),(7:UInt8),(7:UInt8),(7:UInt8),(7:UInt8),(7:UInt8),(7 : UInt8),(7:UInt8),(7:UInt8),(7:UInt8),(7:UInt8),(7:UInt8),(7:UInt8),(7:UInt8),(7:UInt8),(7:UInt8),(7:UInt8),(7:UInt8),(7:UInt8),(7:UInt8),(7 : UInt8),(7:UInt8),(7:UInt8),(7:UInt8),(7:UInt8),(7:UInt8),(7:UInt8),(7:UInt8),(7:UInt8),(7:UInt8),(7:UInt8),(7:UInt8),(7:UInt8),(7:UInt8),(7 : UInt8),(7:UInt8),(7:UInt8),(7:UInt8),(7:UInt8),(7:UInt8),(7:UInt8),(7:UInt8),(7:UInt8),(7:UInt8),(7:UInt8),(7:UInt8),(7:UInt8),(7:UInt8),(7 : UInt8),(7:UInt8),(7:UInt8),(7:UInt8),(7:UInt8),(7:UInt8),(7:UInt8),(7:UInt8)]) (List.append [(8:UInt8),(8:UInt8),(8:UInt8),(8:UInt8),(8:UInt8),(8 : UInt8),(8:UInt8),(8:UInt8),(8:UInt8),(8:UInt8),(8:UInt8),(8:UInt8),(8:UInt8),(8:UInt8),(8:UInt8),(8:UInt8),(8:UInt8),(8:UInt8),(8:UInt8),(8 : UInt8),(8:UInt8),(8:UInt8),(8:UInt8),(8:UInt8),(8:UInt8),(8:UInt8),(8:UInt8),(8:UInt8),(8:UInt8),(8:UInt8),(8:UInt8),(8:UInt8),(8:UInt8),(8 : UInt8),(8:UInt8),(8:UInt8),(8:UInt8),(8:UInt8),(8:UInt8),(8:UInt8),(8:UInt8),(8:UInt8),(8:UInt8),(8:UInt8),(8:UInt8),(8:UInt8),(8:UInt8),(8 : UInt8),(8:UInt8),(8:UInt8),(8:UInt8),(8:UInt8),(8:UInt8),(8:UInt8),(8:UInt8),(8:UInt8),(8:UInt8),(8:UInt8),(8:UInt8),(8:UInt8),(8:UInt8),(8 : UInt8),(8:UInt8),(8:UInt8)] [(8:UInt8),(8:UInt8),(8:UInt8),(8:UInt8),(8:UInt8),(8:UInt8),(8:UInt8),(8:UInt8),(8:UInt8),(8:UInt8),(8:UInt8),(8 : UInt8),(8:UInt8),(8:UInt8),(8:UInt8),(8:UInt8),(8:UInt8),(8:UInt8),(8:UInt8),(8:UInt8),(8:UInt8),(8:UInt8),(8:UInt8),(8:UInt8),(8:UInt8),(8 : UInt8),(8:UInt8),(8:UInt8),(8:UInt8),(8:UInt8),(8:UInt8),(8:UInt8),(8:UInt8),(8:UInt8),(8:UInt8),(8:UInt8),(8:UInt8),(8:UInt8),(8:UInt8),(8 : UInt8),(8:UInt8),(8:UInt8),(8:UInt8),(8:UInt8),(8:UInt8),(8:UInt8),(8:UInt8),(8:UInt8),(8:UInt8),(8:UInt8),(8:UInt8),(8:UInt8),(8:UInt8),(8 : UInt8),(8:UInt8),(8:UInt8),(8:UInt8),(8:UInt8),(8:UInt8),(8:UInt8),(8:UInt8),(8:UInt8),(8:UInt8),(8:UInt8)])) } v5.toNat))) else none) fun (j:Int × Int×PUnit→Option Int)=>bif decide (x.1≥65536) then bif decide ((0:Int)≤16) then j (Int.fdiv x.1 (2 ^ 16),IntKind.wrap .i64 (x.2.1+16),PUnit.unit) else none else j (x.1,x.2.1,PUnit.unit)) fun (j:Int×Int×PUnit→Option Int)=>bif decide (x0≥4294967296) then bif decide (0≤32) then j (Int.fdiv x0 (2 ^ 32),32,PUnit.unit) else none else j (x0,0,PUnit.unit)
def fx (x0:Int):Option Int:=rD lpK jnK x0
abbrev Pr:=(Int)→Option (Int)
def Jd:Ctr:=⟨[(.int .u64)],[],[],.one i64,fun x _ _=>fx x.1⟩
theorem Qe (lp:Lp) (jn:Jn):∀(x:TsS Jd.as) (F:TsF Jd.fs) (y:TsS Jd.cs),rD lp jn x.1=cd lp jn (cx [] [(134,bH)]) ao 4 181 f181 Jd x F y:=fun x F y=>by kernel_rfl
theorem OO:Jd.ok prog 181:=Ctr.of_den (au (b6)) aS (hl:=ao) (d:=4) func181 rfl (by decide) (Qe lpK jnK)
def gu (_:Lp) (_:Jn) (fx:Pr) (x0:Int):Option Int :=
 af (fx x0) fun (t:Int)=>some (IntKind.wrap .i64 (64 - t))
def cg (x0:Int):Option Int:=gu lpK jnK fx x0
abbrev OC:=(Int)→Option (Int)
def Je:Ctr:=⟨[(.int .u64)],[],[],.one i64,fun x _ _=>cg x.1⟩
theorem PR (lp:Lp) (jn:Jn) (fx:Pr):∀(x:TsS Je.as) (F:TsF Je.fs) (y:TsS Je.cs),gu lp jn fx x.1=cd lp jn (cx [(181,⟨[(.int .u64)],[],[],.one i64,fun x _ _=>fx x.1⟩)] [(134,bH)]) ao 4 165 f165 Je x F y:=fun x F y=>by kernel_rfl
theorem OD:Je.ok prog 165:=Ctr.of_den (au (ai (b6) (by kernel_rfl) OO)) aS (hl:=ao) (d:=4) func165 rfl (by decide) (PR lpK jnK fx)
def mP (lp:Lp) (jn:Jn) (cg:OC) (x0:Int) (x1:Int) (x2:Int):Option (Int×Int×Unit) :=
 
 let v5:Bool:=nzB x2;
 let v6:Int:=2 ^ 32;
 let v7:Bool:=decide ((0:Int)≤32);jn PUnit (Int×Int×PUnit) (fun (_:PUnit)=>jn PUnit (Int×Int×PUnit) (fun (_:PUnit)=>bif decide (x0=0) then bif v5 then bif v5 then some (IntKind.wrap .u64 (Int.tdiv x1 x2),Int.tmod x1 x2,PUnit.unit) else none else none else af (cg x2) fun (t:Int) =>
 let v11:Int:=IntKind.wrap .u64 t;
 let v12:Bool:=decide (0≤v11);
 let v13:Int:=2 ^ min v11.toNat 64;
 let v14:Int:=IntKind.wrap .u64 (x2*v13);
 let v15:Int:=IntKind.wrap .u64 (x1*v13);
 let v16:Int:=Int.fdiv v14 v6;
 let v17:Int:=Int.fdiv v15 v6;
 let v18:Bool:=nzB v16;
 let v19:Int:=IntKind.wrap .u64 (↑(Nat.land (Int.toNat (v15 % Int.ofNat 18446744073709551616)) (Int.toNat (4294967295 % Int.ofNat 18446744073709551616))) : Int);
 let v20:Int:=IntKind.wrap .u64 (↑(Nat.land (Int.toNat (v14 % Int.ofNat 18446744073709551616)) (Int.toNat (4294967295 % Int.ofNat 18446744073709551616))) : Int);
 let v21:Int:=IntKind.wrap .u64 (↑(Nat.lor (Int.toNat (IntKind.wrap .u64 (x0*v13) % Int.ofNat 18446744073709551616)) (Int.toNat (Int.fdiv x1 (2 ^ min (Int.toNat (IntKind.wrap .u64 (64 - v11))) 64) % Int.ofNat 18446744073709551616))):Int);
 let v22:Int:=IntKind.wrap .u64 (Int.tdiv v21 v16);bif v12 then bif v7 then bif v12 then bif decide (0≤IntKind.wrap .u64 (64 - v11)) then bif v12 then bif v7 then bif v18 then jn (Int×PUnit) (Int×Int×PUnit) (fun (x:Int×PUnit) =>
 let v24:Int:=IntKind.wrap .u64 (IntKind.wrap .u64 (IntKind.wrap .u64 (v21*4294967296)+v17) - IntKind.wrap .u64 (x.1*v14));
 let v25:Int:=IntKind.wrap .u64 (Int.tdiv v24 v16);bif v18 then jn (Int×PUnit) (Int×Int×PUnit) (fun (x_1:Int×PUnit)=>bif v12 then some (IntKind.wrap .u64 (IntKind.wrap .u64 (x.1*4294967296)+x_1.1),Int.fdiv (IntKind.wrap .u64 (IntKind.wrap .u64 (IntKind.wrap .u64 (v24*4294967296) + v19) - IntKind.wrap .u64 (x_1.1*v14))) v13,PUnit.unit) else none) fun (j:Int×PUnit→Option (Int×Int×PUnit))=>lp (Int×Int×PUnit) (Int×Int×PUnit) (fun (again:Int×Int×PUnit→Option (Int×Int×PUnit)) (x:Int×Int×PUnit) =>
 let v29:Int×PUnit:=(IntKind.wrap .u64 (x.2.1 - 1),PUnit.unit);
 let v30:Bool:=decide (x.2.1≥4294967296);
 let v31:Bool:=!v30;
 let v32:Bool:=!v31||v31;
 let v33:Bool:=v32&&v32;bif v33 then bif v32 then bif v33 then bif v33 then bif v30||v31 then bif bif v30 then true else decide (IntKind.wrap .u64 (x.2.1*v20) > IntKind.wrap .u64 (IntKind.wrap .u64 (4294967296*x.1)+v19)) then bif decide (IntKind.wrap .u64 (x.1+v16)≥4294967296) then j v29 else again (IntKind.wrap .u64 (x.1+v16),v29) else j (x.2.1,PUnit.unit) else none else none else none else none else none) (IntKind.wrap .u64 (v24 - IntKind.wrap IntKind.u64 (v25*v16)),v25,PUnit.unit) else none) fun (j:Int×PUnit→Option (Int×Int×PUnit))=>lp (Int×Int×PUnit) (Int×Int×PUnit) (fun (again:Int×Int×PUnit → Option (Int×Int×PUnit)) (x:Int×Int×PUnit) =>
 let v26:Int:=IntKind.wrap .u64 (x.1 - 1);
 let v27:Bool:=decide (x.1≥4294967296);
 let v28:Bool:=!v27;
 let v29:Bool:=!v28||v28;
 let v30:Bool:=v29&&v29;bif v30 then bif v29 then bif v30 then bif v30 then bif v27||v28 then bif bif v27 then true else decide (IntKind.wrap .u64 (x.1*v20) > IntKind.wrap .u64 (IntKind.wrap .u64 (4294967296*x.2.1)+v17)) then bif decide (IntKind.wrap .u64 (x.2.1+v16)≥4294967296) then j (v26,PUnit.unit) else again (v26,IntKind.wrap .u64 (x.2.1+v16),PUnit.unit) else j (x.1,PUnit.unit) else none else none else none else none else none) (v22, IntKind.wrap .u64 (v21 - IntKind.wrap .u64 (v22*v16)),PUnit.unit) else none else none else none else none else none else none else none) fun (j:PUnit→Option (Int × Int×PUnit))=>bif decide (x2≤x0) then none else j PUnit.unit) fun (j:PUnit→Option (Int×Int×PUnit))=>bif decide (x2=0) then none else j PUnit.unit
def ct (x0:Int) (x1:Int) (x2:Int):Option (Int×Int×Unit):=mP lpK jnK cg x0 x1 x2
abbrev II:=(Int)→(Int)→(Int)→Option (Int×Int×Unit)
def Mq (ct:II):Ctr:=⟨[(.int .u64),(.int .u64),(.int .u64)],[],[],.tup [(.int .u64),(.int .u64)],fun x _ _=>ct x.1 x.2.1 x.2.2.1⟩
def GE:Ctr:=Mq ct
theorem PP (lp:Lp) (jn:Jn) (cg:OC):∀(x:TsS GE.as) (F:TsF GE.fs) (y:TsS GE.cs),mP lp jn cg x.1 x.2.1 x.2.2.1=cd lp jn (cx [(165,⟨[(.int .u64)],[],[],.one i64,fun x _ _=>cg x.1⟩)] [(134,bH)]) ao 4 125 f125 GE x F y:=fun x F y=>by kernel_rfl
theorem Me:GE.ok prog 125:=Ctr.of_den (au (ai (b6) (by kernel_rfl) OD)) aS (hl:=ao) (d:=4) func125 rfl (by decide) (PP lpK jnK cg)
def np (_:Lp) (_:Jn) (ct:II) (x0:Int×Int) (x1:Int):Option ((Int×Int)×Int×Unit) :=
 
 let v4:Bool:=nzB x1;bif v4 then af (ct (Int.tmod x0.1 x1) x0.2 x1) fun (t:Int×Int×PUnit)=>bif v4 then some ((IntKind.wrap .u64 (Int.tdiv x0.1 x1), t.1),t.2.1,PUnit.unit) else none else none
def dq (x0:Int×Int) (x1:Int):Option ((Int×Int)×Int×Unit):=np lpK jnK ct x0 x1
abbrev t81:=(Int×Int)→(Int)→Option ((Int×Int)×Int×Unit)
def k81 (dq:t81):Ctr:=⟨[l7,(.int .u64)],[],[],.tup [l7,(.int .u64)],fun x _ _=>dq x.1 x.2.1⟩
def c81:Ctr:=k81 dq
theorem e81 (lp:Lp) (jn:Jn) (ct:II):∀(x:TsS c81.as) (F:TsF c81.fs) (y:TsS c81.cs),np lp jn ct x.1 x.2.1=cd lp jn (cx [(125,Mq ct)] [(134,bH)]) ao 4 81 f81 c81 x F y:=fun x F y=>by kernel_rfl
theorem PG:c81.ok prog 81:=Ctr.of_den (au (ai (b6) (by kernel_rfl) Me)) aS (hl:=ao) (d:=4) func81 rfl (by decide) (e81 lpK jnK ct)
def lu (_:Lp) (_:Jn) (x0:Bool) (x1:Int) (x2:Int):Option ((Int×Int)×Int×Unit) :=
 
 let v5:Int:=IntKind.wrap .i64 x1;
 let v6:Int:=IntKind.wrap .i64 x2;
 let v7:Bool:=decide (x1>1152921504606846976);
 let v8:Bool:=!v7;bif !v8||v8 then bif v7||v8 then bif bif v7 then true else decide (x2>1152921504606846976) then some ((0,0),5,PUnit.unit) else bif x0 then some ((IntKind.wrap .i64 (0 - v5),v6),0,PUnit.unit) else some ((v5,v6),0,PUnit.unit) else none else none
def aZ (x0:Bool) (x1:Int) (x2:Int):Option ((Int×Int)×Int×Unit):=lu lpK jnK x0 x1 x2
abbrev t82:=(Bool)→(Int)→(Int)→Option ((Int×Int)×Int×Unit)
def k82 (aZ:t82):Ctr:=⟨[.bool,(.int .u64),(.int .u64)],[],[],.tup [T49,i64],fun x _ _=>aZ x.1 x.2.1 x.2.2.1⟩
def c82:Ctr:=k82 aZ
theorem e82 (lp:Lp) (jn:Jn):∀(x:TsS c82.as) (F:TsF c82.fs) (y:TsS c82.cs),lu lp jn x.1 x.2.1 x.2.2.1=cd lp jn (cx [] [(134,bH)]) ao 4 82 f82 c82 x F y:=fun x F y=>by kernel_rfl
theorem Ng:c82.ok prog 82:=Ctr.of_den (au (b6)) aS (hl:=ao) (d:=4) func82 rfl (by decide) (e82 lpK jnK)
def oi (_:Lp) (jn:Jn) (ba:t75) (aB:t77) (ap:t72) (aH:t76) (eU:t78) (cm:t79) (dJ:t80) (dq:t81) (aZ:t82) (x0:Int×Int) (x1:Int×Int):Option ((Int×Int)×Int×Unit) :=
 
 let v4:Int:=IntKind.wrap .u64 x0.2;
 let v5:Int:=IntKind.wrap .u64 x1.2;
 let v6:Bool:=decide (x0.1<0);af (ap x0) fun (t:Bool) =>
 let v8:Bool:=!t;
 let v9:Bool:=!v8;
 let v10:Bool:=!v9||v9;bif v10 then af (bif v9 then ap x1 else some false) fun (t:Bool)=>bif v10 then bif v8||v9 then bif bif v8 then true else !t then some (((0 : Int),0),1,PUnit.unit) else af (ba v4 v5) fun (t:Int) =>
 let v13:Bool:=nzB t;
 let v14:Int:=IntKind.wrap .u64 (Int.tdiv v4 t);af (aB x0.1) fun (t_1:Int)=>bif v13 then af (aH t_1 (IntKind.wrap .u64 (Int.tdiv v5 t))) fun (t_2:Int×Int)=>af (aB x1.1) fun (t_3:Int)=>bif v13 then af (aH t_3 v14) fun (t_4:Int×Int)=>jn (Bool×(Int×Int)×PUnit) ((Int×Int) × Int×PUnit) (fun (x:Bool×(Int×Int)×PUnit)=>bif decide (x.2.1.1=0)&&(decide (x.2.1.2=0)&&true) then some ((0,1),(0 : Int),PUnit.unit) else af (dq x.2.1 t) fun (t_5:(Int×Int)×Int×PUnit)=>af (ba t t_5.2.1) fun (t:Int)=>af (dq x.2.1 t) fun (t_6 : (Int×Int)×Int×PUnit) =>
 let v23:Bool:=decide (t_6.1.1>0);
 let v24:Bool:=!v23;
 let v25:Bool:=!v24||v24;bif v13 then bif nzB t then af (aH v14 (IntKind.wrap .u64 (Int.tdiv v5 t))) fun (t:Int×Int)=>bif v25 then bif v25 then bif v23 || v24 then bif bif v23 then true else decide (t.1>0) then some ((0,0),5,PUnit.unit) else af (aZ x.1 t_6.1.2 t.2) fun (t:(Int × Int)×Int×PUnit)=>some (t.1,t.2.1,PUnit.unit) else none else none else none else none else none) fun (j:Bool×(Int×Int)×PUnit→Option ((Int×Int)×Int×PUnit)) =>bif decide (v6=decide (x1.1<0)) then af (eU t_2 t_4) fun (t:Int×Int)=>j (v6,t,PUnit.unit) else af (cm t_2 t_4) fun (t:Bool)=>jn (Bool × (Int×Int)×PUnit) ((Int×Int)×Int×PUnit) (fun (x:Bool×(Int×Int)×PUnit)=>j (x.1,x.2.1,PUnit.unit)) fun (j:Bool×(Int×Int)×PUnit→Option ((Int×Int) × Int×PUnit))=>bif t then af (dJ t_4 t_2) fun (t:Int×Int)=>j (!v6,t,PUnit.unit) else af (dJ t_2 t_4) fun (t:Int×Int)=>j (v6,t,PUnit.unit) else none else none else none else none else none
def bj (x0:Int×Int) (x1:Int×Int):Option ((Int×Int)×Int×Unit):=oi lpK jnK ba aB ap aH eU cm dJ dq aZ x0 x1
abbrev t35:=(Int×Int)→(Int×Int)→Option ((Int×Int)×Int×Unit)
def k35 (bj:t35):Ctr:=⟨[T49,T49],[],[],.tup [T49,i64],fun x _ _=>bj x.1 x.2.1⟩
def c35:Ctr:=k35 bj
theorem e35 (lp:Lp) (jn:Jn) (ba:t75) (aB:t77) (ap:t72) (aH:t76) (eU:t78) (cm:t79) (dJ:t80) (dq:t81) (aZ:t82):∀(x:TsS c35.as) (F:TsF c35.fs) (y:TsS c35.cs),oi lp jn ba aB ap aH eU cm dJ dq aZ x.1 x.2.1=cd lp jn (cx [(82,k82 aZ),(81,k81 dq),(80,⟨[l7,l7],[],[],.one l7,fun x _ _=>dJ x.1 x.2.1⟩),(79,k79 cm),(78,⟨[l7,l7],[],[],.one l7,fun x _ _=>eU x.1 x.2.1⟩),(76,k76 aH),(72,k72 ap),(77,k77 aB),(75,k75 ba)] [(134,bH)]) ao 4 35 f35 c35 x F y:=fun x F y=>by kernel_rfl
theorem No:c35.ok prog 35:=Ctr.of_den (au (ai (ai (ai (ai (ai (ai (ai (ai (ai (b6) (by kernel_rfl) KG) (by kernel_rfl) F7) (by kernel_rfl) Cd) (by kernel_rfl) MQ) (by kernel_rfl) PJ) (by kernel_rfl) Pt) (by kernel_rfl) QT) (by kernel_rfl) PG) (by kernel_rfl) Ng)) aS (hl:=ao) (d:=4) func35 rfl (by decide) (e35 lpK jnK ba aB ap aH eU cm dJ dq aZ)
def oh (_:Lp) (_:Jn) (ba:t75) (aB:t77) (ap:t72) (aH:t76) (aZ:t82) (x0:Int×Int) (x1:Int×Int):Option ((Int×Int)×Int×Unit) :=
 
 let v4:Int:=IntKind.wrap .u64 x1.2;
 let v5:Int:=IntKind.wrap .u64 x0.2;af (ap x0) fun (t:Bool) =>
 let v7:Bool:=!t;
 let v8:Bool:=!v7;
 let v9:Bool:=!v8||v8;bif v9 then af (bif v8 then ap x1 else some false) fun (t:Bool)=>bif v9 then bif v7||v8 then bif bif v7 then true else !t then some (((0 : Int),0),1,PUnit.unit) else af (aB x0.1) fun (t:Int)=>af (ba t v4) fun (t:Int) =>
 let v13:Bool:=nzB t;af (aB x1.1) fun (t_1:Int)=>af (ba t_1 v5) fun (t_2:Int) =>
 let v16:Bool:=nzB t_2;af (aB x0.1) fun (t_3:Int)=>bif v13 then af (aB x1.1) fun (t_4:Int)=>bif v16 then af (aH (IntKind.wrap IntKind.u64 (Int.tdiv t_3 t)) (IntKind.wrap .u64 (Int.tdiv t_4 t_2))) fun (t_5:Int×Int) =>
 let v20:Bool:=decide (t_5.1>0);
 let v21:Bool:=decide (t_5.2>0);
 let v22:Bool:=!v20;
 let v23:Bool:=!v21||v21;
 let v24:Bool:=!v22||v22;bif v16 then bif v13 then af (aH (IntKind.wrap .u64 (Int.tdiv v5 t_2)) (IntKind.wrap .u64 (Int.tdiv v4 t))) fun (t:Int×Int) =>bif v24 then bif v24 then bif v20||v22 then bif bif v20 then true else decide (t.1>0) then some ((0,0),5,PUnit.unit) else bif v23 then bif v23 then bif v23 then bif v23 then bif v23&&v23 then bif v23 then af (aZ (bif v21 then !decide (decide (x0.1<0)=decide (x1.1<0)) else false) t_5.2 t.2) fun (t:(Int×Int)×Int×PUnit)=>some (t.1,t.2.1,PUnit.unit) else none else none else none else none else none else none else none else none else none else none else none else none else none else none else none else none
def cO (x0:Int×Int) (x1:Int×Int):Option ((Int×Int)×Int×Unit):=oh lpK jnK ba aB ap aH aZ x0 x1
abbrev GB:=(Int×Int)→(Int×Int)→Option ((Int×Int)×Int×Unit)
def M2 (cO:GB):Ctr:=⟨[T49,T49],[],[],.tup [T49,i64],fun x _ _=>cO x.1 x.2.1⟩
def Gm:Ctr:=M2 cO
theorem QF (lp:Lp) (jn:Jn) (ba:t75) (aB:t77) (ap:t72) (aH:t76) (aZ:t82):∀(x:TsS Gm.as) (F:TsF Gm.fs) (y:TsS Gm.cs),oh lp jn ba aB ap aH aZ x.1 x.2.1=cd lp jn (cx [(82,k82 aZ),(76,k76 aH),(72,k72 ap),(77,k77 aB),(75,k75 ba)] [(134,bH)]) ao 4 146 f146 Gm x F y:=fun x F y=>by kernel_rfl
theorem LR:Gm.ok prog 146:=Ctr.of_den (au (ai (ai (ai (ai (ai (b6) (by kernel_rfl) KG) (by kernel_rfl) F7) (by kernel_rfl) Cd) (by kernel_rfl) MQ) (by kernel_rfl) Ng)) aS (hl:=ao) (d:=4) func146 rfl (by decide) (QF lpK jnK ba aB ap aH aZ)
def iK (lp:Lp) (jn:Jn) (bj:t35) (cO:GB) (x0:Int) (x1:List Int) (x2:List (Int×Int)):Option (Int×(Int×Int)) :=
 lp (Int×Int×(Int×Int)×(Int×Int)×PUnit) (Int×Int×Int) (fun (again:Int×Int×(Int×Int)×(Int×Int)×PUnit→Option (Int×Int×Int)) (x:Int×Int×(Int×Int) × (Int×Int)×PUnit)=>bif decide (x.1<(↑x1.length:Int)) then bif inB x.1 x1.length then bif inB x.1 x2.length then af (cO (x1.getD x.1.toNat 0,1) (x2.getD x.1.toNat (0,0))) fun (t:(Int×Int)×Int×PUnit)=>jn (Int×(Int×Int)×PUnit) (Int×Int×Int) (fun (x_1:Int×(Int×Int)×PUnit)=>bif !decide (x_1.1=0) then some (x_1.1,0,1) else again (IntKind.wrap .i64 (x.1+1), x.2.1,x.2.2.1,x_1.2.1,PUnit.unit)) fun (j:Int×(Int×Int)×PUnit→Option (Int×Int×Int))=>bif decide (t.2.1=0) then af (bj x.2.2.2.1 t.1) fun (t:(Int×Int)×Int×PUnit)=>j (t.2.1,t.1,PUnit.unit) else j (t.2.1,t.1,PUnit.unit) else none else none else some (x.2.1, x.2.2.2.1)) (0,x0,(0,0),(0,1),PUnit.unit)
def bO (x0:Int) (x1:List Int) (x2:List (Int×Int)):Option (Int×(Int×Int)):=iK lpK jnK bj cO x0 x1 x2
abbrev t95:=(Int)→(List Int)→(List (Int×Int))→Option (Int×(Int×Int))
def k95 (bO:t95):MCtr:=⟨M1,[(.sl i64),(.sl T49)],.one T49,fun x y=>bO x y.1 y.2.1⟩
def m95:MCtr:=k95 bO
theorem e95 (lp:Lp) (jn:Jn) (bj:t35) (cO:GB):∀(x:m95.s.T) (y:TsS m95.as),iK lp jn bj cO x y.1 y.2.1=Ns lp jn (cx [(146,M2 cO),(35,k35 bj)] [(134,bH)]) ao 4 95 f95 m95 x y:=fun x y=>by kernel_rfl
theorem Qi:m95.ok prog 95:=MCtr.of_den (au (ai (ai (b6) (by kernel_rfl) No) (by kernel_rfl) LR)) aS (hl:=ao) (d:=4) func95 rfl (by decide) rfl (e95 lpK jnK bj cO)
def n9 (_:Lp) (jn:Jn) (aB:t77) (ap:t72) (aH:t76) (cm:t79) (x0:Int×Int) (x1:Int×Int):Option (Int×Int×Unit) :=
 
 let v4:Bool:=decide (x0.1<0);af (ap x0) fun (t:Bool) =>
 let v6:Bool:=!t;
 let v7:Bool:=!v6;
 let v8:Bool:=!v7||v7;bif v8 then af (bif v7 then ap x1 else some false) fun (t:Bool)=>bif v8 then bif v6||v7 then bif bif v6 then true else !t then some ((0 : Int),1,PUnit.unit) else af (aB x0.1) fun (t:Int)=>af (aH t (IntKind.wrap .u64 x1.2)) fun (t:Int×Int)=>af (aB x1.1) fun (t_1:Int)=>af (aH t_1 (IntKind.wrap .u64 x0.2)) fun (t_2:Int×Int)=>bif !decide (v4=decide (x1.1<0)) then bif v4 then some ((-1), 0,PUnit.unit) else some (1,0,PUnit.unit) else jn ((Int×Int)×(Int×Int)×PUnit) (Int×Int×PUnit) (fun (x:(Int×Int)×(Int×Int)×PUnit)=>af (cm x.1 x.2.1) fun (t:Bool)=>bif t then some ((-1),0,PUnit.unit) else af (cm x.2.1 x.1) fun (t:Bool)=>bif t then some (1, 0,PUnit.unit) else some (0,0,PUnit.unit)) fun (j:(Int×Int)×(Int×Int)×PUnit→Option (Int×Int×PUnit))=>bif v4 then j (t_2,t,PUnit.unit) else j (t,t_2,PUnit.unit) else none else none else none
def cS (x0:Int×Int) (x1:Int×Int):Option (Int×Int×Unit):=n9 lpK jnK aB ap aH cm x0 x1
abbrev t39:=(Int×Int)→(Int×Int)→Option (Int×Int×Unit)
def k39 (cS:t39):Ctr:=⟨[T49,T49],[],[],.tup [i64,i64],fun x _ _=>cS x.1 x.2.1⟩
def c39:Ctr:=k39 cS
theorem e39 (lp:Lp) (jn:Jn) (aB:t77) (ap:t72) (aH:t76) (cm:t79):∀(x:TsS c39.as) (F:TsF c39.fs) (y:TsS c39.cs),n9 lp jn aB ap aH cm x.1 x.2.1=cd lp jn (cx [(79,k79 cm),(76,k76 aH),(72,k72 ap),(77,k77 aB)] [(134,bH)]) ao 4 39 f39 c39 x F y:=fun x F y=>by kernel_rfl
theorem P3:c39.ok prog 39:=Ctr.of_den (au (ai (ai (ai (ai (b6) (by kernel_rfl) F7) (by kernel_rfl) Cd) (by kernel_rfl) MQ) (by kernel_rfl) Pt)) aS (hl:=ao) (d:=4) func39 rfl (by decide) (e39 lpK jnK aB ap aH cm)
def lX (_:Lp) (_:Jn) (cS:t39) (x0:Int×Int) (x1:Int):Option Int :=
 af (cS x0 (x1,1)) fun (t:Int×Int×PUnit)=>some t.1
def eH (x0:Int×Int) (x1:Int):Option Int:=lX lpK jnK cS x0 x1
abbrev O7:=(Int×Int)→(Int)→Option (Int)
def FSs:Ctr:=⟨[T49,i64],[],[],.one i64,fun x _ _=>eH x.1 x.2.1⟩
theorem Qd (lp:Lp) (jn:Jn) (cS:t39):∀(x:TsS FSs.as) (F:TsF FSs.fs) (y:TsS FSs.cs),lX lp jn cS x.1 x.2.1=cd lp jn (cx [(39,k39 cS)] [(134,bH)]) ao 4 144 f144 FSs x F y:=fun x F y=>by kernel_rfl
theorem NW:FSs.ok prog 144:=Ctr.of_den (au (ai (b6) (by kernel_rfl) P3)) aS (hl:=ao) (d:=4) func144 rfl (by decide) (Qd lpK jnK cS)
def jp (lp:Lp) (_:Jn) (x0:(List Int)×List ((List Int)×Int×Int)) (x1:Int):Option (List Int) :=
 lp (List Int×Int×PUnit) (List Int) (fun (again:List Int×Int×PUnit→Option (List Int)) (x:List Int×Int×PUnit)=>bif decide (x.2.1<(↑x0.2.length:Int)) then bif inB x.2.1 x0.2.length then bif inB x1 (List.length (x0.2.getD x.2.1.toNat ([],0,0)).1) then bif dt (List.length x.1+(1 : Nat)) 8 then again (x.1++[List.getD (x0.2.getD x.2.1.toNat ([],0,0)).1 x1.toNat 0],IntKind.wrap .i64 (x.2.1 + 1),PUnit.unit) else none else none else none else some x.1) ([],0,PUnit.unit)
def de (x0:(List Int)×List ((List Int)×Int×Int)) (x1:Int):Option (List Int):=jp lpK jnK x0 x1
abbrev Oz:=((List Int)×List ((List Int)×Int×Int))→(Int)→Option (List Int)
def Hs:Ctr:=⟨[T32,i64],[],[],.one (.sl i64),fun x _ _=>de x.1 x.2.1⟩
theorem PA (lp:Lp) (jn:Jn):∀(x:TsS Hs.as) (F:TsF Hs.fs) (y:TsS Hs.cs),jp lp jn x.1 x.2.1=cd lp jn (cx [] [(134,bH)]) ao 4 145 f145 Hs x F y:=fun x F y=>by kernel_rfl
theorem Oa:Hs.ok prog 145:=Ctr.of_den (au (b6)) aS (hl:=ao) (d:=4) func145 rfl (by decide) (PA lpK jnK)
def gS (_:Lp) (_:Jn) (_:Int):Option Int :=
 some 0
def cB (x0:Int):Option Int:=gS lpK jnK x0
abbrev t94:=(Int)→Option (Int)
def c94:Ctr:=⟨[i64],[],[],.one i64,fun x _ _=>cB x.1⟩
theorem e94 (lp:Lp) (jn:Jn):∀(x:TsS c94.as) (F:TsF c94.fs) (y:TsS c94.cs),gS lp jn x.1=cd lp jn (cx [] [(134,bH)]) ao 4 94 f94 c94 x F y:=fun x F y=>by kernel_rfl
theorem Qw:c94.ok prog 94:=Ctr.of_den (au (b6)) aS (hl:=ao) (d:=4) func94 rfl (by decide) (e94 lpK jnK)
def ju (lp:Lp) (_:Jn) (x0:(List Int)×List ((List Int)×Int×Int)):Option (List Int) :=
 lp (List Int×Int×PUnit) (List Int) (fun (again:List Int×Int×PUnit→Option (List Int)) (x:List Int×Int×PUnit)=>bif decide (x.2.1<(↑x0.2.length:Int)) then bif inB x.2.1 x0.2.length then bif dt (List.length x.1+1) 8 then again (x.1++[(x0.2.getD x.2.1.toNat ([],0,(0 : Int))).2.2],IntKind.wrap .i64 (x.2.1+1),PUnit.unit) else none else none else some x.1) ([],0,PUnit.unit)
def c8 (x0:(List Int)×List ((List Int)×Int×Int)):Option (List Int):=ju lpK jnK x0
abbrev t96:=((List Int)×List ((List Int)×Int×Int))→Option (List Int)
def c96:Ctr:=⟨[T32],[],[],.one (.sl i64),fun x _ _=>c8 x.1⟩
theorem e96 (lp:Lp) (jn:Jn):∀(x:TsS c96.as) (F:TsF c96.fs) (y:TsS c96.cs),ju lp jn x.1=cd lp jn (cx [] [(134,bH)]) ao 4 96 f96 c96 x F y:=fun x F y=>by kernel_rfl
theorem QW:c96.ok prog 96:=Ctr.of_den (au (b6)) aS (hl:=ao) (d:=4) func96 rfl (by decide) (e96 lpK jnK)
def jE (lp:Lp) (_:Jn) (x0:(List Int)×List ((List Int)×Int×Int)) (x1:List (Int×Int)):Option Bool :=
 lp (Int×PUnit) Bool (fun (again:Int×PUnit→Option Bool) (x:Int×PUnit) =>
 let v6:Bool:=inB x.1 x1.length;
 let v7:Bool:=decide ((x0.2.getD x.1.toNat ([],0,0)).2.1=1);
 let v8:Bool:=decide ((x0.2.getD x.1.toNat ([],0,0)).2.1=2);
 let v9:Bool:=!v7;
 let v10:Bool:=bif v7 then decide ((x1.getD x.1.toNat (0,0)).1>0) else false;
 let v11:Bool:=!v10;
 let v12:Bool:=!v11;
 let v13:Bool:=v9||v7;
 let v14:Bool:=v11&&v8;
 let v15:Bool:=!v14;
 let v16:Bool:=v12||v11;
 let v17:Bool:=v15||v14;bif decide (x.1<(↑x0.2.length:Int)) then bif inB x.1 x0.2.length then bif v13&&(v13&&(v9||v6)) then bif v13 then bif v13 then bif v13 then bif v13 then bif v16 then bif v16 then bif v16 then bif v17&&(v17&&(v15||v6)) then bif v17 then bif v17 then bif v17 then bif (v12||v16)&&(v12||(!v8||(v12 || v14))) then bif v10||v11 then bif bif v10 then true else bif v8 then decide ((x1.getD x.1.toNat (0,0)).1<0) else false then some false else again (IntKind.wrap .i64 (x.1+1),PUnit.unit) else none else none else none else none else none else none else none else none else none else none else none else none else none else none else none else some true) (0,PUnit.unit)
def dg (x0:(List Int)×List ((List Int)×Int×Int)) (x1:List (Int×Int)):Option Bool:=jE lpK jnK x0 x1
abbrev t97:=((List Int)×List ((List Int)×Int×Int))→(List (Int×Int))→Option (Bool)
def c97:Ctr:=⟨[T32,(.sl T49)],[],[],.one .bool,fun x _ _=>dg x.1 x.2.1⟩
theorem e97 (lp:Lp) (jn:Jn):∀(x:TsS c97.as) (F:TsF c97.fs) (y:TsS c97.cs),jE lp jn x.1 x.2.1=cd lp jn (cx [] [(134,bH)]) ao 4 97 f97 c97 x F y:=fun x F y=>by kernel_rfl
theorem Q1:c97.ok prog 97:=Ctr.of_den (au (b6)) aS (hl:=ao) (d:=4) func97 rfl (by decide) (e97 lpK jnK)
def iU (lp:Lp) (_:Jn) (aV:t91) (dD:t92) (eH:O7) (de:Oz) (cB:t94) (c8:t96) (dg:t97) (bO:t95) (x0:(List Int)×List ((List Int)×Int×Int)) (x1:List (Int×Int)):Option (Bool×Int×Unit) :=
 af (aV x0) fun (t:Bool) =>
 let v5:Bool:=!t;
 let v6:Bool:=!v5;
 let v7:Bool:=!v6||v6;bif v7 then af (bif v6 then dD x1 else some false) fun (t:Bool)=>bif v7 then bif v5||v6 then bif bif v5 then true else !t then some (false, 1,PUnit.unit) else bif !decide ((↑x1.length:Int)=(↑x0.2.length:Int)) then some (false,3,PUnit.unit) else lp (Bool×Int×Int×PUnit) (Bool × Int×PUnit) (fun (again:Bool×Int×Int×PUnit→Option (Bool×Int×PUnit)) (x:Bool×Int×Int×PUnit)=>bif decide (x.2.1<(↑x0.1.length:Int)) then af (de x0 x.2.1) fun (t:List Int)=>af (bO x.2.2.1 t x1) fun (t:Int×Int×Int)=>af (cB x.2.1) fun (t_1:Int)=>af (eH t.2 t_1) fun (t_2:Int) =>
 let v15:Bool:=decide (t_2≤0);bif !v15||v15 then again (bif v15 then x.1 else false,IntKind.wrap .i64 (x.2.1+1),t.1,PUnit.unit) else none else af (c8 x0) fun (t:List Int)=>af (bO x.2.2.1 t x1) fun (t:Int×Int×Int) =>
 let v13:Bool:=decide (t.2.1>0);
 let v14:Bool:=!v13||v13;bif v14&&v14 then af (bif v13 then dg x0 x1 else some false) fun (t_1:Bool) =>
 let v16:Bool:=bif v13 then t_1 else false;
 let v17:Bool:=bif v16 then x.1 else false;
 let v18:Bool:=!v17||v17;bif v14 then bif !v16||v16 then bif v18 then bif v18 then bif v18 then some (bif v17 then decide (t.1=0) else false,t.1,PUnit.unit) else none else none else none else none else none else none) (true,0,0,PUnit.unit) else none else none else none
def bM (x0:(List Int)×List ((List Int)×Int×Int)) (x1:List (Int×Int)):Option (Bool×Int×Unit):=iU lpK jnK aV dD eH de cB c8 dg bO x0 x1
abbrev t47:=((List Int)×List ((List Int)×Int×Int))→(List (Int×Int))→Option (Bool×Int×Unit)
def k47 (bM:t47):Ctr:=⟨[T32,(.sl T49)],[],[],.tup [.bool,i64],fun x _ _=>bM x.1 x.2.1⟩
def c47:Ctr:=k47 bM
theorem e47 (lp:Lp) (jn:Jn) (aV:t91) (dD:t92) (eH:O7) (de:Oz) (cB:t94) (c8:t96) (dg:t97) (bO:t95):∀(x:TsS c47.as) (F:TsF c47.fs) (y:TsS c47.cs),iU lp jn aV dD eH de cB c8 dg bO x.1 x.2.1=cd lp jn (xS Am Ao (CF [] [(95,k95 bO)] (jQ prog shs uB its [(97,⟨[T32,(.sl T49)],[],[],.one .bool,fun x _ _=>dg x.1 x.2.1⟩),(96,⟨[T32],[],[],.one (.sl i64),fun x _ _=>c8 x.1⟩),(94,⟨[i64],[],[],.one i64,fun x _ _=>cB x.1⟩),(145,⟨[T32,i64],[],[],.one (.sl i64),fun x _ _=>de x.1 x.2.1⟩),(144,⟨[T49,i64],[],[],.one i64,fun x _ _=>eH x.1 x.2.1⟩),(92,⟨[(.sl T49)],[],[],.one .bool,fun x _ _=>dD x.1⟩),(91,k91 aV)] [(134,bH)]))) ao 4 47 f47 c47 x F y:=fun x F y=>by kernel_rfl
theorem QB:c47.ok prog 47:=Ctr.of_den (au (oQ (ai (ai (ai (ai (ai (ai (ai (b6) (by kernel_rfl) Nz) (by kernel_rfl) QM) (by kernel_rfl) NW) (by kernel_rfl) Oa) (by kernel_rfl) Qw) (by kernel_rfl) QW) (by kernel_rfl) Q1) (mi) (Ez (by kernel_rfl) Qi (mB)))) aS (hl:=ao) (d:=4) func47 rfl (by decide) (e47 lpK jnK aV dD eH de cB c8 dg bO)
def lf (_:Lp) (_:Jn) (ax:t11) (bM:t47) (x0:(List (ByteArray×Int))×List (ByteArray×(List (ByteArray×Int×Int×Int))×Bool)) (x1:List (Int×Int)):Option (Bool×Int×Unit) :=
 af (ax x0) fun (t:(List Int×List (List Int×Int×Int))×Int×PUnit)=>bif !decide (t.2.1=0) then some (false,t.2.1,PUnit.unit) else af (bM t.1 x1) fun (t:Bool×Int×PUnit)=>some (t.1,t.2.1,PUnit.unit)
def aM (x0:(List (ByteArray×Int))×List (ByteArray×(List (ByteArray×Int×Int×Int))×Bool)) (x1:List (Int×Int)):Option (Bool×Int×Unit):=lf lpK jnK ax bM x0 x1
abbrev t12:=((List (ByteArray×Int))×List (ByteArray×(List (ByteArray×Int×Int×Int))×Bool))→(List (Int×Int))→Option (Bool×Int×Unit)
def k12 (aM:t12):Ctr:=⟨[T25,(.sl T49)],[],[],.tup [.bool,i64],fun x _ _=>aM x.1 x.2.1⟩
def c12:Ctr:=k12 aM
theorem e12 (lp:Lp) (jn:Jn) (ax:t11) (bM:t47):∀(x:TsS c12.as) (F:TsF c12.fs) (y:TsS c12.cs),lf lp jn ax bM x.1 x.2.1=cd lp jn (cx [(47,k47 bM),(11,k11 ax)] [(134,bH)]) ao 4 12 f12 c12 x F y:=fun x F y=>by kernel_rfl
theorem OW:c12.ok prog 12:=Ctr.of_den (au (ai (ai (b6) (by kernel_rfl) Ny) (by kernel_rfl) QB)) aS (hl:=ao) (d:=4) func12 rfl (by decide) (e12 lpK jnK ax bM)
def oD (_:Lp) (_:Jn) (x0:Int):Option Int :=
 
 let v3:Int:=IntKind.wrap .u64 x0;bif decide (x0<0) then some (IntKind.wrap .u64 (0 - v3)) else some v3
def bL (x0:Int):Option Int:=oD lpK jnK x0
abbrev H8:=(Int)→Option (Int)
def NA (bL:H8):Ctr:=⟨[i64],[],[],.one (.int .u64),fun x _ _=>bL x.1⟩
def GT:Ctr:=NA bL
theorem QP (lp:Lp) (jn:Jn):∀(x:TsS GT.as) (F:TsF GT.fs) (y:TsS GT.cs),oD lp jn x.1=cd lp jn (cx [] [(134,bH)]) ao 4 155 f155 GT x F y:=fun x F y=>by kernel_rfl
theorem L6:GT.ok prog 155:=Ctr.of_den (au (b6)) aS (hl:=ao) (d:=4) func155 rfl (by decide) (QP lpK jnK)
def js (lp:Lp) (_:Jn) (bL:H8) (x0:List Int) (x1:Int):Option Int :=
 af (bL x1) fun (t:Int)=>lp (Int×Int×PUnit) Int (fun (again:Int×Int×PUnit→Option Int) (x:Int×Int×PUnit)=>bif decide (x.2.1<(↑x0.length : Int)) then bif inB x.2.1 x0.length then af (bL (x0.getD x.2.1.toNat 0)) fun (t:Int)=>again (IntKind.wrap .i64 (x.1 + IntKind.wrap .i64 t),IntKind.wrap .i64 (x.2.1+1),PUnit.unit) else none else some x.1) (IntKind.wrap .i64 (1+IntKind.wrap .i64 t), 0,PUnit.unit)
def cE (x0:List Int) (x1:Int):Option Int:=js lpK jnK bL x0 x1
abbrev O3:=(List Int)→(Int)→Option (Int)
def GZ:Ctr:=⟨[(.sl i64),i64],[],[],.one i64,fun x _ _=>cE x.1 x.2.1⟩
theorem QD (lp:Lp) (jn:Jn) (bL:H8):∀(x:TsS GZ.as) (F:TsF GZ.fs) (y:TsS GZ.cs),js lp jn bL x.1 x.2.1=cd lp jn (cx [(155,NA bL)] [(134,bH)]) ao 4 154 f154 GZ x F y:=fun x F y=>by kernel_rfl
theorem OT:GZ.ok prog 154:=Ctr.of_den (au (ai (b6) (by kernel_rfl) L6)) aS (hl:=ao) (d:=4) func154 rfl (by decide) (QD lpK jnK bL)
def jj (lp:Lp) (jn:Jn) (x0:List Int):Option Int :=
 jn PUnit Int (fun (_:PUnit)=>bif inB 0 x0.length then lp (Int×Int×PUnit) Int (fun (again:Int×Int×PUnit→Option Int) (x:Int×Int×PUnit)=>bif decide (x.2.1<(↑x0.length:Int)) then bif inB x.2.1 x0.length then again (if x0.getD x.2.1.toNat 0>x.1 then x0.getD x.2.1.toNat 0 else x.1,IntKind.wrap .i64 (x.2.1+1),PUnit.unit) else none else some x.1) (x0.getD 0 0,1,PUnit.unit) else none) fun (j:PUnit→Option Int)=>bif decide ((↑x0.length:Int)<1) then none else j PUnit.unit
def df (x0:List Int):Option Int:=jj lpK jnK x0
abbrev OM:=(List Int)→Option (Int)
def GW:Ctr:=⟨[(.sl i64)],[],[],.one i64,fun x _ _=>df x.1⟩
theorem Q0 (lp:Lp) (jn:Jn):∀(x:TsS GW.as) (F:TsF GW.fs) (y:TsS GW.cs),jj lp jn x.1=cd lp jn (cx [] [(134,bH)]) ao 4 156 f156 GW x F y:=fun x F y=>by kernel_rfl
theorem N9:GW.ok prog 156:=Ctr.of_den (au (b6)) aS (hl:=ao) (d:=4) func156 rfl (by decide) (Q0 lpK jnK)
def lk (lp:Lp) (_:Jn) (cE:O3) (df:OM) (x0:(List Int)×List ((List Int)×Int×Int)):Option Bool :=
 af (cE x0.1 0) fun (t:Int)=>lp (List Int×Int×PUnit) Bool (fun (again:List Int×Int×PUnit→Option Bool) (x:List Int×Int×PUnit) =>
 let v6:List Int×Int×Int:=x0.2.getD x.2.1.toNat ([],0,0);bif decide (x.2.1<(↑x0.2.length:Int)) then bif inB x.2.1 x0.2.length then af (cE v6.1 v6.2.2) fun (t:Int)=>bif dt (List.length x.1+1) 8 then again (x.1++[t],IntKind.wrap .i64 (x.2.1+1),PUnit.unit) else none else none else lp (Int×Int×PUnit) Bool (fun (again:Int×Int×PUnit→Option Bool) (x_1:Int×Int×PUnit) =>
 let v9:Int:=x.1.getD x_1.2.1.toNat 0;bif decide (x_1.2.1<(↑x.1.length:Int)) then bif inB x_1.2.1 x.1.length then bif Nat.ble (Nat.succ x_1.2.1.toNat) x.1.length then bif nzB v9 then bif decide (x_1.1>IntKind.wrap .i64 (Int.tdiv 17592186044416 v9)) then some false else again (IntKind.wrap .i64 (x_1.1*v9),IntKind.wrap .i64 (x_1.2.1+1),PUnit.unit) else none else none else none else af (df x.1) fun (t : Int)=>bif nzB t then some (decide (x_1.1≤IntKind.wrap .i64 (Int.tdiv 144115188075855872 t))) else none) (1,0,PUnit.unit)) ([t],0, PUnit.unit)
def bV (x0:(List Int)×List ((List Int)×Int×Int)):Option Bool:=lk lpK jnK cE df x0
abbrev Hb:=((List Int)×List ((List Int)×Int×Int))→Option (Bool)
def Nj (bV:Hb):Ctr:=⟨[T32],[],[],.one .bool,fun x _ _=>bV x.1⟩
def IY:Ctr:=Nj bV
theorem Qy (lp:Lp) (jn:Jn) (cE:O3) (df:OM):∀(x:TsS IY.as) (F:TsF IY.fs) (y:TsS IY.cs),lk lp jn cE df x.1=cd lp jn (cx [(156,⟨[(.sl i64)],[],[],.one i64,fun x _ _=>df x.1⟩),(154,⟨[(.sl i64),i64],[],[],.one i64,fun x _ _=>cE x.1 x.2.1⟩)] [(134,bH)]) ao 4 108 f108 IY x F y:=fun x F y=>by kernel_rfl
theorem L5:IY.ok prog 108:=Ctr.of_den (au (ai (ai (b6) (by kernel_rfl) OT) (by kernel_rfl) N9)) aS (hl:=ao) (d:=4) func108 rfl (by decide) (Qy lpK jnK cE df)
def eQ (lp:Lp) (_:Jn) (x0:(List (List Int))×Int×(List Int)×(List Int)×(List Int)×Int×Int) (x1:Int):Option Int :=
 lp (Int×Int×PUnit) Int (fun (again:Int×Int×PUnit→Option Int) (x:Int×Int×PUnit) =>
 let v6:Int×PUnit:=(IntKind.wrap .i64 (x.2.1+1),PUnit.unit);
 let v7:List Int:=x0.1.getD x.2.1.toNat [];bif decide (x.2.1<(↑x0.1.length:Int)) then bif inB x.2.1 x0.1.length then bif inB x.2.1 x0.2.2.1.length then bif decide (x0.2.2.1.getD x.2.1.toNat 0≥x0.2.2.2.2.2.1) then bif inB x1 v7.length then again (IntKind.wrap .i64 (x.1+v7.getD x1.toNat 0),v6) else none else again (x.1,v6) else none else none else some x.1) (0,0,PUnit.unit)
def av (x0:(List (List Int))×Int×(List Int)×(List Int)×(List Int)×Int×Int) (x1:Int):Option Int:=eQ lpK jnK x0 x1
abbrev HR:=((List (List Int))×Int×(List Int)×(List Int)×(List Int)×Int×Int)→(Int)→Option (Int)
def ME (av:HR):PCtr:=⟨D9,[i64],.one i64,fun x y=>av x y.1⟩
def JP:PCtr:=ME av
theorem QE (lp:Lp) (jn:Jn):∀(x:JP.s.T) (y:TsS JP.as),eQ lp jn x y.1=CM lp jn (cx [] [(134,bH)]) ao 4 126 f126 JP x y:=fun x y=>by kernel_rfl
theorem LL:JP.ok prog 126:=PCtr.of_den (au (b6)) aS (hl:=ao) (d:=4) func126 rfl (by decide) (QE lpK jnK)
def kj (_:Lp) (_:Jn) (bG:BR) (bL:H8) (x0:Int) (x1:Int):Option (Bool×Int×Int) :=
 
 let v4:Bool:=!decide (decide (x0<0)=decide (x1<0));
 let v5:Bool:=!v4;
 let v6:Bool:=v5||v4;af (bL x0) fun (t:Int)=>af (bL x1) fun (t_1:Int)=>af (bG t t_1) fun (t:Int×Int×PUnit) =>
 let v10:Bool:=!decide (t.1=0);
 let v11:Bool:=v4&&!v10;bif v6 then bif v6 then bif !v11||v11 then bif (v5||v6)&&(v5||(v10||(v5||v11))) then bif v6 then some (bif v4 then bif v10 then true else !decide (t.2.1=0) else false,t.1,t.2.1) else none else none else none else none else none
def bq (x0:Int) (x1:Int):Option (Bool×Int×Int):=kj lpK jnK bG bL x0 x1
abbrev Ib:=(Int)→(Int)→Option (Bool×Int×Int)
def Ml (bq:Ib):Ctr:=⟨[i64,i64],[],[],.one q5,fun x _ _=>bq x.1 x.2.1⟩
def Ii:Ctr:=Ml bq
theorem PW (lp:Lp) (jn:Jn) (bG:BR) (bL:H8):∀(x:TsS Ii.as) (F:TsF Ii.fs) (y:TsS Ii.cs),kj lp jn bG bL x.1 x.2.1=cd lp jn (cx [(155,NA bL),(122,LB bG)] [(134,bH)]) ao 4 175 f175 Ii x F y:=fun x F y=>by kernel_rfl
theorem LS:Ii.ok prog 175:=Ctr.of_den (au (ai (ai (b6) (by kernel_rfl) Jh) (by kernel_rfl) L6)) aS (hl:=ao) (d:=4) func175 rfl (by decide) (PW lpK jnK bG bL)
def fe (_:Lp) (_:Jn) (x0:Bool×Int×Int) (x1:Bool×Int×Int):Option Int :=
 
 let v4:Bool:=decide (x0.2.1=x1.2.1);
 let v5:Bool:=!v4;
 let v6:Bool:=v5||v4;
 let v7:Bool:=!v5||v5;
 let v8:Bool:=bif v5 then decide (x0.2.1<x1.2.1) else false;
 let v9:Bool:=!v8;
 let v10:Bool:=!v9;
 let v11:Bool:=v9&&v4;
 let v12:Bool:=v10||v9;
 let v13:Bool:=!v11||v11;bif v7 then bif v7 then bif v7&&v7 then bif v7 then bif v12 then bif v12 then bif v12&&v12 then bif v12 then bif v13 then bif v13 then bif v13&&v13 then bif (v10||v12)&&(v10||(v5||(v10||v11))) then bif v8||v9 then bif bif v8 then true else bif v4 then decide (x0.2.2<x1.2.2) else false then some (-1) else bif v6 then bif v6 then bif v6&&v6 then bif v6 then bif bif v4 then decide (x0.2.2=x1.2.2) else false then some 0 else some 1 else none else none else none else none else none else none else none else none else none else none else none else none else none else none else none else none else none
def aw (x0:Bool×Int×Int) (x1:Bool×Int×Int):Option Int:=fe lpK jnK x0 x1
abbrev I4:=(Bool×Int×Int)→(Bool×Int×Int)→Option (Int)
def ML (aw:I4):Ctr:=⟨[q5,q5],[],[],.one i64,fun x _ _=>aw x.1 x.2.1⟩
def Hq:Ctr:=ML aw
theorem QZ (lp:Lp) (jn:Jn):∀(x:TsS Hq.as) (F:TsF Hq.fs) (y:TsS Hq.cs),fe lp jn x.1 x.2.1=cd lp jn (cx [] [(134,bH)]) ao 4 184 f184 Hq x F y:=fun x F y=>by kernel_rfl
theorem L3:Hq.ok prog 184:=Ctr.of_den (au (b6)) aS (hl:=ao) (d:=4) func184 rfl (by decide) (QZ lpK jnK)
def fM (_:Lp) (jn:Jn) (aw:I4) (x0:Bool×Int×Int) (x1:Bool×Int×Int):Option (Bool×Int×Int) :=
 
 let v4:Bool:=!x0.1;
 let v5:Bool:=!x1.1;
 let v6:Bool:=!v4;
 let v7:Bool:=v4&&v5;
 let v8:Bool:=v6||v4;
 let v9:Bool:=!v7;
 let v10:Bool:=v9||v7;
 let v11:Bool:=!decide (x1.2.1=0);
 let v12:Bool:=v7&&!v11;
 let v13:Bool:=decide ((0:Int)≤0)&&decide ((0:Int)≤1);
 let v14:Bool:=!v12||v12;bif !decide (x0.1=x1.1) then bif v13 then bif decide (0≤nI x0.2.2 x1.2.2 0)&&decide (nI x0.2.2 x1.2.2 (0 : Int)≤1) then bif v8 then bif v8 then bif v8 then bif v10 then bif v10 then bif v10 then bif v14 then bif v14 then bif (v9||v10)&&(v9||(v11||(v9||v12))) then bif (v6 || v8)&&(v6||(!v5||(v6||v7))) then bif x0.1||v4 then some (bif x0.1 then true else bif v5 then bif v11 then true else !decide (x1.2.2=0) else false,vW x0.2.1 x1.2.1 (nI x0.2.2 x1.2.2 0),vW x0.2.2 x1.2.2 0) else none else none else none else none else none else none else none else none else none else none else none else none else none else af (aw x0 x1) fun (t:Int)=>jn (Bool×(Bool×Int×Int)×(Bool×Int×Int)×PUnit) (Bool×Int×Int) (fun (x:Bool×(Bool×Int×Int)×(Bool×Int×Int)×PUnit) =>
 let v17:Bool:=!x.1;
 let v18:Bool:=v17||x.1;
 let v19:Bool:=!decide (r8 x.2.1.2.1 x.2.2.1.2.1 (ms x.2.1.2.2 x.2.2.1.2.2 0)=0);
 let v20:Bool:=x.1&&!v19;bif v13 then bif decide (0≤ms x.2.1.2.2 x.2.2.1.2.2 0)&&decide (ms x.2.1.2.2 x.2.2.1.2.2 (0 : Int)≤1) then bif v18 then bif v18 then bif !v20||v20 then bif (v17||v18)&&(v17||(v19||(v17||v20))) then bif v18 then some (bif x.1 then bif v19 then true else !decide (r8 x.2.1.2.2 x.2.2.1.2.2 0=0) else false,r8 x.2.1.2.1 x.2.2.1.2.1 (ms x.2.1.2.2 x.2.2.1.2.2 (0 : Int)),r8 x.2.1.2.2 x.2.2.1.2.2 0) else none else none else none else none else none else none else none) fun (j:Bool×(Bool×Int×Int)×(Bool×Int × Int)×PUnit→Option (Bool×Int×Int))=>bif decide (t<0) then j (v4,x1,x0,PUnit.unit) else j (x0.1,x0,x1,PUnit.unit)
def bo (x0:Bool×Int×Int) (x1:Bool×Int×Int):Option (Bool×Int×Int):=fM lpK jnK aw x0 x1
abbrev Mw:=(Bool×Int×Int)→(Bool×Int×Int)→Option (Bool×Int×Int)
def O9 (bo:Mw):Ctr:=⟨[q5,q5],[],[],.one q5,fun x _ _=>bo x.1 x.2.1⟩
def H9:Ctr:=O9 bo
theorem Pz (lp:Lp) (jn:Jn) (aw:I4):∀(x:TsS H9.as) (F:TsF H9.fs) (y:TsS H9.cs),fM lp jn aw x.1 x.2.1=cd lp jn (cx [(184,ML aw)] [(134,bH)]) ao 4 176 f176 H9 x F y:=fun x F y=>by kernel_rfl
theorem N3:H9.ok prog 176:=Ctr.of_den (au (ai (b6) (by kernel_rfl) L3)) aS (hl:=ao) (d:=4) func176 rfl (by decide) (Pz lpK jnK aw)
def fR (_:Lp) (_:Jn) (ct:II) (x0:Bool×Int×Int) (x1:Int):Option Int :=
 af (ct x0.2.1 x0.2.2 (IntKind.wrap .u64 x1)) fun (t:Int×Int×PUnit) =>
 let v5:Int:=IntKind.wrap .i64 t.1;bif x0.1 then some (IntKind.wrap .i64 (0 - v5)) else some v5
def bE (x0:Bool×Int×Int) (x1:Int):Option Int:=fR lpK jnK ct x0 x1
abbrev Ow:=(Bool×Int×Int)→(Int)→Option (Int)
def FP:Ctr:=⟨[q5,i64],[],[],.one i64,fun x _ _=>bE x.1 x.2.1⟩
theorem Qq (lp:Lp) (jn:Jn) (ct:II):∀(x:TsS FP.as) (F:TsF FP.fs) (y:TsS FP.cs),fR lp jn ct x.1 x.2.1=cd lp jn (cx [(125,Mq ct)] [(134,bH)]) ao 4 177 f177 FP x F y:=fun x F y=>by kernel_rfl
theorem O5:FP.ok prog 177:=Ctr.of_den (au (ai (b6) (by kernel_rfl) Me)) aS (hl:=ao) (d:=4) func177 rfl (by decide) (Qq lpK jnK ct)
def gt (lp:Lp) (_:Jn) (bq:Ib) (bo:Mw) (bE:Ow) (x0:List Nat×List (Option (List Int))) (x1:Int) (x2:List Int) (x3:List Int) (x4:List Int) (x5:Int) (x6:Int) (x7:Int) (x8:Int):Option ((List Nat×List (Option (List Int)))×Int×(List Int)×(List Int)×(List Int)×Int×Int×Unit) :=
 
 let v11:List Int×List Int×List Int×Int×Int×PUnit:=(x2.set x7.toNat x8,x3,x4,x5,x6,PUnit.unit);bif inB x7 x0.1.length then bif Nat.ble (Nat.succ x7.toNat) x0.1.length then bif inB x8 (List.length (ah x0.2 (x0.1.getD x7.toNat 0))) then bif Nat.ble (Nat.succ x8.toNat) (List.length (ah x0.2 (x0.1.getD x7.toNat 0))) then lp (Int×(List Nat×List (Option (List Int)))×PUnit) ((List Nat×List (Option (List Int)))×Int×List Int×List Int×List Int×Int×Int×PUnit) (fun (again:Int×(List Nat×List (Option (List Int)))×PUnit→Option ((List Nat×List (Option (List Int)))×Int×List Int×List Int×List Int×Int×Int×PUnit)) (x:Int×(List Nat×List (Option (List Int)))×PUnit) =>
 let v14:Int:=IntKind.wrap .i64 (x.1+1);
 let v15:(List Nat×List (Option (List Int)))×PUnit:=(x.2.1,PUnit.unit);
 let v16:Int×(List Nat×List (Option (List Int)))×PUnit:=(0,v15);bif decide (x.1<(↑x0.1.length:Int)) then bif inB x.1 x.2.1.1.length then bif Nat.ble (Nat.succ x.1.toNat) x.2.1.1.length then bif decide (x.1=x7) then again (v14,v15) else bif inB x8 (List.length (ah x.2.1.2 (x.2.1.1.getD x.1.toNat 0))) then bif Nat.ble (Nat.succ x8.toNat) (List.length (ah x.2.1.2 (x.2.1.1.getD x.1.toNat 0))) then bif eC x.2.1.2 (x.2.1.1.getD x.1.toNat 0) then lp (Int×(List Nat×List (Option (List Int)))×PUnit) ((List Nat×List (Option (List Int)))×Int × List Int×List Int×List Int×Int×Int×PUnit) (fun (again_1:Int×(List Nat×List (Option (List Int)))×PUnit→Option ((List Nat×List (Option (List Int)))×Int×List Int × List Int×List Int×Int×Int×PUnit)) (x_1:Int×(List Nat×List (Option (List Int)))×PUnit)=>bif decide (x_1.1<(↑(List.length (ah x.2.1.2 (x.2.1.1.getD x.1.toNat 0))):Int)) then bif inB x_1.1 (List.length (ah x_1.2.1.2 (x.2.1.1.getD x.1.toNat 0))) then bif Nat.ble (Nat.succ x_1.1.toNat) (List.length (ah x_1.2.1.2 (x.2.1.1.getD x.1.toNat 0))) then af (bq (List.getD (ah x_1.2.1.2 (x.2.1.1.getD x.1.toNat 0)) x_1.1.toNat 0) (List.getD (ah x0.2 (x0.1.getD x7.toNat 0)) x8.toNat 0)) fun (t:Bool×Int×Int)=>bif inB x7 x_1.2.1.1.length then bif Nat.ble (Nat.succ x7.toNat) x_1.2.1.1.length then bif inB x_1.1 (List.length (ah x_1.2.1.2 (x_1.2.1.1.getD x7.toNat 0))) then bif Nat.ble (Nat.succ x_1.1.toNat) (List.length (ah x_1.2.1.2 (x_1.2.1.1.getD x7.toNat 0))) then af (bq (List.getD (ah x.2.1.2 (x.2.1.1.getD x.1.toNat 0)) x8.toNat 0) (List.getD (ah x_1.2.1.2 (x_1.2.1.1.getD x7.toNat 0)) x_1.1.toNat 0)) fun (t_1:Bool×Int×Int)=>af (bo t t_1) fun (t:Bool × Int×Int)=>af (bE t x1) fun (t:Int)=>bif inB x_1.1 (List.length (ah x_1.2.1.2 (x.2.1.1.getD x.1.toNat 0))) then bif Nat.ble (Nat.succ x_1.1.toNat) (List.length (ah x_1.2.1.2 (x.2.1.1.getD x.1.toNat 0))) then again_1 (IntKind.wrap .i64 (x_1.1+(1 : Int)),(x_1.2.1.1,x_1.2.1.2.set (x.2.1.1.getD x.1.toNat 0) (some (List.set (ah x_1.2.1.2 (x.2.1.1.getD x.1.toNat 0)) x_1.1.toNat t))),PUnit.unit) else none else none else none else none else none else none else none else none else again (v14,x_1.2.1,PUnit.unit)) v16 else none else none else none else none else none else bif inB x7 x2.length then bif Nat.ble (Nat.succ x7.toNat) x2.length then bif decide (List.getD (ah x0.2 (x0.1.getD x7.toNat 0)) x8.toNat 0<0) then lp (Int×(List Nat×List (Option (List Int)))×PUnit) ((List Nat×List (Option (List Int))) × Int×List Int×List Int×List Int×Int×Int×PUnit) (fun (again:Int×(List Nat×List (Option (List Int)))×PUnit→Option ((List Nat×List (Option (List Int)))×Int×List Int×List Int×List Int×Int×Int×PUnit)) (x_1:Int×(List Nat×List (Option (List Int)))×PUnit)=>bif decide (x_1.1<(↑x.2.1.1.length:Int)) then bif inB x_1.1 x_1.2.1.1.length then bif Nat.ble (Nat.succ x_1.1.toNat) x_1.2.1.1.length then bif eC x_1.2.1.2 (x_1.2.1.1.getD x_1.1.toNat 0) then lp (Int×(List Nat×List (Option (List Int)))×PUnit) ((List Nat×List (Option (List Int)))×Int×List Int×List Int×List Int×Int×Int×PUnit) (fun (again_1:Int×(List Nat×List (Option (List Int)))×PUnit→Option ((List Nat×List (Option (List Int)))×Int×List Int×List Int×List Int×Int×Int×PUnit)) (x:Int × (List Nat×List (Option (List Int)))×PUnit)=>bif decide (x.1<(↑(List.length (ah x_1.2.1.2 (x_1.2.1.1.getD x_1.1.toNat 0))):Int)) then bif inB x.1 (List.length (ah x.2.1.2 (x_1.2.1.1.getD x_1.1.toNat 0))) then bif Nat.ble (Nat.succ x.1.toNat) (List.length (ah x.2.1.2 (x_1.2.1.1.getD x_1.1.toNat 0))) then bif inB x.1 (List.length (ah x.2.1.2 (x_1.2.1.1.getD x_1.1.toNat 0))) then bif Nat.ble (Nat.succ x.1.toNat) (List.length (ah x.2.1.2 (x_1.2.1.1.getD x_1.1.toNat 0))) then again_1 (IntKind.wrap .i64 (x.1+(1 : Int)),(x.2.1.1,x.2.1.2.set (x_1.2.1.1.getD x_1.1.toNat 0) (some (List.set (ah x.2.1.2 (x_1.2.1.1.getD x_1.1.toNat 0)) x.1.toNat (IntKind.wrap .i64 (0 - List.getD (ah x.2.1.2 (x_1.2.1.1.getD x_1.1.toNat 0)) x.1.toNat 0))))),PUnit.unit) else none else none else none else none else again (IntKind.wrap .i64 (x_1.1+1),x.2.1,PUnit.unit)) (0,x_1.2.1, PUnit.unit) else none else none else none else some (x_1.2.1,IntKind.wrap .i64 (0 - List.getD (ah x0.2 (x0.1.getD x7.toNat 0)) x8.toNat 0),v11)) v16 else some (x.2.1,List.getD (ah x0.2 (x0.1.getD x7.toNat 0)) x8.toNat 0,v11) else none else none) (0,x0, PUnit.unit) else none else none else none else none
def aF (x0:List Nat×List (Option (List Int))) (x1:Int) (x2:List Int) (x3:List Int) (x4:List Int) (x5:Int) (x6:Int) (x7:Int) (x8:Int):Option ((List Nat×List (Option (List Int)))×Int×(List Int)×(List Int)×(List Int)×Int×Int×Unit):=gt lpK jnK bq bo bE x0 x1 x2 x3 x4 x5 x6 x7 x8
abbrev Gg:=(List Nat×List (Option (List Int)))→(Int)→(List Int)→(List Int)→(List Int)→(Int)→(Int)→(Int)→(Int)→Option ((List Nat×List (Option (List Int)))×Int×(List Int)×(List Int)×(List Int)×Int×Int×Unit)
def Nc (aF:Gg):SCtr:=⟨[.b [.x (.tab 29 .ref 3 i64),.d i64,.row 3 i64,.row 3 i64,.row 3 i64,.d i64,.d i64],.d i64,.d i64],[],fun x=>aF x.1 x.2.1 x.2.2.1 x.2.2.2.1 x.2.2.2.2.1 x.2.2.2.2.2.1 x.2.2.2.2.2.2.1 x.2.2.2.2.2.2.2.1 x.2.2.2.2.2.2.2.2.1⟩
def Mh:SCtr:=Nc aF
theorem PF (lp:Lp) (jn:Jn) (bq:Ib) (bo:Mw) (bE:Ow):∀x:TsR (rhI 0 Mh.ks),gt lp jn bq bo bE x.1 x.2.1 x.2.2.1 x.2.2.2.1 x.2.2.2.2.1 x.2.2.2.2.2.1 x.2.2.2.2.2.2.1 x.2.2.2.2.2.2.2.1 x.2.2.2.2.2.2.2.2.1=HT lp jn (Dn.look []) (cx [(177,⟨[q5,i64],[],[],.one i64,fun x _ _=>bE x.1 x.2.1⟩),(176,O9 bo),(175,Ml bq)] [(134,bH)]) ao 4 157 f157 Mh x:=fun x=>by kernel_rfl
theorem Mb:Mh.ok prog 157:=SCtr.of_den (au (ai (ai (ai (b6) (by kernel_rfl) LS) (by kernel_rfl) N3) (by kernel_rfl) O5)) aS (nY) (hl:=ao) (d:=4) func157 rfl (by decide) (PF lpK jnK bq bo bE)
open Tryz Dn Dn.Sh
set_option maxRecDepth 100000
def gq (_:Lp) (_:Jn) (aw:I4) (x0:Bool×Int×Int) (x1:Bool×Int×Int):Option Int :=
 
 let v4:Bool:=!decide (x0.1=x1.1);
 let v5:Bool:=!v4||v4;bif v5 then bif v5 then bif bif v4 then x0.1 else false then some (-1) else bif v4 then some 1 else bif x0.1 then af (aw x1 x0) fun (t:Int)=>some t else af (aw x0 x1) fun (t:Int)=>some t else none else none
def b9 (x0:Bool×Int×Int) (x1:Bool×Int×Int):Option Int:=gq lpK jnK aw x0 x1
abbrev OV:=(Bool×Int×Int)→(Bool×Int×Int)→Option (Int)
def Ig:Ctr:=⟨[q5,q5],[],[],.one i64,fun x _ _=>b9 x.1 x.2.1⟩
theorem Qc (lp:Lp) (jn:Jn) (aw:I4):∀(x:TsS Ig.as) (F:TsF Ig.fs) (y:TsS Ig.cs),gq lp jn aw x.1 x.2.1=cd lp jn (cx [(184,ML aw)] [(134,bH)]) ao 4 178 f178 Ig x F y:=fun x F y=>by kernel_rfl
theorem NV:Ig.ok prog 178:=Ctr.of_den (au (ai (b6) (by kernel_rfl) L3)) aS (hl:=ao) (d:=4) func178 rfl (by decide) (Qc lpK jnK aw)
def fL (lp:Lp) (_:Jn) (bq:Ib) (b9:OV) (x0:(List (List Int))×Int×(List Int)×(List Int)×(List Int)×Int×Int) (x1:Int):Option Int :=
 lp (Int×Int×PUnit) Int (fun (again:Int×Int×PUnit→Option Int) (x:Int×Int×PUnit) =>
 let v6:Int×PUnit:=(IntKind.wrap .i64 (x.2.1+1),PUnit.unit);
 let v7:Bool:=inB x.1 x0.1.length;
 let v8:List Int:=x0.1.getD x.1.toNat [];
 let v9:List Int:=x0.1.getD x.2.1.toNat [];
 let v10:Bool:=inB x1 v9.length;bif decide (x.2.1<(↑x0.1.length:Int)) then bif inB x.2.1 x0.1.length then bif v10 then bif decide (v9.getD x1.toNat 0≤0) then again (x.1,v6) else bif decide (x.1<0) then again (x.2.1,v6) else bif inB x0.2.2.2.2.2.2 v9.length then bif v7 then bif inB x1 v8.length then af (bq (v9.getD x0.2.2.2.2.2.2.toNat 0) (v8.getD x1.toNat 0)) fun (t:Bool × Int×Int)=>bif v7 then bif inB x0.2.2.2.2.2.2 v8.length then bif v10 then af (bq (v8.getD x0.2.2.2.2.2.2.toNat 0) (v9.getD x1.toNat 0)) fun (t_1:Bool×Int×Int)=>af (b9 t t_1) fun (t:Int) =>
 let v14:Bool:=decide (t=0);
 let v15:Bool:=decide (t<0);
 let v16:Bool:=!v15;
 let v17:Bool:=!v16;
 let v18:Bool:=v16&&v14;
 let v19:Bool:=!v18;
 let v20:Bool:=v17||v16;
 let v21:Bool:=v19||v18;bif v20 then bif v20 then bif v21 then bif v21 then bif v21 then bif v21&&(v21&&(v19||inB x.2.1 x0.2.2.1.length)) then bif v21 then bif v21 then bif v21 then bif v21 then bif v21&&(v21&&(v19||inB x.1 x0.2.2.1.length)) then bif v21 then bif v21&&v21 then bif (v17||v20)&&(v17||(!v14 || (v17||v18))) then bif v15||v16 then bif bif v15 then true else bif v14 then decide (x0.2.2.1.getD x.2.1.toNat 0<x0.2.2.1.getD x.1.toNat 0) else false then again (x.2.1,v6) else again (x.1,v6) else none else none else none else none else none else none else none else none else none else none else none else none else none else none else none else none else none else none else none else none else none else none else none else some x.1) ((-1),0,PUnit.unit)
def aA (x0:(List (List Int))×Int×(List Int)×(List Int)×(List Int)×Int×Int) (x1:Int):Option Int:=fL lpK jnK bq b9 x0 x1
abbrev HP:=((List (List Int))×Int×(List Int)×(List Int)×(List Int)×Int×Int)→(Int)→Option (Int)
def NG (aA:HP):PCtr:=⟨D9,[i64],.one i64,fun x y=>aA x y.1⟩
def JX:PCtr:=NG aA
theorem P6 (lp:Lp) (jn:Jn) (bq:Ib) (b9:OV):∀(x:JX.s.T) (y:TsS JX.as),fL lp jn bq b9 x y.1=CM lp jn (cx [(178,⟨[q5,q5],[],[],.one i64,fun x _ _=>b9 x.1 x.2.1⟩),(175,Ml bq)] [(134,bH)]) ao 4 158 f158 JX x y:=fun x y=>by kernel_rfl
theorem L9:JX.ok prog 158:=PCtr.of_den (au (ai (ai (b6) (by kernel_rfl) LS) (by kernel_rfl) NV)) aS (hl:=ao) (d:=4) func158 rfl (by decide) (P6 lpK jnK bq b9)
def gv (lp:Lp) (_:Jn) (aF:Gg) (av:HR) (aA:HP) (x0:List Nat×List (Option (List Int))) (x1:Int) (x2:List Int) (x3:List Int) (x4:List Int) (x5:Int) (x6:Int):Option ((List Nat×List (Option (List Int)))×Int×(List Int)×(List Int)×(List Int)×Int×Int×Bool×Unit) :=
 lp ((List Nat×List (Option (List Int)))×Int×List Int×List Int×List Int×Int×Int×PUnit) ((List Nat×List (Option (List Int)))×Int×List Int×List Int×List Int×Int × Int×Bool×PUnit) (fun (again:(List Nat×List (Option (List Int)))×Int×List Int×List Int×List Int×Int×Int×PUnit→Option ((List Nat×List (Option (List Int)))×Int × List Int×List Int×List Int×Int×Int×Bool×PUnit)) (x:(List Nat×List (Option (List Int)))×Int×List Int×List Int×List Int×Int×Int×PUnit)=>lp (Int×Int × PUnit) ((List Nat×List (Option (List Int)))×Int×List Int×List Int×List Int×Int×Int×Bool×PUnit) (fun (again_1:Int×Int×PUnit→Option ((List Nat×List (Option (List Int)))×Int×List Int×List Int×List Int×Int×Int×Bool×PUnit)) (x_1:Int×Int×PUnit) =>
 let v13:Bool:=decide (x_1.1<0);
 let v14:Int×PUnit:=(IntKind.wrap .i64 (x_1.2.1+1),PUnit.unit);
 let v15:Bool:=decide (x_1.2.1<x.2.2.2.2.2.1);
 let v16:Bool:=!v15||v15;bif v16 then bif v16 then bif bif v15 then v13 else false then af (bif List.all x.1.1 fun (x_2:Nat)=>eC x.1.2 x_2 then av (List.map (fun (x_2:Nat)=>ah x.1.2 x_2) x.1.1,x.2.1,x.2.2.1,x.2.2.2.1,x.2.2.2.2.1,x.2.2.2.2.2.1, x.2.2.2.2.2.2.1) x_1.2.1 else none) fun (t:Int)=>bif decide (t>0) then again_1 (x_1.2.1,v14) else again_1 (x_1.1,v14) else bif v13 then af (bif List.all x.1.1 fun (x_2:Nat)=>eC x.1.2 x_2 then av (List.map (fun (x_2:Nat)=>ah x.1.2 x_2) x.1.1,x.2.1,x.2.2.1, x.2.2.2.1,x.2.2.2.2.1,x.2.2.2.2.2.1,x.2.2.2.2.2.2.1) x.2.2.2.2.2.2.1 else none) fun (t:Int)=>bif decide (t>0) then some (x.1,x.2.1,x.2.2.1,x.2.2.2.1,x.2.2.2.2.1,x.2.2.2.2.2.1,x.2.2.2.2.2.2.1,false,PUnit.unit) else lp (Int×(List Nat×List (Option (List Int)))×Int×List Int×List Int×List Int×Int×Int×PUnit) ((List Nat×List (Option (List Int)))×Int×List Int×List Int×List Int×Int×Int × Bool×PUnit) (fun (again:Int×(List Nat×List (Option (List Int)))×Int×List Int×List Int×List Int×Int×Int×PUnit→Option ((List Nat×List (Option (List Int)))×Int × List Int×List Int×List Int×Int×Int×Bool×PUnit)) (x_2:Int×(List Nat×List (Option (List Int)))×Int×List Int×List Int×List Int×Int×Int×PUnit)=>bif decide (x_2.1<(↑x.1.1.length:Int)) then lp (Int×(List Nat×List (Option (List Int)))×Int×List Int×List Int×List Int×Int×Int×PUnit) ((List Nat×List (Option (List Int)))×Int×List Int×List Int×List Int×Int×Int×Bool×PUnit) (fun (again_2:Int×(List Nat×List (Option (List Int)))×Int×List Int×List Int×List Int×Int×Int×PUnit→Option ((List Nat×List (Option (List Int)))×Int×List Int×List Int×List Int×Int×Int×Bool×PUnit)) (x:Int×(List Nat×List (Option (List Int)))×Int×List Int×List Int×List Int×Int×Int×PUnit) =>
 let v22:Int:=IntKind.wrap .i64 (x.1+1);
 let v23:Bool:=decide (x.1<x.2.2.2.2.2.2.1);
 let v24:Bool:=!v23;
 let v25:Bool:=v24||v23;
 let v26:(List Nat×List (Option (List Int)))×Int×List Int×List Int×List Int×Int×Int×PUnit:=(x.2.1,x.2.2.1,x.2.2.2.1,x.2.2.2.2.1, x.2.2.2.2.2.1,x.2.2.2.2.2.2.1,x.2.2.2.2.2.2.2.1,PUnit.unit);bif v25 then bif v25 then bif v25 then bif v25&&(v25&&(v24||inB x_2.1 x.2.2.2.1.length)) then bif v25&&(v24||Nat.ble (Nat.succ x_2.1.toNat) x.2.2.2.1.length) then bif v25 then bif v25 then bif v25 then bif v25 && v25 then bif v25 then bif bif v23 then decide (x.2.2.2.1.getD x_2.1.toNat 0≥x.2.2.2.2.2.2.1) else false then bif inB x_2.1 x.2.1.1.length then bif Nat.ble (Nat.succ x_2.1.toNat) x.2.1.1.length then bif inB x.1 (List.length (ah x.2.1.2 (x.2.1.1.getD x_2.1.toNat 0))) then bif Nat.ble (Nat.succ x.1.toNat) (List.length (ah x.2.1.2 (x.2.1.1.getD x_2.1.toNat 0))) then bif !decide (List.getD (ah x.2.1.2 (x.2.1.1.getD x_2.1.toNat 0)) x.1.toNat 0=0) then af (aF x.2.1 x.2.2.1 x.2.2.2.1 x.2.2.2.2.1 x.2.2.2.2.2.1 x.2.2.2.2.2.2.1 x.2.2.2.2.2.2.2.1 x_2.1 x.1) fun (y:(List Nat×List (Option (List Int)))×Int×List Int×List Int×List Int×Int×Int×PUnit)=>again_2 (v22,y.1,y.2.1,y.2.2.1,y.2.2.2.1,y.2.2.2.2.1,y.2.2.2.2.2.1, y.2.2.2.2.2.2.1,PUnit.unit) else again_2 (v22,v26) else none else none else none else none else again (IntKind.wrap .i64 (x_2.1+1),v26) else none else none else none else none else none else none else none else none else none else none) (0,x_2.2.1,x_2.2.2.1,x_2.2.2.2.1,x_2.2.2.2.2.1, x_2.2.2.2.2.2.1,x_2.2.2.2.2.2.2.1,x_2.2.2.2.2.2.2.2.1,PUnit.unit) else some (x_2.2.1,x_2.2.2.1,x_2.2.2.2.1, x_2.2.2.2.2.1,x_2.2.2.2.2.2.1,x_2.2.2.2.2.2.2.1,x_2.2.2.2.2.2.2.2.1,true,PUnit.unit)) (0,x.1,x.2.1, x.2.2.1,x.2.2.2.1,x.2.2.2.2.1,x.2.2.2.2.2.1,x.2.2.2.2.2.2.1,PUnit.unit) else af (bif List.all x.1.1 fun (x_2:Nat) => eC x.1.2 x_2 then aA (List.map (fun (x_2:Nat)=>ah x.1.2 x_2) x.1.1,x.2.1,x.2.2.1,x.2.2.2.1,x.2.2.2.2.1, x.2.2.2.2.2.1,x.2.2.2.2.2.2.1) x_1.1 else none) fun (t:Int)=>af (aF x.1 x.2.1 x.2.2.1 x.2.2.2.1 x.2.2.2.2.1 x.2.2.2.2.2.1 x.2.2.2.2.2.2.1 t x_1.1) fun (y:(List Nat×List (Option (List Int)))×Int×List Int×List Int×List Int×Int × Int×PUnit)=>again (y.1,y.2.1,y.2.2.1,y.2.2.2.1,y.2.2.2.2.1,y.2.2.2.2.2.1,y.2.2.2.2.2.2.1,PUnit.unit) else none else none) ((-1),0,PUnit.unit)) (x0,x1,x2,x3,x4,x5,x6,PUnit.unit)
def aL (x0:List Nat×List (Option (List Int))) (x1:Int) (x2:List Int) (x3:List Int) (x4:List Int) (x5:Int) (x6:Int):Option ((List Nat×List (Option (List Int)))×Int×(List Int)×(List Int)×(List Int)×Int×Int×Bool×Unit):=gv lpK jnK aF av aA x0 x1 x2 x3 x4 x5 x6
abbrev I3:=(List Nat×List (Option (List Int)))→(Int)→(List Int)→(List Int)→(List Int)→(Int)→(Int)→Option ((List Nat×List (Option (List Int)))×Int×(List Int)×(List Int)×(List Int)×Int×Int×Bool×Unit)
def M9 (aL:I3):SCtr:=⟨[.b [.x (.tab 29 .ref 3 i64),.d i64,.row 3 i64,.row 3 i64,.row 3 i64,.d i64,.d i64]],[(false,[.d .bool])],fun x=>aL x.1 x.2.1 x.2.2.1 x.2.2.2.1 x.2.2.2.2.1 x.2.2.2.2.2.1 x.2.2.2.2.2.2.1⟩
def NM:SCtr:=M9 aL
theorem QU (lp:Lp) (jn:Jn) (aF:Gg) (av:HR) (aA:HP):∀x:TsR (rhI 0 NM.ks),gv lp jn aF av aA x.1 x.2.1 x.2.2.1 x.2.2.2.1 x.2.2.2.2.1 x.2.2.2.2.2.1 x.2.2.2.2.2.2.1=HT lp jn (Dn.look [(157,Nc aF)]) (xS Am Ao (CF [(158,NG aA),(126,ME av)] [] (jQ prog shs uB its [] [(134,bH)]))) ao 4 110 f110 NM x:=fun x=>by kernel_rfl
theorem LW:NM.ok prog 110:=SCtr.of_den (au (oQ (b6) (gO (by kernel_rfl) L9 (gO (by kernel_rfl) LL (mi))) (mB))) aS (mA Mb (nY)) (hl:=ao) (d:=4) func110 rfl (by decide) (QU lpK jnK aF av aA)
def gF (_:Lp) (_:Jn) (x0:(List (List Int))×Int×(List Int)×(List Int)×(List Int)×Int×Int) (x1:Int):Option Int :=
 bif decide (x1<(↑x0.2.2.2.2.1.length:Int)) then bif inB x1 x0.2.2.2.2.1.length then some (x0.2.2.2.2.1.getD x1.toNat 0) else none else some 0
def aI (x0:(List (List Int))×Int×(List Int)×(List Int)×(List Int)×Int×Int) (x1:Int):Option Int:=gF lpK jnK x0 x1
abbrev G3:=((List (List Int))×Int×(List Int)×(List Int)×(List Int)×Int×Int)→(Int)→Option (Int)
def M0 (aI:G3):PCtr:=⟨D9,[i64],.one i64,fun x y=>aI x y.1⟩
def KH:PCtr:=M0 aI
theorem P5 (lp:Lp) (jn:Jn):∀(x:KH.s.T) (y:TsS KH.as),gF lp jn x y.1=CM lp jn (cx [] [(134,bH)]) ao 4 112 f112 KH x y:=fun x y=>by kernel_rfl
theorem LZ:KH.ok prog 112:=PCtr.of_den (au (b6)) aS (hl:=ao) (d:=4) func112 rfl (by decide) (P5 lpK jnK)
def fK (lp:Lp) (_:Jn) (aI:G3) (x0:(List (List Int))×Int×(List Int)×(List Int)×(List Int)×Int×Int) (x1:Int):Option Int :=
 af (aI x0 x1) fun (t:Int)=>lp (Int×Int×PUnit) Int (fun (again:Int×Int×PUnit→Option Int) (x:Int×Int×PUnit) =>
 let v7:List Int:=x0.1.getD x.2.1.toNat [];bif decide (x.2.1<(↑x0.1.length:Int)) then bif inB x.2.1 x0.1.length then bif inB x.2.1 x0.2.2.1.length then af (aI x0 (x0.2.2.1.getD x.2.1.toNat 0)) fun (t:Int)=>bif inB x1 v7.length then again (IntKind.wrap .i64 (x.1 - IntKind.wrap .i64 (t*v7.getD x1.toNat 0)),IntKind.wrap .i64 (x.2.1+1),PUnit.unit) else none else none else none else some x.1) (IntKind.wrap .i64 (t*x0.2.1),0,PUnit.unit)
def bx (x0:(List (List Int))×Int×(List Int)×(List Int)×(List Int)×Int×Int) (x1:Int):Option Int:=fK lpK jnK aI x0 x1
abbrev OB:=((List (List Int))×Int×(List Int)×(List Int)×(List Int)×Int×Int)→(Int)→Option (Int)
def JZ:PCtr:=⟨D9,[i64],.one i64,fun x y=>bx x y.1⟩
theorem PT (lp:Lp) (jn:Jn) (aI:G3):∀(x:JZ.s.T) (y:TsS JZ.as),fK lp jn aI x y.1=CM lp jn (xS Am Ao (CF [(112,M0 aI)] [] (jQ prog shs uB its [] [(134,bH)]))) ao 4 159 f159 JZ x y:=fun x y=>by kernel_rfl
theorem Oj:JZ.ok prog 159:=PCtr.of_den (au (oQ (b6) (gO (by kernel_rfl) LZ (mi)) (mB))) aS (hl:=ao) (d:=4) func159 rfl (by decide) (PT lpK jnK aI)
def fG (lp:Lp) (_:Jn) (aF:Gg) (aA:HP) (bx:OB) (x0:List Nat×List (Option (List Int))) (x1:Int) (x2:List Int) (x3:List Int) (x4:List Int) (x5:Int) (x6:Int):Option ((List Nat×List (Option (List Int)))×Int×(List Int)×(List Int)×(List Int)×Int×Int×Bool×Unit) :=
 lp ((List Nat×List (Option (List Int)))×Int×List Int×List Int×List Int×Int×Int×PUnit) ((List Nat×List (Option (List Int)))×Int×List Int×List Int×List Int×Int × Int×Bool×PUnit) (fun (again:(List Nat×List (Option (List Int)))×Int×List Int×List Int×List Int×Int×Int×PUnit→Option ((List Nat×List (Option (List Int)))×Int × List Int×List Int×List Int×Int×Int×Bool×PUnit)) (x:(List Nat×List (Option (List Int)))×Int×List Int×List Int×List Int×Int×Int×PUnit)=>lp (Int×Int × PUnit) ((List Nat×List (Option (List Int)))×Int×List Int×List Int×List Int×Int×Int×Bool×PUnit) (fun (again_1:Int×Int×PUnit→Option ((List Nat×List (Option (List Int)))×Int×List Int×List Int×List Int×Int×Int×Bool×PUnit)) (x_1:Int×Int×PUnit) =>
 let v13:Bool:=decide (x_1.1<0);
 let v14:Int×PUnit:=(IntKind.wrap .i64 (x_1.2.1+1),PUnit.unit);
 let v15:Bool:=decide (x_1.2.1<x.2.2.2.2.2.1);
 let v16:Bool:=!v15||v15;bif v16 then bif v16 then bif bif v15 then v13 else false then af (bif List.all x.1.1 fun (x_2:Nat)=>eC x.1.2 x_2 then bx (List.map (fun (x_2:Nat)=>ah x.1.2 x_2) x.1.1,x.2.1,x.2.2.1,x.2.2.2.1,x.2.2.2.2.1,x.2.2.2.2.2.1, x.2.2.2.2.2.2.1) x_1.2.1 else none) fun (t:Int)=>bif decide (t<0) then again_1 (x_1.2.1,v14) else again_1 (x_1.1,v14) else bif v13 then some (x.1,x.2.1,x.2.2.1,x.2.2.2.1,x.2.2.2.2.1,x.2.2.2.2.2.1,x.2.2.2.2.2.2.1,true,PUnit.unit) else af (bif List.all x.1.1 fun (x_2:Nat)=>eC x.1.2 x_2 then aA (List.map (fun (x_2:Nat)=>ah x.1.2 x_2) x.1.1,x.2.1,x.2.2.1,x.2.2.2.1, x.2.2.2.2.1,x.2.2.2.2.2.1,x.2.2.2.2.2.2.1) x_1.1 else none) fun (t:Int)=>bif decide (t<0) then some (x.1,x.2.1, x.2.2.1,x.2.2.2.1,x.2.2.2.2.1,x.2.2.2.2.2.1,x.2.2.2.2.2.2.1,false,PUnit.unit) else af (aF x.1 x.2.1 x.2.2.1 x.2.2.2.1 x.2.2.2.2.1 x.2.2.2.2.2.1 x.2.2.2.2.2.2.1 t x_1.1) fun (y:(List Nat×List (Option (List Int)))×Int×List Int × List Int×List Int×Int×Int×PUnit)=>again (y.1,y.2.1,y.2.2.1,y.2.2.2.1,y.2.2.2.2.1,y.2.2.2.2.2.1,y.2.2.2.2.2.2.1, PUnit.unit) else none else none) ((-1),0,PUnit.unit)) (x0,x1,x2,x3,x4,x5,x6,PUnit.unit)
def bp (x0:List Nat×List (Option (List Int))) (x1:Int) (x2:List Int) (x3:List Int) (x4:List Int) (x5:Int) (x6:Int):Option ((List Nat×List (Option (List Int)))×Int×(List Int)×(List Int)×(List Int)×Int×Int×Bool×Unit):=fG lpK jnK aF aA bx x0 x1 x2 x3 x4 x5 x6
abbrev Mo:=(List Nat×List (Option (List Int)))→(Int)→(List Int)→(List Int)→(List Int)→(Int)→(Int)→Option ((List Nat×List (Option (List Int)))×Int×(List Int)×(List Int)×(List Int)×Int×Int×Bool×Unit)
def Po (bp:Mo):SCtr:=⟨[.b [.x (.tab 29 .ref 3 i64),.d i64,.row 3 i64,.row 3 i64,.row 3 i64,.d i64,.d i64]],[(false,[.d .bool])],fun x=>bp x.1 x.2.1 x.2.2.1 x.2.2.2.1 x.2.2.2.2.1 x.2.2.2.2.2.1 x.2.2.2.2.2.2.1⟩
def NI:SCtr:=Po bp
theorem QK (lp:Lp) (jn:Jn) (aF:Gg) (aA:HP) (bx:OB):∀x:TsR (rhI 0 NI.ks),fG lp jn aF aA bx x.1 x.2.1 x.2.2.1 x.2.2.2.1 x.2.2.2.2.1 x.2.2.2.2.2.1 x.2.2.2.2.2.2.1=HT lp jn (Dn.look [(157,Nc aF)]) (xS Am Ao (CF [(159,⟨D9,[i64],.one i64,fun x y=>bx x y.1⟩),(158,NG aA)] [] (jQ prog shs uB its [] [(134,bH)]))) ao 4 111 f111 NI x:=fun x=>by kernel_rfl
theorem OX:NI.ok prog 111:=SCtr.of_den (au (oQ (b6) (gO (by kernel_rfl) Oj (gO (by kernel_rfl) L9 (mi))) (mB))) aS (mA Mb (nY)) (hl:=ao) (d:=4) func111 rfl (by decide) (QK lpK jnK aF aA bx)
def nf (_:Lp) (_:Jn) (ba:t75) (aB:t77) (aZ:t82) (x0:Int) (x1:Int):Option ((Int×Int)×Int×Unit) :=
 
 let v4:Bool:=!decide (x0=0);
 let v5:Bool:=!v4||v4;bif decide (x1=0) then some ((0,0),16,PUnit.unit) else af (aB x0) fun (t:Int)=>af (aB x1) fun (t_1:Int)=>af (ba t t_1) fun (t_2:Int) =>
 let v9:Bool:=nzB t_2;bif v5 then bif v5 then bif v5&&v5 then bif v5 then bif v9 then bif v9 then af (aZ (bif v4 then !decide (decide (x0<0)=decide (x1<(0 : Int))) else false) (IntKind.wrap .u64 (Int.tdiv t t_2)) (IntKind.wrap .u64 (Int.tdiv t_1 t_2))) fun (t:(Int×Int)×Int×PUnit)=>some (t.1,t.2.1, PUnit.unit) else none else none else none else none else none else none
def eh (x0:Int) (x1:Int):Option ((Int×Int)×Int×Unit):=nf lpK jnK ba aB aZ x0 x1
abbrev NF:=(Int)→(Int)→Option ((Int×Int)×Int×Unit)
def NS (eh:NF):Ctr:=⟨[i64,i64],[],[],.tup [T49,i64],fun x _ _=>eh x.1 x.2.1⟩
def Hu:Ctr:=NS eh
theorem QG (lp:Lp) (jn:Jn) (ba:t75) (aB:t77) (aZ:t82):∀(x:TsS Hu.as) (F:TsF Hu.fs) (y:TsS Hu.cs),nf lp jn ba aB aZ x.1 x.2.1=cd lp jn (cx [(82,k82 aZ),(77,k77 aB),(75,k75 ba)] [(134,bH)]) ao 4 136 f136 Hu x F y:=fun x F y=>by kernel_rfl
theorem Og:Hu.ok prog 136:=Ctr.of_den (au (ai (ai (ai (b6) (by kernel_rfl) KG) (by kernel_rfl) F7) (by kernel_rfl) Ng)) aS (hl:=ao) (d:=4) func136 rfl (by decide) (QG lpK jnK ba aB aZ)
def gJ (_:Lp) (_:Jn) (eh:NF) (x0:(List (List Int))×Int×(List Int)×(List Int)×(List Int)×Int×Int) (x1:Int):Option (Int×Int) :=
 af (eh x1 x0.2.1) fun (t:(Int×Int)×Int×PUnit)=>some t.1
def aG (x0:(List (List Int))×Int×(List Int)×(List Int)×(List Int)×Int×Int) (x1:Int):Option (Int×Int):=gJ lpK jnK eh x0 x1
abbrev G8:=((List (List Int))×Int×(List Int)×(List Int)×(List Int)×Int×Int)→(Int)→Option (Int×Int)
def M3 (aG:G8):PCtr:=⟨D9,[i64],.one T49,fun x y=>aG x y.1⟩
def Kv:PCtr:=M3 aG
theorem Qu (lp:Lp) (jn:Jn) (eh:NF):∀(x:Kv.s.T) (y:TsS Kv.as),gJ lp jn eh x y.1=CM lp jn (cx [(136,NS eh)] [(134,bH)]) ao 4 113 f113 Kv x y:=fun x y=>by kernel_rfl
theorem L2:Kv.ok prog 113:=PCtr.of_den (au (ai (b6) (by kernel_rfl) Og)) aS (hl:=ao) (d:=4) func113 rfl (by decide) (Qu lpK jnK eh)
def hO (lp:Lp) (jn:Jn) (aV:t91) (bV:Hb) (aX:HE) (aL:I3) (bp:Mo) (aI:G3) (aG:G8) (x0:(List Int)×List ((List Int)×Int×Int)):Option (((Int×Int)×(List (Int×Int))×List (Int×Int))×Int×Unit) :=
 af (aV x0) fun (t:Bool)=>bif !t then some (((0,0),[],[]),1,PUnit.unit) else af (bV x0) fun (t:Bool)=>bif !t then some ((((0 : Int),0),[],[]),5,PUnit.unit) else lp (Int×Int×PUnit) (((Int×Int)×List (Int×Int)×List (Int×Int))×Int×PUnit) (fun (again:Int×Int×PUnit → Option (((Int×Int)×List (Int×Int)×List (Int×Int))×Int×PUnit)) (x:Int×Int×PUnit) =>
 let v7:Int×PUnit:=(IntKind.wrap .i64 (x.2.1+1),PUnit.unit);
 let v8:Int:=IntKind.wrap .i64 ((↑x0.1.length:Int)+x.1);bif decide (x.2.1<(↑x0.2.length:Int)) then bif inB x.2.1 x0.2.length then bif !decide ((x0.2.getD x.2.1.toNat ([],0,0)).2.1=3) then again (IntKind.wrap .i64 (x.1+1),v7) else again (x.1, v7) else none else af (aX x0.1) fun (t:List Int)=>lp (Int×Int×(List Nat×List (Option (List Int)))×Int×List Int×List Int×List Int×Int×Int × PUnit) (((Int×Int)×List (Int×Int)×List (Int×Int))×Int×PUnit) (fun (again:Int×Int×(List Nat×List (Option (List Int)))×Int×List Int×List Int×List Int×Int × Int×PUnit→Option (((Int×Int)×List (Int×Int)×List (Int×Int))×Int×PUnit)) (x:Int×Int×(List Nat×List (Option (List Int)))×Int×List Int×List Int×List Int × Int×Int×PUnit) =>
 let v12:Int:=IntKind.wrap .i64 (x.1+1);
 let v13:List Int×Int×Int:=x0.2.getD x.2.1.toNat ([],0,0);
 let v14:List Int:=List.replicate (Int.toNat (IntKind.wrap .i64 (x.2.2.2.2.2.2.2.2.1+1))) 0;
 let v15:Bool:=inB x.1 (Int.toNat (IntKind.wrap .i64 (x.2.2.2.2.2.2.2.2.1+1)));
 let v16:Bool:=Nat.ble (Nat.succ x.1.toNat) (Int.toNat (IntKind.wrap .i64 (x.2.2.2.2.2.2.2.2.1+1)));
 let v17:Int:=IntKind.wrap .i64 (x.2.2.2.2.2.2.2.1+x.2.1);
 let v18:List Int:=List.take (Int.toNat (IntKind.wrap .i64 (x.2.2.2.2.2.2.2.2.1+1))) v13.1;
 let v19:List Int:=List.set (List.take 0 v14++v18++List.drop (0+List.length v18) v14) x.2.2.2.2.2.2.2.2.1.toNat v13.2.2;bif decide (x.2.1<(↑x0.2.length:Int)) then bif inB x.2.1 x0.2.length then bif decide (0≤IntKind.wrap .i64 (x.2.2.2.2.2.2.2.2.1+(1 : Int)))&&dt (Int.toNat (IntKind.wrap .i64 (x.2.2.2.2.2.2.2.2.1+1))) 8 then bif inB x.2.2.2.2.2.2.2.2.1 (Int.toNat (IntKind.wrap .i64 (x.2.2.2.2.2.2.2.2.1+1))) then bif Nat.ble (Nat.succ x.2.2.2.2.2.2.2.2.1.toNat) (Int.toNat (IntKind.wrap IntKind.i64 (x.2.2.2.2.2.2.2.2.1+1))) then jn (Int×List Int×PUnit) (((Int×Int)×List (Int×Int)×List (Int×Int))×Int×PUnit) (fun (x_1:Int × List Int×PUnit) =>
 let v21:List Int×PUnit:=(x_1.2.1,PUnit.unit);jn (Int×List Int×PUnit) (((Int×Int)×List (Int×Int)×List (Int×Int))×Int×PUnit) (fun (x_2:Int×List Int × PUnit)=>bif inB v17 x_2.2.1.length then bif Nat.ble (Nat.succ v17.toNat) x_2.2.1.length then bif dt (List.length x.2.2.1.1+1) (24 : Nat) then bif dt (List.length x.2.2.2.2.2.1+1) 8 then bif dt (List.length x.2.2.2.2.1+1) 8 then again (x_1.1, IntKind.wrap .i64 (x.2.1+1),(x.2.2.1.1++[List.length x.2.2.1.2+0],x.2.2.1.2++[some (x_2.2.1.set v17.toNat (1 : Int))]),x.2.2.2.1,x.2.2.2.2.1++[v17],x.2.2.2.2.2.1++[x_2.1],x.2.2.2.2.2.2.1,x.2.2.2.2.2.2.2.1, x.2.2.2.2.2.2.2.2.1,PUnit.unit) else none else none else none else none else none) fun (j:Int×List Int×PUnit→Option (((Int×Int)×List (Int×Int)×List (Int×Int))×Int×PUnit))=>bif decide (v13.2.2<0) then lp (Int×List Int×PUnit) (((Int×Int)×List (Int×Int)×List (Int×Int))×Int×PUnit) (fun (again : Int×List Int×PUnit→Option (((Int×Int)×List (Int×Int)×List (Int×Int))×Int×PUnit)) (x:Int×List Int×PUnit) =>
 let v25:Bool:=inB x.1 x.2.1.length;
 let v26:Bool:=Nat.ble (Nat.succ x.1.toNat) x.2.1.length;bif decide (x.1<(↑x_1.2.1.length:Int)) then bif v25 then bif v26 then bif v25 then bif v26 then again (IntKind.wrap .i64 (x.1+1),x.2.1.set x.1.toNat (IntKind.wrap .i64 (0 - x.2.1.getD x.1.toNat 0)), PUnit.unit) else none else none else none else none else j ((-1),x.2.1,PUnit.unit)) (0,v21) else j (1,v21)) fun (j:Int×List Int×PUnit→Option (((Int × Int)×List (Int×Int)×List (Int×Int))×Int×PUnit))=>bif decide (v13.2.1=1) then bif v15 then bif v16 then j (v12,v19.set x.1.toNat 1, PUnit.unit) else none else none else jn (Int×List Int×PUnit) (((Int×Int)×List (Int×Int)×List (Int×Int))×Int×PUnit) (fun (x:Int×List Int×PUnit)=>j (x.1, x.2.1,PUnit.unit)) fun (j:Int×List Int×PUnit→Option (((Int×Int)×List (Int×Int)×List (Int×Int))×Int×PUnit))=>bif decide (v13.2.1=2) then bif v15 then bif v16 then j (v12,v19.set x.1.toNat (-1),PUnit.unit) else none else none else j (x.1,v19,PUnit.unit) else none else none else none else none else af (aL x.2.2.1 x.2.2.2.1 x.2.2.2.2.1 x.2.2.2.2.2.1 x.2.2.2.2.2.2.1 x.2.2.2.2.2.2.2.1 x.2.2.2.2.2.2.2.2.1) fun (y:(List Nat×List (Option (List Int)))×Int×List Int×List Int×List Int×Int×Int×Bool×PUnit)=>bif !y.2.2.2.2.2.2.2.1 then some (((0,0),[],[]),22,PUnit.unit) else af (bp y.1 y.2.1 y.2.2.1 y.2.2.2.1 y.2.2.2.2.1 y.2.2.2.2.2.1 y.2.2.2.2.2.2.1) fun (y:(List Nat×List (Option (List Int)))×Int×List Int×List Int×List Int×Int×Int×Bool × PUnit)=>bif !y.2.2.2.2.2.2.2.1 then some (((0,0),[],[]),21,PUnit.unit) else bif decide (0≤(↑x0.1.length:Int))&&dt (Int.toNat (↑x0.1.length:Int)) 8 then lp (Int×Int×List Int×PUnit) (((Int×Int)×List (Int×Int)×List (Int×Int))×Int×PUnit) (fun (again:Int×Int × List Int×PUnit→Option (((Int×Int)×List (Int×Int)×List (Int×Int))×Int×PUnit)) (x:Int×Int×List Int×PUnit) =>
 let v24:Int:=IntKind.wrap .i64 (x.2.1+1);
 let v25:Bool:=inB x.2.1 y.1.1.length;
 let v26:Bool:=Nat.ble (Nat.succ x.2.1.toNat) y.1.1.length;
 let v27:Int:=y.2.2.1.getD x.2.1.toNat 0;bif decide (x.2.1<(↑y.2.2.1.length:Int)) then bif inB x.2.1 y.2.2.1.length then bif Nat.ble (Nat.succ x.2.1.toNat) y.2.2.1.length then af (bif List.all y.1.1 fun (x:Nat)=>eC y.1.2 x then aI (List.map (fun (x:Nat)=>ah y.1.2 x) y.1.1,y.2.1,y.2.2.1,y.2.2.2.1,y.2.2.2.2.1,y.2.2.2.2.2.1,y.2.2.2.2.2.2.1) v27 else none) fun (t:Int)=>bif v25 then bif v26 then bif inB y.2.2.2.2.2.2.1 (List.length (ah y.1.2 (y.1.1.getD x.2.1.toNat 0))) then bif Nat.ble (Nat.succ y.2.2.2.2.2.2.1.toNat) (List.length (ah y.1.2 (y.1.1.getD x.2.1.toNat 0))) then bif decide (v27<(↑x.2.2.1.length:Int)) then bif v25 then bif v26 then bif inB y.2.2.2.2.2.2.1 (List.length (ah y.1.2 (y.1.1.getD x.2.1.toNat 0))) then bif Nat.ble (Nat.succ y.2.2.2.2.2.2.1.toNat) (List.length (ah y.1.2 (y.1.1.getD x.2.1.toNat 0))) then bif inB v27 x.2.2.1.length then bif Nat.ble (Nat.succ v27.toNat) x.2.2.1.length then again (IntKind.wrap .i64 (x.1+IntKind.wrap .i64 (t*List.getD (ah y.1.2 (y.1.1.getD x.2.1.toNat 0)) y.2.2.2.2.2.2.1.toNat 0)),v24,x.2.2.1.set v27.toNat (List.getD (ah y.1.2 (y.1.1.getD x.2.1.toNat 0)) y.2.2.2.2.2.2.1.toNat 0),PUnit.unit) else none else none else none else none else none else none else again (IntKind.wrap .i64 (x.1+IntKind.wrap .i64 (t*List.getD (ah y.1.2 (y.1.1.getD x.2.1.toNat 0)) y.2.2.2.2.2.2.1.toNat 0)),v24,x.2.2.1,PUnit.unit) else none else none else none else none else none else none else af (bif List.all y.1.1 fun (x:Nat) =>eC y.1.2 x then aG (List.map (fun (x:Nat)=>ah y.1.2 x) y.1.1,y.2.1,y.2.2.1,y.2.2.2.1,y.2.2.2.2.1, y.2.2.2.2.2.1,y.2.2.2.2.2.2.1) x.1 else none) fun (t:Int×Int)=>lp (Int×(Int×Int)×List (Int×Int)×List (Int×Int)×PUnit) (((Int×Int) × List (Int×Int)×List (Int×Int))×Int×PUnit) (fun (again:Int×(Int×Int)×List (Int×Int)×List (Int×Int)×PUnit→Option (((Int×Int)×List (Int×Int)×List (Int × Int))×Int×PUnit)) (x_1:Int×(Int×Int)×List (Int×Int)×List (Int×Int)×PUnit) =>
 let v31:List (Int×Int)×PUnit:=(x_1.2.2.2.1,PUnit.unit);bif decide (x_1.1<(↑x.2.2.1.length:Int)) then bif inB x_1.1 x.2.2.1.length then bif Nat.ble (Nat.succ x_1.1.toNat) x.2.2.1.length then af (bif List.all y.1.1 fun (x:Nat)=>eC y.1.2 x then aG (List.map (fun (x : Nat)=>ah y.1.2 x) y.1.1,y.2.1,y.2.2.1,y.2.2.2.1,y.2.2.2.2.1,y.2.2.2.2.2.1,y.2.2.2.2.2.2.1) (x.2.2.1.getD x_1.1.toNat 0) else none) fun (t:Int×Int)=>bif dt (List.length x_1.2.2.1+1) 16 then again (IntKind.wrap .i64 (x_1.1+1),x_1.2.1,x_1.2.2.1++[t],v31) else none else none else none else lp (Int×(Int×Int)×List (Int×Int)×List (Int×Int)×PUnit) (((Int×Int) × List (Int×Int)×List (Int×Int))×Int×PUnit) (fun (again:Int×(Int×Int)×List (Int×Int)×List (Int×Int)×PUnit→Option (((Int×Int)×List (Int×Int)×List (Int × Int))×Int×PUnit)) (x:Int×(Int×Int)×List (Int×Int)×List (Int×Int)×PUnit) =>
 let v34:Int:=IntKind.wrap .i64 (y.2.2.2.2.2.1+x.1);bif decide (x.1<(↑x0.2.length:Int)) then lp (Int×Int×PUnit) (((Int×Int)×List (Int × Int)×List (Int×Int))×Int×PUnit) (fun (again_1:Int×Int×PUnit→Option (((Int×Int)×List (Int×Int)×List (Int×Int))×Int×PUnit)) (x_2:Int×Int×PUnit)=>bif decide (x_2.2.1<(↑y.2.2.1.length:Int)) then bif inB x_2.2.1 y.2.2.1.length then bif Nat.ble (Nat.succ x_2.2.1.toNat) y.2.2.1.length then af (bif List.all y.1.1 fun (x:Nat)=>eC y.1.2 x then aI (List.map (fun (x:Nat)=>ah y.1.2 x) y.1.1,y.2.1, y.2.2.1,y.2.2.2.1,y.2.2.2.2.1,y.2.2.2.2.2.1,y.2.2.2.2.2.2.1) (y.2.2.1.getD x_2.2.1.toNat 0) else none) fun (t:Int)=>bif inB x_2.2.1 y.1.1.length then bif Nat.ble (Nat.succ x_2.2.1.toNat) y.1.1.length then bif inB v34 (List.length (ah y.1.2 (y.1.1.getD x_2.2.1.toNat 0))) then bif Nat.ble (Nat.succ v34.toNat) (List.length (ah y.1.2 (y.1.1.getD x_2.2.1.toNat (0 : Nat)))) then again_1 (IntKind.wrap .i64 (x_2.1+IntKind.wrap .i64 (t*List.getD (ah y.1.2 (y.1.1.getD x_2.2.1.toNat 0)) v34.toNat 0)),IntKind.wrap .i64 (x_2.2.1+1),PUnit.unit) else none else none else none else none else none else none else bif inB x.1 y.2.2.2.1.length then bif Nat.ble (Nat.succ x.1.toNat) y.2.2.2.1.length then af (bif List.all y.1.1 fun (x:Nat)=>eC y.1.2 x then aG (List.map (fun (x:Nat)=>ah y.1.2 x) y.1.1,y.2.1,y.2.2.1,y.2.2.2.1,y.2.2.2.2.1,y.2.2.2.2.2.1, y.2.2.2.2.2.2.1) (IntKind.wrap .i64 (y.2.2.2.1.getD x.1.toNat 0*x_2.1)) else none) fun (t:Int×Int)=>bif dt (List.length x.2.2.2.1+1) 16 then again (IntKind.wrap .i64 (x.1+1),x.2.1,x.2.2.1,x.2.2.2.1++[t],PUnit.unit) else none else none else none) (0,0,PUnit.unit) else some ((x.2.1,x.2.2.1,x.2.2.2.1),0,PUnit.unit)) (0,x_1.2.1,x_1.2.2.1,v31)) ((0 : Int),t,[],[],PUnit.unit)) (0,0,List.replicate (Int.toNat (↑x0.1.length:Int)) 0,PUnit.unit) else none) ((↑x0.1.length:Int),(0 : Int),([],[]),1,[],[],t,v8,IntKind.wrap .i64 (v8+(↑x0.2.length:Int)),PUnit.unit)) (0,0,PUnit.unit)
def aK (x0:(List Int)×List ((List Int)×Int×Int)):Option (((Int×Int)×(List (Int×Int))×List (Int×Int))×Int×Unit):=hO lpK jnK aV bV aX aL bp aI aG x0
abbrev t58:=((List Int)×List ((List Int)×Int×Int))→Option (((Int×Int)×(List (Int×Int))×List (Int×Int))×Int×Unit)
def k58 (aK:t58):Ctr:=⟨[T32],[],[],.tup [T96,i64],fun x _ _=>aK x.1⟩
def c58:Ctr:=k58 aK
theorem e58 (lp:Lp) (jn:Jn) (aV:t91) (bV:Hb) (aX:HE) (aL:I3) (bp:Mo) (aI:G3) (aG:G8):∀(x:TsS c58.as) (F:TsF c58.fs) (y:TsS c58.cs),hO lp jn aV bV aX aL bp aI aG x.1=Gz lp jn (Dn.look [(111,Po bp),(110,M9 aL)]) (xS Am Ao (CF [(113,M3 aG),(112,M0 aI)] [] (jQ prog shs uB its [(108,Nj bV),(91,k91 aV)] [(134,MH aX)]))) ao 4 58 f58 c58 x F y:=fun x F y=>by kernel_rfl
theorem MU:c58.ok prog 58:=Ctr.of_denS (au (oQ (ai (ai (b6) (by kernel_rfl) Nz) (by kernel_rfl) L5) (gO (by kernel_rfl) L2 (gO (by kernel_rfl) LZ (mi))) (mB))) aS (mA OX (mA LW (nY))) (hl:=ao) (d:=4) func58 rfl (by decide) (e58 lpK jnK aV bV aX aL bp aI aG)
def kx (_:Lp) (_:Jn) (ax:t11) (aK:t58) (x0:(List (ByteArray×Int))×List (ByteArray×(List (ByteArray×Int×Int×Int))×Bool)):Option ((List (Int×Int))×Int×Unit) :=
 af (ax x0) fun (t:(List Int×List (List Int×Int×Int))×Int×PUnit)=>bif !decide (t.2.1=0) then some ([],t.2.1,PUnit.unit) else af (aK t.1) fun (t:((Int×Int)×List (Int×Int)×List (Int×Int))×Int×PUnit)=>bif !decide (t.2.1=0) then some ([],t.2.1,PUnit.unit) else some (t.1.2.1,0,PUnit.unit)
def aJ (x0:(List (ByteArray×Int))×List (ByteArray×(List (ByteArray×Int×Int×Int))×Bool)):Option ((List (Int×Int))×Int×Unit):=kx lpK jnK ax aK x0
abbrev t19:=((List (ByteArray×Int))×List (ByteArray×(List (ByteArray×Int×Int×Int))×Bool))→Option ((List (Int×Int))×Int×Unit)
def k19 (aJ:t19):Ctr:=⟨[T25],[],[],.tup [(.sl T49),i64],fun x _ _=>aJ x.1⟩
def c19:Ctr:=k19 aJ
theorem e19 (lp:Lp) (jn:Jn) (ax:t11) (aK:t58):∀(x:TsS c19.as) (F:TsF c19.fs) (y:TsS c19.cs),kx lp jn ax aK x.1=cd lp jn (cx [(58,k58 aK),(11,k11 ax)] [(134,bH)]) ao 4 19 f19 c19 x F y:=fun x F y=>by kernel_rfl
theorem OU:c19.ok prog 19:=Ctr.of_den (au (ai (ai (b6) (by kernel_rfl) Ny) (by kernel_rfl) MU)) aS (hl:=ao) (d:=4) func19 rfl (by decide) (e19 lpK jnK ax aK)
def jc (lp:Lp) (_:Jn) (x0:List (ByteArray×(List (ByteArray×Int×Int×Int))×Bool)) (f0:(((ByteArray×(List (ByteArray×Int×Int×Int))×Bool)×Unit)→Option Bool)):Option Int :=
 lp (Int×PUnit) Int (fun (again:Int×PUnit→Option Int) (x:Int×PUnit)=>bif decide (x.1<(↑x0.length:Int)) then bif inB x.1 x0.length then af (f0 (x0.getD x.1.toNat ({ data:={ toList:=[] } },[],false),PUnit.unit)) fun (t:Bool)=>bif t then some x.1 else again (IntKind.wrap .i64 (x.1+1), PUnit.unit) else none else some (-1)) (0,PUnit.unit)
def ca (x0:List (ByteArray×(List (ByteArray×Int×Int×Int))×Bool)) (f0:(((ByteArray×(List (ByteArray×Int×Int×Int))×Bool)×Unit)→Option Bool)):Option Int:=jc lpK jnK x0 f0
abbrev t60:=(List (ByteArray×(List (ByteArray×Int×Int×Int))×Bool))→((((ByteArray×(List (ByteArray×Int×Int×Int))×Bool)×Unit)→Option Bool))→Option (Int)
def k60 (ca:t60):Ctr:=⟨[(.sl T75)],[([T75],.bool)],[],.one i64,fun x F _=>ca x.1 F.1⟩
def c60:Ctr:=k60 ca
theorem e60 (lp:Lp) (jn:Jn):∀(x:TsS c60.as) (F:TsF c60.fs) (y:TsS c60.cs),jc lp jn x.1 F.1=cd lp jn (cx [] [(134,bH)]) ao 4 60 f60 c60 x F y:=fun x F y=>by kernel_rfl
theorem PD:c60.ok prog 60:=Ctr.of_den (au (b6)) aS (hl:=ao) (d:=4) func60 rfl (by decide) (e60 lpK jnK)
def nF (_:Lp) (_:Jn) (x0:ByteArray×(List (ByteArray×Int×Int×Int))×Bool) (y0:ByteArray):Option Bool :=
 some (List.beq (ByteArray.toList x0.1) (ByteArray.toList y0))
def eK (x0:ByteArray×(List (ByteArray×Int×Int×Int))×Bool) (y0:ByteArray):Option Bool:=nF lpK jnK x0 y0
abbrev t61:=(ByteArray×(List (ByteArray×Int×Int×Int))×Bool)→(ByteArray)→Option (Bool)
def c61:Ctr:=⟨[T75],[],[.str],.one .bool,fun x _ y=>eK x.1 y.1⟩
theorem e61 (lp:Lp) (jn:Jn):∀(x:TsS c61.as) (F:TsF c61.fs) (y:TsS c61.cs),nF lp jn x.1 y.1=cd lp jn (cx [] [(134,bH)]) ao 4 61 f61 c61 x F y:=fun x F y=>by kernel_rfl
theorem QN:c61.ok prog 61:=Ctr.of_den (au (b6)) aS (hl:=ao) (d:=4) func61 rfl (by decide) (e61 lpK jnK)
def sS (_:Lp) (_:Jn) (ce:t45) (x0:(List (ByteArray×Int))×List (ByteArray×(List (ByteArray×Int×Int×Int))×Bool)) (x1:Int) (x2:Int):Option (((List Int)×List ((List Int)×Int×Int))×Int×Unit) :=
 bif decide (0≤(↑x0.2.length:Int))&&dt (Int.toNat (↑x0.2.length:Int)) 8 then bif inB x1 (Int.toNat (↑x0.2.length:Int)) then bif Nat.ble (Nat.succ x1.toNat) (Int.toNat (↑x0.2.length:Int)) then af (ce x0 (List.set (List.replicate (Int.toNat (↑x0.2.length:Int)) 0) x1.toNat x2)) fun (t:(List Int×List (List Int×Int×Int))×Int×PUnit)=>some (t.1,t.2.1,PUnit.unit) else none else none else none
def dx (x0:(List (ByteArray×Int))×List (ByteArray×(List (ByteArray×Int×Int×Int))×Bool)) (x1:Int) (x2:Int):Option (((List Int)×List ((List Int)×Int×Int))×Int×Unit):=sS lpK jnK ce x0 x1 x2
abbrev t62:=((List (ByteArray×Int))×List (ByteArray×(List (ByteArray×Int×Int×Int))×Bool))→(Int)→(Int)→Option (((List Int)×List ((List Int)×Int×Int))×Int×Unit)
def k62 (dx:t62):Ctr:=⟨[T25,i64,i64],[],[],.tup [T32,i64],fun x _ _=>dx x.1 x.2.1 x.2.2.1⟩
def c62:Ctr:=k62 dx
theorem e62 (lp:Lp) (jn:Jn) (ce:t45):∀(x:TsS c62.as) (F:TsF c62.fs) (y:TsS c62.cs),sS lp jn ce x.1 x.2.1 x.2.2.1=cd lp jn (cx [(45,k45 ce)] [(134,bH)]) ao 4 62 f62 c62 x F y:=fun x F y=>by kernel_rfl
theorem Oq:c62.ok prog 62:=Ctr.of_den (au (ai (b6) (by kernel_rfl) Ph)) aS (hl:=ao) (d:=4) func62 rfl (by decide) (e62 lpK jnK ce)
def pG (_:Lp) (_:Jn) (ay:t59) (aK:t58) (ca:t60) (eK:t61) (dx:t62) (x0:(List (ByteArray×Int))×List (ByteArray×(List (ByteArray×Int×Int×Int))×Bool)) (x1:ByteArray):Option ((Int×Int)×Int×Unit) :=
 af (ay x0) fun (t:Bool)=>bif !t then some ((0,0),1,PUnit.unit) else af (ca x0.2 fun (x:(ByteArray×List (ByteArray × Int×Int×Int)×Bool)×PUnit)=>eK x.1 x1) fun (t:Int)=>bif decide (t<0) then some ((0,0),9,PUnit.unit) else af (dx x0 t 1) fun (t:(List Int×List (List Int×Int×Int))×Int×PUnit)=>bif !decide (t.2.1=0) then some ((0,0),t.2.1,PUnit.unit) else af (aK t.1) fun (t:((Int×Int)×List (Int×Int)×List (Int×Int))×Int×PUnit)=>bif !decide (t.2.1=0) then some ((0,0), t.2.1,PUnit.unit) else some (t.1.1,0,PUnit.unit)
def bQ (x0:(List (ByteArray×Int))×List (ByteArray×(List (ByteArray×Int×Int×Int))×Bool)) (x1:ByteArray):Option ((Int×Int)×Int×Unit):=pG lpK jnK ay aK ca eK dx x0 x1
abbrev t20:=((List (ByteArray×Int))×List (ByteArray×(List (ByteArray×Int×Int×Int))×Bool))→(ByteArray)→Option ((Int×Int)×Int×Unit)
def k20 (bQ:t20):Ctr:=⟨[T25,.str],[],[],.tup [T49,i64],fun x _ _=>bQ x.1 x.2.1⟩
def c20:Ctr:=k20 bQ
theorem e20 (lp:Lp) (jn:Jn) (ay:t59) (aK:t58) (ca:t60) (eK:t61) (dx:t62):∀(x:TsS c20.as) (F:TsF c20.fs) (y:TsS c20.cs),pG lp jn ay aK ca eK dx x.1 x.2.1=cd lp jn (cx [(62,k62 dx),(61,⟨[T75],[],[.str],.one .bool,fun x _ y=>eK x.1 y.1⟩),(60,k60 ca),(58,k58 aK),(59,k59 ay)] [(134,bH)]) ao 4 20 f20 c20 x F y:=fun x F y=>by kernel_rfl
theorem Qx:c20.ok prog 20:=Ctr.of_den (au (ai (ai (ai (ai (ai (b6) (by kernel_rfl) Lm) (by kernel_rfl) MU) (by kernel_rfl) PD) (by kernel_rfl) QN) (by kernel_rfl) Oq)) aS (hl:=ao) (d:=4) func20 rfl (by decide) (e20 lpK jnK ay aK ca eK dx)
def pK (lp:Lp) (_:Jn) (ay:t59) (aK:t58) (dx:t62) (x0:(List (ByteArray×Int))×List (ByteArray×(List (ByteArray×Int×Int×Int))×Bool)):Option ((List ByteArray)×Int×Unit) :=
 af (ay x0) fun (t:Bool)=>bif !t then some ([],1,PUnit.unit) else lp (List ByteArray×Int×PUnit) (List ByteArray×Int×PUnit) (fun (again:List ByteArray × Int×PUnit→Option (List ByteArray×Int×PUnit)) (x:List ByteArray×Int×PUnit) =>
 let v6:Int×PUnit:=(IntKind.wrap .i64 (x.2.1+1),PUnit.unit);bif decide (x.2.1<(↑x0.2.length:Int)) then bif inB x.2.1 x0.2.length then af (dx x0 x.2.1 (-1)) fun (t:(List Int×List (List Int×Int×Int))×Int×PUnit)=>bif !decide (t.2.1=0) then some ([],t.2.1, PUnit.unit) else af (aK t.1) fun (t:((Int×Int)×List (Int×Int)×List (Int×Int))×Int×PUnit)=>bif decide (t.2.1=21) then again (x.1,v6) else bif !decide (t.2.1=0) then some ([],t.2.1,PUnit.unit) else bif decide (t.1.1.1=0) then bif dt (List.length x.1+1) 16 then again (x.1++[(x0.2.getD x.2.1.toNat ({ data:={ toList:=[] } },[],false)).1],v6) else none else again (x.1,v6) else none else some (x.1,0, PUnit.unit)) ([],0,PUnit.unit)
def a6 (x0:(List (ByteArray×Int))×List (ByteArray×(List (ByteArray×Int×Int×Int))×Bool)):Option ((List ByteArray)×Int×Unit):=pK lpK jnK ay aK dx x0
abbrev t21:=((List (ByteArray×Int))×List (ByteArray×(List (ByteArray×Int×Int×Int))×Bool))→Option ((List ByteArray)×Int×Unit)
def k21 (a6:t21):Ctr:=⟨[T25],[],[],.tup [(.sl .str),i64],fun x _ _=>a6 x.1⟩
def c21:Ctr:=k21 a6
theorem e21 (lp:Lp) (jn:Jn) (ay:t59) (aK:t58) (dx:t62):∀(x:TsS c21.as) (F:TsF c21.fs) (y:TsS c21.cs),pK lp jn ay aK dx x.1=cd lp jn (cx [(62,k62 dx),(58,k58 aK),(59,k59 ay)] [(134,bH)]) ao 4 21 f21 c21 x F y:=fun x F y=>by kernel_rfl
theorem QA:c21.ok prog 21:=Ctr.of_den (au (ai (ai (ai (b6) (by kernel_rfl) Lm) (by kernel_rfl) MU) (by kernel_rfl) Oq)) aS (hl:=ao) (d:=4) func21 rfl (by decide) (e21 lpK jnK ay aK dx)
def pH (_:Lp) (_:Jn) (x0:Int):Option (Int×Int) :=
 some (x0,1)
def bP (x0:Int):Option (Int×Int):=pH lpK jnK x0
abbrev t34:=(Int)→Option (Int×Int)
def k34 (bP:t34):Ctr:=⟨[i64],[],[],.one T49,fun x _ _=>bP x.1⟩
def c34:Ctr:=k34 bP
theorem e34 (lp:Lp) (jn:Jn):∀(x:TsS c34.as) (F:TsF c34.fs) (y:TsS c34.cs),pH lp jn x.1=cd lp jn (cx [] [(134,bH)]) ao 4 34 f34 c34 x F y:=fun x F y=>by kernel_rfl
theorem Pv:c34.ok prog 34:=Ctr.of_den (au (b6)) aS (hl:=ao) (d:=4) func34 rfl (by decide) (e34 lpK jnK)
def pt (lp:Lp) (_:Jn) (bP:t34) (x0:List Int):Option ((List (ByteArray×Int))×List (ByteArray×(List (ByteArray×Int×Int×Int))×Bool)) :=
 lp (Int×List (ByteArray×Int)×List (ByteArray×List (ByteArray×Int×Int×Int)×Bool)×PUnit) (List (ByteArray×Int)×List (ByteArray×List (ByteArray×Int×Int×Int)×Bool)) (fun (again:Int×List (ByteArray×Int)×List (ByteArray×List (ByteArray×Int×Int×Int)×Bool)×PUnit→Option (List (ByteArray×Int)×List (ByteArray×List (ByteArray×Int×Int×Int)×Bool))) (x:Int×List (ByteArray×Int)×List (ByteArray×List (ByteArray×Int×Int×Int)×Bool)×PUnit) => bif decide (x.1<(↑x0.length:Int)) then bif inB x.1 x0.length then af (bP 1) fun (t:Int×Int)=>af (bP 1) fun (t_1:Int×Int)=>bif dt (List.length x.2.2.1+1) 48 then again (IntKind.wrap .i64 (x.1+1),x.2.1,x.2.2.1++[({ data:=#[114] }++tz [IntKind.wrap IntKind.u8 (IntKind.wrap .i64 (49+x.1))],[({ data:=#[98] },x0.getD x.1.toNat 0,t),({ data:={ toList:=[] } },0,t_1)],false)],PUnit.unit) else none else none else some (x.2.1,x.2.2.1)) (0,[({ data:=#[98] },10)],[],PUnit.unit)
def dK (x0:List Int):Option ((List (ByteArray×Int))×List (ByteArray×(List (ByteArray×Int×Int×Int))×Bool)):=pt lpK jnK bP x0
abbrev t43:=(List Int)→Option ((List (ByteArray×Int))×List (ByteArray×(List (ByteArray×Int×Int×Int))×Bool))
def c43:Ctr:=⟨[(.sl i64)],[],[],.one T25,fun x _ _=>dK x.1⟩
theorem e43 (lp:Lp) (jn:Jn) (bP:t34):∀(x:TsS c43.as) (F:TsF c43.fs) (y:TsS c43.cs),pt lp jn bP x.1=cd lp jn (cx [(34,k34 bP)] [(134,bH)]) ao 4 43 f43 c43 x F y:=fun x F y=>by kernel_rfl
theorem Qk:c43.ok prog 43:=Ctr.of_den (au (ai (b6) (by kernel_rfl) Pv)) aS (hl:=ao) (d:=4) func43 rfl (by decide) (e43 lpK jnK bP)
def pO (_:Lp) (_:Jn) (aM:t12) (aJ:t19) (bQ:t20) (a6:t21) (bP:t34) (dK:t43):Option Bool :=
 af (dK [1,1,(-1)]) fun (t:List (ByteArray×Int)×List (ByteArray×List (ByteArray×Int×Int×Int)×Bool))=>af (aJ t) fun (t:List (Int×Int)×Int×PUnit) =>
 let v4:Bool:=decide (t.2.1=0);
 let v5:Bool:=!v4||v4;
 let v6:Bool:=bif v4 then decide ((↑t.1.length:Int)=3) else false;
 let v7:Bool:=!v6||v6;af (dK [1,1,(-1)]) fun (t:List (ByteArray×Int)×List (ByteArray×List (ByteArray×Int×Int×Int)×Bool))=>af (a6 t) fun (t:List ByteArray×Int×PUnit) =>
 let v10:Bool:=bif v6 then decide (t.2.1=0) else false;
 let v11:Bool:=!v10||v10;
 let v12:Bool:=bif v10 then decide ((↑t.1.length:Int)=0) else false;
 let v13:Bool:=!v12||v12;af (dK [1,1,(-1)]) fun (t:List (ByteArray×Int)×List (ByteArray×List (ByteArray×Int×Int×Int)×Bool)) => af (bQ t { data:={ toList:=[{ toBitVec:={ toFin:=⟨114,Nat.mod_lt 114 (BitVec.ofNat._proof_1 8)⟩ } },{ toBitVec:={ toFin:=⟨49, Nat.mod_lt 49 (BitVec.ofNat._proof_1 8)⟩ } }] } }) fun (t:(Int×Int)×Int×PUnit) =>
 let v16:Bool:=bif v12 then decide (t.2.1=0) else false;
 let v17:Bool:=!v16||v16;af (dK [(-1)]) fun (t_1:List (ByteArray×Int)×List (ByteArray×List (ByteArray×Int×Int×Int)×Bool))=>af (bP (1 : Int)) fun (t_2:Int×Int)=>af (aM t_1 [t_2]) fun (t_3:Bool×Int×PUnit)=>af (dK [(-1)]) fun (t_4:List (ByteArray×Int)×List (ByteArray × List (ByteArray×Int×Int×Int)×Bool))=>af (aJ t_4) fun (t_5:List (Int×Int)×Int×PUnit)=>bif v5 then bif v5 then bif v5 then bif v7 then bif v7 then bif v11 then bif v11 then bif v11 then bif v13 then bif v13 then af (bif v16 then bP 0 else some (0,0)) fun (t_6:Int×Int) =>
 let v24:Bool:=bif v16 then decide (t.1.1=t_6.1)&&(decide (t.1.2=t_6.2)&&true) else false;
 let v25:Bool:=bif v24 then decide (t_3.2.1=0) else false;
 let v26:Bool:=bif v25 then t_3.1 else false;
 let v27:Bool:=!v24||v24;
 let v28:Bool:=!v26||v26;bif v17&&v17 then bif v17 then bif v27 then bif v27 then bif !v25||v25 then bif v28 then bif v28 then some (bif v26 then decide (t_5.2.1=(22 : Int)) else false) else none else none else none else none else none else none else none else none else none else none else none else none else none else none else none else none else none
def aP:Option Bool:=pO lpK jnK aM aJ bQ a6 bP dK
abbrev t9:=Option (Bool)
def k9 (aP:t9):Ctr:=⟨[],[],[],.one .bool,fun _ _ _=>aP⟩
def c9:Ctr:=k9 aP
theorem e9 (lp:Lp) (jn:Jn) (aM:t12) (aJ:t19) (bQ:t20) (a6:t21) (bP:t34) (dK:t43):∀(x:TsS c9.as) (F:TsF c9.fs) (y:TsS c9.cs),pO lp jn aM aJ bQ a6 bP dK=cd lp jn (cx [(43,⟨[(.sl i64)],[],[],.one T25,fun x _ _=>dK x.1⟩),(34,k34 bP),(21,k21 a6),(20,k20 bQ),(19,k19 aJ),(12,k12 aM)] [(134,bH)]) ao 4 9 f9 c9 x F y:=fun x F y=>by kernel_rfl
theorem ok9:c9.ok prog 9:=Ctr.of_den (au (ai (ai (ai (ai (ai (ai (b6) (by kernel_rfl) OW) (by kernel_rfl) OU) (by kernel_rfl) Qx) (by kernel_rfl) QA) (by kernel_rfl) Pv) (by kernel_rfl) Qk)) aS (hl:=ao) (d:=4) func9 rfl (by decide) (e9 lpK jnK aM aJ bQ a6 bP dK)
def l8 (lp:Lp) (_:Jn) (x0:(List (ByteArray×Int))×List (ByteArray×(List (ByteArray×Int×Int×Int))×Bool)):Option Bool :=
 
 let v3:Bool:=decide ((↑x0.1.length:Int)>9);
 let v4:Bool:=!v3;
 let v5:Bool:=!v4||v4;bif v5 then bif v5 then bif v5 then bif v3||v4 then bif bif v3 then true else decide ((↑x0.2.length:Int)>9) then some false else lp (Int × PUnit) Bool (fun (again:Int×PUnit→Option Bool) (x:Int×PUnit)=>bif decide (x.1<(↑x0.1.length:Int)) then bif inB x.1 x0.1.length then bif decide ((↑(ByteArray.size (x0.1.getD x.1.toNat ({ data:={ toList:=[] } },0)).1):Int)>60) then some false else again (IntKind.wrap .i64 (x.1 + 1),PUnit.unit) else none else lp (Int×PUnit) Bool (fun (again:Int×PUnit→Option Bool) (x:Int×PUnit) =>
 let v10:Bool:=inB x.1 x0.2.length;
 let v11:Bool:=decide ((↑(ByteArray.size (x0.2.getD x.1.toNat ({ data:={ toList:=[] } },[],false)).1):Int)>60);
 let v12:Bool:=!v11;
 let v13:Bool:=!v12;
 let v14:Bool:=v13||v12;bif decide (x.1<(↑x0.2.length:Int)) then bif v10 then bif v14 then bif v14&&(v14&&(v13||v10)) then bif v14 then bif v14 then bif v14 then bif v14 then bif v11||v12 then bif bif v11 then true else decide ((↑(List.length (x0.2.getD x.1.toNat ({ data:={ toList:=[] } },[],false)).2.1):Int) > 13) then some false else lp (Int×PUnit) Bool (fun (again_1:Int×PUnit→Option Bool) (x_1:Int×PUnit)=>bif v10 then bif decide (x_1.1<(↑(List.length (x0.2.getD x.1.toNat ({ data:={ toList:=[] } },[],false)).2.1):Int)) then bif v10 then bif inB x_1.1 (List.length (x0.2.getD x.1.toNat ({ data:={ toList:=[] } },[],false)).2.1) then bif decide ((↑(ByteArray.size (List.getD (x0.2.getD x.1.toNat ({ data:={ toList:=[] } },[],false)).2.1 x_1.1.toNat ({ data:={ toList:=[] } },0,0,0)).1):Int)>60) then some false else again_1 (IntKind.wrap .i64 (x_1.1+1), PUnit.unit) else none else none else again (IntKind.wrap .i64 (x.1+1),PUnit.unit) else none) (0,PUnit.unit) else none else none else none else none else none else none else none else none else some true) (0,PUnit.unit)) (0,PUnit.unit) else none else none else none else none
def eJ (x0:(List (ByteArray×Int))×List (ByteArray×(List (ByteArray×Int×Int×Int))×Bool)):Option Bool:=l8 lpK jnK x0
abbrev t44:=((List (ByteArray×Int))×List (ByteArray×(List (ByteArray×Int×Int×Int))×Bool))→Option (Bool)
def c44:Ctr:=⟨[T25],[],[],.one .bool,fun x _ _=>eJ x.1⟩
theorem e44 (lp:Lp) (jn:Jn):∀(x:TsS c44.as) (F:TsF c44.fs) (y:TsS c44.cs),l8 lp jn x.1=cd lp jn (cx [] [(134,bH)]) ao 4 44 f44 c44 x F y:=fun x F y=>by kernel_rfl
theorem P9:c44.ok prog 44:=Ctr.of_den (au (b6)) aS (hl:=ao) (d:=4) func44 rfl (by decide) (e44 lpK jnK)
def nN (_:Lp) (_:Jn) (eJ:t44) (x0:(List (ByteArray×Int))×List (ByteArray×(List (ByteArray×Int×Int×Int))×Bool)) (x1:List (Int×Int)):Option Bool :=
 af (eJ x0) fun (t:Bool) =>
 let v5:Bool:=!t||t;bif v5 then bif v5 then bif v5 then some (bif t then decide ((↑x1.length:Int)≤10) else false) else none else none else none
def a9 (x0:(List (ByteArray×Int))×List (ByteArray×(List (ByteArray×Int×Int×Int))×Bool)) (x1:List (Int×Int)):Option Bool:=nN lpK jnK eJ x0 x1
abbrev t10:=((List (ByteArray×Int))×List (ByteArray×(List (ByteArray×Int×Int×Int))×Bool))→(List (Int×Int))→Option (Bool)
def k10 (a9:t10):Ctr:=⟨[T25,(.sl T49)],[],[],.one .bool,fun x _ _=>a9 x.1 x.2.1⟩
def c10:Ctr:=k10 a9
theorem e10 (lp:Lp) (jn:Jn) (eJ:t44):∀(x:TsS c10.as) (F:TsF c10.fs) (y:TsS c10.cs),nN lp jn eJ x.1 x.2.1=cd lp jn (cx [(44,⟨[T25],[],[],.one .bool,fun x _ _=>eJ x.1⟩)] [(134,bH)]) ao 4 10 f10 c10 x F y:=fun x F y=>by kernel_rfl
theorem Qb:c10.ok prog 10:=Ctr.of_den (au (ai (b6) (by kernel_rfl) P9)) aS (hl:=ao) (d:=4) func10 rfl (by decide) (e10 lpK jnK eJ)
def sf (lp:Lp) (_:Jn) (x0:(List (ByteArray×Int))×List (ByteArray×(List (ByteArray×Int×Int×Int))×Bool)) (x1:ByteArray):Option Int :=
 lp (Int×PUnit) Int (fun (again:Int×PUnit→Option Int) (x:Int×PUnit)=>bif decide (x.1<(↑x0.2.length:Int)) then bif inB x.1 x0.2.length then bif List.beq (ByteArray.toList (x0.2.getD x.1.toNat ({ data:={ toList:=[] } },[],false)).1) (ByteArray.toList x1) then some x.1 else again (IntKind.wrap .i64 (x.1+1),PUnit.unit) else none else some (-1)) (0,PUnit.unit)
def cC (x0:(List (ByteArray×Int))×List (ByteArray×(List (ByteArray×Int×Int×Int))×Bool)) (x1:ByteArray):Option Int:=sf lpK jnK x0 x1
abbrev t22:=((List (ByteArray×Int))×List (ByteArray×(List (ByteArray×Int×Int×Int))×Bool))→(ByteArray)→Option (Int)
def k22 (cC:t22):Ctr:=⟨[T25,.str],[],[],.one i64,fun x _ _=>cC x.1 x.2.1⟩
def uQ (_:Lp) (_:Jn) (x0:Int):Option Bool :=
 
 let v3:Bool:=decide (x0≥97);
 let v4:Bool:=decide (x0≥65);
 let v5:Bool:=!v3||v3;
 let v6:Bool:=bif v3 then decide (x0≤122) else false;
 let v7:Bool:=!v6;
 let v8:Bool:=!v7;
 let v9:Bool:=v7&&v4;
 let v10:Bool:=v8||v7;bif v5 then bif v5 then bif v10 then bif v10 then bif !v9||v9 then bif (v8||v10)&&(v8||(!v4||(v8||v9))) then bif v6||v7 then some (bif v6 then true else bif v4 then decide (x0≤90) else false) else none else none else none else none else none else none else none
def gN (x0:Int):Option Bool:=uQ lpK jnK x0
abbrev t98:=(Int)→Option (Bool)
def vP (_:Lp) (_:Jn) (x0:Int):Option Bool :=
 
 let v3:Bool:=decide (x0≥48);
 let v4:Bool:=!v3||v3;bif v4 then bif v4 then some (bif v3 then decide (x0≤57) else false) else none else none
def nP (x0:Int):Option Bool:=vP lpK jnK x0
abbrev Qf:=(Int)→Option (Bool)
def xX (lp:Lp) (_:Jn) (gN:t98) (nP:Qf) (x0:ByteArray) (x1:Int):Option Int :=
 lp (Int×PUnit) Int (fun (again:Int×PUnit→Option Int) (x:Int×PUnit) =>
 let v6:Bool:=inB x.1 (ByteArray.size x0);
 let v7:Int:=eF x0 x.1.toNat;
 let v8:Bool:=decide (x.1<(↑(ByteArray.size x0):Int));
 let v9:Bool:=!v8;
 let v10:Bool:=v9||v8;
 let v11:Bool:=v9||v10;bif v10&&(v10&&(v9||v6)) then bif v10 then af (bif v8 then gN v7 else some false) fun (t:Bool) =>
 let v13:Bool:=v8&&!t;
 let v14:Bool:=!v13;
 let v15:Bool:=v14||v13;bif v10 then bif v15&&(v15&&(v14||v6)) then bif v15 then af (bif v13 then nP v7 else some false) fun (t_1:Bool) =>
 let v17:Bool:=bif t then true else t_1;
 let v18:Bool:=v8&&!v17;
 let v19:Bool:=!v18;
 let v20:Bool:=v19||v18;bif v11&&(v9||(t||(v9||v13))) then bif v10 then bif v20&&(v20&&(v19||v6)) then bif v20 then bif v11&&(v9||(v17||(v9||v18))) then bif v10 then bif bif v8 then bif v17 then true else decide (v7=95) else false then again (IntKind.wrap .i64 (x.1+1),PUnit.unit) else some x.1 else none else none else none else none else none else none else none else none else none else none else none) (x1,PUnit.unit)
def qn (x0:ByteArray) (x1:Int):Option Int:=xX lpK jnK gN nP x0 x1
abbrev t99:=(ByteArray)→(Int)→Option (Int)
def ul (_:Lp) (_:Jn) (gN:t98) (qn:t99) (x0:ByteArray):Option Bool :=
 
 let v3:Bool:=decide ((↑(ByteArray.size x0):Int)=0);
 let v4:Bool:=!v3;
 let v5:Bool:=!v4||v4;
 let v6:Bool:=bif v3 then true else decide ((↑(ByteArray.size x0):Int)>20);
 let v7:Bool:=!v6;
 let v8:Bool:=!v7;
 let v9:Bool:=v8||v7;bif v5 then bif v5 then bif v3||v4 then bif v9&&(v8||inB 0 (ByteArray.size x0)) then bif v9 then af (bif v7 then gN (eF x0 (0 : Nat)) else some false) fun (t:Bool)=>bif v9 then bif v6||v7 then bif bif v6 then true else !t then some false else af (qn x0 0) fun (t:Int)=>some (decide (t = (↑(ByteArray.size x0):Int))) else none else none else none else none else none else none else none
def kG (x0:ByteArray):Option Bool:=ul lpK jnK gN qn x0
abbrev t48:=(ByteArray)→Option (Bool)
def qy (lp:Lp) (_:Jn) (x0:(List (ByteArray×Int))×List (ByteArray×(List (ByteArray×Int×Int×Int))×Bool)) (x1:ByteArray):Option Int :=
 lp (Int×PUnit) Int (fun (again:Int×PUnit→Option Int) (x:Int×PUnit)=>bif decide (x.1<(↑x0.1.length:Int)) then bif inB x.1 x0.1.length then bif List.beq (ByteArray.toList (x0.1.getD x.1.toNat ({ data:={ toList:=[] } },0)).1) (ByteArray.toList x1) then some x.1 else again (IntKind.wrap .i64 (x.1+1),PUnit.unit) else none else some (-1)) (0,PUnit.unit)
def eg (x0:(List (ByteArray×Int))×List (ByteArray×(List (ByteArray×Int×Int×Int))×Bool)) (x1:ByteArray):Option Int:=qy lpK jnK x0 x1
abbrev t49:=((List (ByteArray×Int))×List (ByteArray×(List (ByteArray×Int×Int×Int))×Bool))→(ByteArray)→Option (Int)
def BH (_:Lp) (_:Jn) (x0:Int):Option (Int×Int) :=
 some (x0,1)
def eD (x0:Int):Option (Int×Int):=BH lpK jnK x0
abbrev t73:=(Int)→Option (Int×Int)
def x9 (_:Lp) (_:Jn) (x0:Int×Int):Option (Int×Int) :=
 
 let v3:Int:=2 ^ 1;
 let v4:Bool:=decide ((0:Int)≤1);bif v4 then bif v4 then bif decide ((0:Int)≤63) then some (Int.fdiv x0.1 v3,IntKind.wrap .u64 (Int.fdiv x0.2 v3 + IntKind.wrap .u64 (x0.1*2 ^ 63))) else none else none else none
def jr (x0:Int×Int):Option (Int×Int):=x9 lpK jnK x0
abbrev QS:=(Int×Int)→Option (Int×Int)
def xF (_:Lp) (_:Jn) (x0:Int×Int) (x1:Int×Int):Option Bool :=
 
 let v4:Bool:=decide (x0.1=x1.1);
 let v5:Bool:=decide (x0.1<x1.1);
 let v6:Bool:=!v5;
 let v7:Bool:=!v6;
 let v8:Bool:=v6&&v4;
 let v9:Bool:=v7||v6;
 let v10:Bool:=!v8||v8;bif v9 then bif v9 then bif v9&&v9 then bif v9 then bif v10 then bif v10 then bif v10&&v10 then bif (v7||v9)&&(v7||(!v4||(v7||v8))) then bif v5 || v6 then some (bif v5 then true else bif v4 then decide (x0.2<x1.2) else false) else none else none else none else none else none else none else none else none else none
def eo (x0:Int×Int) (x1:Int×Int):Option Bool:=xF lpK jnK x0 x1
abbrev KT:=(Int×Int)→(Int×Int)→Option (Bool)
def vO (_:Lp) (_:Jn) (x0:Int×Int) (x1:Int×Int):Option (Int×Int) :=
 
 let v4:Int:=IntKind.wrap .u64 (x0.1 - x1.1);
 let v5:Int:=IntKind.wrap .u64 (x0.2 - x1.2);bif decide (x0.2<x1.2) then some (IntKind.wrap .u64 (v4 - 1),v5) else some (v4,v5)
def dU (x0:Int×Int) (x1:Int×Int):Option (Int×Int):=vO lpK jnK x0 x1
abbrev Nq:=(Int×Int)→(Int×Int)→Option (Int×Int)
def ym (_:Lp) (_:Jn) (x0:Int×Int) (x1:Int×Int):Option (Int×Int) :=
 
 let v4:Int:=IntKind.wrap .u64 (x0.1+x1.1);
 let v5:Int:=IntKind.wrap .u64 (x0.2+x1.2);bif decide (v5<x0.2) then some (IntKind.wrap .u64 (v4+1),v5) else some (v4,v5)
def jf (x0:Int×Int) (x1:Int×Int):Option (Int×Int):=ym lpK jnK x0 x1
abbrev Ps:=(Int×Int)→(Int×Int)→Option (Int×Int)
def zG (lp:Lp) (_:Jn) (jr:QS) (eo:KT) (dU:Nq) (jf:Ps) (x0:Int×Int) (x1:Int×Int):Option (Int×Int) :=
 bif decide (x0.1=0)&&(decide (x0.2=0)&&true) then some x1 else lp (Int×(Int×Int)×(Int×Int)×PUnit) (Int×Int) (fun (again:Int×(Int×Int)×(Int × Int)×PUnit→Option (Int×Int)) (x:Int×(Int×Int)×(Int×Int)×PUnit) =>
 let v6:Bool:=decide (IntKind.wrap .u64 (↑(Nat.land (Int.toNat (x.2.1.2 % Int.ofNat 18446744073709551616)) (Int.toNat (1 % Int.ofNat (18446744073709551616 : Nat)))):Int)=0);
 let v7:Bool:=!v6||v6;bif v7 then bif v7 then bif v7 then bif v7 then bif bif v6 then decide (IntKind.wrap .u64 (↑(Nat.land (Int.toNat (x.2.2.1.2 % Int.ofNat 18446744073709551616)) (Int.toNat (1 % Int.ofNat 18446744073709551616))):Int)=0) else false then af (jr x.2.1) fun (t:Int×Int) => af (jr x.2.2.1) fun (t_1:Int×Int)=>again (IntKind.wrap .i64 (x.1+1),t,t_1,PUnit.unit) else lp ((Int×Int)×(Int×Int)×PUnit) (Int × Int) (fun (again:(Int×Int)×(Int×Int)×PUnit→Option (Int×Int)) (x_1:(Int×Int)×(Int×Int)×PUnit) =>
 let v10:(Int×Int)×PUnit:=(x_1.2.1,PUnit.unit);bif !(decide (x_1.1.1=0)&&(decide (x_1.1.2=0)&&true)) then lp ((Int×Int)×PUnit) (Int×Int) (fun (again_1:(Int×Int)×PUnit→Option (Int×Int)) (x:(Int×Int)×PUnit)=>bif decide (IntKind.wrap .u64 (↑(Nat.land (Int.toNat (x.1.2 % Int.ofNat 18446744073709551616)) (Int.toNat (1 % Int.ofNat 18446744073709551616))):Int)=0) then af (jr x.1) fun (t:Int×Int)=>again_1 (t, PUnit.unit) else lp ((Int×Int)×PUnit) (Int×Int) (fun (again_2:(Int×Int)×PUnit→Option (Int×Int)) (x_2:(Int×Int)×PUnit)=>bif decide (IntKind.wrap .u64 (↑(Nat.land (Int.toNat (x_2.1.2 % Int.ofNat 18446744073709551616)) (Int.toNat (1 % Int.ofNat 18446744073709551616))):Int)=0) then af (jr x_2.1) fun (t:Int×Int)=>again_2 (t,PUnit.unit) else af (eo x.1 x_2.1) fun (t:Bool)=>bif t then af (dU x_2.1 x.1) fun (t:Int × Int)=>again (t,x.1,PUnit.unit) else af (dU x.1 x_2.1) fun (t:Int×Int)=>again (t,x_2.1,PUnit.unit)) v10) (x_1.1,PUnit.unit) else lp (Int×(Int×Int) × PUnit) (Int×Int) (fun (again:Int×(Int×Int)×PUnit→Option (Int×Int)) (x:Int×(Int×Int)×PUnit)=>bif decide (x.1>0) then af (jf x.2.1 x.2.1) fun (t:Int×Int)=>again (IntKind.wrap .i64 (x.1 - 1),t,PUnit.unit) else some x.2.1) (x.1,v10)) (x.2.1,x.2.2.1,PUnit.unit) else none else none else none else none) (0,x0,x1,PUnit.unit)
def kX (x0:Int×Int) (x1:Int×Int):Option (Int×Int):=zG lpK jnK jr eo dU jf x0 x1
abbrev N8:=(Int×Int)→(Int×Int)→Option (Int×Int)
def yP (_:Lp) (_:Jn) (x0:Int):Option Int :=
 
 let v3:Int:=IntKind.wrap .u64 x0;bif decide (x0<0) then some (IntKind.wrap .u64 (0 - v3)) else some v3
def bv (x0:Int):Option Int:=yP lpK jnK x0
abbrev G7:=(Int)→Option (Int)
def vF (_:Lp) (_:Jn) (kX:N8) (bv:G7) (x0:Int×Int):Option Bool :=
 
 let v3:Bool:=decide (x0.2<1);
 let v4:Bool:=!v3;
 let v5:Bool:=bif v3 then true else decide (x0.2>1152921504606846976);
 let v6:Bool:=!v4||v4;
 let v7:Bool:=!v5;
 let v8:Bool:=bif v5 then true else decide (x0.1<(-1152921504606846976));
 let v9:Bool:=!v8;
 let v10:Bool:=!v7||v7;
 let v11:Bool:=!v9||v9;bif v6 then bif v6 then bif v3||v4 then bif v10 then bif v10 then bif v5||v7 then bif v11 then bif v11 then bif v8||v9 then bif bif v8 then true else decide (x0.1>1152921504606846976) then some false else af (bv x0.1) fun (t:Int)=>af (bv x0.2) fun (t_1:Int)=>af (kX (0, t) (0,t_1)) fun (t:Int×Int)=>some (decide (t.1=0)&&(decide (t.2=1)&&true)) else none else none else none else none else none else none else none else none else none
def iC (x0:Int×Int):Option Bool:=vF lpK jnK kX bv x0
abbrev t52:=(Int×Int)→Option (Bool)
def rp (_:Lp) (_:Jn) (iC:t52) (x0:Int×Int):Option Bool :=
 af (iC x0) fun (t:Bool) =>
 let v4:Bool:=!t||t;
 let v5:Bool:=bif t then decide (x0.1≥x0.2) else false;
 let v6:Bool:=!v5||v5;bif v4 then bif v4 then bif v4&&v4 then bif v4 then bif v6 then bif v6 then bif v6 then some (bif v5 then decide (x0.1≤100) else false) else none else none else none else none else none else none else none
def kh (x0:Int×Int):Option Bool:=rp lpK jnK iC x0
abbrev Qv:=(Int×Int)→Option (Bool)
def xm (_:Lp) (_:Jn) (eg:t49) (eD:t73) (kh:Qv) (x0:(List (ByteArray×Int))×List (ByteArray×(List (ByteArray×Int×Int×Int))×Bool)) (x1:ByteArray×Int×Int×Int) (x2:Bool):Option Bool :=
 
 let v5:Bool:=!x2||x2;
 let v6:Bool:=decide (x1.2.1=0);
 let v7:Bool:=decide (x1.2.1=1);
 let v8:Bool:=decide (x1.2.1=2);
 let v9:Bool:=!v7;
 let v10:Bool:=!v8;
 let v11:Bool:=bif v8 then true else v6;
 let v12:Bool:=!v9||v9;
 let v13:Bool:=!v10||v10;
 let v14:Bool:=!v11;
 let v15:Bool:=!v14||v14;bif v5 then af (bif x2 then eD 1 else some (0,0)) fun (t:Int×Int) =>
 let v17:Bool:=bif x2 then !(decide (x1.2.2.1=t.1)&&(decide (x1.2.2.2=t.2)&&true)) else false;
 let v18:Bool:=!v17;
 let v19:Bool:=!v18||v18;bif v5&&v5 then bif v5 then bif v19 then bif v19 then af (bif v18 then kh x1.2.2 else some false) fun (t:Bool)=>bif v19 then bif v17||v18 then bif bif v17 then true else !t then some false else bif List.beq (ByteArray.toList x1.1) (ByteArray.toList { data:=#[] }) then some v6 else af (eg x0 x1.1) fun (t:Int)=>bif decide (t<0) then some false else bif x2 then bif v12 then bif v12 then bif v7||v9 then some (bif v7 then true else decide (x1.2.1=(-1 : Int))) else none else none else none else bif v13 then bif v13 then bif v8||v10 then bif v15 then bif v15 then bif v11||v14 then some (bif v11 then true else decide (x1.2.1 = (-2))) else none else none else none else none else none else none else none else none else none else none else none else none else none
def qt (x0:(List (ByteArray×Int))×List (ByteArray×(List (ByteArray×Int×Int×Int))×Bool)) (x1:ByteArray×Int×Int×Int) (x2:Bool):Option Bool:=xm lpK jnK eg eD kh x0 x1 x2
abbrev Qo:=((List (ByteArray×Int))×List (ByteArray×(List (ByteArray×Int×Int×Int))×Bool))→(ByteArray×Int×Int×Int)→(Bool)→Option (Bool)
def xY (lp:Lp) (_:Jn) (qt:Qo) (x0:(List (ByteArray×Int))×List (ByteArray×(List (ByteArray×Int×Int×Int))×Bool)) (x1:ByteArray×(List (ByteArray×Int×Int×Int))×Bool):Option Bool :=
 
 let v4:Bool:=!x1.2.2;
 let v5:Bool:=!v4;
 let v6:Bool:=!v5;
 let v7:Int:=IntKind.wrap .i64 ((↑x1.2.1.length:Int) - 1);
 let v8:Bool:=v6||v5;
 let v9:Bool:=decide ((↑x1.2.1.length:Int)<2);
 let v10:Bool:=!v9;
 let v11:Bool:=!v10||v10;bif v11 then bif v11 then bif v11 then bif v9||v10 then bif bif v9 then true else decide ((↑x1.2.1.length:Int)>10) then some false else lp (Int×PUnit) Bool (fun (again:Int×PUnit→Option Bool) (x:Int×PUnit) =>
 let v14:Bool:=decide (x.1=0);
 let v15:Bool:=!v14;
 let v16:Bool:=!v15||v15;bif decide (x.1<(↑x1.2.1.length:Int)) then bif inB x.1 x1.2.1.length then bif v16 then bif v16 then bif v16 then bif v16 && v16 then bif v14||v15 then af (qt x0 (x1.2.1.getD x.1.toNat ({ data:={ toList:=[] } },0,0,0)) (bif v14 then true else decide (x.1=v7))) fun (t:Bool)=>bif !t then some false else again (IntKind.wrap .i64 (x.1+1),PUnit.unit) else none else none else none else none else none else none else bif v8 then bif v8 then bif v8 then bif v8 then bif v8&&(v8&&(v6||inB v7 x1.2.1.length)) then bif v8 then bif v8 then bif v8 then bif v4||v5 then some (bif v4 then true else List.beq (ByteArray.toList (x1.2.1.getD v7.toNat ({ data:={ toList:=[] } },0,0,0)).1) (ByteArray.toList { data:=#[] })) else none else none else none else none else none else none else none else none else none) (0,PUnit.unit) else none else none else none else none
def pX (x0:(List (ByteArray×Int))×List (ByteArray×(List (ByteArray×Int×Int×Int))×Bool)) (x1:ByteArray×(List (ByteArray×Int×Int×Int))×Bool):Option Bool:=xY lpK jnK qt x0 x1
abbrev t50:=((List (ByteArray×Int))×List (ByteArray×(List (ByteArray×Int×Int×Int))×Bool))→(ByteArray×(List (ByteArray×Int×Int×Int))×Bool)→Option (Bool)
def vY (lp:Lp) (_:Jn) (cC:t22) (kG:t48) (eg:t49) (pX:t50) (x0:(List (ByteArray×Int))×List (ByteArray×(List (ByteArray×Int×Int×Int))×Bool)):Option Bool :=
 
 let v3:Bool:=decide ((↑x0.1.length:Int)<1);
 let v4:Bool:=!v3;
 let v5:Bool:=bif v3 then true else decide ((↑x0.1.length:Int)>6);
 let v6:Bool:=!v4||v4;
 let v7:Bool:=!v5;
 let v8:Bool:=bif v5 then true else decide ((↑x0.2.length:Int)<1);
 let v9:Bool:=!v8;
 let v10:Bool:=!v7||v7;
 let v11:Bool:=!v9||v9;bif v6 then bif v6 then bif v6 then bif v3||v4 then bif v10 then bif v10 then bif v10 then bif v5||v7 then bif v11 then bif v11 then bif v11 then bif v8 || v9 then bif bif v8 then true else decide ((↑x0.2.length:Int)>6) then some false else lp (Int×PUnit) Bool (fun (again:Int×PUnit→Option Bool) (x:Int × PUnit)=>bif decide (x.1<(↑x0.1.length:Int)) then bif inB x.1 x0.1.length then af (kG (x0.1.getD x.1.toNat ({ data:={ toList := [] } },0)).1) fun (t:Bool) =>
 let v15:Bool:=!t;
 let v16:Bool:=!v15;
 let v17:Bool:=!v16||v16;
 let v18:Bool:=v17&&v17;bif v17 then bif v18 then af (bif v16 then eg x0 (x0.1.getD x.1.toNat ({ data:={ toList:=[] } },0)).1 else some 0) fun (t:Int) =>
 let v20:Bool:=bif v15 then true else !decide (t=x.1);
 let v21:Bool:=!v20;
 let v22:Bool:=!v21||v21;
 let v23:Bool:=bif v20 then true else decide ((x0.1.getD x.1.toNat ({ data:={ toList:=[] } },0)).2<0);
 let v24:Bool:=!v23;
 let v25:Bool:=!v24||v24;bif v18 then bif v15||v16 then bif v22 then bif v22 then bif v20||v21 then bif v25 then bif v25 then bif v23||v24 then bif bif v23 then true else decide ((x0.1.getD x.1.toNat ({ data:={ toList:=[] } },0)).2>16777216) then some false else again (IntKind.wrap .i64 (x.1+1), PUnit.unit) else none else none else none else none else none else none else none else none else none else none else none else lp (Int×Int×PUnit) Bool (fun (again:Int×Int × PUnit→Option Bool) (x:Int×Int×PUnit) =>
 let v16:Int×PUnit:=(IntKind.wrap .i64 (x.2.1+1),PUnit.unit);
 let v17:ByteArray×List (ByteArray×Int×Int×Int)×Bool:=x0.2.getD x.2.1.toNat ({ data:={ toList:=[] } },[],false);bif decide (x.2.1<(↑x0.2.length:Int)) then bif inB x.2.1 x0.2.length then af (kG v17.1) fun (t:Bool) =>
 let v19:Bool:=!t;
 let v20:Bool:=!v19;
 let v21:Bool:=!v20||v20;
 let v22:Bool:=v21&&v21;bif v21 then bif v22 then af (bif v20 then cC x0 v17.1 else some 0) fun (t:Int) =>
 let v24:Bool:=bif v19 then true else !decide (t=x.2.1);
 let v25:Bool:=!v24;
 let v26:Bool:=!v25||v25;bif v22 then bif v19||v20 then bif v26 then bif v26&&v26 then af (bif v25 then eg x0 v17.1 else some 0) fun (t:Int) =>
 let v28:Bool:=bif v24 then true else decide (t≥0);
 let v29:Bool:=!v28;
 let v30:Bool:=!v29||v29;bif v26 then bif v24||v25 then bif v30&&v30 then af (bif v29 then pX x0 v17 else some false) fun (t:Bool)=>bif v30 then bif v28||v29 then bif bif v28 then true else !t then some false else bif v17.2.2 then again (IntKind.wrap .i64 (x.1+1),v16) else again (x.1,v16) else none else none else none else none else none else none else none else none else none else none else none else none else some (decide (x.1≤1))) (0,0,PUnit.unit)) (0, PUnit.unit) else none else none else none else none else none else none else none else none else none else none else none else none
def b8 (x0:(List (ByteArray×Int))×List (ByteArray×(List (ByteArray×Int×Int×Int))×Bool)):Option Bool:=vY lpK jnK cC kG eg pX x0
abbrev t13:=((List (ByteArray×Int))×List (ByteArray×(List (ByteArray×Int×Int×Int))×Bool))→Option (Bool)
def k13 (b8:t13):Ctr:=⟨[T25],[],[],.one .bool,fun x _ _=>b8 x.1⟩
def yV (lp:Lp) (_:Jn) (x0:(List Int)×List ((List Int)×Int×Int)) (x1:(List Int)×List ((List Int)×Int×Int)):Option Bool :=
 
 let v4:Bool:=!decide ((↑x0.1.length:Int)=(↑x1.1.length:Int));
 let v5:Bool:=!v4;
 let v6:Bool:=!v5||v5;bif v6 then bif v6 then bif v6 then bif v6 then bif v6&&v6 then bif v4||v5 then bif bif v4 then true else !decide ((↑x0.2.length:Int) = (↑x1.2.length:Int)) then some false else lp (Int×PUnit) Bool (fun (again:Int×PUnit→Option Bool) (x:Int×PUnit)=>bif decide (x.1<(↑x0.1.length : Int)) then bif inB x.1 x0.1.length then bif inB x.1 x1.1.length then bif !decide (x0.1.getD x.1.toNat 0=x1.1.getD x.1.toNat 0) then some false else again (IntKind.wrap .i64 (x.1+1),PUnit.unit) else none else none else lp (Int×PUnit) Bool (fun (again:Int×PUnit→Option Bool) (x:Int×PUnit) =>
 let v11:Bool:=!decide ((x0.2.getD x.1.toNat ([],0,0)).2.1=(x1.2.getD x.1.toNat ([],0,0)).2.1);
 let v12:Bool:=!v11;
 let v13:Bool:=bif v11 then true else !decide ((x0.2.getD x.1.toNat ([],0,0)).2.2=(x1.2.getD x.1.toNat ([],0,(0 : Int))).2.2);
 let v14:Bool:=!v12||v12;
 let v15:Bool:=!v13;
 let v16:Bool:=!v15||v15;bif decide (x.1<(↑x0.2.length:Int)) then bif inB x.1 x0.2.length then bif inB x.1 x1.2.length then bif v14 then bif v14 then bif v14&&v14 then bif v11||v12 then bif v16 then bif v16 then bif v16 then bif v16 then bif v16&&v16 then bif v13||v15 then bif bif v13 then true else !decide ((↑(List.length (x0.2.getD x.1.toNat ([],0,0)).1):Int)=(↑(List.length (x1.2.getD x.1.toNat ([],0,0)).1):Int)) then some false else lp (Int×PUnit) Bool (fun (again_1:Int×PUnit→Option Bool) (x_1:Int×PUnit)=>bif decide (x_1.1<(↑(List.length (x0.2.getD x.1.toNat ([],0,0)).1):Int)) then bif inB x_1.1 (List.length (x0.2.getD x.1.toNat ([],0,0)).1) then bif inB x_1.1 (List.length (x1.2.getD x.1.toNat ([],0,0)).1) then bif !decide (List.getD (x0.2.getD x.1.toNat ([],0,0)).1 x_1.1.toNat 0=List.getD (x1.2.getD x.1.toNat ([],0,0)).1 x_1.1.toNat 0) then some false else again_1 (IntKind.wrap .i64 (x_1.1 + 1),PUnit.unit) else none else none else again (IntKind.wrap .i64 (x.1+1),PUnit.unit)) (0,PUnit.unit) else none else none else none else none else none else none else none else none else none else none else none else none else some true) (0,PUnit.unit)) (0,PUnit.unit) else none else none else none else none else none else none
def ia (x0:(List Int)×List ((List Int)×Int×Int)) (x1:(List Int)×List ((List Int)×Int×Int)):Option Bool:=yV lpK jnK x0 x1
abbrev t14:=((List Int)×List ((List Int)×Int×Int))→((List Int)×List ((List Int)×Int×Int))→Option (Bool)
def yv (lp:Lp) (_:Jn) (x0:ByteArray×(List (ByteArray×Int×Int×Int))×Bool) (x1:ByteArray):Option Int :=
 lp (Int×Int×PUnit) Int (fun (again:Int×Int×PUnit→Option Int) (x:Int×Int×PUnit) =>
 let v6:Int×PUnit:=(IntKind.wrap .i64 (x.2.1+1),PUnit.unit);
 let v7:Bool:=inB x.2.1 x0.2.1.length;
 let v8:ByteArray×Int×Int×Int:=x0.2.1.getD x.2.1.toNat ({ data:={ toList:=[] } },0,0,0);bif decide (x.2.1<(↑x0.2.1.length:Int)) then bif v7 then bif List.beq (ByteArray.toList v8.1) (ByteArray.toList x1) then bif v7 then again (IntKind.wrap .i64 (x.1+v8.2.1),v6) else none else again (x.1,v6) else none else some x.1) (0,0,PUnit.unit)
def qa (x0:ByteArray×(List (ByteArray×Int×Int×Int))×Bool) (x1:ByteArray):Option Int:=yv lpK jnK x0 x1
abbrev PM:=(ByteArray×(List (ByteArray×Int×Int×Int))×Bool)→(ByteArray)→Option (Int)
def vr (lp:Lp) (_:Jn) (qa:PM) (x0:(List (ByteArray×Int))×List (ByteArray×(List (ByteArray×Int×Int×Int))×Bool)):Option (List (List Int)) :=
 lp ((List Nat×List (Option (List Int)))×Int×PUnit) (List (List Int)) (fun (again:(List Nat×List (Option (List Int)))×Int×PUnit→Option (List (List Int))) (x:(List Nat × List (Option (List Int)))×Int×PUnit)=>bif decide (x.2.1<(↑x0.1.length:Int)) then lp (List Int×Int×PUnit) (List (List Int)) (fun (again_1:List Int×Int × PUnit→Option (List (List Int))) (x_1:List Int×Int×PUnit)=>bif decide (x_1.2.1<(↑x0.2.length:Int)) then bif inB x_1.2.1 x0.2.length then bif inB x.2.1 x0.1.length then af (qa (x0.2.getD x_1.2.1.toNat ({ data:={ toList:=[] } },[],false)) (x0.1.getD x.2.1.toNat ({ data:={ toList:=[] } },0)).1) fun (t:Int)=>bif dt (List.length x_1.1+1) 8 then again_1 (x_1.1++[t],IntKind.wrap .i64 (x_1.2.1 + 1),PUnit.unit) else none else none else none else bif dt (List.length x.1.1+1) 24 then again ((x.1.1++[List.length x.1.2+0], x.1.2++[some x_1.1]),IntKind.wrap .i64 (x.2.1+1),PUnit.unit) else none) ([],0,PUnit.unit) else bif List.all x.1.1 fun (x_1:Nat)=>eC x.1.2 x_1 then some (List.map (fun (x_1:Nat)=>ah x.1.2 x_1) x.1.1) else none) (([],[]),0,PUnit.unit)
def mR (x0:(List (ByteArray×Int))×List (ByteArray×(List (ByteArray×Int×Int×Int))×Bool)):Option (List (List Int)):=vr lpK jnK qa x0
abbrev t51:=((List (ByteArray×Int))×List (ByteArray×(List (ByteArray×Int×Int×Int))×Bool))→Option (List (List Int))
def tu (lp:Lp) (_:Jn) (mR:t51) (x0:(List (ByteArray×Int))×List (ByteArray×(List (ByteArray×Int×Int×Int))×Bool)) (x1:List Int):Option ((List Int)×List ((List Int)×Int×Int)) :=
 af (mR x0) fun (t:List (List Int))=>lp (Int×List Int×List (List Int×Int×Int)×PUnit) (List Int×List (List Int×Int×Int)) (fun (again:Int×List Int×List (List Int×Int×Int)×PUnit→Option (List Int×List (List Int×Int×Int))) (x:Int×List Int×List (List Int×Int×Int)×PUnit)=>bif decide (x.1<(↑x0.1.length:Int)) then bif inB x.1 t.length then bif inB x.1 x0.1.length then bif dt (List.length x.2.2.1+1) 40 then again (IntKind.wrap IntKind.i64 (x.1+1),x.2.1,x.2.2.1++[(t.getD x.1.toNat [],3,(x0.1.getD x.1.toNat ({ data:={ toList:=[] } },(0 : Int))).2)],PUnit.unit) else none else none else none else some (x.2.1,x.2.2.1)) (0,x1,[],PUnit.unit)
def aN (x0:(List (ByteArray×Int))×List (ByteArray×(List (ByteArray×Int×Int×Int))×Bool)) (x1:List Int):Option ((List Int)×List ((List Int)×Int×Int)):=tu lpK jnK mR x0 x1
abbrev t15:=((List (ByteArray×Int))×List (ByteArray×(List (ByteArray×Int×Int×Int))×Bool))→(List Int)→Option ((List Int)×List ((List Int)×Int×Int))
def k15 (aN:t15):Ctr:=⟨[T25,(.sl i64)],[],[],.one T32,fun x _ _=>aN x.1 x.2.1⟩
def xr (lp:Lp) (_:Jn) (x0:(List (ByteArray×Int))×List (ByteArray×(List (ByteArray×Int×Int×Int))×Bool)):Option (List Int) :=
 lp (List Int×Int×PUnit) (List Int) (fun (again:List Int×Int×PUnit→Option (List Int)) (x:List Int×Int×PUnit)=>bif decide (x.2.1<(↑x0.2.length:Int)) then bif dt (List.length x.1+1) 8 then again (x.1++[1],IntKind.wrap .i64 (x.2.1+1),PUnit.unit) else none else some x.1) ([],(0 : Int),PUnit.unit)
def cl (x0:(List (ByteArray×Int))×List (ByteArray×(List (ByteArray×Int×Int×Int))×Bool)):Option (List Int):=xr lpK jnK x0
abbrev t16:=((List (ByteArray×Int))×List (ByteArray×(List (ByteArray×Int×Int×Int))×Bool))→Option (List Int)
def k16 (cl:t16):Ctr:=⟨[T25],[],[],.one (.sl i64),fun x _ _=>cl x.1⟩
def zK (lp:Lp) (_:Jn) (iC:t52) (x0:List (Int×Int)):Option Bool :=
 lp (Int×PUnit) Bool (fun (again:Int×PUnit→Option Bool) (x:Int×PUnit)=>bif decide (x.1<(↑x0.length:Int)) then bif inB x.1 x0.length then af (iC (x0.getD x.1.toNat (0,0))) fun (t:Bool)=>bif !t then some false else again (IntKind.wrap .i64 (x.1+1),PUnit.unit) else none else some true) (0,PUnit.unit)
def kV (x0:List (Int×Int)):Option Bool:=zK lpK jnK iC x0
abbrev t17:=(List (Int×Int))→Option (Bool)
def zu (lp:Lp) (_:Jn) (eo:KT) (dU:Nq) (x0:Int×Int) (x1:Int×Int):Option ((Int×Int)×(Int×Int)×Unit) :=
 
 let v4:Bool:=nzB x1.2;
 let v5:Int:=2 ^ 63;
 let v6:Int:=2 ^ 1;
 let v7:Bool:=decide (x0.1=0);
 let v8:Bool:=decide ((0:Int)≤63);
 let v9:Bool:=decide ((0:Int)≤1);
 let v10:Bool:=!v7||v7;bif v10 then bif v10 then bif v10 then bif bif v7 then decide (x1.1=0) else false then bif v4 then bif v4 then some ((0,IntKind.wrap IntKind.u64 (Int.tdiv x0.2 x1.2)),(0,Int.tmod x0.2 x1.2),PUnit.unit) else none else none else lp (Int×(Int×Int)×(Int×Int)×(Int×Int)×PUnit) ((Int×Int) × (Int×Int)×PUnit) (fun (again:Int×(Int×Int)×(Int×Int)×(Int×Int)×PUnit→Option ((Int×Int)×(Int×Int)×PUnit)) (x:Int×(Int×Int)×(Int×Int)×(Int × Int)×PUnit) =>
 let v13:Int:=IntKind.wrap .i64 (x.1+1);
 let v14:Int:=IntKind.wrap .u64 (x.2.2.1.2*v6);
 let v15:Int:=IntKind.wrap .u64 (IntKind.wrap .u64 (x.2.2.1.1*v6)+Int.fdiv x.2.2.1.2 v5);
 let v16:Bool:=decide (Int.fdiv x.2.2.2.1.1 v5>0);
 let v17:Bool:=!v16;
 let v18:Int×Int:=(IntKind.wrap .u64 (IntKind.wrap .u64 (x.2.1.1*v6)+Int.fdiv x.2.1.2 v5),IntKind.wrap .u64 (x.2.1.2*v6));
 let v19:Int×Int:=(IntKind.wrap .u64 (IntKind.wrap .u64 (x.2.2.2.1.1*v6)+Int.fdiv x.2.2.2.1.2 v5),IntKind.wrap .u64 (IntKind.wrap IntKind.u64 (x.2.2.2.1.2*v6)+Int.fdiv x.2.1.1 v5));
 let v20:Bool:=!v17||v17;bif decide (x.1<128) then bif v8 then bif v9 then bif v8 then bif v9 then bif v8 then bif v9 then bif v8 then bif v9 then bif v9 then bif v8 then bif v9 then bif v20&&v20 then af (bif v17 then eo v19 x1 else some false) fun (t:Bool)=>bif v20 then bif v16||v17 then bif bif v16 then true else !t then af (dU v19 x1) fun (t:Int×Int)=>again (v13,v18,(v15,IntKind.wrap .u64 (v14+1)),t,PUnit.unit) else again (v13,v18,(v15,v14),v19,PUnit.unit) else none else none else none else none else none else none else none else none else none else none else none else none else none else none else some (x.2.2.1,x.2.2.2.1, PUnit.unit)) (0,x0,(0,0),(0,0),PUnit.unit) else none else none else none
def oM (x0:Int×Int) (x1:Int×Int):Option ((Int×Int)×(Int×Int)×Unit):=zu lpK jnK eo dU x0 x1
abbrev PU:=(Int×Int)→(Int×Int)→Option ((Int×Int)×(Int×Int)×Unit)
def yd (_:Lp) (_:Jn) (kX:N8) (oM:PU) (x0:Int×Int) (x1:Bool) (x2:Int×Int):Option ((Int×Int)×Int×Unit) :=
 bif decide (x2.1=0)&&(decide (x2.2=0)&&true) then some ((0,0),16,PUnit.unit) else af (kX x0 x2) fun (t:Int×Int)=>af (oM x0 t) fun (t_1:(Int×Int)×(Int×Int)×PUnit) =>
 let v7:Int:=IntKind.wrap .i64 t_1.1.2;
 let v8:Bool:=decide (t_1.1.1>0);
 let v9:Bool:=!v8;
 let v10:Bool:=bif v8 then true else decide (t_1.1.2>1152921504606846976);
 let v11:Bool:=!v9||v9;
 let v12:Bool:=!v10;
 let v13:Bool:=!v12||v12;af (oM x2 t) fun (t:(Int×Int)×(Int×Int)×PUnit) =>
 let v15:Int:=IntKind.wrap .i64 t.1.2;
 let v16:Bool:=bif v10 then true else decide (t.1.1>0);
 let v17:Bool:=!v16;
 let v18:Bool:=!v17||v17;bif v11 then bif v11 then bif v8||v9 then bif v13 then bif v13 then bif v10||v12 then bif v18 then bif v18 then bif v16||v17 then bif bif v16 then true else decide (t.1.2>1152921504606846976) then some ((0,0),5,PUnit.unit) else bif x1 then some ((IntKind.wrap .i64 (0 - v7), v15),0,PUnit.unit) else some ((v7,v15),0,PUnit.unit) else none else none else none else none else none else none else none else none else none
def eT (x0:Int×Int) (x1:Bool) (x2:Int×Int):Option ((Int×Int)×Int×Unit):=yd lpK jnK kX oM x0 x1 x2
abbrev Ni:=(Int×Int)→(Bool)→(Int×Int)→Option ((Int×Int)×Int×Unit)
def Bl (_:Lp) (_:Jn) (x0:Int) (x1:Int):Option (Int×Int) :=
 
 let v4:Int:=2 ^ 32;
 let v5:Int:=Int.fdiv x0 v4;
 let v6:Int:=Int.fdiv x1 v4;
 let v7:Bool:=decide ((0:Int)≤32);
 let v8:Int:=IntKind.wrap .u64 (↑(Nat.land (Int.toNat (x1 % Int.ofNat 18446744073709551616)) (Int.toNat (4294967295 % Int.ofNat 18446744073709551616))) : Int);
 let v9:Int:=IntKind.wrap .u64 (↑(Nat.land (Int.toNat (x0 % Int.ofNat 18446744073709551616)) (Int.toNat (4294967295 % Int.ofNat 18446744073709551616))) : Int);
 let v10:Int:=IntKind.wrap .u64 (v9*v8);
 let v11:Int:=IntKind.wrap .u64 (IntKind.wrap .u64 (v5*v8)+Int.fdiv v10 v4);
 let v12:Int:=IntKind.wrap .u64 (IntKind.wrap .u64 (v9*v6)+IntKind.wrap .u64 (↑(Nat.land (Int.toNat (v11 % Int.ofNat 18446744073709551616)) (Int.toNat (4294967295 % Int.ofNat 18446744073709551616))):Int));bif v7 then bif v7 then bif v7 then bif v7 then bif v7 then bif v7 then some (IntKind.wrap .u64 (IntKind.wrap .u64 (IntKind.wrap .u64 (v5*v6)+Int.fdiv v11 v4)+Int.fdiv v12 v4),IntKind.wrap .u64 (IntKind.wrap .u64 (v12*v4)+IntKind.wrap IntKind.u64 (↑(Nat.land (Int.toNat (v10 % Int.ofNat 18446744073709551616)) (Int.toNat (4294967295 % Int.ofNat 18446744073709551616))):Int))) else none else none else none else none else none else none
def eO (x0:Int) (x1:Int):Option (Int×Int):=Bl lpK jnK x0 x1
abbrev Mv:=(Int)→(Int)→Option (Int×Int)
def vG (_:Lp) (_:Jn) (bv:G7) (eT:Ni) (eO:Mv) (x0:Int×Int) (x1:Int×Int):Option ((Int×Int)×Int×Unit) :=
 af (bv x0.1) fun (t:Int)=>af (bv x1.1) fun (t_1:Int)=>af (eO t t_1) fun (t:Int×Int)=>af (bv x0.2) fun (t_2:Int)=>af (bv x1.2) fun (t_3:Int)=>af (eO t_2 t_3) fun (t_4:Int×Int)=>af (eT t (!decide (decide (x0.1<0)=decide (x1.1<0))) t_4) fun (t:(Int×Int)×Int×PUnit)=>some (t.1,t.2.1,PUnit.unit)
def oo (x0:Int×Int) (x1:Int×Int):Option ((Int×Int)×Int×Unit):=vG lpK jnK bv eT eO x0 x1
abbrev Qr:=(Int×Int)→(Int×Int)→Option ((Int×Int)×Int×Unit)
def zq (_:Lp) (_:Jn) (eo:KT) (dU:Nq) (jf:Ps) (bv:G7) (eT:Ni) (eO:Mv) (x0:Int×Int) (x1:Int×Int):Option ((Int×Int)×Int×Unit) :=
 
 let v4:Bool:=decide (x0.1<0);af (bv x0.1) fun (t:Int)=>af (bv x1.2) fun (t_1:Int)=>af (eO t t_1) fun (t:Int×Int)=>af (bv x1.1) fun (t_2:Int)=>af (bv x0.2) fun (t_3:Int)=>af (eO t_2 t_3) fun (t_4:Int×Int)=>af (bv x0.2) fun (t_5:Int)=>af (bv x1.2) fun (t_6:Int)=>af (eO t_5 t_6) fun (t_7:Int×Int)=>bif decide (v4=decide (x1.1<0)) then af (jf t t_4) fun (t:Int×Int) =>af (eT t v4 t_7) fun (t:(Int×Int)×Int×PUnit)=>some (t.1,t.2.1,PUnit.unit) else af (eo t t_4) fun (t_8:Bool)=>bif t_8 then af (dU t_4 t) fun (t:Int×Int)=>af (eT t (decide (x1.1<0)) t_7) fun (t:(Int×Int)×Int×PUnit)=>some (t.1,t.2.1,PUnit.unit) else af (dU t t_4) fun (t:Int×Int)=>af (eT t v4 t_7) fun (t:(Int×Int)×Int×PUnit)=>some (t.1,t.2.1,PUnit.unit)
def se (x0:Int×Int) (x1:Int×Int):Option ((Int×Int)×Int×Unit):=zq lpK jnK eo dU jf bv eT eO x0 x1
abbrev P0:=(Int×Int)→(Int×Int)→Option ((Int×Int)×Int×Unit)
def Ah (lp:Lp) (_:Jn) (eD:t73) (oo:Qr) (se:P0) (x0:List Int) (x1:List (Int×Int)):Option ((Int×Int)×Int×Unit) :=
 af (eD 0) fun (t:Int×Int)=>lp (Int×(Int×Int)×(Int×Int)×PUnit) ((Int×Int)×Int×PUnit) (fun (again:Int×(Int×Int)×(Int×Int)×PUnit→Option ((Int×Int)×Int×PUnit)) (x:Int×(Int×Int)×(Int×Int)×PUnit)=>bif decide (x.1<(↑x0.length:Int)) then bif inB x.1 x0.length then af (eD (x0.getD x.1.toNat 0)) fun (t:Int×Int)=>bif inB x.1 x1.length then af (oo t (x1.getD x.1.toNat (0,0))) fun (t:(Int×Int)×Int×PUnit)=>bif !decide (t.2.1=0) then some ((0,0),t.2.1,PUnit.unit) else af (se x.2.2.1 t.1) fun (t:(Int × Int)×Int×PUnit)=>bif !decide (t.2.1=0) then some ((0,0),t.2.1,PUnit.unit) else again (IntKind.wrap .i64 (x.1+1), x.2.1,t.1,PUnit.unit) else none else none else some (x.2.2.1,0,PUnit.unit)) (0,(0,0),t,PUnit.unit)
def kO (x0:List Int) (x1:List (Int×Int)):Option ((Int×Int)×Int×Unit):=Ah lpK jnK eD oo se x0 x1
abbrev t54:=(List Int)→(List (Int×Int))→Option ((Int×Int)×Int×Unit)
def uI (lp:Lp) (_:Jn) (x0:(List Int)×List ((List Int)×Int×Int)) (x1:Int):Option (List Int) :=
 lp (List Int×Int×PUnit) (List Int) (fun (again:List Int×Int×PUnit→Option (List Int)) (x:List Int×Int×PUnit)=>bif decide (x.2.1<(↑x0.2.length:Int)) then bif inB x.2.1 x0.2.length then bif inB x1 (List.length (x0.2.getD x.2.1.toNat ([],0,0)).1) then bif dt (List.length x.1+(1 : Nat)) 8 then again (x.1++[List.getD (x0.2.getD x.2.1.toNat ([],0,0)).1 x1.toNat 0],IntKind.wrap .i64 (x.2.1 + 1),PUnit.unit) else none else none else none else some x.1) ([],0,PUnit.unit)
def mL (x0:(List Int)×List ((List Int)×Int×Int)) (x1:Int):Option (List Int):=uI lpK jnK x0 x1
abbrev Qh:=((List Int)×List ((List Int)×Int×Int))→(Int)→Option (List Int)
def zi (_:Lp) (_:Jn) (eo:KT) (bv:G7) (eO:Mv) (x0:Int×Int) (x1:Int×Int):Option Int :=
 
 let v4:Bool:=decide (x0.1<0);
 let v5:Bool:=decide (x0.1≥0);
 let v6:Bool:=!v4||v4;
 let v7:Bool:=!v5||v5;af (bv x0.1) fun (t:Int)=>af (bv x1.2) fun (t_1:Int)=>af (eO t t_1) fun (t:Int×Int)=>af (bv x1.1) fun (t_2:Int)=>af (bv x0.2) fun (t_3:Int)=>af (eO t_2 t_3) fun (t_4:Int×Int)=>bif v6 then bif v6 then bif v6 then bif bif v4 then decide (x1.1≥0) else false then some (-1) else bif v7 then bif v7 then bif v7 then bif bif v5 then decide (x1.1<0) else false then some 1 else bif decide (t.1=t_4.1)&&(decide (t.2=t_4.2)&&true) then some 0 else af (eo t t_4) fun (t:Bool)=>bif decide (t=v5) then some (-1) else some 1 else none else none else none else none else none else none
def kZ (x0:Int×Int) (x1:Int×Int):Option Int:=zi lpK jnK eo bv eO x0 x1
abbrev Pw:=(Int×Int)→(Int×Int)→Option (Int)
def vU (lp:Lp) (_:Jn) (eD:t73) (kO:t54) (mL:Qh) (kZ:Pw) (x0:(List Int)×List ((List Int)×Int×Int)) (x1:List (Int×Int)) (x2:List Int):Option (Bool×Int×Unit) :=
 lp (Bool×Int×PUnit) (Bool×Int×PUnit) (fun (again:Bool×Int×PUnit→Option (Bool×Int×PUnit)) (x:Bool×Int×PUnit) =>
 let v7:Bool:=!x.1;
 let v8:Bool:=v7||x.1;bif decide (x.2.1<(↑x2.length:Int)) then af (mL x0 x.2.1) fun (t:List Int)=>af (kO t x1) fun (t:(Int×Int) × Int×PUnit)=>bif !decide (t.2.1=0) then some (false,t.2.1,PUnit.unit) else bif v8&&(v8&&(v7||inB x.2.1 x2.length)) then bif v8 then bif v8 then af (bif x.1 then eD (x2.getD x.2.1.toNat 0) else some (0,0)) fun (t_1:Int×Int)=>bif v8&&v8 then af (bif x.1 then kZ t.1 t_1 else some 0) fun (t:Int)=>bif v8 then bif v8 then again (bif x.1 then decide (t≤0) else false,IntKind.wrap .i64 (x.2.1+(1 : Int)),PUnit.unit) else none else none else none else none else none else none else some (x.1,0,PUnit.unit)) (true,0,PUnit.unit)
def ol (x0:(List Int)×List ((List Int)×Int×Int)) (x1:List (Int×Int)) (x2:List Int):Option (Bool×Int×Unit):=vU lpK jnK eD kO mL kZ x0 x1 x2
abbrev t53:=((List Int)×List ((List Int)×Int×Int))→(List (Int×Int))→(List Int)→Option (Bool×Int×Unit)
end
end Go.Proofs.YtfknoaclabfdlaaGreat
