/- r15: the shapes of its types, and the places of its loops. r15: what its functions answer (printed by a program), and that they do. r15: what its functions answer (printed by a program), and that they do; part 2. -/
import Derived.Test.YtfknoaclabfdlaaGreatProg
import Derived.KernelRfl
import Derived.Test.YtfknoaclabfdlaaGreatMgL

namespace Go.Proofs.YtfknoaclabfdlaaGreat
open Tryz Dn Dn.Sh
abbrev i64:Sh:=.int .i64
abbrev T66:Sh:=.agg (.pair .str i64)
abbrev T49:Sh:=.agg (.pair i64 i64)
abbrev NE:Sh:=.agg (.pair .str (.pair i64 T49))
abbrev T75:Sh:=.agg (.pair .str (.pair (.sl NE) .bool))
abbrev T25:Sh:=.agg (.pair (.sl T66) (.sl T75))
abbrev T86:Sh:=.agg (.pair (.sl i64) (.pair i64 i64))
abbrev T32:Sh:=.agg (.pair (.sl i64) (.sl T86))
abbrev T96:Sh:=.agg (.pair T49 (.pair (.sl T49) (.sl T49)))
abbrev l5:Sh:=.agg (.pair (.int .u64) (.int .u64))
abbrev MY:Sh:=.agg i64
abbrev vK:Sh:=.agg (.pair (.int .u64) (.int .u64))
abbrev D5:Sh:=.agg (.pair (.sl (.sl i64)) (.pair i64 (.pair (.sl i64) (.pair (.sl i64) (.pair (.sl i64) (.pair i64 i64))))))
abbrev ry:Sh:=.agg (.pair .bool (.pair (.int .u64) (.int .u64)))
def shs:TypeId→Option Sh
 | 3=>some i64
 | 4=>some .bool
 | 5=>some (.int .u8)
 | 9=>some .str
 | 29=>some (.sl i64)
 | 49=>some T49
 | 66=>some T66
 | 75=>some T75
 | 86=>some T86
 | 134=>some NE
 | _=>none
def Iu:Nat→Option Hd
 | 2=>some ⟨[(3,false,[.d i64])],[],[]⟩
 | _=>none
def HS:Nat→Option Hd
 | 2=>some ⟨[(8,false,[.d i64])],[],[]⟩
 | _=>none
def KV:Nat→Option Hd
 | 1=>some ⟨[(0,false,[.d (.int .u64)]),(1,false,[.d (.int .u64)])],[],[]⟩
 | _=>none
def G0:Nat→Option Hd
 | 5=>some ⟨[(17,false,[.d i64])],[],[]⟩
 | _=>none
def JU:Nat→Option Hd
 | 6=>some ⟨[(27,false,[.d i64])],[],[(3,some 0,.x (.map 158 .str .bool))]⟩
 | 13=>some ⟨[(7,false,[.d i64]),(46,false,[.d i64])],[],[(3,some 0,.x (.map 158 .str .bool))]⟩
 | _=>none
def Kh:Nat→Option Hd
 | 5=>some ⟨[(20,false,[.d i64])],[],[(4,none,.x (.tab 29 .ref 3 i64))]⟩
 | 10=>some ⟨[(34,false,[.d i64])],[],[(4,none,.x (.tab 29 .ref 3 i64))]⟩
 | 13=>some ⟨[(42,false,[.d i64])],[],[(4,none,.x (.tab 29 .ref 3 i64))]⟩
 | _=>none
def JC:Nat→Option Hd
 | 5=>some ⟨[(4,false,[.row 3 i64]),(13,false,[.d i64])],[],[]⟩
 | _=>none
def Ks:Nat→Option Hd
 | 9=>some ⟨[(34,false,[.d i64])],[(9,[.d (.sl i64),.row 86 T86])],[]⟩
 | _=>none
def JH:Nat→Option Hd
 | 8=>some ⟨[(8,false,[.d i64])],[],[(7,none,.row 3 i64)]⟩
 | _=>none
def J7:Nat→Option Hd
 | 1000002=>some ⟨[],[],[]⟩
 | 1000005=>some ⟨[],[],[]⟩
 | _=>none
def IY:Nat→Option Hd
 | 2=>some ⟨[(8,false,[.d i64])],[],[]⟩
 | _=>none
def Ho:Nat→Option Hd
 | 2=>some ⟨[(8,false,[.d i64])],[],[]⟩
 | _=>none
def JX:Nat→Option Hd
 | 2=>some ⟨[(8,false,[.d i64])],[],[]⟩
 | _=>none
def HG:Nat→Option Hd
 | 1000002=>some ⟨[(0,false,[.d (.int .u64)]),(2,false,[.d i64])],[],[]⟩
 | 1000005=>some ⟨[(0,false,[.d (.int .u64)]),(2,false,[.d i64])],[],[]⟩
 | _=>none
def G2:Nat→Option Hd
 | 17=>some ⟨[(15,false,[.d (.int .u64)]),(16,false,[.d (.int .u64)])],[],[]⟩
 | 24=>some ⟨[(16,false,[.d (.int .u64)]),(18,false,[.d (.int .u64)])],[],[]⟩
 | _=>none
def H3:Nat→Option Hd
 | 0=>some ⟨[(15,false,[.d (.int .u64)])],[],[]⟩
 | 2=>some ⟨[(18,false,[.d (.int .u64)])],[],[]⟩
 | 1000002=>some ⟨[],[],[]⟩
 | 1000004=>some ⟨[],[],[]⟩
 | _=>none
def JY:Nat→Option Hd
 | 1000008=>some ⟨[(9,false,[.d .bool])],[(10,[.d l5])],[]⟩
 | 1000010=>some ⟨[(9,false,[.d .bool])],[(10,[.d l5])],[]⟩
 | _=>none
def J5:Nat→Option Hd
 | 3=>some ⟨[(15,false,[.d i64])],[(0,[.d MY]),(6,[.d T49]),(7,[.d T49])],[]⟩
 | _=>none
def Jz:Nat→Option Hd
 | 1000007=>some ⟨[(11,false,[.d i64])],[(10,[.d T49])],[]⟩
 | _=>none
def JT:Nat→Option Hd
 | 1000009=>some ⟨[],[(6,[.d l5]),(7,[.d l5])],[]⟩
 | _=>none
def IA:Nat→Option Hd
 | 3=>some ⟨[(5,false,[.row 3 i64]),(11,false,[.d i64])],[],[]⟩
 | _=>none
def K1:Nat→Option Hd
 | 3=>some ⟨[(9,false,[.d .bool]),(14,false,[.d i64])],[(0,[.d MY])],[]⟩
 | _=>none
def Lk:Nat→Option Hd
 | 3=>some ⟨[(3,false,[.row 3 i64]),(9,false,[.d i64])],[],[]⟩
 | _=>none
def Kg:Nat→Option Hd
 | 2=>some ⟨[(10,false,[.d i64])],[],[]⟩
 | _=>none
def HQ:Nat→Option Hd
 | 3=>some ⟨[(5,false,[.d i64]),(14,false,[.d i64])],[],[]⟩
 | _=>none
def Jj:Nat→Option Hd
 | 5=>some ⟨[(3,false,[.d i64]),(4,false,[.d i64])],[],[]⟩
 | _=>none
def Hl:Nat→Option Hd
 | 1000002=>some ⟨[],[],[]⟩
 | _=>none
def I4:Nat→Option Hd
 | 4=>some ⟨[(4,false,[.row 3 i64]),(18,false,[.d i64])],[],[]⟩
 | 10=>some ⟨[(7,false,[.d i64]),(34,false,[.d i64])],[],[]⟩
 | _=>none
def Ij:Nat→Option Hd
 | 4=>some ⟨[(5,false,[.d i64]),(24,false,[.d i64])],[],[]⟩
 | 12=>some ⟨[(9,false,[.d i64]),(51,false,[.d i64])],[(46,[.x (.tab 29 .ref 3 i64),.d i64,.row 3 i64,.row 3 i64,.row 3 i64,.d i64,.d i64])],[]⟩
 | 28=>some ⟨[(95,false,[.d i64])],[],[(12,none,.row 3 i64)]⟩
 | _=>none
def Ia:Nat→Option Hd
 | 1000019=>some ⟨[(9,false,[.d i64])],[],[(12,none,.row 3 i64)]⟩
 | 1000022=>some ⟨[(9,false,[.d i64])],[],[(12,none,.row 3 i64)]⟩
 | 1000026=>some ⟨[(13,false,[.d i64])],[],[(12,none,.row 3 i64)]⟩
 | _=>none
def GI:Nat→Option Hd
 | 3=>some ⟨[(5,false,[.d i64]),(13,false,[.d i64])],[],[]⟩
 | _=>none
def HX:Nat→Option Hd
 | 1000008=>some ⟨[(10,false,[.d .bool])],[(2,[.d ry]),(3,[.d ry])],[]⟩
 | _=>none
def FL:Nat→Option Hd
 | 2=>some ⟨[(29,false,[.d i64])],[],[(0,some 0,.x (.tab 29 .ref 3 i64))]⟩
 | 7=>some ⟨[(43,false,[.d i64])],[],[(0,some 0,.x (.tab 29 .ref 3 i64))]⟩
 | 17=>some ⟨[(98,false,[.d i64])],[],[(0,some 0,.x (.tab 29 .ref 3 i64))]⟩
 | 20=>some ⟨[(104,false,[.d i64])],[],[(0,some 0,.x (.tab 29 .ref 3 i64))]⟩
 | _=>none
def Ht:Nat→Option Hd
 | 3=>some ⟨[(5,false,[.d i64]),(14,false,[.d i64])],[],[]⟩
 | _=>none
def F5:Nat→Option Hd
 | 1=>some ⟨[],[(0,[.x (.tab 29 .ref 3 i64),.d i64,.row 3 i64,.row 3 i64,.row 3 i64,.d i64,.d i64])],[]⟩
 | 3=>some ⟨[(3,false,[.d i64]),(4,false,[.d i64])],[],[]⟩
 | 12=>some ⟨[(44,false,[.d i64])],[(0,[.x (.tab 29 .ref 3 i64),.d i64,.row 3 i64,.row 3 i64,.row 3 i64,.d i64,.d i64])],[]⟩
 | 15=>some ⟨[(6,false,[.d i64])],[(0,[.x (.tab 29 .ref 3 i64),.d i64,.row 3 i64,.row 3 i64,.row 3 i64,.d i64,.d i64])],[]⟩
 | _=>none
def FW:Nat→Option Hd
 | 3=>some ⟨[(5,false,[.d i64]),(21,false,[.d i64])],[],[]⟩
 | _=>none
def Hu:Nat→Option Hd
 | 1=>some ⟨[],[(0,[.x (.tab 29 .ref 3 i64),.d i64,.row 3 i64,.row 3 i64,.row 3 i64,.d i64,.d i64])],[]⟩
 | 3=>some ⟨[(3,false,[.d i64]),(4,false,[.d i64])],[],[]⟩
 | _=>none
def J1:Nat→Option Hd
 | 14=>some ⟨[(6,false,[.d i64]),(43,false,[.d i64])],[],[(7,none,.row 3 i64)]⟩
 | 22=>some ⟨[(94,false,[.d i64])],[(5,[.d T49,.row 49 T49,.row 49 T49])],[]⟩
 | 27=>some ⟨[(110,false,[.d i64])],[(5,[.d T49,.row 49 T49,.row 49 T49])],[]⟩
 | 31=>some ⟨[(13,false,[.d i64]),(118,false,[.d i64])],[],[]⟩
 | _=>none
def K7:Nat→Option Hd
 | 2=>some ⟨[(8,false,[.d i64])],[],[]⟩
 | _=>none
def Lu:Nat→Option Hd
 | 5=>some ⟨[(4,false,[.row 9 .str]),(16,false,[.d i64])],[],[]⟩
 | _=>none
def Ki:Nat→Option Hd
 | 3=>some ⟨[(11,false,[.d i64])],[(3,[.d (.sl T66),.row 75 T75])],[]⟩
 | _=>none
def Ls:Nat→Option Hd
 | 4=>some ⟨[(3,false,[.d i64])],[],[]⟩
 | 9=>some ⟨[(4,false,[.d i64])],[],[]⟩
 | 14=>some ⟨[(5,false,[.d i64])],[],[]⟩
 | _=>none
def Ku:Nat→Option Hd
 | 2=>some ⟨[(5,false,[.d i64])],[],[]⟩
 | _=>none
def KG:Nat→Option Hd
 | 1=>some ⟨[(1,false,[.d i64])],[],[]⟩
 | _=>none
def KU:Nat→Option Hd
 | 2=>some ⟨[(5,false,[.d i64])],[],[]⟩
 | _=>none
def GC:Nat→Option Hd
 | 4=>some ⟨[(5,false,[.d i64])],[(2,[.d vK]),(3,[.d vK])],[]⟩
 | 6=>some ⟨[],[(2,[.d vK]),(3,[.d vK])],[]⟩
 | 7=>some ⟨[],[(2,[.d vK])],[]⟩
 | 9=>some ⟨[],[(3,[.d vK])],[]⟩
 | 14=>some ⟨[(5,false,[.d i64])],[(3,[.d vK])],[]⟩
 | _=>none
def LF:Nat→Option Hd
 | 4=>some ⟨[(5,false,[.d i64])],[],[]⟩
 | _=>none
def Lb:Nat→Option Hd
 | 4=>some ⟨[(3,false,[.d i64])],[],[]⟩
 | 11=>some ⟨[(5,false,[.d i64]),(6,false,[.d i64])],[],[]⟩
 | _=>none
def KO:Nat→Option Hd
 | 4=>some ⟨[(5,false,[.d i64])],[],[]⟩
 | 9=>some ⟨[(6,false,[.d i64])],[],[]⟩
 | 15=>some ⟨[(9,false,[.d i64])],[],[]⟩
 | _=>none
def Jt:Nat→Option Hd
 | 3=>some ⟨[(5,false,[.d i64]),(6,false,[.d i64])],[],[]⟩
 | _=>none
def JO:Nat→Option Hd
 | 3=>some ⟨[(3,false,[.x (.tab 29 .ref 3 i64)]),(4,false,[.d i64])],[],[]⟩
 | 7=>some ⟨[(5,false,[.row 3 i64]),(6,false,[.d i64])],[],[]⟩
 | _=>none
def K5:Nat→Option Hd
 | 4=>some ⟨[(7,false,[.d i64])],[(5,[.d (.sl i64),.row 86 T86])],[]⟩
 | _=>none
def Lw:Nat→Option Hd
 | 3=>some ⟨[(3,false,[.row 3 i64]),(4,false,[.d i64])],[],[]⟩
 | _=>none
def Kb:Nat→Option Hd
 | 2=>some ⟨[(3,false,[.d i64])],[],[]⟩
 | _=>none
def Gz:Nat→Option Hd
 | 5=>some ⟨[(8,false,[.d i64])],[(2,[.d vK]),(6,[.d vK]),(7,[.d vK])],[]⟩
 | _=>none
def JG:Nat→Option Hd
 | 3=>some ⟨[(7,false,[.d i64])],[(4,[.d T49]),(6,[.d T49])],[]⟩
 | _=>none
def Io:Nat→Option Hd
 | 3=>some ⟨[(5,false,[.row 3 i64]),(6,false,[.d i64])],[],[]⟩
 | _=>none
def JE:Nat→Option Hd
 | 3=>some ⟨[(8,false,[.d .bool]),(9,false,[.d i64])],[],[]⟩
 | _=>none
def KQ:Nat→Option Hd
 | 3=>some ⟨[(3,false,[.row 3 i64]),(4,false,[.d i64])],[],[]⟩
 | _=>none
def Kk:Nat→Option Hd
 | 2=>some ⟨[(5,false,[.d i64])],[],[]⟩
 | _=>none
def IJ:Nat→Option Hd
 | 3=>some ⟨[(3,false,[.d i64]),(4,false,[.d i64])],[],[]⟩
 | 8=>some ⟨[(5,false,[.row 3 i64]),(6,false,[.d i64])],[],[]⟩
 | 12=>some ⟨[(7,false,[.d i64]),(8,false,[.d i64])],[],[]⟩
 | _=>none
def I6:Nat→Option Hd
 | 3=>some ⟨[(6,false,[.d i64]),(7,false,[.d i64])],[],[]⟩
 | _=>none
def JN:Nat→Option Hd
 | 5=>some ⟨[(6,false,[.d i64]),(7,false,[.d i64])],[],[]⟩
 | _=>none
def FS:Nat→Option Hd
 | 3=>some ⟨[(8,false,[.d i64])],[],[(3,some 0,.x (.tab 29 .ref 3 i64))]⟩
 | 8=>some ⟨[(10,false,[.d i64])],[],[(3,some 0,.x (.tab 29 .ref 3 i64))]⟩
 | _=>none
def Kv:Nat→Option Hd
 | 2=>some ⟨[],[(1,[.x (.tab 29 .ref 3 i64),.row 3 i64,.d i64,.d i64]),(2,[.x (.tab 29 .ref 3 i64),.row 3 i64,.d i64,.d i64])],[]⟩
 | 3=>some ⟨[(5,false,[.d i64])],[],[]⟩
 | 9=>some ⟨[(6,false,[.d i64]),(8,false,[.d i64])],[],[]⟩
 | _=>none
def JJ:Nat→Option Hd
 | 1=>some ⟨[(4,false,[.d i64])],[],[(0,none,.row 3 i64)]⟩
 | _=>none
def Kq:Nat→Option Hd
 | 5=>some ⟨[(7,false,[.d i64])],[(5,[.x (.tab 29 .ref 3 i64),.row 3 i64,.d i64,.d i64])],[(6,none,.row 3 i64)]⟩
 | 16=>some ⟨[(9,false,[.d i64])],[],[(8,none,.row 3 i64)]⟩
 | 20=>some ⟨[(10,false,[.d i64])],[],[(6,none,.row 3 i64)]⟩
 | _=>none
def Kj:Nat→Option Hd
 | 1000010=>some ⟨[],[],[(8,none,.row 3 i64)]⟩
 | 1000012=>some ⟨[],[],[(8,none,.row 3 i64)]⟩
 | 1000015=>some ⟨[],[],[(8,none,.row 3 i64)]⟩
 | _=>none
def Lc:Nat→Option Hd
 | 2=>some ⟨[(3,false,[.d i64])],[(1,[.x (.tab 29 .ref 3 i64),.row 3 i64,.d i64,.d i64])],[]⟩
 | 6=>some ⟨[(4,false,[.d i64])],[],[]⟩
 | 11=>some ⟨[(5,false,[.d i64])],[],[(1,some 0,.x (.tab 29 .ref 3 i64))]⟩
 | _=>none
def LG:Nat→Option Hd
 | 9=>some ⟨[(9,false,[.d i64])],[],[(4,some 0,.x (.tab 29 .ref 3 i64))]⟩
 | 13=>some ⟨[(10,false,[.d i64]),(11,false,[.d i64])],[],[]⟩
 | _=>none
def Kz:Nat→Option Hd
 | 7=>some ⟨[(20,false,[.d i64])],[(2,[.d T49]),(4,[.d T49])],[]⟩
 | _=>none
def JL:Nat→Option Hd
 | 3=>some ⟨[(4,false,[.row 9 .str]),(5,false,[.d i64])],[],[]⟩
 | _=>none
def Kp:Nat→Option Hd
 | 4=>some ⟨[(13,false,[.d i64])],[],[]⟩
 | _=>none
def Nl:Nat→Option Hd
 | 1000023=>some ⟨[],[],[]⟩
 | _=>none
def KJ:Nat→Option Hd
 | 3=>some ⟨[(4,false,[.d i64])],[(3,[.row 66 T66,.row 75 T75])],[]⟩
 | _=>none
def My:Nat→Option Hd
 | 7=>some ⟨[(39,false,[.d i64])],[],[]⟩
 | _=>none
def Ml:Nat→Option Hd
 | 1000014=>some ⟨[],[],[]⟩
 | _=>none
def JV:Nat→Option Hd
 | 10=>some ⟨[(5,false,[.row 49 T49]),(20,false,[.d i64])],[],[]⟩
 | _=>none
def Ka:Nat→Option Hd
 | 7=>some ⟨[(8,false,[.row 49 T49]),(9,false,[.d i64]),(25,false,[.d i64])],[],[]⟩
 | 11=>some ⟨[(31,false,[.d i64])],[(11,[.d T49])],[]⟩
 | _=>none
def Ld:Nat→Option Hd
 | 2=>some ⟨[(3,false,[.d i64])],[],[]⟩
 | _=>none
def Ln:Nat→Option Hd
 | 2=>some ⟨[(8,false,[.d i64])],[],[]⟩
 | _=>none
def Nk:Nat→Option Hd
 | 25=>some ⟨[(123,false,[.d i64])],[],[]⟩
 | _=>none
def Nf:Nat→Option Hd
 | 1000020=>some ⟨[],[],[]⟩
 | _=>none
def I5:Nat→Option Hd
 | 2=>some ⟨[(8,false,[.d i64])],[],[]⟩
 | _=>none
def G7:Nat→Option Hd
 | 1000007=>some ⟨[(12,false,[.d (.int .u64)]),(13,false,[.d (.int .u64)]),(18,false,[.d .bool])],[],[]⟩
 | 1000008=>some ⟨[(12,false,[.d (.int .u64)]),(13,false,[.d (.int .u64)]),(14,false,[.d (.int .u64)]),(15,false,[.d (.int .u64)]),(18,false,[.d .bool])],[],[]⟩
 | _=>none
def Gb:Nat→Option Hd
 | 3=>some ⟨[(20,false,[.d i64])],[(5,[.x (.tab 29 .ref 3 i64),.d i64,.row 3 i64,.row 3 i64,.d .bool])],[]⟩
 | 9=>some ⟨[(40,false,[.d i64])],[(5,[.x (.tab 29 .ref 3 i64),.d i64,.row 3 i64,.row 3 i64,.d .bool])],[]⟩
 | 14=>some ⟨[(10,false,[.d i64]),(11,false,[.d i64])],[],[]⟩
 | 19=>some ⟨[(10,false,[.d i64])],[(5,[.x (.tab 29 .ref 3 i64),.d i64,.row 3 i64,.row 3 i64,.d .bool])],[]⟩
 | 26=>some ⟨[(130,false,[.d i64])],[],[(5,some 0,.x (.tab 29 .ref 3 i64))]⟩
 | 31=>some ⟨[(144,false,[.d i64])],[],[(5,some 0,.x (.tab 29 .ref 3 i64))]⟩
 | _=>none
def Lg:Nat→Option Hd
 | 10=>some ⟨[(7,false,[.x (.tab 29 .ref 3 i64)]),(37,false,[.d i64])],[],[]⟩
 | 16=>some ⟨[(64,false,[.d i64])],[],[]⟩
 | 25=>some ⟨[(13,false,[.row 49 T49]),(80,false,[.d i64])],[],[]⟩
 | _=>none
def KK:Nat→Option Hd
 | 4=>some ⟨[(13,false,[.d i64])],[],[]⟩
 | _=>none
def Mr:Nat→Option Hd
 | 16=>some ⟨[(9,false,[.row 9 .str]),(59,false,[.d i64])],[],[]⟩
 | _=>none
def Mq:Nat→Option Hd
 | 1000019=>some ⟨[(9,false,[.row 9 .str])],[],[]⟩
 | _=>none
def ao:FuncId→Hint
 | 161=>{loop:=Iu}
 | 167=>{loop:=HS}
 | 75=>{loop:=KV}
 | 117=>{loop:=G0}
 | 59=>{loop:=JU}
 | 87=>{loop:=Kh}
 | 88=>{loop:=JC}
 | 45=>{loop:=Ks}
 | 46=>{loop:=JH,join:=J7}
 | 173=>{loop:=IY}
 | 174=>{loop:=Ho}
 | 74=>{loop:=JX}
 | 181=>{join:=HG}
 | 125=>{loop:=G2,join:=H3}
 | 35=>{join:=JY}
 | 95=>{loop:=J5,join:=Jz}
 | 39=>{join:=JT}
 | 145=>{loop:=IA}
 | 93=>{loop:=K1}
 | 96=>{loop:=Lk}
 | 97=>{loop:=Kg}
 | 154=>{loop:=HQ}
 | 156=>{loop:=Jj,join:=Hl}
 | 108=>{loop:=I4}
 | 109=>{loop:=Ij,join:=Ia}
 | 126=>{loop:=GI}
 | 176=>{join:=HX}
 | 157=>{loop:=FL}
 | 158=>{loop:=Ht}
 | 110=>{loop:=F5}
 | 159=>{loop:=FW}
 | 111=>{loop:=Hu}
 | 58=>{loop:=J1}
 | 60=>{loop:=K7}
 | 21=>{loop:=Lu}
 | 43=>{loop:=Ki}
 | 44=>{loop:=Ls}
 | 22=>{loop:=Ku}
 | 99=>{loop:=KG}
 | 49=>{loop:=KU}
 | 102=>{loop:=GC}
 | 50=>{loop:=LF}
 | 13=>{loop:=Lb}
 | 14=>{loop:=KO}
 | 101=>{loop:=Jt}
 | 51=>{loop:=JO}
 | 15=>{loop:=K5}
 | 16=>{loop:=Lw}
 | 17=>{loop:=Kb}
 | 164=>{loop:=Gz}
 | 54=>{loop:=JG}
 | 104=>{loop:=Io}
 | 53=>{loop:=JE}
 | 55=>{loop:=KQ}
 | 57=>{loop:=Kk}
 | 118=>{loop:=IJ}
 | 119=>{loop:=I6}
 | 63=>{loop:=JN}
 | 120=>{loop:=FS}
 | 66=>{loop:=Kv}
 | 69=>{loop:=JJ}
 | 67=>{loop:=Kq,join:=Kj}
 | 68=>{loop:=Lc}
 | 26=>{loop:=LG}
 | 27=>{loop:=Kz}
 | 28=>{loop:=JL}
 | 29=>{loop:=Kp}
 | 4=>{join:=Nl}
 | 31=>{loop:=KJ}
 | 5=>{loop:=My,join:=Ml}
 | 83=>{loop:=JV}
 | 84=>{loop:=Ka}
 | 38=>{loop:=Ld}
 | 86=>{loop:=Ln}
 | 7=>{loop:=Nk,join:=Nf}
 | 182=>{loop:=I5}
 | 172=>{join:=G7}
 | 135=>{loop:=Gb}
 | 89=>{loop:=Lg}
 | 42=>{loop:=KK}
 | 8=>{loop:=Mr,join:=Mq}
 | _=>{}
def An (p : String) : Bool := p == "program.go:104" || p == "ref.go:45"
def AR:TypeId→Option XP
 | 87=>some (.tab 29 .ref 3 i64)
 | 88=>some (.tab 29 .ref 3 i64)
 | _=>none
def vo:List Nat:=[115,174,141,142,93,109,157,110,111,120,66,69,67,68]
def its:List (Nat×ICtr):=[]
theorem OS:Iz prog its:=D2
end Go.Proofs.YtfknoaclabfdlaaGreat

namespace Go.Proofs.YtfknoaclabfdlaaGreat
noncomputable section
open Tryz Dn Dn.Sh
set_option maxRecDepth 100000
theorem aV:prog.follows .mixedOrders=true:=by kernel_rfl
theorem Mj:zG prog vo=true:=by kernel_rfl
theorem q0:(jP prog shs vo its [] []).ok:=Et Mj OS
abbrev cx (l) (r):=yk AR An (jP prog shs vo its l r)
def fT (_:Lp) (_:Jn) (x0:List Int):Option (List Int) :=
 bif dq (0+List.length x0) 8 then some x0 else none
def aX (x0:List Int):Option (List Int):=fT lpK jnK x0
abbrev GT:=(List Int)→Option (List Int)
def MO (aX:GT):RCtr:=⟨[(.sl i64)],3,i64,fun x=>aX x.1⟩
def bH:RCtr:=MO aX
theorem QD (lp:Lp) (jn:Jn):∀x:TsS bH.as,fT lp jn x.1=ET lp jn (cx [] []) ao 4 134 f134 bH.t bH.e (zh bH.as x true):=fun x=>by kernel_rfl
theorem M3:bH.ok prog 134:=RCtr.of_den_nil (c:=bH) (au (q0)) aV (hl:=ao) (d:=4) rfl func134 rfl (by decide) (QD lpK jnK) fun x h=>by
 obtain ⟨l,u⟩:=x
 simp only at h
 subst h
 kernel_rfl
theorem b6:(jP prog shs vo its [] [(134,bH)]).ok:=FB q0 (by kernel_rfl) M3
def jk (_:Lp) (_:Jn) (x0:Int) (x1:Int) (x2:Int):Option Bool :=
 
 let v5:Bool:=decide (x0≥x1);
 let v6:Bool:=!v5||v5;bif v6&&v6 then bif v6 then some (bif v5 then decide (x0≤x2) else false) else none else none
def a7 (x0:Int) (x1:Int) (x2:Int):Option Bool:=jk lpK jnK x0 x1 x2
abbrev HZ:=(Int)→(Int)→(Int)→Option (Bool)
def Mv (a7:HZ):Ctr:=⟨[i64,i64,i64],[],[],.one .bool,fun x _ _=>a7 x.1 x.2.1 x.2.2.1⟩
def GB:Ctr:=Mv a7
theorem PJ (lp:Lp) (jn:Jn):∀(x:TsS GB.as) (F:TsF GB.fs) (y:TsS GB.cs),jk lp jn x.1 x.2.1 x.2.2.1=cd lp jn (cx [] [(134,bH)]) ao 4 114 f114 GB x F y:=fun x F y=>by kernel_rfl
theorem LP:GB.ok prog 114:=Ctr.of_den (au (b6)) aV (hl:=ao) (d:=4) func114 rfl (by decide) (PJ lpK jnK)
def jg (_:Lp) (_:Jn) (x0:Int):Option Bool :=
 
 let v3:Bool:=decide (x0≥97);
 let v4:Bool:=decide (x0≥65);
 let v5:Bool:=!v3||v3;
 let v6:Bool:=bif v3 then decide (x0≤122) else false;
 let v7:Bool:=!v6;
 let v8:Bool:=!v7;
 let v9:Bool:=v7&&v4;
 let v10:Bool:=v8||v7;bif v5 then bif v5 then bif v10 then bif v10 then bif !v9||v9 then bif (v8||v10)&&(v8||(!v4||(v8||v9))) then bif v6||v7 then some (bif v6 then true else bif v4 then decide (x0≤90) else false) else none else none else none else none else none else none else none
def bj (x0:Int):Option Bool:=jg lpK jnK x0
abbrev HK:=(Int)→Option (Bool)
def NB (bj:HK):Ctr:=⟨[(.int .u8)],[],[],.one .bool,fun x _ _=>bj x.1⟩
def Hm:Ctr:=NB bj
theorem Qb (lp:Lp) (jn:Jn):∀(x:TsS Hm.as) (F:TsF Hm.fs) (y:TsS Hm.cs),jg lp jn x.1=cd lp jn (cx [] [(134,bH)]) ao 4 160 f160 Hm x F y:=fun x F y=>by kernel_rfl
theorem LM:Hm.ok prog 160:=Ctr.of_den (au (b6)) aV (hl:=ao) (d:=4) func160 rfl (by decide) (Qb lpK jnK)
def kc (_:Lp) (_:Jn) (x0:Int):Option Bool :=
 
 let v3:Bool:=decide (x0≥48);
 let v4:Bool:=!v3||v3;bif v4 then bif v4 then some (bif v3 then decide (x0≤57) else false) else none else none
def dC (x0:Int):Option Bool:=kc lpK jnK x0
abbrev NT:=(Int)→Option (Bool)
def Jk:Ctr:=⟨[(.int .u8)],[],[],.one .bool,fun x _ _=>dC x.1⟩
theorem Qo (lp:Lp) (jn:Jn):∀(x:TsS Jk.as) (F:TsF Jk.fs) (y:TsS Jk.cs),kc lp jn x.1=cd lp jn (cx [] [(134,bH)]) ao 4 179 f179 Jk x F y:=fun x F y=>by kernel_rfl
theorem OU:Jk.ok prog 179:=Ctr.of_den (au (b6)) aV (hl:=ao) (d:=4) func179 rfl (by decide) (Qo lpK jnK)
def lg (lp:Lp) (_:Jn) (bj:HK) (dC:NT) (x0:ByteArray):Option Int :=
 lp (Int×PUnit) Int (fun (again:Int×PUnit→Option Int) (x:Int×PUnit) =>
 let v5:Bool:=inB x.1 (ByteArray.size x0);
 let v6:Int:=eE x0 x.1.toNat;
 let v7:Bool:=decide (x.1<(↑(ByteArray.size x0):Int));
 let v8:Bool:=!v7;
 let v9:Bool:=v8||v7;
 let v10:Bool:=v8||v9;bif v9&&(v9&&(v8||v5)) then bif v9 then af (bif v7 then bj v6 else some false) fun (t:Bool) =>
 let v12:Bool:=v7&&!t;
 let v13:Bool:=!v12;
 let v14:Bool:=v13||v12;bif v9 then bif v14&&(v14&&(v13||v5)) then bif v14 then af (bif v12 then dC v6 else some false) fun (t_1:Bool) =>
 let v16:Bool:=bif t then true else t_1;
 let v17:Bool:=v7&&!v16;
 let v18:Bool:=!v17;
 let v19:Bool:=v18||v17;bif v10&&(v8||(t||(v8||v12))) then bif v9 then bif v19&&(v19&&(v18||v5)) then bif v19 then bif v10&&(v8||(v16||(v8||v17))) then bif v9 then bif bif v7 then bif v16 then true else decide (v6=95) else false then again (IntKind.wrap .i64 (x.1+1),PUnit.unit) else some x.1 else none else none else none else none else none else none else none else none else none else none else none) (0,PUnit.unit)
def dF (x0:ByteArray):Option Int:=lg lpK jnK bj dC x0
abbrev NM:=(ByteArray)→Option (Int)
def Ga:Ctr:=⟨[.str],[],[],.one i64,fun x _ _=>dF x.1⟩
theorem QJ (lp:Lp) (jn:Jn) (bj:HK) (dC:NT):∀(x:TsS Ga.as) (F:TsF Ga.fs) (y:TsS Ga.cs),lg lp jn bj dC x.1=cd lp jn (cx [(179,⟨[(.int .u8)],[],[],.one .bool,fun x _ _=>dC x.1⟩),(160,NB bj)] [(134,bH)]) ao 4 161 f161 Ga x F y:=fun x F y=>by kernel_rfl
theorem N8:Ga.ok prog 161:=Ctr.of_den (au (ai (ai (b6) (by kernel_rfl) LM) (by kernel_rfl) OU)) aV (hl:=ao) (d:=4) func161 rfl (by decide) (QJ lpK jnK bj dC)
def jm (_:Lp) (_:Jn) (bj:HK) (dF:NM) (x0:ByteArray):Option Bool :=
 
 let v3:Bool:=!List.beq (ByteArray.toList x0) (ByteArray.toList { data:=#[] });
 let v4:Bool:=!v3||v3;
 let v5:Bool:=bif v3 then decide ((↑(ByteArray.size x0):Int)≤20) else false;
 let v6:Bool:=!v5;
 let v7:Bool:=v6||v5;bif v4 then bif v4 then bif v4 then bif v7&&(v6||inB 0 (ByteArray.size x0)) then bif v7 then af (bif v5 then bj (eE x0 0) else some false) fun (t:Bool) =>
 let v9:Bool:=bif v5 then t else false;
 let v10:Bool:=!v9||v9;bif v7 then bif v10 then af (bif v9 then dF x0 else some 0) fun (t:Int)=>bif v10 then bif v10&&v10 then bif v10 then some (bif v9 then decide (t=(↑(ByteArray.size x0):Int)) else false) else none else none else none else none else none else none else none else none else none else none
def cC (x0:ByteArray):Option Bool:=jm lpK jnK bj dF x0
abbrev Ow:=(ByteArray)→Option (Bool)
def HE:Ctr:=⟨[.str],[],[],.one .bool,fun x _ _=>cC x.1⟩
theorem P2 (lp:Lp) (jn:Jn) (bj:HK) (dF:NM):∀(x:TsS HE.as) (F:TsF HE.fs) (y:TsS HE.cs),jm lp jn bj dF x.1=cd lp jn (cx [(161,⟨[.str],[],[],.one i64,fun x _ _=>dF x.1⟩),(160,NB bj)] [(134,bH)]) ao 4 116 f116 HE x F y:=fun x F y=>by kernel_rfl
theorem O2:HE.ok prog 116:=Ctr.of_den (au (ai (ai (b6) (by kernel_rfl) LM) (by kernel_rfl) N8)) aV (hl:=ao) (d:=4) func116 rfl (by decide) (P2 lpK jnK bj dF)
def fV (lp:Lp) (_:Jn) (x0:List (ByteArray×Int)) (f0:(((ByteArray×Int)×Unit)→Option Bool)):Option Int :=
 lp (Int×PUnit) Int (fun (again:Int×PUnit→Option Int) (x:Int×PUnit)=>bif decide (x.1<(↑x0.length:Int)) then bif inB x.1 x0.length then af (f0 (x0.getD x.1.toNat ({ data:={ toList:=[] } },0),PUnit.unit)) fun (t:Bool)=>bif t then some x.1 else again (IntKind.wrap .i64 (x.1+1), PUnit.unit) else none else some (-1)) (0,PUnit.unit)
def bE (x0:List (ByteArray×Int)) (f0:(((ByteArray×Int)×Unit)→Option Bool)):Option Int:=fV lpK jnK x0 f0
abbrev Ns:=(List (ByteArray×Int))→((((ByteArray×Int)×Unit)→Option Bool))→Option (Int)
def Oy (bE:Ns):Ctr:=⟨[(.sl T66)],[([T66],.bool)],[],.one i64,fun x F _=>bE x.1 F.1⟩
def Gs:Ctr:=Oy bE
theorem PL (lp:Lp) (jn:Jn):∀(x:TsS Gs.as) (F:TsF Gs.fs) (y:TsS Gs.cs),fV lp jn x.1 F.1=cd lp jn (cx [] [(134,bH)]) ao 4 167 f167 Gs x F y:=fun x F y=>by kernel_rfl
theorem OY:Gs.ok prog 167:=Ctr.of_den (au (b6)) aV (hl:=ao) (d:=4) func167 rfl (by decide) (PL lpK jnK)
def jl (_:Lp) (_:Jn) (x0:ByteArray×Int) (y0:ByteArray):Option Bool :=
 some (List.beq (ByteArray.toList x0.1) (ByteArray.toList y0))
def dH (x0:ByteArray×Int) (y0:ByteArray):Option Bool:=jl lpK jnK x0 y0
abbrev OJ:=(ByteArray×Int)→(ByteArray)→Option (Bool)
def HV:Ctr:=⟨[T66],[],[.str],.one .bool,fun x _ y=>dH x.1 y.1⟩
theorem Qp (lp:Lp) (jn:Jn):∀(x:TsS HV.as) (F:TsF HV.fs) (y:TsS HV.cs),jl lp jn x.1 y.1=cd lp jn (cx [] [(134,bH)]) ao 4 168 f168 HV x F y:=fun x F y=>by kernel_rfl
theorem Oe:HV.ok prog 168:=Ctr.of_den (au (b6)) aV (hl:=ao) (d:=4) func168 rfl (by decide) (Qp lpK jnK)
def lE (_:Lp) (_:Jn) (bE:Ns) (dH:OJ) (x0:(List (ByteArray×Int))×List (ByteArray×(List (ByteArray×Int×Int×Int))×Bool)) (x1:ByteArray):Option Int :=
 af (bE x0.1 fun (x:(ByteArray×Int)×PUnit)=>dH x.1 x1) fun (t:Int)=>some t
def bJ (x0:(List (ByteArray×Int))×List (ByteArray×(List (ByteArray×Int×Int×Int))×Bool)) (x1:ByteArray):Option Int:=lE lpK jnK bE dH x0 x1
abbrev G3:=((List (ByteArray×Int))×List (ByteArray×(List (ByteArray×Int×Int×Int))×Bool))→(ByteArray)→Option (Int)
def NA (bJ:G3):Ctr:=⟨[T25,.str],[],[],.one i64,fun x _ _=>bJ x.1 x.2.1⟩
def GU:Ctr:=NA bJ
theorem Qn (lp:Lp) (jn:Jn) (bE:Ns) (dH:OJ):∀(x:TsS GU.as) (F:TsF GU.fs) (y:TsS GU.cs),lE lp jn bE dH x.1 x.2.1=cd lp jn (cx [(168,⟨[T66],[],[.str],.one .bool,fun x _ y=>dH x.1 y.1⟩),(167,Oy bE)] [(134,bH)]) ao 4 131 f131 GU x F y:=fun x F y=>by kernel_rfl
theorem LX:GU.ok prog 131:=Ctr.of_den (au (ai (ai (b6) (by kernel_rfl) OY) (by kernel_rfl) Oe)) aV (hl:=ao) (d:=4) func131 rfl (by decide) (Qn lpK jnK bE dH)
def ow (lp:Lp) (_:Jn) (x0:Int) (x1:Int):Option Int :=
 lp (Int×Int×PUnit) Int (fun (again:Int×Int×PUnit→Option Int) (x:Int×Int×PUnit)=>bif !decide (x.2.1=0) then bif nzB x.2.1 then again (x.2.1, Int.tmod x.1 x.2.1,PUnit.unit) else none else some x.1) (x0,x1,PUnit.unit)
def a9 (x0:Int) (x1:Int):Option Int:=ow lpK jnK x0 x1
abbrev t75:=(Int)→(Int)→Option (Int)
def k75 (a9:t75):Ctr:=⟨[(.int .u64),(.int .u64)],[],[],.one (.int .u64),fun x _ _=>a9 x.1 x.2.1⟩
def c75:Ctr:=k75 a9
theorem e75 (lp:Lp) (jn:Jn):∀(x:TsS c75.as) (F:TsF c75.fs) (y:TsS c75.cs),ow lp jn x.1 x.2.1=cd lp jn (cx [] [(134,bH)]) ao 4 75 f75 c75 x F y:=fun x F y=>by kernel_rfl
theorem JA:c75.ok prog 75:=Ctr.of_den (au (b6)) aV (hl:=ao) (d:=4) func75 rfl (by decide) (e75 lpK jnK)
def nv (_:Lp) (_:Jn) (x0:Int):Option Int :=
 
 let v3:Int:=IntKind.wrap .u64 x0;bif decide (x0<0) then some (IntKind.wrap .u64 (0 - v3)) else some v3
def aB (x0:Int):Option Int:=nv lpK jnK x0
abbrev t77:=(Int)→Option (Int)
def k77 (aB:t77):Ctr:=⟨[i64],[],[],.one (.int .u64),fun x _ _=>aB x.1⟩
def c77:Ctr:=k77 aB
theorem e77 (lp:Lp) (jn:Jn):∀(x:TsS c77.as) (F:TsF c77.fs) (y:TsS c77.cs),nv lp jn x.1=cd lp jn (cx [] [(134,bH)]) ao 4 77 f77 c77 x F y:=fun x F y=>by kernel_rfl
theorem FY:c77.ok prog 77:=Ctr.of_den (au (b6)) aV (hl:=ao) (d:=4) func77 rfl (by decide) (e77 lpK jnK)
def l4 (_:Lp) (_:Jn) (a9:t75) (aB:t77) (x0:Int×Int):Option Bool :=
 
 let v3:Bool:=decide (x0.2≥1);
 let v4:Bool:=!v3||v3;
 let v5:Bool:=bif v3 then decide (x0.2≤1152921504606846976) else false;
 let v6:Bool:=bif v5 then decide (x0.1≥(-1152921504606846976)) else false;
 let v7:Bool:=!v5||v5;
 let v8:Bool:=bif v6 then decide (x0.1≤1152921504606846976) else false;
 let v9:Bool:=!v6||v6;
 let v10:Bool:=!v8||v8;bif v4 then bif v4 then bif v4 then bif v7 then bif v7 then bif v7 then bif v9 then bif v9 then bif v9 then bif v10 then bif v10 then af (bif v8 then aB x0.1 else some 0) fun (t:Int)=>bif v10 then bif v10 then bif v10&&v10 then af (bif v8 then a9 t (IntKind.wrap .u64 x0.2) else some (0 : Int)) fun (t:Int)=>bif v10 then bif v10 then some (bif v8 then decide (t=1) else false) else none else none else none else none else none else none else none else none else none else none else none else none else none else none else none else none
def ap (x0:Int×Int):Option Bool:=l4 lpK jnK a9 aB x0
abbrev t72:=(Int×Int)→Option (Bool)
def k72 (ap:t72):Ctr:=⟨[T49],[],[],.one .bool,fun x _ _=>ap x.1⟩
def c72:Ctr:=k72 ap
theorem e72 (lp:Lp) (jn:Jn) (a9:t75) (aB:t77):∀(x:TsS c72.as) (F:TsF c72.fs) (y:TsS c72.cs),l4 lp jn a9 aB x.1=cd lp jn (cx [(77,k77 aB),(75,k75 a9)] [(134,bH)]) ao 4 72 f72 c72 x F y:=fun x F y=>by kernel_rfl
theorem Ct:c72.ok prog 72:=Ctr.of_den (au (ai (ai (b6) (by kernel_rfl) JA) (by kernel_rfl) FY)) aV (hl:=ao) (d:=4) func72 rfl (by decide) (e72 lpK jnK a9 aB)
def j7 (_:Lp) (_:Jn) (ap:t72) (x0:Int×Int):Option Bool :=
 af (ap x0) fun (t:Bool) =>
 let v4:Bool:=!t||t;
 let v5:Bool:=bif t then decide (x0.1≥x0.2) else false;
 let v6:Bool:=!v5||v5;bif v4 then bif v4 then bif v4&&v4 then bif v4 then bif v6 then bif v6 then bif v6 then some (bif v5 then decide (x0.1≤100) else false) else none else none else none else none else none else none else none
def dD (x0:Int×Int):Option Bool:=j7 lpK jnK ap x0
abbrev Pn:=(Int×Int)→Option (Bool)
def H8:Ctr:=⟨[T49],[],[],.one .bool,fun x _ _=>dD x.1⟩
theorem PC (lp:Lp) (jn:Jn) (ap:t72):∀(x:TsS H8.as) (F:TsF H8.fs) (y:TsS H8.cs),j7 lp jn ap x.1=cd lp jn (cx [(72,k72 ap)] [(134,bH)]) ao 4 180 f180 H8 x F y:=fun x F y=>by kernel_rfl
theorem NO:H8.ok prog 180:=Ctr.of_den (au (ai (b6) (by kernel_rfl) Ct)) aV (hl:=ao) (d:=4) func180 rfl (by decide) (PC lpK jnK ap)
def ly (_:Lp) (_:Jn) (bJ:G3) (dD:Pn) (x0:(List (ByteArray×Int))×List (ByteArray×(List (ByteArray×Int×Int×Int))×Bool)) (x1:ByteArray×Int×Int×Int) (x2:Bool):Option Bool :=
 
 let v5:Bool:=!x2;
 let v6:Bool:=v5||x2;
 let v7:Bool:=decide (x1.2.1=0);
 let v8:Bool:=decide (x1.2.1=1);
 let v9:Bool:=decide (x1.2.1=2);
 let v10:Bool:=!v8;
 let v11:Bool:=!v9;
 let v12:Bool:=bif v9 then true else v7;
 let v13:Bool:=!v10||v10;
 let v14:Bool:=!v11||v11;
 let v15:Bool:=!v12;
 let v16:Bool:=bif x2 then !(decide (x1.2.2.1=1)&&(decide (x1.2.2.2=1)&&true)) else false;
 let v17:Bool:=!v16;
 let v18:Bool:=!v17;
 let v19:Bool:=v17&&v5;
 let v20:Bool:=!v15||v15;
 let v21:Bool:=v18||v17;
 let v22:Bool:=!v19||v19;bif v6 then bif v6&&v6 then bif v6 then bif v21 then bif v21 then bif v22 then bif v22 then af (bif v19 then dD x1.2.2 else some false) fun (t:Bool)=>bif v22 then bif (v18||v21)&&(v18||(!v5||(v18||v19))) then bif v16||v17 then bif bif v16 then true else bif v5 then !t else false then some false else bif List.beq (ByteArray.toList x1.1) (ByteArray.toList { data:=#[] }) then some v7 else af (bJ x0 x1.1) fun (t:Int)=>bif decide (t<0) then some false else bif x2 then bif v13 then bif v13 then bif v8||v10 then some (bif v8 then true else decide (x1.2.1=(-1))) else none else none else none else bif v14 then bif v14 then bif v9||v11 then bif v20 then bif v20 then bif v12||v15 then some (bif v12 then true else decide (x1.2.1=(-2))) else none else none else none else none else none else none else none else none else none else none else none else none else none else none else none else none
def dk (x0:(List (ByteArray×Int))×List (ByteArray×(List (ByteArray×Int×Int×Int))×Bool)) (x1:ByteArray×Int×Int×Int) (x2:Bool):Option Bool:=ly lpK jnK bJ dD x0 x1 x2
abbrev Nc:=((List (ByteArray×Int))×List (ByteArray×(List (ByteArray×Int×Int×Int))×Bool))→(ByteArray×Int×Int×Int)→(Bool)→Option (Bool)
def OZ (dk:Nc):Ctr:=⟨[T25,NE,.bool],[],[],.one .bool,fun x _ _=>dk x.1 x.2.1 x.2.2.1⟩
def FM:Ctr:=OZ dk
theorem QS (lp:Lp) (jn:Jn) (bJ:G3) (dD:Pn):∀(x:TsS FM.as) (F:TsF FM.fs) (y:TsS FM.cs),ly lp jn bJ dD x.1 x.2.1 x.2.2.1=cd lp jn (cx [(180,⟨[T49],[],[],.one .bool,fun x _ _=>dD x.1⟩),(131,NA bJ)] [(134,bH)]) ao 4 162 f162 FM x F y:=fun x F y=>by kernel_rfl
theorem OB:FM.ok prog 162:=Ctr.of_den (au (ai (ai (b6) (by kernel_rfl) LX) (by kernel_rfl) NO)) aV (hl:=ao) (d:=4) func162 rfl (by decide) (QS lpK jnK bJ dD)
def lf (lp:Lp) (_:Jn) (a7:HZ) (dk:Nc) (x0:(List (ByteArray×Int))×List (ByteArray×(List (ByteArray×Int×Int×Int))×Bool)) (x1:ByteArray×(List (ByteArray×Int×Int×Int))×Bool):Option Bool :=
 
 let v4:Bool:=!x1.2.2;
 let v5:Bool:=!v4;
 let v6:Bool:=!v5;
 let v7:Int:=IntKind.wrap .i64 ((↑x1.2.1.length:Int) - 1);
 let v8:Bool:=v6||v5;af (a7 (↑x1.2.1.length:Int) 2 10) fun (t:Bool)=>bif !t then some false else lp (Int×PUnit) Bool (fun (again : Int×PUnit→Option Bool) (x:Int×PUnit) =>
 let v12:Bool:=decide (x.1=0);
 let v13:Bool:=!v12;
 let v14:Bool:=!v13||v13;bif decide (x.1<(↑x1.2.1.length:Int)) then bif inB x.1 x1.2.1.length then bif v14 then bif v14&&v14 then bif v12||v13 then af (dk x0 (x1.2.1.getD x.1.toNat ({ data:={ toList:=[] } },0,0,0)) (bif v12 then true else decide (x.1=v7))) fun (t : Bool)=>bif !t then some false else again (IntKind.wrap .i64 (x.1+1),PUnit.unit) else none else none else none else none else bif v8 then bif v8 then bif v8&&(v8 && (v6||inB v7 x1.2.1.length)) then bif v8 then bif v8 then bif v8 then bif v4||v5 then some (bif v4 then true else List.beq (ByteArray.toList (x1.2.1.getD v7.toNat ({ data:={ toList:=[] } },0,0,0)).1) (ByteArray.toList { data:=#[] })) else none else none else none else none else none else none else none) (0,PUnit.unit)
def dR (x0:(List (ByteArray×Int))×List (ByteArray×(List (ByteArray×Int×Int×Int))×Bool)) (x1:ByteArray×(List (ByteArray×Int×Int×Int))×Bool):Option Bool:=lf lpK jnK a7 dk x0 x1
abbrev OE:=((List (ByteArray×Int))×List (ByteArray×(List (ByteArray×Int×Int×Int))×Bool))→(ByteArray×(List (ByteArray×Int×Int×Int))×Bool)→Option (Bool)
def Hi:Ctr:=⟨[T25,T75],[],[],.one .bool,fun x _ _=>dR x.1 x.2.1⟩
theorem P0 (lp:Lp) (jn:Jn) (a7:HZ) (dk:Nc):∀(x:TsS Hi.as) (F:TsF Hi.fs) (y:TsS Hi.cs),lf lp jn a7 dk x.1 x.2.1=cd lp jn (cx [(162,OZ dk),(114,Mv a7)] [(134,bH)]) ao 4 117 f117 Hi x F y:=fun x F y=>by kernel_rfl
theorem Pp:Hi.ok prog 117:=Ctr.of_den (au (ai (ai (b6) (by kernel_rfl) LP) (by kernel_rfl) OB)) aV (hl:=ao) (d:=4) func117 rfl (by decide) (P0 lpK jnK a7 dk)
def kg (lp:Lp) (_:Jn) (a7:HZ) (cC:Ow) (dR:OE) (x0:(List (ByteArray×Int))×List (ByteArray×(List (ByteArray×Int×Int×Int))×Bool)):Option Bool :=
 af (a7 (↑x0.1.length:Int) 1 6) fun (t:Bool) =>
 let v4:Bool:=!t;
 let v5:Bool:=!v4;
 let v6:Bool:=!v5||v5;bif v6 then bif v6 then bif v6 then af (bif v5 then a7 (↑x0.2.length:Int) 1 6 else some false) fun (t:Bool)=>bif v6 then bif v4||v5 then bif bif v4 then true else !t then some false else lp (Int×List (ByteArray×Bool)×PUnit) Bool (fun (again:Int×List (ByteArray×Bool)×PUnit→Option Bool) (x:Int×List (ByteArray×Bool)×PUnit) =>
 let v10:ByteArray×Int:=x0.1.getD x.1.toNat ({ data:={ toList:=[] } },0);bif decide (x.1<(↑x0.1.length:Int)) then bif inB x.1 x0.1.length then af (cC v10.1) fun (t:Bool) =>
 let v12:Bool:=!t||t;bif v12&&v12 then bif v12 then bif v12 then bif (!!!bif t then !gM str Sh.bool v10.1 false x.2.1 else false)||!!bif t then !gM str Sh.bool v10.1 false x.2.1 else false then bif (!!!bif t then !gM str Sh.bool v10.1 false x.2.1 else false)||!!bif t then !gM str Sh.bool v10.1 false x.2.1 else false then af (bif !!bif t then !gM str Sh.bool v10.1 false x.2.1 else false then a7 v10.2 0 16777216 else some false) fun (t_1:Bool)=>bif (!!!bif t then !gM str Sh.bool v10.1 false x.2.1 else false)||!!bif t then !gM str Sh.bool v10.1 false x.2.1 else false then bif (!bif t then !gM str Sh.bool v10.1 false x.2.1 else false)||!!bif t then !gM str Sh.bool v10.1 false x.2.1 else false then bif bif !bif t then !gM str Sh.bool v10.1 false x.2.1 else false then true else !t_1 then some false else again (IntKind.wrap .i64 (x.1+1),nG str Sh.bool v10.1 true x.2.1,PUnit.unit) else none else none else none else none else none else none else none else none else lp (Int×Int×List (ByteArray×Bool)×PUnit) Bool (fun (again:Int×Int×List (ByteArray×Bool)×PUnit→Option Bool) (x:Int×Int×List (ByteArray×Bool)×PUnit) =>
 let v13:ByteArray×List (ByteArray×Int×Int×Int)×Bool:=x0.2.getD x.2.1.toNat ({ data:={ toList:=[] } },[],false);bif decide (x.2.1<(↑x0.2.length:Int)) then bif inB x.2.1 x0.2.length then af (cC v13.1) fun (t:Bool) =>
 let v15:Bool:=!t||t;bif v15&&v15 then bif v15 then bif v15 then bif ((!!!bif t then !gM str Sh.bool v13.1 false x.2.2.1 else false)||!!bif t then !gM str Sh.bool v13.1 false x.2.2.1 else false)&&((!!!bif t then !gM str Sh.bool v13.1 false x.2.2.1 else false)||!!bif t then !gM str Sh.bool v13.1 false x.2.2.1 else false) then af (bif !!bif t then !gM str Sh.bool v13.1 false x.2.2.1 else false then dR x0 v13 else some false) fun (t_1:Bool)=>bif (!!!bif t then !gM str Sh.bool v13.1 false x.2.2.1 else false)||!!bif t then !gM str Sh.bool v13.1 false x.2.2.1 else false then bif (!bif t then !gM str Sh.bool v13.1 false x.2.2.1 else false)||!!bif t then !gM str Sh.bool v13.1 false x.2.2.1 else false then bif bif !bif t then !gM str Sh.bool v13.1 false x.2.2.1 else false then true else !t_1 then some false else bif v13.2.2 then again (IntKind.wrap .i64 (x.1+1),IntKind.wrap .i64 (x.2.1+1),nG str Sh.bool v13.1 true x.2.2.1,PUnit.unit) else again (x.1,IntKind.wrap .i64 (x.2.1+1),nG str Sh.bool v13.1 true x.2.2.1,PUnit.unit) else none else none else none else none else none else none else none else some (decide (x.1≤1))) (0,0,x.2.1,PUnit.unit)) (0,[],PUnit.unit) else none else none else none else none else none
def ax (x0:(List (ByteArray×Int))×List (ByteArray×(List (ByteArray×Int×Int×Int))×Bool)):Option Bool:=kg lpK jnK a7 cC dR x0
abbrev t59:=((List (ByteArray×Int))×List (ByteArray×(List (ByteArray×Int×Int×Int))×Bool))→Option (Bool)
def k59 (ax:t59):Ctr:=⟨[T25],[],[],.one .bool,fun x _ _=>ax x.1⟩
def c59:Ctr:=k59 ax
theorem e59 (lp:Lp) (jn:Jn) (a7:HZ) (cC:Ow) (dR:OE):∀(x:TsS c59.as) (F:TsF c59.fs) (y:TsS c59.cs),kg lp jn a7 cC dR x.1=cd lp jn (cx [(117,⟨[T25,T75],[],[],.one .bool,fun x _ _=>dR x.1 x.2.1⟩),(116,⟨[.str],[],[],.one .bool,fun x _ _=>cC x.1⟩),(114,Mv a7)] [(134,bH)]) ao 4 59 f59 c59 x F y:=fun x F y=>by kernel_rfl
theorem Kn:c59.ok prog 59:=Ctr.of_den (au (ai (ai (ai (b6) (by kernel_rfl) LP) (by kernel_rfl) O2) (by kernel_rfl) Pp)) aV (hl:=ao) (d:=4) func59 rfl (by decide) (e59 lpK jnK a7 cC dR)
def mg (lp:Lp) (_:Jn) (bJ:G3) (ax:t59) (x0:(List (ByteArray×Int))×List (ByteArray×(List (ByteArray×Int×Int×Int))×Bool)):Option ((List (List Int))×Int×Unit) :=
 af (ax x0) fun (t:Bool)=>bif !t then some ([],1,PUnit.unit) else bif decide (0≤(↑x0.1.length:Int))&&dq (Int.toNat (↑x0.1.length : Int)) 24 then lp (Int×(List Nat×List (Option (List Int)))×PUnit) (List (List Int)×Int×PUnit) (fun (again:Int×(List Nat×List (Option (List Int)))×PUnit → Option (List (List Int)×Int×PUnit)) (x:Int×(List Nat×List (Option (List Int)))×PUnit)=>bif decide (x.1<(↑(List.length (Nat.brecOn (motive:=fun (x:Nat)=>Nat→List Nat) (Int.toNat (↑x0.1.length:Int)) (fun (x:Nat) (f:Nat.below (motive:=fun (x:Nat)=>Nat→List (T ref)) x) (x_1:Nat)=>(match (motive:=(x:Nat)→Nat→Nat.below (motive:=fun (x:Nat)=>Nat→List (T ref)) x→List Nat) x,x_1 with | 0,x=>fun (_:PUnit)=>[] | Nat.succ n,k=>fun (x:(Nat→List Nat) ×' Nat.rec PUnit (fun (n:Nat) (n_ih:Type)=>(fun (x:Nat)=>Nat→List (T ref)) n ×' n_ih) n)=>(k+0) ::x.1 (k+1)) f) 0)):Int)) then bif decide (0 ≤ (↑x0.2.length:Int))&&dq (Int.toNat (↑x0.2.length:Int)) 8 then bif inB x.1 x.2.1.1.length then bif Nat.ble (Nat.succ x.1.toNat) x.2.1.1.length then again (IntKind.wrap .i64 (x.1+1),(x.2.1.1.set x.1.toNat x.2.1.2.length,x.2.1.2++[some (List.replicate (Int.toNat (↑x0.2.length:Int)) 0)]),PUnit.unit) else none else none else none else lp (Int×(List Nat×List (Option (List Int)))×PUnit) (List (List Int)×Int×PUnit) (fun (again:Int×(List Nat×List (Option (List Int)))×PUnit→Option (List (List Int)×Int×PUnit)) (x:Int×(List Nat×List (Option (List Int))) × PUnit)=>bif decide (x.1<(↑x0.2.length:Int)) then bif inB x.1 x0.2.length then lp (Int×(List Nat×List (Option (List Int)))×PUnit) (List (List Int)×Int × PUnit) (fun (again_1:Int×(List Nat×List (Option (List Int)))×PUnit→Option (List (List Int)×Int×PUnit)) (x_1:Int×(List Nat×List (Option (List Int)))×PUnit) =>
 let v10:Int:=IntKind.wrap .i64 (x_1.1+1);
 let v11:(List Nat×List (Option (List Int)))×PUnit:=(x_1.2.1,PUnit.unit);
 let v12:ByteArray×Int×Int×Int:=List.getD (x0.2.getD x.1.toNat ({ data:={ toList:=[] } },[],false)).2.1 x_1.1.toNat ({ data:={ toList:=[] } },0,0,0);bif decide (x_1.1<(↑(List.length (x0.2.getD x.1.toNat ({ data:={ toList:=[] } },[],false)).2.1):Int)) then bif inB x_1.1 (List.length (x0.2.getD x.1.toNat ({ data:={ toList:=[] } },[],false)).2.1) then af (bJ x0 v12.1) fun (t:Int)=>bif decide (t≥(0 : Int)) then bif inB t x_1.2.1.1.length then bif Nat.ble (Nat.succ t.toNat) x_1.2.1.1.length then bif inB x.1 (List.length (ah x_1.2.1.2 (x_1.2.1.1.getD t.toNat 0))) then bif Nat.ble (Nat.succ x.1.toNat) (List.length (ah x_1.2.1.2 (x_1.2.1.1.getD t.toNat (0 : Nat)))) then bif inB x.1 (List.length (ah x_1.2.1.2 (x_1.2.1.1.getD t.toNat 0))) then bif Nat.ble (Nat.succ x.1.toNat) (List.length (ah x_1.2.1.2 (x_1.2.1.1.getD t.toNat 0))) then again_1 (v10,(x_1.2.1.1,x_1.2.1.2.set (x_1.2.1.1.getD t.toNat 0) (some (List.set (ah x_1.2.1.2 (x_1.2.1.1.getD t.toNat 0)) x.1.toNat (IntKind.wrap .i64 (List.getD (ah x_1.2.1.2 (x_1.2.1.1.getD t.toNat 0)) x.1.toNat 0+v12.2.1))))),PUnit.unit) else none else none else none else none else none else none else again_1 (v10,v11) else none else again (IntKind.wrap .i64 (x.1+1),v11)) (0,x.2.1,PUnit.unit) else none else bif List.all x.2.1.1 fun (x_1:Nat)=>eB x.2.1.2 x_1 then some (List.map (fun (x_1:Nat)=>ah x.2.1.2 x_1) x.2.1.1,0,PUnit.unit) else none) (0,x.2.1,PUnit.unit)) (0, (Nat.brecOn (motive:=fun (x:Nat)=>Nat→List Nat) (Int.toNat (↑x0.1.length:Int)) (fun (x:Nat) (f:Nat.below (motive:=fun (x:Nat)=>Nat→List (T ref)) x) (x_1:Nat)=>(match (motive:=(x:Nat)→Nat→Nat.below (motive:=fun (x:Nat)=>Nat→List (T ref)) x→List Nat) x,x_1 with | 0,x=>fun (_:PUnit)=>[] | Nat.succ n,k=>fun (x:(Nat→List Nat) ×' Nat.rec PUnit (fun (n:Nat) (n_ih:Type)=>(fun (x:Nat)=>Nat→List (T ref)) n ×' n_ih) n)=>(k+0) ::x.1 (k+1)) f) 0,List.replicate (Int.toNat (↑x0.1.length:Int)) (some [])),PUnit.unit) else none
def bm (x0:(List (ByteArray×Int))×List (ByteArray×(List (ByteArray×Int×Int×Int))×Bool)):Option ((List (List Int))×Int×Unit):=mg lpK jnK bJ ax x0
abbrev t87:=((List (ByteArray×Int))×List (ByteArray×(List (ByteArray×Int×Int×Int))×Bool))→Option ((List (List Int))×Int×Unit)
def k87 (bm:t87):Ctr:=⟨[T25],[],[],.tup [(.sl (.sl i64)),i64],fun x _ _=>bm x.1⟩
def c87:Ctr:=k87 bm
theorem e87 (lp:Lp) (jn:Jn) (bJ:G3) (ax:t59):∀(x:TsS c87.as) (F:TsF c87.fs) (y:TsS c87.cs),mg lp jn bJ ax x.1=cd lp jn (cx [(59,k59 ax),(131,NA bJ)] [(134,bH)]) ao 4 87 f87 c87 x F y:=fun x F y=>by kernel_rfl
theorem N9:c87.ok prog 87:=Ctr.of_den (au (ai (ai (b6) (by kernel_rfl) LX) (by kernel_rfl) Kn)) aV (hl:=ao) (d:=4) func87 rfl (by decide) (e87 lpK jnK bJ ax)
def iE (lp:Lp) (_:Jn) (ax:t59) (x0:(List (ByteArray×Int))×List (ByteArray×(List (ByteArray×Int×Int×Int))×Bool)):Option ((List Int)×Int×Unit) :=
 af (ax x0) fun (t:Bool)=>bif !t then some ([],1,PUnit.unit) else lp (List Int×Int×PUnit) (List Int×Int×PUnit) (fun (again:List Int×Int×PUnit → Option (List Int×Int×PUnit)) (x:List Int×Int×PUnit)=>bif decide (x.2.1<(↑x0.1.length:Int)) then bif inB x.2.1 x0.1.length then bif dq (List.length x.1+1) 8 then again (x.1++[(x0.1.getD x.2.1.toNat ({ data:={ toList:=[] } },0)).2],IntKind.wrap .i64 (x.2.1+1),PUnit.unit) else none else none else some (x.1,0,PUnit.unit)) ([],0,PUnit.unit)
def ci (x0:(List (ByteArray×Int))×List (ByteArray×(List (ByteArray×Int×Int×Int))×Bool)):Option ((List Int)×Int×Unit):=iE lpK jnK ax x0
abbrev t88:=((List (ByteArray×Int))×List (ByteArray×(List (ByteArray×Int×Int×Int))×Bool))→Option ((List Int)×Int×Unit)
def k88 (ci:t88):Ctr:=⟨[T25],[],[],.tup [(.sl i64),i64],fun x _ _=>ci x.1⟩
def c88:Ctr:=k88 ci
theorem e88 (lp:Lp) (jn:Jn) (ax:t59):∀(x:TsS c88.as) (F:TsF c88.fs) (y:TsS c88.cs),iE lp jn ax x.1=cd lp jn (cx [(59,k59 ax)] [(134,bH)]) ao 4 88 f88 c88 x F y:=fun x F y=>by kernel_rfl
theorem QM:c88.ok prog 88:=Ctr.of_den (au (ai (b6) (by kernel_rfl) Kn)) aV (hl:=ao) (d:=4) func88 rfl (by decide) (e88 lpK jnK ax)
def kD (lp:Lp) (_:Jn) (bm:t87) (ci:t88) (x0:(List (ByteArray×Int))×List (ByteArray×(List (ByteArray×Int×Int×Int))×Bool)) (x1:List Int):Option (((List Int)×List ((List Int)×Int×Int))×Int×Unit) :=
 af (bm x0) fun (t:List (List Int)×Int×PUnit)=>bif !decide (t.2.1=0) then some (([],[]),t.2.1,PUnit.unit) else af (ci x0) fun (t_1 : List Int×Int×PUnit)=>bif !decide (t_1.2.1=0) then some (([],[]),t_1.2.1,PUnit.unit) else lp (Int×List Int×List (List Int×Int×Int)×PUnit) ((List Int×List (List Int×Int×Int))×Int×PUnit) (fun (again:Int×List Int×List (List Int×Int×Int)×PUnit→Option ((List Int×List (List Int×Int×Int))×Int×PUnit)) (x:Int×List Int×List (List Int×Int×Int)×PUnit)=>bif decide (x.1<(↑t.1.length:Int)) then bif inB x.1 t.1.length then bif inB x.1 t_1.1.length then bif dq (List.length x.2.2.1+1) 40 then again (IntKind.wrap .i64 (x.1+1),x.2.1,x.2.2.1++[(t.1.getD x.1.toNat [],3,t_1.1.getD x.1.toNat 0)],PUnit.unit) else none else none else none else some ((x.2.1,x.2.2.1),0, PUnit.unit)) (0,x1,[],PUnit.unit)
def ce (x0:(List (ByteArray×Int))×List (ByteArray×(List (ByteArray×Int×Int×Int))×Bool)) (x1:List Int):Option (((List Int)×List ((List Int)×Int×Int))×Int×Unit):=kD lpK jnK bm ci x0 x1
abbrev t45:=((List (ByteArray×Int))×List (ByteArray×(List (ByteArray×Int×Int×Int))×Bool))→(List Int)→Option (((List Int)×List ((List Int)×Int×Int))×Int×Unit)
def k45 (ce:t45):Ctr:=⟨[T25,(.sl i64)],[],[],.tup [T32,i64],fun x _ _=>ce x.1 x.2.1⟩
def c45:Ctr:=k45 ce
theorem e45 (lp:Lp) (jn:Jn) (bm:t87) (ci:t88):∀(x:TsS c45.as) (F:TsF c45.fs) (y:TsS c45.cs),kD lp jn bm ci x.1 x.2.1=cd lp jn (cx [(88,k88 ci),(87,k87 bm)] [(134,bH)]) ao 4 45 f45 c45 x F y:=fun x F y=>by kernel_rfl
theorem Pm:c45.ok prog 45:=Ctr.of_den (au (ai (ai (b6) (by kernel_rfl) N9) (by kernel_rfl) QM)) aV (hl:=ao) (d:=4) func45 rfl (by decide) (e45 lpK jnK bm ci)
def m6 (_:Lp) (_:Jn) (x0:Int) (x1:Int):Option (Int×Int×Unit) :=
 
 let v4:Int:=2 ^ 32;
 let v5:Int:=Int.fdiv x0 v4;
 let v6:Int:=Int.fdiv x1 v4;
 let v7:Bool:=decide ((0:Int)≤32);
 let v8:Int:=IntKind.wrap .u64 (↑(Nat.land (Int.toNat (x1 % Int.ofNat 18446744073709551616)) (Int.toNat (4294967295 % Int.ofNat 18446744073709551616))) : Int);
 let v9:Int:=IntKind.wrap .u64 (↑(Nat.land (Int.toNat (x0 % Int.ofNat 18446744073709551616)) (Int.toNat (4294967295 % Int.ofNat 18446744073709551616))) : Int);
 let v10:Int:=IntKind.wrap .u64 (IntKind.wrap .u64 (v5*v8)+Int.fdiv (IntKind.wrap .u64 (v9*v8)) v4);bif v7 then bif v7 then bif v7 then bif v7 then bif v7 then some (IntKind.wrap .u64 (IntKind.wrap .u64 (IntKind.wrap .u64 (v5*v6)+Int.fdiv v10 v4)+Int.fdiv (IntKind.wrap .u64 (IntKind.wrap .u64 (↑(Nat.land (Int.toNat (v10 % Int.ofNat 18446744073709551616)) (Int.toNat (4294967295 % Int.ofNat 18446744073709551616))):Int)+IntKind.wrap .u64 (v9 * v6))) v4),IntKind.wrap .u64 (x0*x1),PUnit.unit) else none else none else none else none else none
def bF (x0:Int) (x1:Int):Option (Int×Int×Unit):=m6 lpK jnK x0 x1
abbrev BP:=(Int)→(Int)→Option (Int×Int×Unit)
def Le (bF:BP):Ctr:=⟨[(.int .u64),(.int .u64)],[],[],.tup [(.int .u64),(.int .u64)],fun x _ _=>bF x.1 x.2.1⟩
def HO:Ctr:=Le bF
theorem PX (lp:Lp) (jn:Jn):∀(x:TsS HO.as) (F:TsF HO.fs) (y:TsS HO.cs),m6 lp jn x.1 x.2.1=cd lp jn (cx [] [(134,bH)]) ao 4 122 f122 HO x F y:=fun x F y=>by kernel_rfl
theorem Hr:HO.ok prog 122:=Ctr.of_den (au (b6)) aV (hl:=ao) (d:=4) func122 rfl (by decide) (PX lpK jnK)
def rb (_:Lp) (_:Jn) (x0:Int) (x1:Int):Option (Int×Int×Unit) :=
 
 let v4:Int:=IntKind.wrap .u64 (IntKind.wrap .u64 x0*IntKind.wrap .u64 x1);bif decide ((0:Int)≤32) then some (IntKind.wrap IntKind.u32 (Int.fdiv v4 (2 ^ 32)),IntKind.wrap IntKind.u32 v4,PUnit.unit) else none
def gF (x0:Int) (x1:Int):Option (Int×Int×Unit):=rb lpK jnK x0 x1
def O3 (gF:(Int)→(Int)→Option (Int×Int×Unit)):Ctr:=⟨[(.int .u32),(.int .u32)],[],[],.tup [(.int .u32),(.int .u32)],fun x _ _=>gF x.1 x.2.1⟩
def Ir:Ctr:=O3 gF
theorem Py (lp:Lp) (jn:Jn):∀(x:TsS Ir.as) (F:TsF Ir.fs) (y:TsS Ir.cs),rb lp jn x.1 x.2.1=cd lp jn (cx [] [(134,bH)]) ao 4 137 f137 Ir x F y:=fun x F y=>by kernel_rfl
theorem NX:Ir.ok prog 137:=Ctr.of_den (au (b6)) aV (hl:=ao) (d:=4) func137 rfl (by decide) (Py lpK jnK)
def pV (_:Lp) (_:Jn) (bF:BP) (_:(Int)→(Int)→Option (Int×Int×Unit)) (x0:Int) (x1:Int):Option (Int×Int×Unit) :=
 af (bF x0 x1) fun (t:Int×Int×PUnit)=>some (t.1,t.2.1,PUnit.unit)
def fZ (x0:Int) (x1:Int):Option (Int×Int×Unit):=pV lpK jnK bF gF x0 x1
abbrev t90:=(Int)→(Int)→Option (Int×Int×Unit)
def k90 (fZ:t90):Ctr:=⟨[(.int .u64),(.int .u64)],[],[],.tup [(.int .u64),(.int .u64)],fun x _ _=>fZ x.1 x.2.1⟩
def c90:Ctr:=k90 fZ
theorem e90 (lp:Lp) (jn:Jn) (bF:BP) (gF:(Int)→(Int)→Option (Int×Int×Unit)):∀(x:TsS c90.as) (F:TsF c90.fs) (y:TsS c90.cs),pV lp jn bF gF x.1 x.2.1=cd lp jn (cx [(137,O3 gF),(122,Le bF)] [(134,bH)]) ao 4 90 f90 c90 x F y:=fun x F y=>by kernel_rfl
theorem PT:c90.ok prog 90:=Ctr.of_den (au (ai (ai (b6) (by kernel_rfl) Hr) (by kernel_rfl) NX)) aV (hl:=ao) (d:=4) func90 rfl (by decide) (e90 lpK jnK bF gF)
def hH (lp:Lp) (jn:Jn) (fZ:t90) (x0:List Int) (x1:Int):Option (List Int) :=
 jn PUnit (List Int) (fun (_:PUnit)=>af (fZ (IntKind.wrap .u64 (↑x0.length:Int)) (IntKind.wrap .u64 x1)) fun (t:Int×Int×PUnit) =>
 let v6:List Int:=List.take (Int.toNat (IntKind.wrap .i64 t.2.1)) x0;
 let v7:List Int:=List.replicate (Int.toNat (IntKind.wrap .i64 t.2.1)) 0;
 let v8:Bool:=decide (t.1>0);
 let v9:Bool:=!v8;bif !v9||v9 then bif v8||v9 then jn PUnit (List Int) (fun (_:PUnit)=>bif decide (0≤IntKind.wrap .i64 t.2.1)&&dq (Int.toNat (IntKind.wrap .i64 t.2.1)) 8 then lp (Int×List Int×PUnit) (List Int) (fun (again:Int×List Int×PUnit→Option (List Int)) (x:Int×List Int×PUnit) =>
 let v13:List Int:=List.take x.1.toNat x.2.1;
 let v14:List Int:=List.take (Int.toNat (↑x.2.1.length:Int) - Int.toNat x.1) (List.drop 0 v13);bif decide (x.1<(↑x.2.1.length:Int)) then bif slB x.1 (↑x.2.1.length:Int) x.2.1.length then bif slB 0 x.1 x.2.1.length then bif Nat.ble x.1.toNat (Int.toNat (↑x.2.1.length:Int))&&(Nat.ble (Int.toNat (↑x.2.1.length:Int)) x.2.1.length&&Nat.ble x.1.toNat x.2.1.length) then again (IntKind.wrap IntKind.i64 (x.1+(↑v14.length:Int)),v13++v14++List.drop (Int.toNat x.1+List.length v14) x.2.1,PUnit.unit) else none else none else none else some x.2.1) ((↑v6.length:Int),List.take 0 v7++v6++List.drop (0+List.length v6) v7,PUnit.unit) else none) fun (j:PUnit→Option (List Int))=>bif bif v8 then true else decide (t.2.1>9223372036854775807) then none else j PUnit.unit else none else none) fun (j:PUnit→Option (List Int))=>bif decide (x1<0) then none else j PUnit.unit
def cb (x0:List Int) (x1:Int):Option (List Int):=hH lpK jnK fZ x0 x1
abbrev t46:=(List Int)→(Int)→Option (List Int)
def k46 (cb:t46):Ctr:=⟨[(.sl i64),i64],[],[],.one (.sl i64),fun x _ _=>cb x.1 x.2.1⟩
def c46:Ctr:=k46 cb
theorem e46 (lp:Lp) (jn:Jn) (fZ:t90):∀(x:TsS c46.as) (F:TsF c46.fs) (y:TsS c46.cs),hH lp jn fZ x.1 x.2.1=cd lp jn (cx [(90,k90 fZ)] [(134,bH)]) ao 4 46 f46 c46 x F y:=fun x F y=>by kernel_rfl
theorem QP:c46.ok prog 46:=Ctr.of_den (au (ai (b6) (by kernel_rfl) PT)) aV (hl:=ao) (d:=4) func46 rfl (by decide) (e46 lpK jnK fZ)
def gZ (_:Lp) (_:Jn) (ce:t45) (cb:t46) (x0:(List (ByteArray×Int))×List (ByteArray×(List (ByteArray×Int×Int×Int))×Bool)):Option (((List Int)×List ((List Int)×Int×Int))×Int×Unit) :=
 af (cb [1] (↑x0.2.length:Int)) fun (t:List Int)=>af (ce x0 t) fun (t:(List Int×List (List Int×Int×Int))×Int×PUnit)=>some (t.1,t.2.1,PUnit.unit)
def ay (x0:(List (ByteArray×Int))×List (ByteArray×(List (ByteArray×Int×Int×Int))×Bool)):Option (((List Int)×List ((List Int)×Int×Int))×Int×Unit):=gZ lpK jnK ce cb x0
abbrev t11:=((List (ByteArray×Int))×List (ByteArray×(List (ByteArray×Int×Int×Int))×Bool))→Option (((List Int)×List ((List Int)×Int×Int))×Int×Unit)
def k11 (ay:t11):Ctr:=⟨[T25],[],[],.tup [T32,i64],fun x _ _=>ay x.1⟩
def c11:Ctr:=k11 ay
theorem e11 (lp:Lp) (jn:Jn) (ce:t45) (cb:t46):∀(x:TsS c11.as) (F:TsF c11.fs) (y:TsS c11.cs),gZ lp jn ce cb x.1=cd lp jn (cx [(46,k46 cb),(45,k45 ce)] [(134,bH)]) ao 4 11 f11 c11 x F y:=fun x F y=>by kernel_rfl
theorem Ny:c11.ok prog 11:=Ctr.of_den (au (ai (ai (b6) (by kernel_rfl) Pm) (by kernel_rfl) QP)) aV (hl:=ao) (d:=4) func11 rfl (by decide) (e11 lpK jnK ce cb)
def gS (_:Lp) (_:Jn) (x0:Int) (y0:Int):Option Bool :=
 
 let v4:Bool:=decide (x0<IntKind.wrap .i64 (0 - y0));
 let v5:Bool:=!v4;
 let v6:Bool:=!v5||v5;bif v6&&v6 then bif v4||v5 then some (bif v4 then true else decide (x0>y0)) else none else none
def bK (x0:Int) (y0:Int):Option Bool:=gS lpK jnK x0 y0
abbrev Ot:=(Int)→(Int)→Option (Bool)
def Hb:Ctr:=⟨[i64],[],[i64],.one .bool,fun x _ y=>bK x.1 y.1⟩
theorem PB (lp:Lp) (jn:Jn):∀(x:TsS Hb.as) (F:TsF Hb.fs) (y:TsS Hb.cs),gS lp jn x.1 y.1=cd lp jn (cx [] [(134,bH)]) ao 4 139 f139 Hb x F y:=fun x F y=>by kernel_rfl
theorem Om:Hb.ok prog 139:=Ctr.of_den (au (b6)) aV (hl:=ao) (d:=4) func139 rfl (by decide) (PB lpK jnK)
def iI (_:Lp) (_:Jn) (bK:Ot) (x0:Int):Option ((Int×Unit)→Option Bool) :=
 some fun (x:Int×PUnit)=>bK x.1 x0
def cv (x0:Int):Option ((Int×Unit)→Option Bool):=iI lpK jnK bK x0
abbrev OW:=(Int)→Option ((Int×Unit)→Option Bool)
def Mi:FCtr:=⟨[i64],[i64],.bool,fun x=>cv x.1⟩
theorem PS (lp:Lp) (jn:Jn) (bK:Ot):∀x:TsS Mi.as,iI lp jn bK x.1=NH lp jn (cx [(139,⟨[i64],[],[i64],.one .bool,fun x _ y=>bK x.1 y.1⟩)] [(134,bH)]) ao 4 138 f138 Mi x:=fun x=>by kernel_rfl
theorem Nh:Mi.ok prog 138:=FCtr.of_den (au (ai (b6) (by kernel_rfl) Om)) aV (hl:=ao) (d:=4) func138 rfl (by decide) (PS lpK jnK bK)
def fO (lp:Lp) (_:Jn) (x0:List Int) (f0:((Int×Unit)→Option Bool)):Option Int :=
 lp (Int×PUnit) Int (fun (again:Int×PUnit→Option Int) (x:Int×PUnit)=>bif decide (x.1<(↑x0.length:Int)) then bif inB x.1 x0.length then af (f0 (x0.getD x.1.toNat 0,PUnit.unit)) fun (t:Bool)=>bif t then some x.1 else again (IntKind.wrap .i64 (x.1+1),PUnit.unit) else none else some (-1)) (0,PUnit.unit)
def bu (x0:List Int) (f0:((Int×Unit)→Option Bool)):Option Int:=fO lpK jnK x0 f0
abbrev MV:=(List Int)→(((Int×Unit)→Option Bool))→Option (Int)
def Pj (bu:MV):Ctr:=⟨[(.sl i64)],[([i64],.bool)],[],.one i64,fun x F _=>bu x.1 F.1⟩
def F4:Ctr:=Pj bu
theorem Qe (lp:Lp) (jn:Jn):∀(x:TsS F4.as) (F:TsF F4.fs) (y:TsS F4.cs),fO lp jn x.1 F.1=cd lp jn (cx [] [(134,bH)]) ao 4 173 f173 F4 x F y:=fun x F y=>by kernel_rfl
theorem Pf:F4.ok prog 173:=Ctr.of_den (au (b6)) aV (hl:=ao) (d:=4) func173 rfl (by decide) (Qe lpK jnK)
def fb (_:Lp) (_:Jn) (bu:MV) (x0:List Int) (f0:((Int×Unit)→Option Bool)):Option Bool :=
 af (bu x0 f0) fun (t:Int)=>some (decide (t≥0))
def aQ (x0:List Int) (f0:((Int×Unit)→Option Bool)):Option Bool:=fb lpK jnK bu x0 f0
abbrev Mc:=(List Int)→(((Int×Unit)→Option Bool))→Option (Bool)
def N0 (aQ:Mc):Ctr:=⟨[(.sl i64)],[([i64],.bool)],[],.one .bool,fun x F _=>aQ x.1 F.1⟩
def Ib:Ctr:=N0 aQ
theorem PW (lp:Lp) (jn:Jn) (bu:MV):∀(x:TsS Ib.as) (F:TsF Ib.fs) (y:TsS Ib.cs),fb lp jn bu x.1 F.1=cd lp jn (cx [(173,Pj bu)] [(134,bH)]) ao 4 140 f140 Ib x F y:=fun x F y=>by kernel_rfl
theorem N4:Ib.ok prog 140:=Ctr.of_den (au (ai (b6) (by kernel_rfl) Pf)) aV (hl:=ao) (d:=4) func140 rfl (by decide) (PW lpK jnK bu)
def iK (lp:Lp) (_:Jn) (x0:List ((List Int)×Int×Int)) (f0:((((List Int)×Int×Int)×Unit)→Option Bool)):Option Int :=
 lp (Int×PUnit) Int (fun (again:Int×PUnit→Option Int) (x:Int×PUnit)=>bif decide (x.1<(↑x0.length:Int)) then bif inB x.1 x0.length then af (f0 (x0.getD x.1.toNat ([],0,0),PUnit.unit)) fun (t:Bool)=>bif t then some x.1 else again (IntKind.wrap .i64 (x.1+1),PUnit.unit) else none else some (-1)) (0,PUnit.unit)
def bW (x0:List ((List Int)×Int×Int)) (f0:((((List Int)×Int×Int)×Unit)→Option Bool)):Option Int:=iK lpK jnK x0 f0
abbrev Me:=(List ((List Int)×Int×Int))→(((((List Int)×Int×Int)×Unit)→Option Bool))→Option (Int)
def Pk (bW:Me):Ctr:=⟨[(.sl T86)],[([T86],.bool)],[],.one i64,fun x F _=>bW x.1 F.1⟩
def IP:Ctr:=Pk bW
theorem P3 (lp:Lp) (jn:Jn):∀(x:TsS IP.as) (F:TsF IP.fs) (y:TsS IP.cs),iK lp jn x.1 F.1=cd lp jn (cx [] [(134,bH)]) ao 4 174 f174 IP x F y:=fun x F y=>by kernel_rfl
theorem Od:IP.ok prog 174:=Ctr.of_den (au (b6)) aV (hl:=ao) (d:=4) func174 rfl (by decide) (P3 lpK jnK)
def gQ (_:Lp) (_:Jn) (bW:Me) (x0:List ((List Int)×Int×Int)) (f0:((((List Int)×Int×Int)×Unit)→Option Bool)):Option Bool :=
 af (bW x0 f0) fun (t:Int)=>some (decide (t≥0))
def b7 (x0:List ((List Int)×Int×Int)) (f0:((((List Int)×Int×Int)×Unit)→Option Bool)):Option Bool:=gQ lpK jnK bW x0 f0
def OQ (b7:(List ((List Int)×Int×Int))→(((((List Int)×Int×Int)×Unit)→Option Bool))→Option (Bool)):Ctr:=⟨[(.sl T86)],[([T86],.bool)],[],.one .bool,fun x F _=>b7 x.1 F.1⟩
def G6:Ctr:=OQ b7
theorem P5 (lp:Lp) (jn:Jn) (bW:Me):∀(x:TsS G6.as) (F:TsF G6.fs) (y:TsS G6.cs),gQ lp jn bW x.1 F.1=cd lp jn (cx [(174,Pk bW)] [(134,bH)]) ao 4 141 f141 G6 x F y:=fun x F y=>by kernel_rfl
theorem ON:G6.ok prog 141:=Ctr.of_den (au (ai (b6) (by kernel_rfl) Od)) aV (hl:=ao) (d:=4) func141 rfl (by decide) (P5 lpK jnK bW)
def j8 (lp:Lp) (_:Jn) (aQ:Mc) (_:(List ((List Int)×Int×Int))→(((((List Int)×Int×Int)×Unit)→Option Bool))→Option (Bool)) (cv:OW) (x0:(List Int)×List ((List Int)×Int×Int)):Option Bool :=
 
 let v3:Bool:=decide ((↑x0.1.length:Int)<1);
 let v4:Bool:=!v3;
 let v5:Bool:=bif v3 then true else decide ((↑x0.1.length:Int)>12);
 let v6:Bool:=!v4||v4;
 let v7:Bool:=!v5;
 let v8:Bool:=bif v5 then true else decide ((↑x0.2.length:Int)>6);
 let v9:Bool:=!v8;
 let v10:Bool:=!v7||v7;
 let v11:Bool:=!v9||v9;bif v6 then bif v6 then bif v6 then bif v3||v4 then bif v10 then bif v10 then bif v10 then bif v5||v7 then bif v11 then bif v11 then af (bif v9 then cv 1048576 else some fun (_:Int×PUnit)=>none) fun (t:Int×PUnit→Option Bool)=>bif v11&&v11 then af (bif v9 then aQ x0.1 t else some false) fun (t:Bool)=>bif v8||v9 then bif bif v8 then true else t then some false else lp (Int×PUnit) Bool (fun (again:Int×PUnit→Option Bool) (x:Int×PUnit) =>
 let v16:List Int×Int×Int:=x0.2.getD x.1.toNat ([],0,0);
 let v17:Bool:=decide (v16.2.1<1);
 let v18:Bool:=decide (v16.2.1>3);
 let v19:Bool:=!decide ((↑v16.1.length:Int)=(↑x0.1.length:Int));
 let v20:Bool:=!v19;
 let v21:Bool:=!v20||v20;bif decide (x.1<(↑x0.2.length:Int)) then bif inB x.1 x0.2.length then bif v21 then bif v21 then af (bif v20 then cv 1048576 else some fun (_:Int×PUnit)=>none) fun (t:Int×PUnit→Option Bool)=>bif v21&&v21 then af (bif v20 then aQ v16.1 t else some false) fun (t:Bool) =>
 let v24:Bool:=bif v19 then true else t;
 let v25:Bool:=!v24;
 let v26:Bool:=bif v24 then true else v17;
 let v27:Bool:=!v26;
 let v28:Bool:=bif v26 then true else v18;
 let v29:Bool:=!v25||v25;
 let v30:Bool:=!v28;
 let v31:Bool:=!v27||v27;
 let v32:Bool:=!v30||v30;bif v19||v20 then bif v29 then bif v29 then bif v24||v25 then bif v31 then bif v31 then bif v26||v27 then bif v32 then af (bif v30 then cv 1073741824 else some fun (_:Int×PUnit)=>none) fun (t:Int×PUnit→Option Bool)=>bif v32 then bif v32&&v32 then af (bif v30 then t (v16.2.2, PUnit.unit) else some false) fun (t:Bool)=>bif v28||v30 then bif bif v28 then true else t then some !decide (x.1≥0) else again (IntKind.wrap .i64 (x.1+(1 : Int)),PUnit.unit) else none else none else none else none else none else none else none else none else none else none else none else none else none else none else none else some !decide ((-1:Int)≥0)) (0,PUnit.unit) else none else none else none else none else none else none else none else none else none else none else none else none
def aU (x0:(List Int)×List ((List Int)×Int×Int)):Option Bool:=j8 lpK jnK aQ b7 cv x0
abbrev t91:=((List Int)×List ((List Int)×Int×Int))→Option (Bool)
def k91 (aU:t91):Ctr:=⟨[T32],[],[],.one .bool,fun x _ _=>aU x.1⟩
def c91:Ctr:=k91 aU
theorem e91 (lp:Lp) (jn:Jn) (aQ:Mc) (b7:(List ((List Int)×Int×Int))→(((((List Int)×Int×Int)×Unit)→Option Bool))→Option (Bool)) (cv:OW):∀(x:TsS c91.as) (F:TsF c91.fs) (y:TsS c91.cs),j8 lp jn aQ b7 cv x.1=cd lp jn (yk AR An (O6 [(138,⟨[i64],[i64],.bool,fun x=>cv x.1⟩)] (jP prog shs vo its [(141,OQ b7),(140,N0 aQ)] [(134,bH)]))) ao 4 91 f91 c91 x F y:=fun x F y=>by kernel_rfl
theorem NI:c91.ok prog 91:=Ctr.of_den (au (JQ (ai (ai (b6) (by kernel_rfl) N4) (by kernel_rfl) ON) (Ew (by kernel_rfl) Nh (HU)))) aV (hl:=ao) (d:=4) func91 rfl (by decide) (e91 lpK jnK aQ b7 cv)
def eW (lp:Lp) (_:Jn) (x0:List (Int×Int)) (f0:(((Int×Int)×Unit)→Option Bool)):Option Int :=
 lp (Int×PUnit) Int (fun (again:Int×PUnit→Option Int) (x:Int×PUnit)=>bif decide (x.1<(↑x0.length:Int)) then bif inB x.1 x0.length then af (f0 (x0.getD x.1.toNat (0,0),PUnit.unit)) fun (t:Bool)=>bif t then some x.1 else again (IntKind.wrap .i64 (x.1+1),PUnit.unit) else none else some (-1)) (0,PUnit.unit)
def bi (x0:List (Int×Int)) (f0:(((Int×Int)×Unit)→Option Bool)):Option Int:=eW lpK jnK x0 f0
abbrev t74:=(List (Int×Int))→((((Int×Int)×Unit)→Option Bool))→Option (Int)
def k74 (bi:t74):Ctr:=⟨[(.sl T49)],[([T49],.bool)],[],.one i64,fun x F _=>bi x.1 F.1⟩
def c74:Ctr:=k74 bi
theorem e74 (lp:Lp) (jn:Jn):∀(x:TsS c74.as) (F:TsF c74.fs) (y:TsS c74.cs),eW lp jn x.1 F.1=cd lp jn (cx [] [(134,bH)]) ao 4 74 f74 c74 x F y:=fun x F y=>by kernel_rfl
theorem QI:c74.ok prog 74:=Ctr.of_den (au (b6)) aV (hl:=ao) (d:=4) func74 rfl (by decide) (e74 lpK jnK)
def dQ (_:Lp) (_:Jn) (bi:t74) (x0:List (Int×Int)) (f0:(((Int×Int)×Unit)→Option Bool)):Option Bool :=
 af (bi x0 f0) fun (t:Int)=>some (decide (t≥0))
def aj (x0:List (Int×Int)) (f0:(((Int×Int)×Unit)→Option Bool)):Option Bool:=dQ lpK jnK bi x0 f0
abbrev t32:=(List (Int×Int))→((((Int×Int)×Unit)→Option Bool))→Option (Bool)
def k32 (aj:t32):Ctr:=⟨[(.sl T49)],[([T49],.bool)],[],.one .bool,fun x F _=>aj x.1 F.1⟩
def c32:Ctr:=k32 aj
theorem e32 (lp:Lp) (jn:Jn) (bi:t74):∀(x:TsS c32.as) (F:TsF c32.fs) (y:TsS c32.cs),dQ lp jn bi x.1 F.1=cd lp jn (cx [(74,k74 bi)] [(134,bH)]) ao 4 32 f32 c32 x F y:=fun x F y=>by kernel_rfl
theorem MI:c32.ok prog 32:=Ctr.of_den (au (ai (b6) (by kernel_rfl) QI)) aV (hl:=ao) (d:=4) func32 rfl (by decide) (e32 lpK jnK bi)
def iX (_:Lp) (_:Jn) (ap:t72) (x0:Int×Int):Option Bool :=
 af (ap x0) fun (t:Bool)=>some !t
def cN (x0:Int×Int):Option Bool:=iX lpK jnK ap x0
abbrev Pc:=(Int×Int)→Option (Bool)
def Ik:Ctr:=⟨[T49],[],[],.one .bool,fun x _ _=>cN x.1⟩
theorem QQ (lp:Lp) (jn:Jn) (ap:t72):∀(x:TsS Ik.as) (F:TsF Ik.fs) (y:TsS Ik.cs),iX lp jn ap x.1=cd lp jn (cx [(72,k72 ap)] [(134,bH)]) ao 4 143 f143 Ik x F y:=fun x F y=>by kernel_rfl
theorem OM:Ik.ok prog 143:=Ctr.of_den (au (ai (b6) (by kernel_rfl) Ct)) aV (hl:=ao) (d:=4) func143 rfl (by decide) (QQ lpK jnK ap)
def kf (_:Lp) (_:Jn) (aj:t32) (cN:Pc) (x0:List (Int×Int)):Option Bool :=
 af (aj x0 fun (x:(Int×Int)×PUnit)=>cN x.1) fun (t:Bool)=>some !t
def dz (x0:List (Int×Int)):Option Bool:=kf lpK jnK aj cN x0
abbrev t92:=(List (Int×Int))→Option (Bool)
def c92:Ctr:=⟨[(.sl T49)],[],[],.one .bool,fun x _ _=>dz x.1⟩
theorem e92 (lp:Lp) (jn:Jn) (aj:t32) (cN:Pc):∀(x:TsS c92.as) (F:TsF c92.fs) (y:TsS c92.cs),kf lp jn aj cN x.1=cd lp jn (cx [(143,⟨[T49],[],[],.one .bool,fun x _ _=>cN x.1⟩),(32,k32 aj)] [(134,bH)]) ao 4 92 f92 c92 x F y:=fun x F y=>by kernel_rfl
theorem Pt:c92.ok prog 92:=Ctr.of_den (au (ai (ai (b6) (by kernel_rfl) MI) (by kernel_rfl) OM)) aV (hl:=ao) (d:=4) func92 rfl (by decide) (e92 lpK jnK aj cN)
def ki (_:Lp) (_:Jn) (bF:BP) (x0:Int) (x1:Int):Option (Int×Int) :=
 af (bF x0 x1) fun (t:Int×Int×PUnit)=>some (t.1,t.2.1)
def aG (x0:Int) (x1:Int):Option (Int×Int):=ki lpK jnK bF x0 x1
abbrev t76:=(Int)→(Int)→Option (Int×Int)
def k76 (aG:t76):Ctr:=⟨[(.int .u64),(.int .u64)],[],[],.one l5,fun x _ _=>aG x.1 x.2.1⟩
def c76:Ctr:=k76 aG
theorem e76 (lp:Lp) (jn:Jn) (bF:BP):∀(x:TsS c76.as) (F:TsF c76.fs) (y:TsS c76.cs),ki lp jn bF x.1 x.2.1=cd lp jn (cx [(122,Le bF)] [(134,bH)]) ao 4 76 f76 c76 x F y:=fun x F y=>by kernel_rfl
theorem Nm:c76.ok prog 76:=Ctr.of_den (au (ai (b6) (by kernel_rfl) Hr)) aV (hl:=ao) (d:=4) func76 rfl (by decide) (e76 lpK jnK bF)
def kz (_:Lp) (_:Jn) (x0:Int×Int) (x1:Int×Int):Option (Int×Int) :=
 bif decide ((0:Int)≤0)&&decide ((0:Int)≤1) then bif decide (0≤nH x0.2 x1.2 0)&&decide (nH x0.2 x1.2 0≤1) then some (vO x0.1 x1.1 (nH x0.2 x1.2 0),vO x0.2 x1.2 0) else none else none
def eU (x0:Int×Int) (x1:Int×Int):Option (Int×Int):=kz lpK jnK x0 x1
abbrev t78:=(Int×Int)→(Int×Int)→Option (Int×Int)
def c78:Ctr:=⟨[l5,l5],[],[],.one l5,fun x _ _=>eU x.1 x.2.1⟩
theorem e78 (lp:Lp) (jn:Jn):∀(x:TsS c78.as) (F:TsF c78.fs) (y:TsS c78.cs),kz lp jn x.1 x.2.1=cd lp jn (cx [] [(134,bH)]) ao 4 78 f78 c78 x F y:=fun x F y=>by kernel_rfl
theorem PZ:c78.ok prog 78:=Ctr.of_den (au (b6)) aV (hl:=ao) (d:=4) func78 rfl (by decide) (e78 lpK jnK)
def ni (_:Lp) (_:Jn) (x0:Int×Int) (x1:Int×Int):Option Bool :=
 
 let v4:Bool:=decide (x0.1=x1.1);
 let v5:Bool:=decide (x0.1<x1.1);
 let v6:Bool:=!v5;
 let v7:Bool:=!v6;
 let v8:Bool:=v6&&v4;
 let v9:Bool:=v7||v6;
 let v10:Bool:=!v8||v8;bif v9 then bif v9 then bif v9&&v9 then bif v9 then bif v10 then bif v10 then bif v10&&v10 then bif (v7||v9)&&(v7||(!v4||(v7||v8))) then bif v5 || v6 then some (bif v5 then true else bif v4 then decide (x0.2<x1.2) else false) else none else none else none else none else none else none else none else none else none
def cj (x0:Int×Int) (x1:Int×Int):Option Bool:=ni lpK jnK x0 x1
abbrev t79:=(Int×Int)→(Int×Int)→Option (Bool)
def k79 (cj:t79):Ctr:=⟨[l5,l5],[],[],.one .bool,fun x _ _=>cj x.1 x.2.1⟩
def c79:Ctr:=k79 cj
theorem e79 (lp:Lp) (jn:Jn):∀(x:TsS c79.as) (F:TsF c79.fs) (y:TsS c79.cs),ni lp jn x.1 x.2.1=cd lp jn (cx [] [(134,bH)]) ao 4 79 f79 c79 x F y:=fun x F y=>by kernel_rfl
theorem O1:c79.ok prog 79:=Ctr.of_den (au (b6)) aV (hl:=ao) (d:=4) func79 rfl (by decide) (e79 lpK jnK)
def jM (_:Lp) (_:Jn) (x0:Int×Int) (x1:Int×Int):Option (Int×Int) :=
 bif decide ((0:Int)≤0)&&decide ((0:Int)≤1) then bif decide (0≤l9 x0.2 x1.2 0)&&decide (l9 x0.2 x1.2 0≤1) then some (sk x0.1 x1.1 (l9 x0.2 x1.2 0),sk x0.2 x1.2 0) else none else none
def dJ (x0:Int×Int) (x1:Int×Int):Option (Int×Int):=jM lpK jnK x0 x1
abbrev t80:=(Int×Int)→(Int×Int)→Option (Int×Int)
def c80:Ctr:=⟨[l5,l5],[],[],.one l5,fun x _ _=>dJ x.1 x.2.1⟩
theorem e80 (lp:Lp) (jn:Jn):∀(x:TsS c80.as) (F:TsF c80.fs) (y:TsS c80.cs),jM lp jn x.1 x.2.1=cd lp jn (cx [] [(134,bH)]) ao 4 80 f80 c80 x F y:=fun x F y=>by kernel_rfl
theorem Qq:c80.ok prog 80:=Ctr.of_den (au (b6)) aV (hl:=ao) (d:=4) func80 rfl (by decide) (e80 lpK jnK)
def qy (_:Lp) (jn:Jn) (x0:Int):Option Int :=
 jn (Int×Int×PUnit) Int (fun (x:Int×Int×PUnit)=>jn (Int×Int×PUnit) Int (fun (x:Int×Int×PUnit) =>
 let v5:Int:=IntKind.wrap IntKind.u8 x.1;
 let v6:Int:=IntKind.wrap IntKind.u8 (Int.fdiv x.1 (2 ^ 8));bif decide (x.1≥256) then bif decide ((0:Int)≤8) then bif inB v6 256 then some (IntKind.wrap .i64 (IntKind.wrap .i64 (x.2.1+8)+IntKind.wrap .i64 (eE { data:=List.toArray (List.append (List.append [(0:UInt8),(1 : UInt8),(2:UInt8),(2:UInt8),(3:UInt8),(3:UInt8),(3:UInt8),(3:UInt8),(4:UInt8),(4:UInt8),(4:UInt8),(4:UInt8),(4:UInt8),(4:UInt8),(4:UInt8),(4 : UInt8),(5:UInt8),(5:UInt8),(5:UInt8),(5:UInt8),(5:UInt8),(5:UInt8),(5:UInt8),(5:UInt8),(5:UInt8),(5:UInt8),(5:UInt8),(5:UInt8),(5:UInt8),(5 : UInt8),(5:UInt8),(5:UInt8),(6:UInt8),(6:UInt8),(6:UInt8),(6:UInt8),(6:UInt8),(6:UInt8),(6:UInt8),(6:UInt8),(6:UInt8),(6:UInt8),(6:UInt8),(6 : UInt8),(6:UInt8),(6:UInt8),(6:UInt8),(6:UInt8),(6:UInt8),(6:UInt8),(6:UInt8),(6:UInt8),(6:UInt8),(6:UInt8),(6:UInt8),(6:UInt8),(6:UInt8),(6 : UInt8),(6:UInt8),(6:UInt8),(6:UInt8),(6:UInt8),(6:UInt8),(6:UInt8)] [(7:UInt8),(7:UInt8),(7:UInt8),(7:UInt8),(7:UInt8),(7:UInt8),(7:UInt8),(7 : UInt8),(7:UInt8),(7:UInt8),(7:UInt8),(7:UInt8),(7:UInt8),(7:UInt8),(7:UInt8),(7:UInt8),(7:UInt8),(7:UInt8),(7:UInt8),(7:UInt8),(7:UInt8),(7 : UInt8),(7:UInt8),(7:UInt8),(7:UInt8),(7:UInt8),(7:UInt8),(7:UInt8),(7:UInt8),(7:UInt8),(7:UInt8),(7:UInt8),(7:UInt8),(7:UInt8),(7:UInt8),(7 : UInt8),(7:UInt8),(7:UInt8),(7:UInt8),(7:UInt8),(7:UInt8),(7:UInt8),(7:UInt8),(7:UInt8),(7:UInt8),(7:UInt8),(7:UInt8),(7:UInt8),(7:UInt8),(7 : UInt8),(7:UInt8),(7:UInt8),(7:UInt8),(7:UInt8),(7:UInt8),(7:UInt8),(7:UInt8),(7:UInt8),(7:UInt8),(7:UInt8),(7:UInt8),(7:UInt8),(7:UInt8),(7 : UInt8)]) (List.append [(8:UInt8),(8:UInt8),(8:UInt8),(8:UInt8),(8:UInt8),(8:UInt8),(8:UInt8),(8:UInt8),(8:UInt8),(8:UInt8),(8:UInt8),(8:UInt8),(8 : UInt8),(8:UInt8),(8:UInt8),(8:UInt8),(8:UInt8),(8:UInt8),(8:UInt8),(8:UInt8),(8:UInt8),(8:UInt8),(8:UInt8),(8:UInt8),(8:UInt8),(8:UInt8),(8 : UInt8),(8:UInt8),(8:UInt8),(8:UInt8),(8:UInt8),(8:UInt8),(8:UInt8),(8:UInt8),(8:UInt8),(8:UInt8),(8:UInt8),(8:UInt8),(8:UInt8),(8:UInt8),(8 : UInt8),(8:UInt8),(8:UInt8),(8:UInt8),(8:UInt8),(8:UInt8),(8:UInt8),(8:UInt8),(8:UInt8),(8:UInt8),(8:UInt8),(8:UInt8),(8:UInt8),(8:UInt8),(8 : UInt8),(8:UInt8),(8:UInt8),(8:UInt8),(8:UInt8),(8:UInt8),(8:UInt8),(8:UInt8),(8:UInt8),(8:UInt8)] [(8:UInt8),(8:UInt8),(8:UInt8),(8:UInt8),(8 : UInt8),(8:UInt8),(8:UInt8),(8:UInt8),(8:UInt8),(8:UInt8),(8:UInt8),(8:UInt8),(8:UInt8),(8:UInt8),(8:UInt8),(8:UInt8),(8:UInt8),(8:UInt8),(8 : UInt8),(8:UInt8),(8:UInt8),(8:UInt8),(8:UInt8),(8:UInt8),(8:UInt8),(8:UInt8),(8:UInt8),(8:UInt8),(8:UInt8),(8:UInt8),(8:UInt8),(8:UInt8),(8 : UInt8),(8:UInt8),(8:UInt8),(8:UInt8),(8:UInt8),(8:UInt8),(8:UInt8),(8:UInt8),(8:UInt8),(8:UInt8),(8:UInt8),(8:UInt8),(8:UInt8),(8:UInt8),(8 : UInt8),(8:UInt8),(8:UInt8),(8:UInt8),(8:UInt8),(8:UInt8),(8:UInt8),(8:UInt8),(8:UInt8),(8:UInt8),(8:UInt8),(8:UInt8),(8:UInt8),(8:UInt8),(8 : UInt8),(8:UInt8),(8:UInt8),(8:UInt8)])) } v6.toNat))) else none else none else bif inB v5 256 then some (IntKind.wrap .i64 (x.2.1+IntKind.wrap IntKind.i64 (eE { data:=List.toArray (List.append (List.append [(0:UInt8),(1:UInt8),(2:UInt8),(2:UInt8),(3:UInt8),(3:UInt8),(3:UInt8),(3:UInt8),(4 : UInt8),(4:UInt8),(4:UInt8),(4:UInt8),(4:UInt8),(4:UInt8),(4:UInt8),(4:UInt8),(5:UInt8),(5:UInt8),(5:UInt8),(5:UInt8),(5:UInt8),(5:UInt8),(5 : UInt8),(5:UInt8),(5:UInt8),(5:UInt8),(5:UInt8),(5:UInt8),(5:UInt8),(5:UInt8),(5:UInt8),(5:UInt8),(6:UInt8),(6:UInt8),(6:UInt8),(6:UInt8),(6 : UInt8),(6:UInt8),(6:UInt8),(6:UInt8),(6:UInt8),(6:UInt8),(6:UInt8),(6:UInt8),(6:UInt8),(6:UInt8),(6:UInt8),(6:UInt8),(6:UInt8),(6:UInt8),(6 : UInt8),(6:UInt8),(6:UInt8),(6:UInt8),(6:UInt8),(6:UInt8),(6:UInt8),(6:UInt8),(6:UInt8),(6:UInt8),(6:UInt8),(6:UInt8),(6:UInt8),(6:UInt8)] [(7 : UInt8),(7:UInt8),(7:UInt8),(7:UInt8),(7:UInt8),(7:UInt8),(7:UInt8),(7:UInt8),(7:UInt8),(7:UInt8),(7:UInt8),(7:UInt8),(7:UInt8),(7:UInt8),(7 : UInt8),(7:UInt8),(7:UInt8),(7:UInt8),(7:UInt8),(7:UInt8),(7:UInt8),(7:UInt8),(7:UInt8),(7:UInt8),(7:UInt8),(7:UInt8),(7:UInt8),(7:UInt8),(7 : UInt8),(7:UInt8),(7:UInt8),(7:UInt8),(7:UInt8),(7:UInt8),(7:UInt8),(7:UInt8),(7:UInt8),(7:UInt8),(7:UInt8),(7:UInt8),(7:UInt8),(7:UInt8),(7 : UInt8),(7:UInt8),(7:UInt8),(7:UInt8),(7:UInt8),(7:UInt8),(7:UInt8),(7:UInt8),(7:UInt8),(7:UInt8),(7:UInt8),(7:UInt8),(7:UInt8),(7:UInt8),(7 : UInt8),(7:UInt8),(7:UInt8),(7:UInt8),(7:UInt8),(7:UInt8),(7:UInt8),(7:UInt8)]) (List.append [(8:UInt8),(8:UInt8),(8:UInt8),(8:UInt8),(8:UInt8),(8 : UInt8),(8:UInt8),(8:UInt8),(8:UInt8),(8:UInt8),(8:UInt8),(8:UInt8),(8:UInt8),(8:UInt8),(8:UInt8),(8:UInt8),(8:UInt8),(8:UInt8),(8:UInt8),(8 : UInt8),(8:UInt8),(8:UInt8),(8:UInt8),(8:UInt8),(8:UInt8),(8:UInt8),(8:UInt8),(8:UInt8),(8:UInt8),(8:UInt8),(8:UInt8),(8:UInt8),(8:UInt8),(8 : UInt8),(8:UInt8),(8:UInt8),(8:UInt8),(8:UInt8),(8:UInt8),(8:UInt8),(8:UInt8),(8:UInt8),(8:UInt8),(8:UInt8),(8:UInt8),(8:UInt8),(8:UInt8),(8 : UInt8),(8:UInt8),(8:UInt8),(8:UInt8),(8:UInt8),(8:UInt8),(8:UInt8),(8:UInt8),(8:UInt8),(8:UInt8),(8:UInt8),(8:UInt8),(8:UInt8),(8:UInt8),(8 : UInt8),(8:UInt8),(8:UInt8)] [(8:UInt8),(8:UInt8),(8:UInt8),(8:UInt8),(8:UInt8),(8:UInt8),(8:UInt8),(8:UInt8),(8:UInt8),(8:UInt8),(8:UInt8),(8 : UInt8),(8:UInt8),(8:UInt8),(8:UInt8),(8:UInt8),(8:UInt8),(8:UInt8),(8:UInt8),(8:UInt8),(8:UInt8),(8:UInt8),(8:UInt8),(8:UInt8),(8:UInt8),(8 : UInt8),(8:UInt8),(8:UInt8),(8:UInt8),(8:UInt8),(8:UInt8),(8:UInt8),(8:UInt8),(8:UInt8),(8:UInt8),(8:UInt8),(8:UInt8),(8:UInt8),(8:UInt8),(8 : UInt8),(8:UInt8),(8:UInt8),(8:UInt8),(8:UInt8),(8:UInt8),(8:UInt8),(8:UInt8),(8:UInt8),(8:UInt8),(8:UInt8),(8:UInt8),(8:UInt8),(8:UInt8),(8 : UInt8),(8:UInt8),(8:UInt8),(8:UInt8),(8:UInt8),(8:UInt8),(8:UInt8),(8:UInt8),(8:UInt8),(8:UInt8),(8:UInt8)])) } v5.toNat))) else none) fun (j:Int × Int×PUnit→Option Int)=>bif decide (x.1≥65536) then bif decide ((0:Int)≤16) then j (Int.fdiv x.1 (2 ^ 16),IntKind.wrap .i64 (x.2.1+16),PUnit.unit) else none else j (x.1,x.2.1,PUnit.unit)) fun (j:Int×Int×PUnit→Option Int)=>bif decide (x0≥4294967296) then bif decide (0≤32) then j (Int.fdiv x0 (2 ^ 32),32,PUnit.unit) else none else j (x0,0,PUnit.unit)
def fq (x0:Int):Option Int:=qy lpK jnK x0
abbrev N1:=(Int)→Option (Int)
def Ih:Ctr:=⟨[(.int .u64)],[],[],.one i64,fun x _ _=>fq x.1⟩
theorem QU (lp:Lp) (jn:Jn):∀(x:TsS Ih.as) (F:TsF Ih.fs) (y:TsS Ih.cs),qy lp jn x.1=cd lp jn (cx [] [(134,bH)]) ao 4 181 f181 Ih x F y:=fun x F y=>by kernel_rfl
theorem OC:Ih.ok prog 181:=Ctr.of_den (au (b6)) aV (hl:=ao) (d:=4) func181 rfl (by decide) (QU lpK jnK)
def gt (_:Lp) (_:Jn) (fq:N1) (x0:Int):Option Int :=
 af (fq x0) fun (t:Int)=>some (IntKind.wrap .i64 (64 - t))
def cg (x0:Int):Option Int:=gt lpK jnK fq x0
abbrev O4:=(Int)→Option (Int)
def Jb:Ctr:=⟨[(.int .u64)],[],[],.one i64,fun x _ _=>cg x.1⟩
theorem Qa (lp:Lp) (jn:Jn) (fq:N1):∀(x:TsS Jb.as) (F:TsF Jb.fs) (y:TsS Jb.cs),gt lp jn fq x.1=cd lp jn (cx [(181,⟨[(.int .u64)],[],[],.one i64,fun x _ _=>fq x.1⟩)] [(134,bH)]) ao 4 165 f165 Jb x F y:=fun x F y=>by kernel_rfl
theorem OG:Jb.ok prog 165:=Ctr.of_den (au (ai (b6) (by kernel_rfl) OC)) aV (hl:=ao) (d:=4) func165 rfl (by decide) (Qa lpK jnK fq)
def ng (lp:Lp) (jn:Jn) (cg:O4) (x0:Int) (x1:Int) (x2:Int):Option (Int×Int×Unit) :=
 
 let v5:Bool:=nzB x2;
 let v6:Int:=2 ^ 32;
 let v7:Bool:=decide ((0:Int)≤32);jn PUnit (Int×Int×PUnit) (fun (_:PUnit)=>jn PUnit (Int×Int×PUnit) (fun (_:PUnit)=>bif decide (x0=0) then bif v5 then bif v5 then some (IntKind.wrap .u64 (Int.tdiv x1 x2),Int.tmod x1 x2,PUnit.unit) else none else none else af (cg x2) fun (t:Int) =>
 let v11:Int:=IntKind.wrap .u64 t;
 let v12:Bool:=decide (0≤v11);
 let v13:Int:=2 ^ min v11.toNat 64;
 let v14:Int:=IntKind.wrap .u64 (x2*v13);
 let v15:Int:=IntKind.wrap .u64 (x1*v13);
 let v16:Int:=Int.fdiv v14 v6;
 let v17:Int:=Int.fdiv v15 v6;
 let v18:Bool:=nzB v16;
 let v19:Int:=IntKind.wrap .u64 (↑(Nat.land (Int.toNat (v15 % Int.ofNat 18446744073709551616)) (Int.toNat (4294967295 % Int.ofNat 18446744073709551616))) : Int);
 let v20:Int:=IntKind.wrap .u64 (↑(Nat.land (Int.toNat (v14 % Int.ofNat 18446744073709551616)) (Int.toNat (4294967295 % Int.ofNat 18446744073709551616))) : Int);
 let v21:Int:=IntKind.wrap .u64 (↑(Nat.lor (Int.toNat (IntKind.wrap .u64 (x0*v13) % Int.ofNat 18446744073709551616)) (Int.toNat (Int.fdiv x1 (2 ^ min (Int.toNat (IntKind.wrap .u64 (64 - v11))) 64) % Int.ofNat 18446744073709551616))):Int);
 let v22:Int:=IntKind.wrap .u64 (Int.tdiv v21 v16);bif v12 then bif v7 then bif v12 then bif decide (0≤IntKind.wrap .u64 (64 - v11)) then bif v12 then bif v7 then bif v18 then jn (Int×PUnit) (Int×Int×PUnit) (fun (x:Int×PUnit) =>
 let v24:Int:=IntKind.wrap .u64 (IntKind.wrap .u64 (IntKind.wrap .u64 (v21*4294967296)+v17) - IntKind.wrap .u64 (x.1*v14));
 let v25:Int:=IntKind.wrap .u64 (Int.tdiv v24 v16);bif v18 then jn (Int×PUnit) (Int×Int×PUnit) (fun (x_1:Int×PUnit)=>bif v12 then some (IntKind.wrap .u64 (IntKind.wrap .u64 (x.1*4294967296)+x_1.1),Int.fdiv (IntKind.wrap .u64 (IntKind.wrap .u64 (IntKind.wrap .u64 (v24*4294967296) + v19) - IntKind.wrap .u64 (x_1.1*v14))) v13,PUnit.unit) else none) fun (j:Int×PUnit→Option (Int×Int×PUnit))=>lp (Int×Int×PUnit) (Int×Int×PUnit) (fun (again:Int×Int×PUnit→Option (Int×Int×PUnit)) (x:Int×Int×PUnit) =>
 let v29:Int×PUnit:=(IntKind.wrap .u64 (x.2.1 - 1),PUnit.unit);
 let v30:Bool:=decide (x.2.1≥4294967296);
 let v31:Bool:=!v30;
 let v32:Bool:=!v31||v31;
 let v33:Bool:=v32&&v32;bif v33 then bif v32 then bif v33 then bif v33 then bif v30||v31 then bif bif v30 then true else decide (IntKind.wrap .u64 (x.2.1*v20) > IntKind.wrap .u64 (IntKind.wrap .u64 (4294967296*x.1)+v19)) then bif decide (IntKind.wrap .u64 (x.1+v16)≥4294967296) then j v29 else again (IntKind.wrap .u64 (x.1+v16),v29) else j (x.2.1,PUnit.unit) else none else none else none else none else none) (IntKind.wrap .u64 (v24 - IntKind.wrap IntKind.u64 (v25*v16)),v25,PUnit.unit) else none) fun (j:Int×PUnit→Option (Int×Int×PUnit))=>lp (Int×Int×PUnit) (Int×Int×PUnit) (fun (again:Int×Int×PUnit → Option (Int×Int×PUnit)) (x:Int×Int×PUnit) =>
 let v26:Int:=IntKind.wrap .u64 (x.1 - 1);
 let v27:Bool:=decide (x.1≥4294967296);
 let v28:Bool:=!v27;
 let v29:Bool:=!v28||v28;
 let v30:Bool:=v29&&v29;bif v30 then bif v29 then bif v30 then bif v30 then bif v27||v28 then bif bif v27 then true else decide (IntKind.wrap .u64 (x.1*v20) > IntKind.wrap .u64 (IntKind.wrap .u64 (4294967296*x.2.1)+v17)) then bif decide (IntKind.wrap .u64 (x.2.1+v16)≥4294967296) then j (v26,PUnit.unit) else again (v26,IntKind.wrap .u64 (x.2.1+v16),PUnit.unit) else j (x.1,PUnit.unit) else none else none else none else none else none) (v22, IntKind.wrap .u64 (v21 - IntKind.wrap .u64 (v22*v16)),PUnit.unit) else none else none else none else none else none else none else none) fun (j:PUnit→Option (Int × Int×PUnit))=>bif decide (x2≤x0) then none else j PUnit.unit) fun (j:PUnit→Option (Int×Int×PUnit))=>bif decide (x2=0) then none else j PUnit.unit
def ct (x0:Int) (x1:Int) (x2:Int):Option (Int×Int×Unit):=ng lpK jnK cg x0 x1 x2
abbrev He:=(Int)→(Int)→(Int)→Option (Int×Int×Unit)
def Md (ct:He):Ctr:=⟨[(.int .u64),(.int .u64),(.int .u64)],[],[],.tup [(.int .u64),(.int .u64)],fun x _ _=>ct x.1 x.2.1 x.2.2.1⟩
def I7:Ctr:=Md ct
theorem Qi (lp:Lp) (jn:Jn) (cg:O4):∀(x:TsS I7.as) (F:TsF I7.fs) (y:TsS I7.cs),ng lp jn cg x.1 x.2.1 x.2.2.1=cd lp jn (cx [(165,⟨[(.int .u64)],[],[],.one i64,fun x _ _=>cg x.1⟩)] [(134,bH)]) ao 4 125 f125 I7 x F y:=fun x F y=>by kernel_rfl
theorem LO:I7.ok prog 125:=Ctr.of_den (au (ai (b6) (by kernel_rfl) OG)) aV (hl:=ao) (d:=4) func125 rfl (by decide) (Qi lpK jnK cg)
def mV (_:Lp) (_:Jn) (ct:He) (x0:Int×Int) (x1:Int):Option ((Int×Int)×Int×Unit) :=
 
 let v4:Bool:=nzB x1;bif v4 then af (ct (Int.tmod x0.1 x1) x0.2 x1) fun (t:Int×Int×PUnit)=>bif v4 then some ((IntKind.wrap .u64 (Int.tdiv x0.1 x1), t.1),t.2.1,PUnit.unit) else none else none
def dn (x0:Int×Int) (x1:Int):Option ((Int×Int)×Int×Unit):=mV lpK jnK ct x0 x1
abbrev t81:=(Int×Int)→(Int)→Option ((Int×Int)×Int×Unit)
def k81 (dn:t81):Ctr:=⟨[l5,(.int .u64)],[],[],.tup [l5,(.int .u64)],fun x _ _=>dn x.1 x.2.1⟩
def c81:Ctr:=k81 dn
theorem e81 (lp:Lp) (jn:Jn) (ct:He):∀(x:TsS c81.as) (F:TsF c81.fs) (y:TsS c81.cs),mV lp jn ct x.1 x.2.1=cd lp jn (cx [(125,Md ct)] [(134,bH)]) ao 4 81 f81 c81 x F y:=fun x F y=>by kernel_rfl
theorem PD:c81.ok prog 81:=Ctr.of_den (au (ai (b6) (by kernel_rfl) LO)) aV (hl:=ao) (d:=4) func81 rfl (by decide) (e81 lpK jnK ct)
def lj (_:Lp) (_:Jn) (x0:Bool) (x1:Int) (x2:Int):Option ((Int×Int)×Int×Unit) :=
 
 let v5:Int:=IntKind.wrap .i64 x1;
 let v6:Int:=IntKind.wrap .i64 x2;
 let v7:Bool:=decide (x1>1152921504606846976);
 let v8:Bool:=!v7;bif !v8||v8 then bif v7||v8 then bif bif v7 then true else decide (x2>1152921504606846976) then some ((0,0),5,PUnit.unit) else bif x0 then some ((IntKind.wrap .i64 (0 - v5),v6),0,PUnit.unit) else some ((v5,v6),0,PUnit.unit) else none else none
def aZ (x0:Bool) (x1:Int) (x2:Int):Option ((Int×Int)×Int×Unit):=lj lpK jnK x0 x1 x2
abbrev t82:=(Bool)→(Int)→(Int)→Option ((Int×Int)×Int×Unit)
def k82 (aZ:t82):Ctr:=⟨[.bool,(.int .u64),(.int .u64)],[],[],.tup [T49,i64],fun x _ _=>aZ x.1 x.2.1 x.2.2.1⟩
def c82:Ctr:=k82 aZ
theorem e82 (lp:Lp) (jn:Jn):∀(x:TsS c82.as) (F:TsF c82.fs) (y:TsS c82.cs),lj lp jn x.1 x.2.1 x.2.2.1=cd lp jn (cx [] [(134,bH)]) ao 4 82 f82 c82 x F y:=fun x F y=>by kernel_rfl
theorem ME:c82.ok prog 82:=Ctr.of_den (au (b6)) aV (hl:=ao) (d:=4) func82 rfl (by decide) (e82 lpK jnK)
def n8 (_:Lp) (jn:Jn) (a9:t75) (aB:t77) (ap:t72) (aG:t76) (eU:t78) (cj:t79) (dJ:t80) (dn:t81) (aZ:t82) (x0:Int×Int) (x1:Int×Int):Option ((Int×Int)×Int×Unit) :=
 
 let v4:Int:=IntKind.wrap .u64 x0.2;
 let v5:Int:=IntKind.wrap .u64 x1.2;
 let v6:Bool:=decide (x0.1<0);af (ap x0) fun (t:Bool) =>
 let v8:Bool:=!t;
 let v9:Bool:=!v8;
 let v10:Bool:=!v9||v9;bif v10 then af (bif v9 then ap x1 else some false) fun (t:Bool)=>bif v10 then bif v8||v9 then bif bif v8 then true else !t then some (((0 : Int),0),1,PUnit.unit) else af (a9 v4 v5) fun (t:Int) =>
 let v13:Bool:=nzB t;
 let v14:Int:=IntKind.wrap .u64 (Int.tdiv v4 t);af (aB x0.1) fun (t_1:Int)=>bif v13 then af (aG t_1 (IntKind.wrap .u64 (Int.tdiv v5 t))) fun (t_2:Int×Int)=>af (aB x1.1) fun (t_3:Int)=>bif v13 then af (aG t_3 v14) fun (t_4:Int×Int)=>jn (Bool×(Int×Int)×PUnit) ((Int×Int) × Int×PUnit) (fun (x:Bool×(Int×Int)×PUnit)=>bif decide (x.2.1.1=0)&&(decide (x.2.1.2=0)&&true) then some ((0,1),(0 : Int),PUnit.unit) else af (dn x.2.1 t) fun (t_5:(Int×Int)×Int×PUnit)=>af (a9 t t_5.2.1) fun (t:Int)=>af (dn x.2.1 t) fun (t_6 : (Int×Int)×Int×PUnit) =>
 let v23:Bool:=decide (t_6.1.1>0);
 let v24:Bool:=!v23;
 let v25:Bool:=!v24||v24;bif v13 then bif nzB t then af (aG v14 (IntKind.wrap .u64 (Int.tdiv v5 t))) fun (t:Int×Int)=>bif v25 then bif v25 then bif v23 || v24 then bif bif v23 then true else decide (t.1>0) then some ((0,0),5,PUnit.unit) else af (aZ x.1 t_6.1.2 t.2) fun (t:(Int × Int)×Int×PUnit)=>some (t.1,t.2.1,PUnit.unit) else none else none else none else none else none) fun (j:Bool×(Int×Int)×PUnit→Option ((Int×Int)×Int×PUnit)) =>bif decide (v6=decide (x1.1<0)) then af (eU t_2 t_4) fun (t:Int×Int)=>j (v6,t,PUnit.unit) else af (cj t_2 t_4) fun (t:Bool)=>jn (Bool × (Int×Int)×PUnit) ((Int×Int)×Int×PUnit) (fun (x:Bool×(Int×Int)×PUnit)=>j (x.1,x.2.1,PUnit.unit)) fun (j:Bool×(Int×Int)×PUnit→Option ((Int×Int) × Int×PUnit))=>bif t then af (dJ t_4 t_2) fun (t:Int×Int)=>j (!v6,t,PUnit.unit) else af (dJ t_2 t_4) fun (t:Int×Int)=>j (v6,t,PUnit.unit) else none else none else none else none else none
def bn (x0:Int×Int) (x1:Int×Int):Option ((Int×Int)×Int×Unit):=n8 lpK jnK a9 aB ap aG eU cj dJ dn aZ x0 x1
abbrev t35:=(Int×Int)→(Int×Int)→Option ((Int×Int)×Int×Unit)
def k35 (bn:t35):Ctr:=⟨[T49,T49],[],[],.tup [T49,i64],fun x _ _=>bn x.1 x.2.1⟩
def c35:Ctr:=k35 bn
theorem e35 (lp:Lp) (jn:Jn) (a9:t75) (aB:t77) (ap:t72) (aG:t76) (eU:t78) (cj:t79) (dJ:t80) (dn:t81) (aZ:t82):∀(x:TsS c35.as) (F:TsF c35.fs) (y:TsS c35.cs),n8 lp jn a9 aB ap aG eU cj dJ dn aZ x.1 x.2.1=cd lp jn (cx [(82,k82 aZ),(81,k81 dn),(80,⟨[l5,l5],[],[],.one l5,fun x _ _=>dJ x.1 x.2.1⟩),(79,k79 cj),(78,⟨[l5,l5],[],[],.one l5,fun x _ _=>eU x.1 x.2.1⟩),(76,k76 aG),(72,k72 ap),(77,k77 aB),(75,k75 a9)] [(134,bH)]) ao 4 35 f35 c35 x F y:=fun x F y=>by kernel_rfl
theorem Mh:c35.ok prog 35:=Ctr.of_den (au (ai (ai (ai (ai (ai (ai (ai (ai (ai (b6) (by kernel_rfl) JA) (by kernel_rfl) FY) (by kernel_rfl) Ct) (by kernel_rfl) Nm) (by kernel_rfl) PZ) (by kernel_rfl) O1) (by kernel_rfl) Qq) (by kernel_rfl) PD) (by kernel_rfl) ME)) aV (hl:=ao) (d:=4) func35 rfl (by decide) (e35 lpK jnK a9 aB ap aG eU cj dJ dn aZ)
def nU (_:Lp) (_:Jn) (a9:t75) (aB:t77) (ap:t72) (aG:t76) (aZ:t82) (x0:Int×Int) (x1:Int×Int):Option ((Int×Int)×Int×Unit) :=
 
 let v4:Int:=IntKind.wrap .u64 x1.2;
 let v5:Int:=IntKind.wrap .u64 x0.2;af (ap x0) fun (t:Bool) =>
 let v7:Bool:=!t;
 let v8:Bool:=!v7;
 let v9:Bool:=!v8||v8;bif v9 then af (bif v8 then ap x1 else some false) fun (t:Bool)=>bif v9 then bif v7||v8 then bif bif v7 then true else !t then some (((0 : Int),0),1,PUnit.unit) else af (aB x0.1) fun (t:Int)=>af (a9 t v4) fun (t:Int) =>
 let v13:Bool:=nzB t;af (aB x1.1) fun (t_1:Int)=>af (a9 t_1 v5) fun (t_2:Int) =>
 let v16:Bool:=nzB t_2;af (aB x0.1) fun (t_3:Int)=>bif v13 then af (aB x1.1) fun (t_4:Int)=>bif v16 then af (aG (IntKind.wrap IntKind.u64 (Int.tdiv t_3 t)) (IntKind.wrap .u64 (Int.tdiv t_4 t_2))) fun (t_5:Int×Int) =>
 let v20:Bool:=decide (t_5.1>0);
 let v21:Bool:=decide (t_5.2>0);
 let v22:Bool:=!v20;
 let v23:Bool:=!v21||v21;
 let v24:Bool:=!v22||v22;bif v16 then bif v13 then af (aG (IntKind.wrap .u64 (Int.tdiv v5 t_2)) (IntKind.wrap .u64 (Int.tdiv v4 t))) fun (t:Int×Int) =>bif v24 then bif v24 then bif v20||v22 then bif bif v20 then true else decide (t.1>0) then some ((0,0),5,PUnit.unit) else bif v23 then bif v23 then bif v23 then bif v23 then bif v23&&v23 then bif v23 then af (aZ (bif v21 then !decide (decide (x0.1<0)=decide (x1.1<0)) else false) t_5.2 t.2) fun (t:(Int×Int)×Int×PUnit)=>some (t.1,t.2.1,PUnit.unit) else none else none else none else none else none else none else none else none else none else none else none else none else none else none else none else none
def cO (x0:Int×Int) (x1:Int×Int):Option ((Int×Int)×Int×Unit):=nU lpK jnK a9 aB ap aG aZ x0 x1
abbrev HT:=(Int×Int)→(Int×Int)→Option ((Int×Int)×Int×Unit)
def Ni (cO:HT):Ctr:=⟨[T49,T49],[],[],.tup [T49,i64],fun x _ _=>cO x.1 x.2.1⟩
def I8:Ctr:=Ni cO
theorem P7 (lp:Lp) (jn:Jn) (a9:t75) (aB:t77) (ap:t72) (aG:t76) (aZ:t82):∀(x:TsS I8.as) (F:TsF I8.fs) (y:TsS I8.cs),nU lp jn a9 aB ap aG aZ x.1 x.2.1=cd lp jn (cx [(82,k82 aZ),(76,k76 aG),(72,k72 ap),(77,k77 aB),(75,k75 a9)] [(134,bH)]) ao 4 146 f146 I8 x F y:=fun x F y=>by kernel_rfl
theorem L2:I8.ok prog 146:=Ctr.of_den (au (ai (ai (ai (ai (ai (b6) (by kernel_rfl) JA) (by kernel_rfl) FY) (by kernel_rfl) Ct) (by kernel_rfl) Nm) (by kernel_rfl) ME)) aV (hl:=ao) (d:=4) func146 rfl (by decide) (P7 lpK jnK a9 aB ap aG aZ)
def iY (lp:Lp) (jn:Jn) (bn:t35) (cO:HT) (x0:Int) (x1:List Int) (x2:List (Int×Int)):Option (Int×(Int×Int)) :=
 lp (Int×Int×(Int×Int)×(Int×Int)×PUnit) (Int×Int×Int) (fun (again:Int×Int×(Int×Int)×(Int×Int)×PUnit→Option (Int×Int×Int)) (x:Int×Int×(Int×Int) × (Int×Int)×PUnit)=>bif decide (x.1<(↑x1.length:Int)) then bif inB x.1 x1.length then bif inB x.1 x2.length then af (cO (x1.getD x.1.toNat 0,1) (x2.getD x.1.toNat (0,0))) fun (t:(Int×Int)×Int×PUnit)=>jn (Int×(Int×Int)×PUnit) (Int×Int×Int) (fun (x_1:Int×(Int×Int)×PUnit)=>bif !decide (x_1.1=0) then some (x_1.1,0,1) else again (IntKind.wrap .i64 (x.1+1), x.2.1,x.2.2.1,x_1.2.1,PUnit.unit)) fun (j:Int×(Int×Int)×PUnit→Option (Int×Int×Int))=>bif decide (t.2.1=0) then af (bn x.2.2.2.1 t.1) fun (t:(Int×Int)×Int×PUnit)=>j (t.2.1,t.1,PUnit.unit) else j (t.2.1,t.1,PUnit.unit) else none else none else some (x.2.1, x.2.2.2.1)) (0,x0,(0,0),(0,1),PUnit.unit)
def bN (x0:Int) (x1:List Int) (x2:List (Int×Int)):Option (Int×(Int×Int)):=iY lpK jnK bn cO x0 x1 x2
abbrev t95:=(Int)→(List Int)→(List (Int×Int))→Option (Int×(Int×Int))
def k95 (bN:t95):MCtr:=⟨MY,[(.sl i64),(.sl T49)],.one T49,fun x y=>bN x y.1 y.2.1⟩
def m95:MCtr:=k95 bN
theorem e95 (lp:Lp) (jn:Jn) (bn:t35) (cO:HT):∀(x:m95.s.T) (y:TsS m95.as),iY lp jn bn cO x y.1 y.2.1=ND lp jn (cx [(146,Ni cO),(35,k35 bn)] [(134,bH)]) ao 4 95 f95 m95 x y:=fun x y=>by kernel_rfl
theorem QX:m95.ok prog 95:=MCtr.of_den (au (ai (ai (b6) (by kernel_rfl) Mh) (by kernel_rfl) L2)) aV (hl:=ao) (d:=4) func95 rfl (by decide) rfl (e95 lpK jnK bn cO)
def nQ (_:Lp) (jn:Jn) (aB:t77) (ap:t72) (aG:t76) (cj:t79) (x0:Int×Int) (x1:Int×Int):Option (Int×Int×Unit) :=
 
 let v4:Bool:=decide (x0.1<0);af (ap x0) fun (t:Bool) =>
 let v6:Bool:=!t;
 let v7:Bool:=!v6;
 let v8:Bool:=!v7||v7;bif v8 then af (bif v7 then ap x1 else some false) fun (t:Bool)=>bif v8 then bif v6||v7 then bif bif v6 then true else !t then some ((0 : Int),1,PUnit.unit) else af (aB x0.1) fun (t:Int)=>af (aG t (IntKind.wrap .u64 x1.2)) fun (t:Int×Int)=>af (aB x1.1) fun (t_1:Int)=>af (aG t_1 (IntKind.wrap .u64 x0.2)) fun (t_2:Int×Int)=>bif !decide (v4=decide (x1.1<0)) then bif v4 then some ((-1), 0,PUnit.unit) else some (1,0,PUnit.unit) else jn ((Int×Int)×(Int×Int)×PUnit) (Int×Int×PUnit) (fun (x:(Int×Int)×(Int×Int)×PUnit)=>af (cj x.1 x.2.1) fun (t:Bool)=>bif t then some ((-1),0,PUnit.unit) else af (cj x.2.1 x.1) fun (t:Bool)=>bif t then some (1, 0,PUnit.unit) else some (0,0,PUnit.unit)) fun (j:(Int×Int)×(Int×Int)×PUnit→Option (Int×Int×PUnit))=>bif v4 then j (t_2,t,PUnit.unit) else j (t,t_2,PUnit.unit) else none else none else none
def cQ (x0:Int×Int) (x1:Int×Int):Option (Int×Int×Unit):=nQ lpK jnK aB ap aG cj x0 x1
abbrev t39:=(Int×Int)→(Int×Int)→Option (Int×Int×Unit)
def k39 (cQ:t39):Ctr:=⟨[T49,T49],[],[],.tup [i64,i64],fun x _ _=>cQ x.1 x.2.1⟩
def c39:Ctr:=k39 cQ
theorem e39 (lp:Lp) (jn:Jn) (aB:t77) (ap:t72) (aG:t76) (cj:t79):∀(x:TsS c39.as) (F:TsF c39.fs) (y:TsS c39.cs),nQ lp jn aB ap aG cj x.1 x.2.1=cd lp jn (cx [(79,k79 cj),(76,k76 aG),(72,k72 ap),(77,k77 aB)] [(134,bH)]) ao 4 39 f39 c39 x F y:=fun x F y=>by kernel_rfl
theorem PR:c39.ok prog 39:=Ctr.of_den (au (ai (ai (ai (ai (b6) (by kernel_rfl) FY) (by kernel_rfl) Ct) (by kernel_rfl) Nm) (by kernel_rfl) O1)) aV (hl:=ao) (d:=4) func39 rfl (by decide) (e39 lpK jnK aB ap aG cj)
def lU (_:Lp) (_:Jn) (cQ:t39) (x0:Int×Int) (x1:Int):Option Int :=
 af (cQ x0 (x1,1)) fun (t:Int×Int×PUnit)=>some t.1
def eF (x0:Int×Int) (x1:Int):Option Int:=lU lpK jnK cQ x0 x1
abbrev Og:=(Int×Int)→(Int)→Option (Int)
def Jr:Ctr:=⟨[T49,i64],[],[],.one i64,fun x _ _=>eF x.1 x.2.1⟩
theorem Pz (lp:Lp) (jn:Jn) (cQ:t39):∀(x:TsS Jr.as) (F:TsF Jr.fs) (y:TsS Jr.cs),lU lp jn cQ x.1 x.2.1=cd lp jn (cx [(39,k39 cQ)] [(134,bH)]) ao 4 144 f144 Jr x F y:=fun x F y=>by kernel_rfl
theorem NR:Jr.ok prog 144:=Ctr.of_den (au (ai (b6) (by kernel_rfl) PR)) aV (hl:=ao) (d:=4) func144 rfl (by decide) (Pz lpK jnK cQ)
def jo (lp:Lp) (_:Jn) (x0:(List Int)×List ((List Int)×Int×Int)) (x1:Int):Option (List Int) :=
 lp (List Int×Int×PUnit) (List Int) (fun (again:List Int×Int×PUnit→Option (List Int)) (x:List Int×Int×PUnit)=>bif decide (x.2.1<(↑x0.2.length:Int)) then bif inB x.2.1 x0.2.length then bif inB x1 (List.length (x0.2.getD x.2.1.toNat ([],0,0)).1) then bif dq (List.length x.1+(1 : Nat)) 8 then again (x.1++[List.getD (x0.2.getD x.2.1.toNat ([],0,0)).1 x1.toNat 0],IntKind.wrap .i64 (x.2.1 + 1),PUnit.unit) else none else none else none else some x.1) ([],0,PUnit.unit)
def dh (x0:(List Int)×List ((List Int)×Int×Int)) (x1:Int):Option (List Int):=jo lpK jnK x0 x1
abbrev OH:=((List Int)×List ((List Int)×Int×Int))→(Int)→Option (List Int)
def H9:Ctr:=⟨[T32,i64],[],[],.one (.sl i64),fun x _ _=>dh x.1 x.2.1⟩
theorem QK (lp:Lp) (jn:Jn):∀(x:TsS H9.as) (F:TsF H9.fs) (y:TsS H9.cs),jo lp jn x.1 x.2.1=cd lp jn (cx [] [(134,bH)]) ao 4 145 f145 H9 x F y:=fun x F y=>by kernel_rfl
theorem Ol:H9.ok prog 145:=Ctr.of_den (au (b6)) aV (hl:=ao) (d:=4) func145 rfl (by decide) (QK lpK jnK)
def gT (_:Lp) (_:Jn) (_:Int):Option Int :=
 some 0
def cA (x0:Int):Option Int:=gT lpK jnK x0
abbrev t94:=(Int)→Option (Int)
def c94:Ctr:=⟨[i64],[],[],.one i64,fun x _ _=>cA x.1⟩
theorem e94 (lp:Lp) (jn:Jn):∀(x:TsS c94.as) (F:TsF c94.fs) (y:TsS c94.cs),gT lp jn x.1=cd lp jn (cx [] [(134,bH)]) ao 4 94 f94 c94 x F y:=fun x F y=>by kernel_rfl
theorem QA:c94.ok prog 94:=Ctr.of_den (au (b6)) aV (hl:=ao) (d:=4) func94 rfl (by decide) (e94 lpK jnK)
def ju (lp:Lp) (_:Jn) (x0:(List Int)×List ((List Int)×Int×Int)):Option (List Int) :=
 lp (List Int×Int×PUnit) (List Int) (fun (again:List Int×Int×PUnit→Option (List Int)) (x:List Int×Int×PUnit)=>bif decide (x.2.1<(↑x0.2.length:Int)) then bif inB x.2.1 x0.2.length then bif dq (List.length x.1+1) 8 then again (x.1++[(x0.2.getD x.2.1.toNat ([],0,(0 : Int))).2.2],IntKind.wrap .i64 (x.2.1+1),PUnit.unit) else none else none else some x.1) ([],0,PUnit.unit)
def cY (x0:(List Int)×List ((List Int)×Int×Int)):Option (List Int):=ju lpK jnK x0
abbrev t96:=((List Int)×List ((List Int)×Int×Int))→Option (List Int)
def c96:Ctr:=⟨[T32],[],[],.one (.sl i64),fun x _ _=>cY x.1⟩
theorem e96 (lp:Lp) (jn:Jn):∀(x:TsS c96.as) (F:TsF c96.fs) (y:TsS c96.cs),ju lp jn x.1=cd lp jn (cx [] [(134,bH)]) ao 4 96 f96 c96 x F y:=fun x F y=>by kernel_rfl
theorem PP:c96.ok prog 96:=Ctr.of_den (au (b6)) aV (hl:=ao) (d:=4) func96 rfl (by decide) (e96 lpK jnK)
def jc (lp:Lp) (_:Jn) (x0:(List Int)×List ((List Int)×Int×Int)) (x1:List (Int×Int)):Option Bool :=
 lp (Int×PUnit) Bool (fun (again:Int×PUnit→Option Bool) (x:Int×PUnit) =>
 let v6:Bool:=inB x.1 x1.length;
 let v7:Bool:=decide ((x0.2.getD x.1.toNat ([],0,0)).2.1=1);
 let v8:Bool:=decide ((x0.2.getD x.1.toNat ([],0,0)).2.1=2);
 let v9:Bool:=!v7;
 let v10:Bool:=bif v7 then decide ((x1.getD x.1.toNat (0,0)).1>0) else false;
 let v11:Bool:=!v10;
 let v12:Bool:=!v11;
 let v13:Bool:=v9||v7;
 let v14:Bool:=v11&&v8;
 let v15:Bool:=!v14;
 let v16:Bool:=v12||v11;
 let v17:Bool:=v15||v14;bif decide (x.1<(↑x0.2.length:Int)) then bif inB x.1 x0.2.length then bif v13&&(v13&&(v9||v6)) then bif v13 then bif v13 then bif v13 then bif v13 then bif v16 then bif v16 then bif v16 then bif v17&&(v17&&(v15||v6)) then bif v17 then bif v17 then bif v17 then bif (v12||v16)&&(v12||(!v8||(v12 || v14))) then bif v10||v11 then bif bif v10 then true else bif v8 then decide ((x1.getD x.1.toNat (0,0)).1<0) else false then some false else again (IntKind.wrap .i64 (x.1+1),PUnit.unit) else none else none else none else none else none else none else none else none else none else none else none else none else none else none else none else some true) (0,PUnit.unit)
def dg (x0:(List Int)×List ((List Int)×Int×Int)) (x1:List (Int×Int)):Option Bool:=jc lpK jnK x0 x1
abbrev t97:=((List Int)×List ((List Int)×Int×Int))→(List (Int×Int))→Option (Bool)
def c97:Ctr:=⟨[T32,(.sl T49)],[],[],.one .bool,fun x _ _=>dg x.1 x.2.1⟩
theorem e97 (lp:Lp) (jn:Jn):∀(x:TsS c97.as) (F:TsF c97.fs) (y:TsS c97.cs),jc lp jn x.1 x.2.1=cd lp jn (cx [] [(134,bH)]) ao 4 97 f97 c97 x F y:=fun x F y=>by kernel_rfl
theorem Qz:c97.ok prog 97:=Ctr.of_den (au (b6)) aV (hl:=ao) (d:=4) func97 rfl (by decide) (e97 lpK jnK)
def iV (lp:Lp) (_:Jn) (aU:t91) (dz:t92) (eF:Og) (dh:OH) (cA:t94) (cY:t96) (dg:t97) (bN:t95) (x0:(List Int)×List ((List Int)×Int×Int)) (x1:List (Int×Int)):Option (Bool×Int×Unit) :=
 af (aU x0) fun (t:Bool) =>
 let v5:Bool:=!t;
 let v6:Bool:=!v5;
 let v7:Bool:=!v6||v6;bif v7 then af (bif v6 then dz x1 else some false) fun (t:Bool)=>bif v7 then bif v5||v6 then bif bif v5 then true else !t then some (false, 1,PUnit.unit) else bif !decide ((↑x1.length:Int)=(↑x0.2.length:Int)) then some (false,3,PUnit.unit) else lp (Bool×Int×Int×PUnit) (Bool × Int×PUnit) (fun (again:Bool×Int×Int×PUnit→Option (Bool×Int×PUnit)) (x:Bool×Int×Int×PUnit)=>bif decide (x.2.1<(↑x0.1.length:Int)) then af (dh x0 x.2.1) fun (t:List Int)=>af (bN x.2.2.1 t x1) fun (t:Int×Int×Int)=>af (cA x.2.1) fun (t_1:Int)=>af (eF t.2 t_1) fun (t_2:Int) =>
 let v15:Bool:=decide (t_2≤0);bif !v15||v15 then again (bif v15 then x.1 else false,IntKind.wrap .i64 (x.2.1+1),t.1,PUnit.unit) else none else af (cY x0) fun (t:List Int)=>af (bN x.2.2.1 t x1) fun (t:Int×Int×Int) =>
 let v13:Bool:=decide (t.2.1>0);
 let v14:Bool:=!v13||v13;bif v14&&v14 then af (bif v13 then dg x0 x1 else some false) fun (t_1:Bool) =>
 let v16:Bool:=bif v13 then t_1 else false;
 let v17:Bool:=bif v16 then x.1 else false;
 let v18:Bool:=!v17||v17;bif v14 then bif !v16||v16 then bif v18 then bif v18 then bif v18 then some (bif v17 then decide (t.1=0) else false,t.1,PUnit.unit) else none else none else none else none else none else none) (true,0,0,PUnit.unit) else none else none else none
def bO (x0:(List Int)×List ((List Int)×Int×Int)) (x1:List (Int×Int)):Option (Bool×Int×Unit):=iV lpK jnK aU dz eF dh cA cY dg bN x0 x1
abbrev t47:=((List Int)×List ((List Int)×Int×Int))→(List (Int×Int))→Option (Bool×Int×Unit)
def k47 (bO:t47):Ctr:=⟨[T32,(.sl T49)],[],[],.tup [.bool,i64],fun x _ _=>bO x.1 x.2.1⟩
def c47:Ctr:=k47 bO
theorem e47 (lp:Lp) (jn:Jn) (aU:t91) (dz:t92) (eF:Og) (dh:OH) (cA:t94) (cY:t96) (dg:t97) (bN:t95):∀(x:TsS c47.as) (F:TsF c47.fs) (y:TsS c47.cs),iV lp jn aU dz eF dh cA cY dg bN x.1 x.2.1=cd lp jn (yk AR An (BV [] [(95,k95 bN)] (jP prog shs vo its [(97,⟨[T32,(.sl T49)],[],[],.one .bool,fun x _ _=>dg x.1 x.2.1⟩),(96,⟨[T32],[],[],.one (.sl i64),fun x _ _=>cY x.1⟩),(94,⟨[i64],[],[],.one i64,fun x _ _=>cA x.1⟩),(145,⟨[T32,i64],[],[],.one (.sl i64),fun x _ _=>dh x.1 x.2.1⟩),(144,⟨[T49,i64],[],[],.one i64,fun x _ _=>eF x.1 x.2.1⟩),(92,⟨[(.sl T49)],[],[],.one .bool,fun x _ _=>dz x.1⟩),(91,k91 aU)] [(134,bH)]))) ao 4 47 f47 c47 x F y:=fun x F y=>by kernel_rfl
theorem QT:c47.ok prog 47:=Ctr.of_den (au (oT (ai (ai (ai (ai (ai (ai (ai (b6) (by kernel_rfl) NI) (by kernel_rfl) Pt) (by kernel_rfl) NR) (by kernel_rfl) Ol) (by kernel_rfl) QA) (by kernel_rfl) PP) (by kernel_rfl) Qz) (mj) (D3 (by kernel_rfl) QX (mv)))) aV (hl:=ao) (d:=4) func47 rfl (by decide) (e47 lpK jnK aU dz eF dh cA cY dg bN)
def lG (_:Lp) (_:Jn) (ay:t11) (bO:t47) (x0:(List (ByteArray×Int))×List (ByteArray×(List (ByteArray×Int×Int×Int))×Bool)) (x1:List (Int×Int)):Option (Bool×Int×Unit) :=
 af (ay x0) fun (t:(List Int×List (List Int×Int×Int))×Int×PUnit)=>bif !decide (t.2.1=0) then some (false,t.2.1,PUnit.unit) else af (bO t.1 x1) fun (t:Bool×Int×PUnit)=>some (t.1,t.2.1,PUnit.unit)
def aN (x0:(List (ByteArray×Int))×List (ByteArray×(List (ByteArray×Int×Int×Int))×Bool)) (x1:List (Int×Int)):Option (Bool×Int×Unit):=lG lpK jnK ay bO x0 x1
abbrev t12:=((List (ByteArray×Int))×List (ByteArray×(List (ByteArray×Int×Int×Int))×Bool))→(List (Int×Int))→Option (Bool×Int×Unit)
def k12 (aN:t12):Ctr:=⟨[T25,(.sl T49)],[],[],.tup [.bool,i64],fun x _ _=>aN x.1 x.2.1⟩
def c12:Ctr:=k12 aN
theorem e12 (lp:Lp) (jn:Jn) (ay:t11) (bO:t47):∀(x:TsS c12.as) (F:TsF c12.fs) (y:TsS c12.cs),lG lp jn ay bO x.1 x.2.1=cd lp jn (cx [(47,k47 bO),(11,k11 ay)] [(134,bH)]) ao 4 12 f12 c12 x F y:=fun x F y=>by kernel_rfl
theorem Ov:c12.ok prog 12:=Ctr.of_den (au (ai (ai (b6) (by kernel_rfl) Ny) (by kernel_rfl) QT)) aV (hl:=ao) (d:=4) func12 rfl (by decide) (e12 lpK jnK ay bO)
def oG (_:Lp) (_:Jn) (x0:Int):Option Int :=
 
 let v3:Int:=IntKind.wrap .u64 x0;bif decide (x0<0) then some (IntKind.wrap .u64 (0 - v3)) else some v3
def bL (x0:Int):Option Int:=oG lpK jnK x0
abbrev H5:=(Int)→Option (Int)
def Nu (bL:H5):Ctr:=⟨[i64],[],[],.one (.int .u64),fun x _ _=>bL x.1⟩
def F3:Ctr:=Nu bL
theorem P6 (lp:Lp) (jn:Jn):∀(x:TsS F3.as) (F:TsF F3.fs) (y:TsS F3.cs),oG lp jn x.1=cd lp jn (cx [] [(134,bH)]) ao 4 155 f155 F3 x F y:=fun x F y=>by kernel_rfl
theorem L0:F3.ok prog 155:=Ctr.of_den (au (b6)) aV (hl:=ao) (d:=4) func155 rfl (by decide) (P6 lpK jnK)
def jD (lp:Lp) (_:Jn) (bL:H5) (x0:List Int) (x1:Int):Option Int :=
 af (bL x1) fun (t:Int)=>lp (Int×Int×PUnit) Int (fun (again:Int×Int×PUnit→Option Int) (x:Int×Int×PUnit)=>bif decide (x.2.1<(↑x0.length : Int)) then bif inB x.2.1 x0.length then af (bL (x0.getD x.2.1.toNat 0)) fun (t:Int)=>again (IntKind.wrap .i64 (x.1 + IntKind.wrap .i64 t),IntKind.wrap .i64 (x.2.1+1),PUnit.unit) else none else some x.1) (IntKind.wrap .i64 (1+IntKind.wrap .i64 t), 0,PUnit.unit)
def cJ (x0:List Int) (x1:Int):Option Int:=jD lpK jnK bL x0 x1
abbrev OX:=(List Int)→(Int)→Option (Int)
def Jm:Ctr:=⟨[(.sl i64),i64],[],[],.one i64,fun x _ _=>cJ x.1 x.2.1⟩
theorem QH (lp:Lp) (jn:Jn) (bL:H5):∀(x:TsS Jm.as) (F:TsF Jm.fs) (y:TsS Jm.cs),jD lp jn bL x.1 x.2.1=cd lp jn (cx [(155,Nu bL)] [(134,bH)]) ao 4 154 f154 Jm x F y:=fun x F y=>by kernel_rfl
theorem Ou:Jm.ok prog 154:=Ctr.of_den (au (ai (b6) (by kernel_rfl) L0)) aV (hl:=ao) (d:=4) func154 rfl (by decide) (QH lpK jnK bL)
def jd (lp:Lp) (jn:Jn) (x0:List Int):Option Int :=
 jn PUnit Int (fun (_:PUnit)=>bif inB 0 x0.length then lp (Int×Int×PUnit) Int (fun (again:Int×Int×PUnit→Option Int) (x:Int×Int×PUnit)=>bif decide (x.2.1<(↑x0.length:Int)) then bif inB x.2.1 x0.length then again (if x0.getD x.2.1.toNat 0>x.1 then x0.getD x.2.1.toNat 0 else x.1,IntKind.wrap .i64 (x.2.1+1),PUnit.unit) else none else some x.1) (x0.getD 0 0,1,PUnit.unit) else none) fun (j:PUnit→Option Int)=>bif decide ((↑x0.length:Int)<1) then none else j PUnit.unit
def c8 (x0:List Int):Option Int:=jd lpK jnK x0
abbrev Oo:=(List Int)→Option (Int)
def Jp:Ctr:=⟨[(.sl i64)],[],[],.one i64,fun x _ _=>c8 x.1⟩
theorem PN (lp:Lp) (jn:Jn):∀(x:TsS Jp.as) (F:TsF Jp.fs) (y:TsS Jp.cs),jd lp jn x.1=cd lp jn (cx [] [(134,bH)]) ao 4 156 f156 Jp x F y:=fun x F y=>by kernel_rfl
theorem O5:Jp.ok prog 156:=Ctr.of_den (au (b6)) aV (hl:=ao) (d:=4) func156 rfl (by decide) (PN lpK jnK)
def lv (lp:Lp) (_:Jn) (cJ:OX) (c8:Oo) (x0:(List Int)×List ((List Int)×Int×Int)):Option Bool :=
 af (cJ x0.1 0) fun (t:Int)=>lp (List Int×Int×PUnit) Bool (fun (again:List Int×Int×PUnit→Option Bool) (x:List Int×Int×PUnit) =>
 let v6:List Int×Int×Int:=x0.2.getD x.2.1.toNat ([],0,0);bif decide (x.2.1<(↑x0.2.length:Int)) then bif inB x.2.1 x0.2.length then af (cJ v6.1 v6.2.2) fun (t:Int)=>bif dq (List.length x.1+1) 8 then again (x.1++[t],IntKind.wrap .i64 (x.2.1+1),PUnit.unit) else none else none else lp (Int×Int×PUnit) Bool (fun (again:Int×Int×PUnit→Option Bool) (x_1:Int×Int×PUnit) =>
 let v9:Int:=x.1.getD x_1.2.1.toNat 0;bif decide (x_1.2.1<(↑x.1.length:Int)) then bif inB x_1.2.1 x.1.length then bif Nat.ble (Nat.succ x_1.2.1.toNat) x.1.length then bif nzB v9 then bif decide (x_1.1>IntKind.wrap .i64 (Int.tdiv 17592186044416 v9)) then some false else again (IntKind.wrap .i64 (x_1.1*v9),IntKind.wrap .i64 (x_1.2.1+1),PUnit.unit) else none else none else none else af (c8 x.1) fun (t : Int)=>bif nzB t then some (decide (x_1.1≤IntKind.wrap .i64 (Int.tdiv 144115188075855872 t))) else none) (1,0,PUnit.unit)) ([t],0, PUnit.unit)
def bV (x0:(List Int)×List ((List Int)×Int×Int)):Option Bool:=lv lpK jnK cJ c8 x0
abbrev IQ:=((List Int)×List ((List Int)×Int×Int))→Option (Bool)
def Nq (bV:IQ):Ctr:=⟨[T32],[],[],.one .bool,fun x _ _=>bV x.1⟩
def GS:Ctr:=Nq bV
theorem PF (lp:Lp) (jn:Jn) (cJ:OX) (c8:Oo):∀(x:TsS GS.as) (F:TsF GS.fs) (y:TsS GS.cs),lv lp jn cJ c8 x.1=cd lp jn (cx [(156,⟨[(.sl i64)],[],[],.one i64,fun x _ _=>c8 x.1⟩),(154,⟨[(.sl i64),i64],[],[],.one i64,fun x _ _=>cJ x.1 x.2.1⟩)] [(134,bH)]) ao 4 108 f108 GS x F y:=fun x F y=>by kernel_rfl
theorem L5:GS.ok prog 108:=Ctr.of_den (au (ai (ai (b6) (by kernel_rfl) Ou) (by kernel_rfl) O5)) aV (hl:=ao) (d:=4) func108 rfl (by decide) (PF lpK jnK cJ c8)
def eS (lp:Lp) (_:Jn) (x0:(List (List Int))×Int×(List Int)×(List Int)×(List Int)×Int×Int) (x1:Int):Option Int :=
 lp (Int×Int×PUnit) Int (fun (again:Int×Int×PUnit→Option Int) (x:Int×Int×PUnit) =>
 let v6:Int×PUnit:=(IntKind.wrap .i64 (x.2.1+1),PUnit.unit);
 let v7:List Int:=x0.1.getD x.2.1.toNat [];bif decide (x.2.1<(↑x0.1.length:Int)) then bif inB x.2.1 x0.1.length then bif inB x.2.1 x0.2.2.1.length then bif decide (x0.2.2.1.getD x.2.1.toNat 0≥x0.2.2.2.2.2.1) then bif inB x1 v7.length then again (IntKind.wrap .i64 (x.1+v7.getD x1.toNat 0),v6) else none else again (x.1,v6) else none else none else some x.1) (0,0,PUnit.unit)
def av (x0:(List (List Int))×Int×(List Int)×(List Int)×(List Int)×Int×Int) (x1:Int):Option Int:=eS lpK jnK x0 x1
abbrev GV:=((List (List Int))×Int×(List Int)×(List Int)×(List Int)×Int×Int)→(Int)→Option (Int)
def NJ (av:GV):PCtr:=⟨D5,[i64],.one i64,fun x y=>av x y.1⟩
def KH:PCtr:=NJ av
theorem Qy (lp:Lp) (jn:Jn):∀(x:KH.s.T) (y:TsS KH.as),eS lp jn x y.1=BA lp jn (cx [] [(134,bH)]) ao 4 126 f126 KH x y:=fun x y=>by kernel_rfl
theorem L7:KH.ok prog 126:=PCtr.of_den (au (b6)) aV (hl:=ao) (d:=4) func126 rfl (by decide) (Qy lpK jnK)
def kj (_:Lp) (_:Jn) (bF:BP) (bL:H5) (x0:Int) (x1:Int):Option (Bool×Int×Int) :=
 
 let v4:Bool:=!decide (decide (x0<0)=decide (x1<0));
 let v5:Bool:=!v4;
 let v6:Bool:=v5||v4;af (bL x0) fun (t:Int)=>af (bL x1) fun (t_1:Int)=>af (bF t t_1) fun (t:Int×Int×PUnit) =>
 let v10:Bool:=!decide (t.1=0);
 let v11:Bool:=v4&&!v10;bif v6 then bif v6 then bif !v11||v11 then bif (v5||v6)&&(v5||(v10||(v5||v11))) then bif v6 then some (bif v4 then bif v10 then true else !decide (t.2.1=0) else false,t.1,t.2.1) else none else none else none else none else none
def bq (x0:Int) (x1:Int):Option (Bool×Int×Int):=kj lpK jnK bF bL x0 x1
abbrev FX:=(Int)→(Int)→Option (Bool×Int×Int)
def NC (bq:FX):Ctr:=⟨[i64,i64],[],[],.one ry,fun x _ _=>bq x.1 x.2.1⟩
def It:Ctr:=NC bq
theorem QG (lp:Lp) (jn:Jn) (bF:BP) (bL:H5):∀(x:TsS It.as) (F:TsF It.fs) (y:TsS It.cs),kj lp jn bF bL x.1 x.2.1=cd lp jn (cx [(155,Nu bL),(122,Le bF)] [(134,bH)]) ao 4 175 f175 It x F y:=fun x F y=>by kernel_rfl
theorem Mb:It.ok prog 175:=Ctr.of_den (au (ai (ai (b6) (by kernel_rfl) Hr) (by kernel_rfl) L0)) aV (hl:=ao) (d:=4) func175 rfl (by decide) (QG lpK jnK bF bL)
def fe (_:Lp) (_:Jn) (x0:Bool×Int×Int) (x1:Bool×Int×Int):Option Int :=
 
 let v4:Bool:=decide (x0.2.1=x1.2.1);
 let v5:Bool:=!v4;
 let v6:Bool:=v5||v4;
 let v7:Bool:=!v5||v5;
 let v8:Bool:=bif v5 then decide (x0.2.1<x1.2.1) else false;
 let v9:Bool:=!v8;
 let v10:Bool:=!v9;
 let v11:Bool:=v9&&v4;
 let v12:Bool:=v10||v9;
 let v13:Bool:=!v11||v11;bif v7 then bif v7 then bif v7&&v7 then bif v7 then bif v12 then bif v12 then bif v12&&v12 then bif v12 then bif v13 then bif v13 then bif v13&&v13 then bif (v10||v12)&&(v10||(v5||(v10||v11))) then bif v8||v9 then bif bif v8 then true else bif v4 then decide (x0.2.2<x1.2.2) else false then some (-1) else bif v6 then bif v6 then bif v6&&v6 then bif v6 then bif bif v4 then decide (x0.2.2=x1.2.2) else false then some 0 else some 1 else none else none else none else none else none else none else none else none else none else none else none else none else none else none else none else none else none
def aw (x0:Bool×Int×Int) (x1:Bool×Int×Int):Option Int:=fe lpK jnK x0 x1
abbrev FN:=(Bool×Int×Int)→(Bool×Int×Int)→Option (Int)
def Ms (aw:FN):Ctr:=⟨[ry,ry],[],[],.one i64,fun x _ _=>aw x.1 x.2.1⟩
def II:Ctr:=Ms aw
theorem Qx (lp:Lp) (jn:Jn):∀(x:TsS II.as) (F:TsF II.fs) (y:TsS II.cs),fe lp jn x.1 x.2.1=cd lp jn (cx [] [(134,bH)]) ao 4 184 f184 II x F y:=fun x F y=>by kernel_rfl
theorem LS:II.ok prog 184:=Ctr.of_den (au (b6)) aV (hl:=ao) (d:=4) func184 rfl (by decide) (Qx lpK jnK)
def fI (_:Lp) (jn:Jn) (aw:FN) (x0:Bool×Int×Int) (x1:Bool×Int×Int):Option (Bool×Int×Int) :=
 
 let v4:Bool:=!x0.1;
 let v5:Bool:=!x1.1;
 let v6:Bool:=!v4;
 let v7:Bool:=v4&&v5;
 let v8:Bool:=v6||v4;
 let v9:Bool:=!v7;
 let v10:Bool:=v9||v7;
 let v11:Bool:=!decide (x1.2.1=0);
 let v12:Bool:=v7&&!v11;
 let v13:Bool:=decide ((0:Int)≤0)&&decide ((0:Int)≤1);
 let v14:Bool:=!v12||v12;bif !decide (x0.1=x1.1) then bif v13 then bif decide (0≤nH x0.2.2 x1.2.2 0)&&decide (nH x0.2.2 x1.2.2 (0 : Int)≤1) then bif v8 then bif v8 then bif v8 then bif v10 then bif v10 then bif v10 then bif v14 then bif v14 then bif (v9||v10)&&(v9||(v11||(v9||v12))) then bif (v6 || v8)&&(v6||(!v5||(v6||v7))) then bif x0.1||v4 then some (bif x0.1 then true else bif v5 then bif v11 then true else !decide (x1.2.2=0) else false,vO x0.2.1 x1.2.1 (nH x0.2.2 x1.2.2 0),vO x0.2.2 x1.2.2 0) else none else none else none else none else none else none else none else none else none else none else none else none else none else af (aw x0 x1) fun (t:Int)=>jn (Bool×(Bool×Int×Int)×(Bool×Int×Int)×PUnit) (Bool×Int×Int) (fun (x:Bool×(Bool×Int×Int)×(Bool×Int×Int)×PUnit) =>
 let v17:Bool:=!x.1;
 let v18:Bool:=v17||x.1;
 let v19:Bool:=!decide (sk x.2.1.2.1 x.2.2.1.2.1 (l9 x.2.1.2.2 x.2.2.1.2.2 0)=0);
 let v20:Bool:=x.1&&!v19;bif v13 then bif decide (0≤l9 x.2.1.2.2 x.2.2.1.2.2 0)&&decide (l9 x.2.1.2.2 x.2.2.1.2.2 (0 : Int)≤1) then bif v18 then bif v18 then bif !v20||v20 then bif (v17||v18)&&(v17||(v19||(v17||v20))) then bif v18 then some (bif x.1 then bif v19 then true else !decide (sk x.2.1.2.2 x.2.2.1.2.2 0=0) else false,sk x.2.1.2.1 x.2.2.1.2.1 (l9 x.2.1.2.2 x.2.2.1.2.2 (0 : Int)),sk x.2.1.2.2 x.2.2.1.2.2 0) else none else none else none else none else none else none else none) fun (j:Bool×(Bool×Int×Int)×(Bool×Int × Int)×PUnit→Option (Bool×Int×Int))=>bif decide (t<0) then j (v4,x1,x0,PUnit.unit) else j (x0.1,x0,x1,PUnit.unit)
def bo (x0:Bool×Int×Int) (x1:Bool×Int×Int):Option (Bool×Int×Int):=fI lpK jnK aw x0 x1
abbrev NF:=(Bool×Int×Int)→(Bool×Int×Int)→Option (Bool×Int×Int)
def N7 (bo:NF):Ctr:=⟨[ry,ry],[],[],.one ry,fun x _ _=>bo x.1 x.2.1⟩
def IG:Ctr:=N7 bo
theorem Qc (lp:Lp) (jn:Jn) (aw:FN):∀(x:TsS IG.as) (F:TsF IG.fs) (y:TsS IG.cs),fI lp jn aw x.1 x.2.1=cd lp jn (cx [(184,Ms aw)] [(134,bH)]) ao 4 176 f176 IG x F y:=fun x F y=>by kernel_rfl
theorem NV:IG.ok prog 176:=Ctr.of_den (au (ai (b6) (by kernel_rfl) LS)) aV (hl:=ao) (d:=4) func176 rfl (by decide) (Qc lpK jnK aw)
def fS (_:Lp) (_:Jn) (ct:He) (x0:Bool×Int×Int) (x1:Int):Option Int :=
 af (ct x0.2.1 x0.2.2 (IntKind.wrap .u64 x1)) fun (t:Int×Int×PUnit) =>
 let v5:Int:=IntKind.wrap .i64 t.1;bif x0.1 then some (IntKind.wrap .i64 (0 - v5)) else some v5
def bG (x0:Bool×Int×Int) (x1:Int):Option Int:=fS lpK jnK ct x0 x1
abbrev N5:=(Bool×Int×Int)→(Int)→Option (Int)
def IU:Ctr:=⟨[ry,i64],[],[],.one i64,fun x _ _=>bG x.1 x.2.1⟩
theorem QO (lp:Lp) (jn:Jn) (ct:He):∀(x:TsS IU.as) (F:TsF IU.fs) (y:TsS IU.cs),fS lp jn ct x.1 x.2.1=cd lp jn (cx [(125,Md ct)] [(134,bH)]) ao 4 177 f177 IU x F y:=fun x F y=>by kernel_rfl
theorem Pq:IU.ok prog 177:=Ctr.of_den (au (ai (b6) (by kernel_rfl) LO)) aV (hl:=ao) (d:=4) func177 rfl (by decide) (QO lpK jnK ct)
def gv (lp:Lp) (_:Jn) (bq:FX) (bo:NF) (bG:N5) (x0:List Nat×List (Option (List Int))) (x1:Int) (x2:List Int) (x3:List Int) (x4:List Int) (x5:Int) (x6:Int) (x7:Int) (x8:Int):Option ((List Nat×List (Option (List Int)))×Int×(List Int)×(List Int)×(List Int)×Int×Int×Unit) :=
 
 let v11:List Int×List Int×List Int×Int×Int×PUnit:=(x2.set x7.toNat x8,x3,x4,x5,x6,PUnit.unit);bif inB x7 x0.1.length then bif Nat.ble (Nat.succ x7.toNat) x0.1.length then bif inB x8 (List.length (ah x0.2 (x0.1.getD x7.toNat 0))) then bif Nat.ble (Nat.succ x8.toNat) (List.length (ah x0.2 (x0.1.getD x7.toNat 0))) then lp (Int×(List Nat×List (Option (List Int)))×PUnit) ((List Nat×List (Option (List Int)))×Int×List Int×List Int×List Int×Int×Int×PUnit) (fun (again:Int×(List Nat×List (Option (List Int)))×PUnit→Option ((List Nat×List (Option (List Int)))×Int×List Int×List Int×List Int×Int×Int×PUnit)) (x:Int×(List Nat×List (Option (List Int)))×PUnit) =>
 let v14:Int:=IntKind.wrap .i64 (x.1+1);
 let v15:(List Nat×List (Option (List Int)))×PUnit:=(x.2.1,PUnit.unit);
 let v16:Int×(List Nat×List (Option (List Int)))×PUnit:=(0,v15);bif decide (x.1<(↑x0.1.length:Int)) then bif inB x.1 x.2.1.1.length then bif Nat.ble (Nat.succ x.1.toNat) x.2.1.1.length then bif decide (x.1=x7) then again (v14,v15) else bif inB x8 (List.length (ah x.2.1.2 (x.2.1.1.getD x.1.toNat 0))) then bif Nat.ble (Nat.succ x8.toNat) (List.length (ah x.2.1.2 (x.2.1.1.getD x.1.toNat 0))) then bif eB x.2.1.2 (x.2.1.1.getD x.1.toNat 0) then lp (Int×(List Nat×List (Option (List Int)))×PUnit) ((List Nat×List (Option (List Int)))×Int × List Int×List Int×List Int×Int×Int×PUnit) (fun (again_1:Int×(List Nat×List (Option (List Int)))×PUnit→Option ((List Nat×List (Option (List Int)))×Int×List Int × List Int×List Int×Int×Int×PUnit)) (x_1:Int×(List Nat×List (Option (List Int)))×PUnit)=>bif decide (x_1.1<(↑(List.length (ah x.2.1.2 (x.2.1.1.getD x.1.toNat 0))):Int)) then bif inB x_1.1 (List.length (ah x_1.2.1.2 (x.2.1.1.getD x.1.toNat 0))) then bif Nat.ble (Nat.succ x_1.1.toNat) (List.length (ah x_1.2.1.2 (x.2.1.1.getD x.1.toNat 0))) then af (bq (List.getD (ah x_1.2.1.2 (x.2.1.1.getD x.1.toNat 0)) x_1.1.toNat 0) (List.getD (ah x0.2 (x0.1.getD x7.toNat 0)) x8.toNat 0)) fun (t:Bool×Int×Int)=>bif inB x7 x_1.2.1.1.length then bif Nat.ble (Nat.succ x7.toNat) x_1.2.1.1.length then bif inB x_1.1 (List.length (ah x_1.2.1.2 (x_1.2.1.1.getD x7.toNat 0))) then bif Nat.ble (Nat.succ x_1.1.toNat) (List.length (ah x_1.2.1.2 (x_1.2.1.1.getD x7.toNat 0))) then af (bq (List.getD (ah x.2.1.2 (x.2.1.1.getD x.1.toNat 0)) x8.toNat 0) (List.getD (ah x_1.2.1.2 (x_1.2.1.1.getD x7.toNat 0)) x_1.1.toNat 0)) fun (t_1:Bool×Int×Int)=>af (bo t t_1) fun (t:Bool × Int×Int)=>af (bG t x1) fun (t:Int)=>bif inB x_1.1 (List.length (ah x_1.2.1.2 (x.2.1.1.getD x.1.toNat 0))) then bif Nat.ble (Nat.succ x_1.1.toNat) (List.length (ah x_1.2.1.2 (x.2.1.1.getD x.1.toNat 0))) then again_1 (IntKind.wrap .i64 (x_1.1+(1 : Int)),(x_1.2.1.1,x_1.2.1.2.set (x.2.1.1.getD x.1.toNat 0) (some (List.set (ah x_1.2.1.2 (x.2.1.1.getD x.1.toNat 0)) x_1.1.toNat t))),PUnit.unit) else none else none else none else none else none else none else none else none else again (v14,x_1.2.1,PUnit.unit)) v16 else none else none else none else none else none else bif inB x7 x2.length then bif Nat.ble (Nat.succ x7.toNat) x2.length then bif decide (List.getD (ah x0.2 (x0.1.getD x7.toNat 0)) x8.toNat 0<0) then lp (Int×(List Nat×List (Option (List Int)))×PUnit) ((List Nat×List (Option (List Int))) × Int×List Int×List Int×List Int×Int×Int×PUnit) (fun (again:Int×(List Nat×List (Option (List Int)))×PUnit→Option ((List Nat×List (Option (List Int)))×Int×List Int×List Int×List Int×Int×Int×PUnit)) (x_1:Int×(List Nat×List (Option (List Int)))×PUnit)=>bif decide (x_1.1<(↑x.2.1.1.length:Int)) then bif inB x_1.1 x_1.2.1.1.length then bif Nat.ble (Nat.succ x_1.1.toNat) x_1.2.1.1.length then bif eB x_1.2.1.2 (x_1.2.1.1.getD x_1.1.toNat 0) then lp (Int×(List Nat×List (Option (List Int)))×PUnit) ((List Nat×List (Option (List Int)))×Int×List Int×List Int×List Int×Int×Int×PUnit) (fun (again_1:Int×(List Nat×List (Option (List Int)))×PUnit→Option ((List Nat×List (Option (List Int)))×Int×List Int×List Int×List Int×Int×Int×PUnit)) (x:Int × (List Nat×List (Option (List Int)))×PUnit)=>bif decide (x.1<(↑(List.length (ah x_1.2.1.2 (x_1.2.1.1.getD x_1.1.toNat 0))):Int)) then bif inB x.1 (List.length (ah x.2.1.2 (x_1.2.1.1.getD x_1.1.toNat 0))) then bif Nat.ble (Nat.succ x.1.toNat) (List.length (ah x.2.1.2 (x_1.2.1.1.getD x_1.1.toNat 0))) then bif inB x.1 (List.length (ah x.2.1.2 (x_1.2.1.1.getD x_1.1.toNat 0))) then bif Nat.ble (Nat.succ x.1.toNat) (List.length (ah x.2.1.2 (x_1.2.1.1.getD x_1.1.toNat 0))) then again_1 (IntKind.wrap .i64 (x.1+(1 : Int)),(x.2.1.1,x.2.1.2.set (x_1.2.1.1.getD x_1.1.toNat 0) (some (List.set (ah x.2.1.2 (x_1.2.1.1.getD x_1.1.toNat 0)) x.1.toNat (IntKind.wrap .i64 (0 - List.getD (ah x.2.1.2 (x_1.2.1.1.getD x_1.1.toNat 0)) x.1.toNat 0))))),PUnit.unit) else none else none else none else none else again (IntKind.wrap .i64 (x_1.1+1),x.2.1,PUnit.unit)) (0,x_1.2.1, PUnit.unit) else none else none else none else some (x_1.2.1,IntKind.wrap .i64 (0 - List.getD (ah x0.2 (x0.1.getD x7.toNat 0)) x8.toNat 0),v11)) v16 else some (x.2.1,List.getD (ah x0.2 (x0.1.getD x7.toNat 0)) x8.toNat 0,v11) else none else none) (0,x0, PUnit.unit) else none else none else none else none
def aE (x0:List Nat×List (Option (List Int))) (x1:Int) (x2:List Int) (x3:List Int) (x4:List Int) (x5:Int) (x6:Int) (x7:Int) (x8:Int):Option ((List Nat×List (Option (List Int)))×Int×(List Int)×(List Int)×(List Int)×Int×Int×Unit):=gv lpK jnK bq bo bG x0 x1 x2 x3 x4 x5 x6 x7 x8
abbrev GL:=(List Nat×List (Option (List Int)))→(Int)→(List Int)→(List Int)→(List Int)→(Int)→(Int)→(Int)→(Int)→Option ((List Nat×List (Option (List Int)))×Int×(List Int)×(List Int)×(List Int)×Int×Int×Unit)
def MH (aE:GL):SCtr:=⟨[.b [.x (.tab 29 .ref 3 i64),.d i64,.row 3 i64,.row 3 i64,.row 3 i64,.d i64,.d i64],.d i64,.d i64],[],fun x=>aE x.1 x.2.1 x.2.2.1 x.2.2.2.1 x.2.2.2.2.1 x.2.2.2.2.2.1 x.2.2.2.2.2.2.1 x.2.2.2.2.2.2.2.1 x.2.2.2.2.2.2.2.2.1⟩
def MG:SCtr:=MH aE
theorem Qg (lp:Lp) (jn:Jn) (bq:FX) (bo:NF) (bG:N5):∀x:TsR (rhI 0 MG.ks),gv lp jn bq bo bG x.1 x.2.1 x.2.2.1 x.2.2.2.1 x.2.2.2.2.1 x.2.2.2.2.2.1 x.2.2.2.2.2.2.1 x.2.2.2.2.2.2.2.1 x.2.2.2.2.2.2.2.2.1=HC lp jn (Dn.look []) (cx [(177,⟨[ry,i64],[],[],.one i64,fun x _ _=>bG x.1 x.2.1⟩),(176,N7 bo),(175,NC bq)] [(134,bH)]) ao 4 157 f157 MG x:=fun x=>by kernel_rfl
theorem LK:MG.ok prog 157:=SCtr.of_den (au (ai (ai (ai (b6) (by kernel_rfl) Mb) (by kernel_rfl) NV) (by kernel_rfl) Pq)) aV (nX) (hl:=ao) (d:=4) func157 rfl (by decide) (Qg lpK jnK bq bo bG)
open Tryz Dn Dn.Sh
set_option maxRecDepth 100000
def gn (_:Lp) (_:Jn) (aw:FN) (x0:Bool×Int×Int) (x1:Bool×Int×Int):Option Int :=
 
 let v4:Bool:=!decide (x0.1=x1.1);
 let v5:Bool:=!v4||v4;bif v5 then bif v5 then bif bif v4 then x0.1 else false then some (-1) else bif v4 then some 1 else bif x0.1 then af (aw x1 x0) fun (t:Int)=>some t else af (aw x0 x1) fun (t:Int)=>some t else none else none
def b9 (x0:Bool×Int×Int) (x1:Bool×Int×Int):Option Int:=gn lpK jnK aw x0 x1
abbrev Pe:=(Bool×Int×Int)→(Bool×Int×Int)→Option (Int)
def Gq:Ctr:=⟨[ry,ry],[],[],.one i64,fun x _ _=>b9 x.1 x.2.1⟩
theorem Qh (lp:Lp) (jn:Jn) (aw:FN):∀(x:TsS Gq.as) (F:TsF Gq.fs) (y:TsS Gq.cs),gn lp jn aw x.1 x.2.1=cd lp jn (cx [(184,Ms aw)] [(134,bH)]) ao 4 178 f178 Gq x F y:=fun x F y=>by kernel_rfl
theorem Pr:Gq.ok prog 178:=Ctr.of_den (au (ai (b6) (by kernel_rfl) LS)) aV (hl:=ao) (d:=4) func178 rfl (by decide) (Qh lpK jnK aw)
def fG (lp:Lp) (_:Jn) (bq:FX) (b9:Pe) (x0:(List (List Int))×Int×(List Int)×(List Int)×(List Int)×Int×Int) (x1:Int):Option Int :=
 lp (Int×Int×PUnit) Int (fun (again:Int×Int×PUnit→Option Int) (x:Int×Int×PUnit) =>
 let v6:Int×PUnit:=(IntKind.wrap .i64 (x.2.1+1),PUnit.unit);
 let v7:Bool:=inB x.1 x0.1.length;
 let v8:List Int:=x0.1.getD x.1.toNat [];
 let v9:List Int:=x0.1.getD x.2.1.toNat [];
 let v10:Bool:=inB x1 v9.length;bif decide (x.2.1<(↑x0.1.length:Int)) then bif inB x.2.1 x0.1.length then bif v10 then bif decide (v9.getD x1.toNat 0≤0) then again (x.1,v6) else bif decide (x.1<0) then again (x.2.1,v6) else bif inB x0.2.2.2.2.2.2 v9.length then bif v7 then bif inB x1 v8.length then af (bq (v9.getD x0.2.2.2.2.2.2.toNat 0) (v8.getD x1.toNat 0)) fun (t:Bool × Int×Int)=>bif v7 then bif inB x0.2.2.2.2.2.2 v8.length then bif v10 then af (bq (v8.getD x0.2.2.2.2.2.2.toNat 0) (v9.getD x1.toNat 0)) fun (t_1:Bool×Int×Int)=>af (b9 t t_1) fun (t:Int) =>
 let v14:Bool:=decide (t=0);
 let v15:Bool:=decide (t<0);
 let v16:Bool:=!v15;
 let v17:Bool:=!v16;
 let v18:Bool:=v16&&v14;
 let v19:Bool:=!v18;
 let v20:Bool:=v17||v16;
 let v21:Bool:=v19||v18;bif v20 then bif v20 then bif v21 then bif v21 then bif v21 then bif v21&&(v21&&(v19||inB x.2.1 x0.2.2.1.length)) then bif v21 then bif v21 then bif v21 then bif v21 then bif v21&&(v21&&(v19||inB x.1 x0.2.2.1.length)) then bif v21 then bif v21&&v21 then bif (v17||v20)&&(v17||(!v14 || (v17||v18))) then bif v15||v16 then bif bif v15 then true else bif v14 then decide (x0.2.2.1.getD x.2.1.toNat 0<x0.2.2.1.getD x.1.toNat 0) else false then again (x.2.1,v6) else again (x.1,v6) else none else none else none else none else none else none else none else none else none else none else none else none else none else none else none else none else none else none else none else none else none else none else none else some x.1) ((-1),0,PUnit.unit)
def aA (x0:(List (List Int))×Int×(List Int)×(List Int)×(List Int)×Int×Int) (x1:Int):Option Int:=fG lpK jnK bq b9 x0 x1
abbrev Hv:=((List (List Int))×Int×(List Int)×(List Int)×(List Int)×Int×Int)→(Int)→Option (Int)
def Mn (aA:Hv):PCtr:=⟨D5,[i64],.one i64,fun x y=>aA x y.1⟩
def J4:PCtr:=Mn aA
theorem Qw (lp:Lp) (jn:Jn) (bq:FX) (b9:Pe):∀(x:J4.s.T) (y:TsS J4.as),fG lp jn bq b9 x y.1=BA lp jn (cx [(178,⟨[ry,ry],[],[],.one i64,fun x _ _=>b9 x.1 x.2.1⟩),(175,NC bq)] [(134,bH)]) ao 4 158 f158 J4 x y:=fun x y=>by kernel_rfl
theorem L3:J4.ok prog 158:=PCtr.of_den (au (ai (ai (b6) (by kernel_rfl) Mb) (by kernel_rfl) Pr)) aV (hl:=ao) (d:=4) func158 rfl (by decide) (Qw lpK jnK bq b9)
def gp (lp:Lp) (_:Jn) (aE:GL) (av:GV) (aA:Hv) (x0:List Nat×List (Option (List Int))) (x1:Int) (x2:List Int) (x3:List Int) (x4:List Int) (x5:Int) (x6:Int):Option ((List Nat×List (Option (List Int)))×Int×(List Int)×(List Int)×(List Int)×Int×Int×Bool×Unit) :=
 lp ((List Nat×List (Option (List Int)))×Int×List Int×List Int×List Int×Int×Int×PUnit) ((List Nat×List (Option (List Int)))×Int×List Int×List Int×List Int×Int × Int×Bool×PUnit) (fun (again:(List Nat×List (Option (List Int)))×Int×List Int×List Int×List Int×Int×Int×PUnit→Option ((List Nat×List (Option (List Int)))×Int × List Int×List Int×List Int×Int×Int×Bool×PUnit)) (x:(List Nat×List (Option (List Int)))×Int×List Int×List Int×List Int×Int×Int×PUnit)=>lp (Int×Int × PUnit) ((List Nat×List (Option (List Int)))×Int×List Int×List Int×List Int×Int×Int×Bool×PUnit) (fun (again_1:Int×Int×PUnit→Option ((List Nat×List (Option (List Int)))×Int×List Int×List Int×List Int×Int×Int×Bool×PUnit)) (x_1:Int×Int×PUnit) =>
 let v13:Bool:=decide (x_1.1<0);
 let v14:Int×PUnit:=(IntKind.wrap .i64 (x_1.2.1+1),PUnit.unit);
 let v15:Bool:=decide (x_1.2.1<x.2.2.2.2.2.1);
 let v16:Bool:=!v15||v15;bif v16 then bif v16 then bif bif v15 then v13 else false then af (bif List.all x.1.1 fun (x_2:Nat)=>eB x.1.2 x_2 then av (List.map (fun (x_2:Nat)=>ah x.1.2 x_2) x.1.1,x.2.1,x.2.2.1,x.2.2.2.1,x.2.2.2.2.1,x.2.2.2.2.2.1, x.2.2.2.2.2.2.1) x_1.2.1 else none) fun (t:Int)=>bif decide (t>0) then again_1 (x_1.2.1,v14) else again_1 (x_1.1,v14) else bif v13 then af (bif List.all x.1.1 fun (x_2:Nat)=>eB x.1.2 x_2 then av (List.map (fun (x_2:Nat)=>ah x.1.2 x_2) x.1.1,x.2.1,x.2.2.1, x.2.2.2.1,x.2.2.2.2.1,x.2.2.2.2.2.1,x.2.2.2.2.2.2.1) x.2.2.2.2.2.2.1 else none) fun (t:Int)=>bif decide (t>0) then some (x.1,x.2.1,x.2.2.1,x.2.2.2.1,x.2.2.2.2.1,x.2.2.2.2.2.1,x.2.2.2.2.2.2.1,false,PUnit.unit) else lp (Int×(List Nat×List (Option (List Int)))×Int×List Int×List Int×List Int×Int×Int×PUnit) ((List Nat×List (Option (List Int)))×Int×List Int×List Int×List Int×Int×Int × Bool×PUnit) (fun (again:Int×(List Nat×List (Option (List Int)))×Int×List Int×List Int×List Int×Int×Int×PUnit→Option ((List Nat×List (Option (List Int)))×Int × List Int×List Int×List Int×Int×Int×Bool×PUnit)) (x_2:Int×(List Nat×List (Option (List Int)))×Int×List Int×List Int×List Int×Int×Int×PUnit)=>bif decide (x_2.1<(↑x.1.1.length:Int)) then lp (Int×(List Nat×List (Option (List Int)))×Int×List Int×List Int×List Int×Int×Int×PUnit) ((List Nat×List (Option (List Int)))×Int×List Int×List Int×List Int×Int×Int×Bool×PUnit) (fun (again_2:Int×(List Nat×List (Option (List Int)))×Int×List Int×List Int×List Int×Int×Int×PUnit→Option ((List Nat×List (Option (List Int)))×Int×List Int×List Int×List Int×Int×Int×Bool×PUnit)) (x:Int×(List Nat×List (Option (List Int)))×Int×List Int×List Int×List Int×Int×Int×PUnit) =>
 let v22:Int:=IntKind.wrap .i64 (x.1+1);
 let v23:Bool:=decide (x.1<x.2.2.2.2.2.2.1);
 let v24:Bool:=!v23;
 let v25:Bool:=v24||v23;
 let v26:(List Nat×List (Option (List Int)))×Int×List Int×List Int×List Int×Int×Int×PUnit:=(x.2.1,x.2.2.1,x.2.2.2.1,x.2.2.2.2.1, x.2.2.2.2.2.1,x.2.2.2.2.2.2.1,x.2.2.2.2.2.2.2.1,PUnit.unit);bif v25 then bif v25 then bif v25 then bif v25&&(v25&&(v24||inB x_2.1 x.2.2.2.1.length)) then bif v25&&(v24||Nat.ble (Nat.succ x_2.1.toNat) x.2.2.2.1.length) then bif v25 then bif v25 then bif v25 then bif v25 && v25 then bif v25 then bif bif v23 then decide (x.2.2.2.1.getD x_2.1.toNat 0≥x.2.2.2.2.2.2.1) else false then bif inB x_2.1 x.2.1.1.length then bif Nat.ble (Nat.succ x_2.1.toNat) x.2.1.1.length then bif inB x.1 (List.length (ah x.2.1.2 (x.2.1.1.getD x_2.1.toNat 0))) then bif Nat.ble (Nat.succ x.1.toNat) (List.length (ah x.2.1.2 (x.2.1.1.getD x_2.1.toNat 0))) then bif !decide (List.getD (ah x.2.1.2 (x.2.1.1.getD x_2.1.toNat 0)) x.1.toNat 0=0) then af (aE x.2.1 x.2.2.1 x.2.2.2.1 x.2.2.2.2.1 x.2.2.2.2.2.1 x.2.2.2.2.2.2.1 x.2.2.2.2.2.2.2.1 x_2.1 x.1) fun (y:(List Nat×List (Option (List Int)))×Int×List Int×List Int×List Int×Int×Int×PUnit)=>again_2 (v22,y.1,y.2.1,y.2.2.1,y.2.2.2.1,y.2.2.2.2.1,y.2.2.2.2.2.1, y.2.2.2.2.2.2.1,PUnit.unit) else again_2 (v22,v26) else none else none else none else none else again (IntKind.wrap .i64 (x_2.1+1),v26) else none else none else none else none else none else none else none else none else none else none) (0,x_2.2.1,x_2.2.2.1,x_2.2.2.2.1,x_2.2.2.2.2.1, x_2.2.2.2.2.2.1,x_2.2.2.2.2.2.2.1,x_2.2.2.2.2.2.2.2.1,PUnit.unit) else some (x_2.2.1,x_2.2.2.1,x_2.2.2.2.1, x_2.2.2.2.2.1,x_2.2.2.2.2.2.1,x_2.2.2.2.2.2.2.1,x_2.2.2.2.2.2.2.2.1,true,PUnit.unit)) (0,x.1,x.2.1, x.2.2.1,x.2.2.2.1,x.2.2.2.2.1,x.2.2.2.2.2.1,x.2.2.2.2.2.2.1,PUnit.unit) else af (bif List.all x.1.1 fun (x_2:Nat) => eB x.1.2 x_2 then aA (List.map (fun (x_2:Nat)=>ah x.1.2 x_2) x.1.1,x.2.1,x.2.2.1,x.2.2.2.1,x.2.2.2.2.1, x.2.2.2.2.2.1,x.2.2.2.2.2.2.1) x_1.1 else none) fun (t:Int)=>af (aE x.1 x.2.1 x.2.2.1 x.2.2.2.1 x.2.2.2.2.1 x.2.2.2.2.2.1 x.2.2.2.2.2.2.1 t x_1.1) fun (y:(List Nat×List (Option (List Int)))×Int×List Int×List Int×List Int×Int × Int×PUnit)=>again (y.1,y.2.1,y.2.2.1,y.2.2.2.1,y.2.2.2.2.1,y.2.2.2.2.2.1,y.2.2.2.2.2.2.1,PUnit.unit) else none else none) ((-1),0,PUnit.unit)) (x0,x1,x2,x3,x4,x5,x6,PUnit.unit)
def aL (x0:List Nat×List (Option (List Int))) (x1:Int) (x2:List Int) (x3:List Int) (x4:List Int) (x5:Int) (x6:Int):Option ((List Nat×List (Option (List Int)))×Int×(List Int)×(List Int)×(List Int)×Int×Int×Bool×Unit):=gp lpK jnK aE av aA x0 x1 x2 x3 x4 x5 x6
abbrev Gl:=(List Nat×List (Option (List Int)))→(Int)→(List Int)→(List Int)→(List Int)→(Int)→(Int)→Option ((List Nat×List (Option (List Int)))×Int×(List Int)×(List Int)×(List Int)×Int×Int×Bool×Unit)
def MP (aL:Gl):SCtr:=⟨[.b [.x (.tab 29 .ref 3 i64),.d i64,.row 3 i64,.row 3 i64,.row 3 i64,.d i64,.d i64]],[(false,[.d .bool])],fun x=>aL x.1 x.2.1 x.2.2.1 x.2.2.2.1 x.2.2.2.2.1 x.2.2.2.2.2.1 x.2.2.2.2.2.2.1⟩
def MC:SCtr:=MP aL
theorem Qs (lp:Lp) (jn:Jn) (aE:GL) (av:GV) (aA:Hv):∀x:TsR (rhI 0 MC.ks),gp lp jn aE av aA x.1 x.2.1 x.2.2.1 x.2.2.2.1 x.2.2.2.2.1 x.2.2.2.2.2.1 x.2.2.2.2.2.2.1=HC lp jn (Dn.look [(157,MH aE)]) (yk AR An (BV [(158,Mn aA),(126,NJ av)] [] (jP prog shs vo its [] [(134,bH)]))) ao 4 110 f110 MC x:=fun x=>by kernel_rfl
theorem LW:MC.ok prog 110:=SCtr.of_den (au (oT (b6) (gO (by kernel_rfl) L3 (gO (by kernel_rfl) L7 (mj))) (mv))) aV (mf LK (nX)) (hl:=ao) (d:=4) func110 rfl (by decide) (Qs lpK jnK aE av aA)
def gD (_:Lp) (_:Jn) (x0:(List (List Int))×Int×(List Int)×(List Int)×(List Int)×Int×Int) (x1:Int):Option Int :=
 bif decide (x1<(↑x0.2.2.2.2.1.length:Int)) then bif inB x1 x0.2.2.2.2.1.length then some (x0.2.2.2.2.1.getD x1.toNat 0) else none else some 0
def aF (x0:(List (List Int))×Int×(List Int)×(List Int)×(List Int)×Int×Int) (x1:Int):Option Int:=gD lpK jnK x0 x1
abbrev Ji:=((List (List Int))×Int×(List Int)×(List Int)×(List Int)×Int×Int)→(Int)→Option (Int)
def MT (aF:Ji):PCtr:=⟨D5,[i64],.one i64,fun x y=>aF x y.1⟩
def JD:PCtr:=MT aF
theorem Qu (lp:Lp) (jn:Jn):∀(x:JD.s.T) (y:TsS JD.as),gD lp jn x y.1=BA lp jn (cx [] [(134,bH)]) ao 4 112 f112 JD x y:=fun x y=>by kernel_rfl
theorem LN:JD.ok prog 112:=PCtr.of_den (au (b6)) aV (hl:=ao) (d:=4) func112 rfl (by decide) (Qu lpK jnK)
def fH (lp:Lp) (_:Jn) (aF:Ji) (x0:(List (List Int))×Int×(List Int)×(List Int)×(List Int)×Int×Int) (x1:Int):Option Int :=
 af (aF x0 x1) fun (t:Int)=>lp (Int×Int×PUnit) Int (fun (again:Int×Int×PUnit→Option Int) (x:Int×Int×PUnit) =>
 let v7:List Int:=x0.1.getD x.2.1.toNat [];bif decide (x.2.1<(↑x0.1.length:Int)) then bif inB x.2.1 x0.1.length then bif inB x.2.1 x0.2.2.1.length then af (aF x0 (x0.2.2.1.getD x.2.1.toNat 0)) fun (t:Int)=>bif inB x1 v7.length then again (IntKind.wrap .i64 (x.1 - IntKind.wrap .i64 (t*v7.getD x1.toNat 0)),IntKind.wrap .i64 (x.2.1+1),PUnit.unit) else none else none else none else some x.1) (IntKind.wrap .i64 (t*x0.2.1),0,PUnit.unit)
def bx (x0:(List (List Int))×Int×(List Int)×(List Int)×(List Int)×Int×Int) (x1:Int):Option Int:=fH lpK jnK aF x0 x1
abbrev Oa:=((List (List Int))×Int×(List Int)×(List Int)×(List Int)×Int×Int)→(Int)→Option (Int)
def Kl:PCtr:=⟨D5,[i64],.one i64,fun x y=>bx x y.1⟩
theorem PU (lp:Lp) (jn:Jn) (aF:Ji):∀(x:Kl.s.T) (y:TsS Kl.as),fH lp jn aF x y.1=BA lp jn (yk AR An (BV [(112,MT aF)] [] (jP prog shs vo its [] [(134,bH)]))) ao 4 159 f159 Kl x y:=fun x y=>by kernel_rfl
theorem Oc:Kl.ok prog 159:=PCtr.of_den (au (oT (b6) (gO (by kernel_rfl) LN (mj)) (mv))) aV (hl:=ao) (d:=4) func159 rfl (by decide) (PU lpK jnK aF)
def fD (lp:Lp) (_:Jn) (aE:GL) (aA:Hv) (bx:Oa) (x0:List Nat×List (Option (List Int))) (x1:Int) (x2:List Int) (x3:List Int) (x4:List Int) (x5:Int) (x6:Int):Option ((List Nat×List (Option (List Int)))×Int×(List Int)×(List Int)×(List Int)×Int×Int×Bool×Unit) :=
 lp ((List Nat×List (Option (List Int)))×Int×List Int×List Int×List Int×Int×Int×PUnit) ((List Nat×List (Option (List Int)))×Int×List Int×List Int×List Int×Int × Int×Bool×PUnit) (fun (again:(List Nat×List (Option (List Int)))×Int×List Int×List Int×List Int×Int×Int×PUnit→Option ((List Nat×List (Option (List Int)))×Int × List Int×List Int×List Int×Int×Int×Bool×PUnit)) (x:(List Nat×List (Option (List Int)))×Int×List Int×List Int×List Int×Int×Int×PUnit)=>lp (Int×Int × PUnit) ((List Nat×List (Option (List Int)))×Int×List Int×List Int×List Int×Int×Int×Bool×PUnit) (fun (again_1:Int×Int×PUnit→Option ((List Nat×List (Option (List Int)))×Int×List Int×List Int×List Int×Int×Int×Bool×PUnit)) (x_1:Int×Int×PUnit) =>
 let v13:Bool:=decide (x_1.1<0);
 let v14:Int×PUnit:=(IntKind.wrap .i64 (x_1.2.1+1),PUnit.unit);
 let v15:Bool:=decide (x_1.2.1<x.2.2.2.2.2.1);
 let v16:Bool:=!v15||v15;bif v16 then bif v16 then bif bif v15 then v13 else false then af (bif List.all x.1.1 fun (x_2:Nat)=>eB x.1.2 x_2 then bx (List.map (fun (x_2:Nat)=>ah x.1.2 x_2) x.1.1,x.2.1,x.2.2.1,x.2.2.2.1,x.2.2.2.2.1,x.2.2.2.2.2.1, x.2.2.2.2.2.2.1) x_1.2.1 else none) fun (t:Int)=>bif decide (t<0) then again_1 (x_1.2.1,v14) else again_1 (x_1.1,v14) else bif v13 then some (x.1,x.2.1,x.2.2.1,x.2.2.2.1,x.2.2.2.2.1,x.2.2.2.2.2.1,x.2.2.2.2.2.2.1,true,PUnit.unit) else af (bif List.all x.1.1 fun (x_2:Nat)=>eB x.1.2 x_2 then aA (List.map (fun (x_2:Nat)=>ah x.1.2 x_2) x.1.1,x.2.1,x.2.2.1,x.2.2.2.1, x.2.2.2.2.1,x.2.2.2.2.2.1,x.2.2.2.2.2.2.1) x_1.1 else none) fun (t:Int)=>bif decide (t<0) then some (x.1,x.2.1, x.2.2.1,x.2.2.2.1,x.2.2.2.2.1,x.2.2.2.2.2.1,x.2.2.2.2.2.2.1,false,PUnit.unit) else af (aE x.1 x.2.1 x.2.2.1 x.2.2.2.1 x.2.2.2.2.1 x.2.2.2.2.2.1 x.2.2.2.2.2.2.1 t x_1.1) fun (y:(List Nat×List (Option (List Int)))×Int×List Int × List Int×List Int×Int×Int×PUnit)=>again (y.1,y.2.1,y.2.2.1,y.2.2.2.1,y.2.2.2.2.1,y.2.2.2.2.2.1,y.2.2.2.2.2.2.1, PUnit.unit) else none else none) ((-1),0,PUnit.unit)) (x0,x1,x2,x3,x4,x5,x6,PUnit.unit)
def bp (x0:List Nat×List (Option (List Int))) (x1:Int) (x2:List Int) (x3:List Int) (x4:List Int) (x5:Int) (x6:Int):Option ((List Nat×List (Option (List Int)))×Int×(List Int)×(List Int)×(List Int)×Int×Int×Bool×Unit):=fD lpK jnK aE aA bx x0 x1 x2 x3 x4 x5 x6
abbrev MR:=(List Nat×List (Option (List Int)))→(Int)→(List Int)→(List Int)→(List Int)→(Int)→(Int)→Option ((List Nat×List (Option (List Int)))×Int×(List Int)×(List Int)×(List Int)×Int×Int×Bool×Unit)
def OV (bp:MR):SCtr:=⟨[.b [.x (.tab 29 .ref 3 i64),.d i64,.row 3 i64,.row 3 i64,.row 3 i64,.d i64,.d i64]],[(false,[.d .bool])],fun x=>bp x.1 x.2.1 x.2.2.1 x.2.2.2.1 x.2.2.2.2.1 x.2.2.2.2.2.1 x.2.2.2.2.2.2.1⟩
def Mo:SCtr:=OV bp
theorem PO (lp:Lp) (jn:Jn) (aE:GL) (aA:Hv) (bx:Oa):∀x:TsR (rhI 0 Mo.ks),fD lp jn aE aA bx x.1 x.2.1 x.2.2.1 x.2.2.2.1 x.2.2.2.2.1 x.2.2.2.2.2.1 x.2.2.2.2.2.2.1=HC lp jn (Dn.look [(157,MH aE)]) (yk AR An (BV [(159,⟨D5,[i64],.one i64,fun x y=>bx x y.1⟩),(158,Mn aA)] [] (jP prog shs vo its [] [(134,bH)]))) ao 4 111 f111 Mo x:=fun x=>by kernel_rfl
theorem Oh:Mo.ok prog 111:=SCtr.of_den (au (oT (b6) (gO (by kernel_rfl) Oc (gO (by kernel_rfl) L3 (mj))) (mv))) aV (mf LK (nX)) (hl:=ao) (d:=4) func111 rfl (by decide) (PO lpK jnK aE aA bx)
def nf (_:Lp) (_:Jn) (a9:t75) (aB:t77) (aZ:t82) (x0:Int) (x1:Int):Option ((Int×Int)×Int×Unit) :=
 
 let v4:Bool:=!decide (x0=0);
 let v5:Bool:=!v4||v4;bif decide (x1=0) then some ((0,0),16,PUnit.unit) else af (aB x0) fun (t:Int)=>af (aB x1) fun (t_1:Int)=>af (a9 t t_1) fun (t_2:Int) =>
 let v9:Bool:=nzB t_2;bif v5 then bif v5 then bif v5&&v5 then bif v5 then bif v9 then bif v9 then af (aZ (bif v4 then !decide (decide (x0<0)=decide (x1<(0 : Int))) else false) (IntKind.wrap .u64 (Int.tdiv t t_2)) (IntKind.wrap .u64 (Int.tdiv t_1 t_2))) fun (t:(Int×Int)×Int×PUnit)=>some (t.1,t.2.1, PUnit.unit) else none else none else none else none else none else none
def ep (x0:Int) (x1:Int):Option ((Int×Int)×Int×Unit):=nf lpK jnK a9 aB aZ x0 x1
abbrev Mt:=(Int)→(Int)→Option ((Int×Int)×Int×Unit)
def Oi (ep:Mt):Ctr:=⟨[i64,i64],[],[],.tup [T49,i64],fun x _ _=>ep x.1 x.2.1⟩
def F9:Ctr:=Oi ep
theorem Qf (lp:Lp) (jn:Jn) (a9:t75) (aB:t77) (aZ:t82):∀(x:TsS F9.as) (F:TsF F9.fs) (y:TsS F9.cs),nf lp jn a9 aB aZ x.1 x.2.1=cd lp jn (cx [(82,k82 aZ),(77,k77 aB),(75,k75 a9)] [(134,bH)]) ao 4 136 f136 F9 x F y:=fun x F y=>by kernel_rfl
theorem OA:F9.ok prog 136:=Ctr.of_den (au (ai (ai (ai (b6) (by kernel_rfl) JA) (by kernel_rfl) FY) (by kernel_rfl) ME)) aV (hl:=ao) (d:=4) func136 rfl (by decide) (Qf lpK jnK a9 aB aZ)
def gB (_:Lp) (_:Jn) (ep:Mt) (x0:(List (List Int))×Int×(List Int)×(List Int)×(List Int)×Int×Int) (x1:Int):Option (Int×Int) :=
 af (ep x1 x0.2.1) fun (t:(Int×Int)×Int×PUnit)=>some t.1
def aH (x0:(List (List Int))×Int×(List Int)×(List Int)×(List Int)×Int×Int) (x1:Int):Option (Int×Int):=gB lpK jnK ep x0 x1
abbrev Gv:=((List (List Int))×Int×(List Int)×(List Int)×(List Int)×Int×Int)→(Int)→Option (Int×Int)
def Mg (aH:Gv):PCtr:=⟨D5,[i64],.one T49,fun x y=>aH x y.1⟩
def KT:PCtr:=Mg aH
theorem PH (lp:Lp) (jn:Jn) (ep:Mt):∀(x:KT.s.T) (y:TsS KT.as),gB lp jn ep x y.1=BA lp jn (cx [(136,Oi ep)] [(134,bH)]) ao 4 113 f113 KT x y:=fun x y=>by kernel_rfl
theorem L8:KT.ok prog 113:=PCtr.of_den (au (ai (b6) (by kernel_rfl) OA)) aV (hl:=ao) (d:=4) func113 rfl (by decide) (PH lpK jnK ep)
def g9 (lp:Lp) (jn:Jn) (aU:t91) (bV:IQ) (aX:GT) (aL:Gl) (bp:MR) (aF:Ji) (aH:Gv) (x0:(List Int)×List ((List Int)×Int×Int)):Option (((Int×Int)×(List (Int×Int))×List (Int×Int))×Int×Unit) :=
 af (aU x0) fun (t:Bool)=>bif !t then some (((0,0),[],[]),1,PUnit.unit) else af (bV x0) fun (t:Bool)=>bif !t then some ((((0 : Int),0),[],[]),5,PUnit.unit) else lp (Int×Int×PUnit) (((Int×Int)×List (Int×Int)×List (Int×Int))×Int×PUnit) (fun (again:Int×Int×PUnit → Option (((Int×Int)×List (Int×Int)×List (Int×Int))×Int×PUnit)) (x:Int×Int×PUnit) =>
 let v7:Int×PUnit:=(IntKind.wrap .i64 (x.2.1+1),PUnit.unit);
 let v8:Int:=IntKind.wrap .i64 ((↑x0.1.length:Int)+x.1);bif decide (x.2.1<(↑x0.2.length:Int)) then bif inB x.2.1 x0.2.length then bif !decide ((x0.2.getD x.2.1.toNat ([],0,0)).2.1=3) then again (IntKind.wrap .i64 (x.1+1),v7) else again (x.1, v7) else none else af (aX x0.1) fun (t:List Int)=>lp (Int×Int×(List Nat×List (Option (List Int)))×Int×List Int×List Int×List Int×Int×Int × PUnit) (((Int×Int)×List (Int×Int)×List (Int×Int))×Int×PUnit) (fun (again:Int×Int×(List Nat×List (Option (List Int)))×Int×List Int×List Int×List Int×Int × Int×PUnit→Option (((Int×Int)×List (Int×Int)×List (Int×Int))×Int×PUnit)) (x:Int×Int×(List Nat×List (Option (List Int)))×Int×List Int×List Int×List Int × Int×Int×PUnit) =>
 let v12:Int:=IntKind.wrap .i64 (x.1+1);
 let v13:List Int×Int×Int:=x0.2.getD x.2.1.toNat ([],0,0);
 let v14:List Int:=List.replicate (Int.toNat (IntKind.wrap .i64 (x.2.2.2.2.2.2.2.2.1+1))) 0;
 let v15:Bool:=inB x.1 (Int.toNat (IntKind.wrap .i64 (x.2.2.2.2.2.2.2.2.1+1)));
 let v16:Bool:=Nat.ble (Nat.succ x.1.toNat) (Int.toNat (IntKind.wrap .i64 (x.2.2.2.2.2.2.2.2.1+1)));
 let v17:Int:=IntKind.wrap .i64 (x.2.2.2.2.2.2.2.1+x.2.1);
 let v18:List Int:=List.take (Int.toNat (IntKind.wrap .i64 (x.2.2.2.2.2.2.2.2.1+1))) v13.1;
 let v19:List Int:=List.set (List.take 0 v14++v18++List.drop (0+List.length v18) v14) x.2.2.2.2.2.2.2.2.1.toNat v13.2.2;bif decide (x.2.1<(↑x0.2.length:Int)) then bif inB x.2.1 x0.2.length then bif decide (0≤IntKind.wrap .i64 (x.2.2.2.2.2.2.2.2.1+(1 : Int)))&&dq (Int.toNat (IntKind.wrap .i64 (x.2.2.2.2.2.2.2.2.1+1))) 8 then bif inB x.2.2.2.2.2.2.2.2.1 (Int.toNat (IntKind.wrap .i64 (x.2.2.2.2.2.2.2.2.1+1))) then bif Nat.ble (Nat.succ x.2.2.2.2.2.2.2.2.1.toNat) (Int.toNat (IntKind.wrap IntKind.i64 (x.2.2.2.2.2.2.2.2.1+1))) then jn (Int×List Int×PUnit) (((Int×Int)×List (Int×Int)×List (Int×Int))×Int×PUnit) (fun (x_1:Int × List Int×PUnit) =>
 let v21:List Int×PUnit:=(x_1.2.1,PUnit.unit);jn (Int×List Int×PUnit) (((Int×Int)×List (Int×Int)×List (Int×Int))×Int×PUnit) (fun (x_2:Int×List Int × PUnit)=>bif inB v17 x_2.2.1.length then bif Nat.ble (Nat.succ v17.toNat) x_2.2.1.length then bif dq (List.length x.2.2.1.1+1) (24 : Nat) then bif dq (List.length x.2.2.2.2.2.1+1) 8 then bif dq (List.length x.2.2.2.2.1+1) 8 then again (x_1.1, IntKind.wrap .i64 (x.2.1+1),(x.2.2.1.1++[List.length x.2.2.1.2+0],x.2.2.1.2++[some (x_2.2.1.set v17.toNat (1 : Int))]),x.2.2.2.1,x.2.2.2.2.1++[v17],x.2.2.2.2.2.1++[x_2.1],x.2.2.2.2.2.2.1,x.2.2.2.2.2.2.2.1, x.2.2.2.2.2.2.2.2.1,PUnit.unit) else none else none else none else none else none) fun (j:Int×List Int×PUnit→Option (((Int×Int)×List (Int×Int)×List (Int×Int))×Int×PUnit))=>bif decide (v13.2.2<0) then lp (Int×List Int×PUnit) (((Int×Int)×List (Int×Int)×List (Int×Int))×Int×PUnit) (fun (again : Int×List Int×PUnit→Option (((Int×Int)×List (Int×Int)×List (Int×Int))×Int×PUnit)) (x:Int×List Int×PUnit) =>
 let v25:Bool:=inB x.1 x.2.1.length;
 let v26:Bool:=Nat.ble (Nat.succ x.1.toNat) x.2.1.length;bif decide (x.1<(↑x_1.2.1.length:Int)) then bif v25 then bif v26 then bif v25 then bif v26 then again (IntKind.wrap .i64 (x.1+1),x.2.1.set x.1.toNat (IntKind.wrap .i64 (0 - x.2.1.getD x.1.toNat 0)), PUnit.unit) else none else none else none else none else j ((-1),x.2.1,PUnit.unit)) (0,v21) else j (1,v21)) fun (j:Int×List Int×PUnit→Option (((Int × Int)×List (Int×Int)×List (Int×Int))×Int×PUnit))=>bif decide (v13.2.1=1) then bif v15 then bif v16 then j (v12,v19.set x.1.toNat 1, PUnit.unit) else none else none else jn (Int×List Int×PUnit) (((Int×Int)×List (Int×Int)×List (Int×Int))×Int×PUnit) (fun (x:Int×List Int×PUnit)=>j (x.1, x.2.1,PUnit.unit)) fun (j:Int×List Int×PUnit→Option (((Int×Int)×List (Int×Int)×List (Int×Int))×Int×PUnit))=>bif decide (v13.2.1=2) then bif v15 then bif v16 then j (v12,v19.set x.1.toNat (-1),PUnit.unit) else none else none else j (x.1,v19,PUnit.unit) else none else none else none else none else af (aL x.2.2.1 x.2.2.2.1 x.2.2.2.2.1 x.2.2.2.2.2.1 x.2.2.2.2.2.2.1 x.2.2.2.2.2.2.2.1 x.2.2.2.2.2.2.2.2.1) fun (y:(List Nat×List (Option (List Int)))×Int×List Int×List Int×List Int×Int×Int×Bool×PUnit)=>bif !y.2.2.2.2.2.2.2.1 then some (((0,0),[],[]),22,PUnit.unit) else af (bp y.1 y.2.1 y.2.2.1 y.2.2.2.1 y.2.2.2.2.1 y.2.2.2.2.2.1 y.2.2.2.2.2.2.1) fun (y:(List Nat×List (Option (List Int)))×Int×List Int×List Int×List Int×Int×Int×Bool × PUnit)=>bif !y.2.2.2.2.2.2.2.1 then some (((0,0),[],[]),21,PUnit.unit) else bif decide (0≤(↑x0.1.length:Int))&&dq (Int.toNat (↑x0.1.length:Int)) 8 then lp (Int×Int×List Int×PUnit) (((Int×Int)×List (Int×Int)×List (Int×Int))×Int×PUnit) (fun (again:Int×Int × List Int×PUnit→Option (((Int×Int)×List (Int×Int)×List (Int×Int))×Int×PUnit)) (x:Int×Int×List Int×PUnit) =>
 let v24:Int:=IntKind.wrap .i64 (x.2.1+1);
 let v25:Bool:=inB x.2.1 y.1.1.length;
 let v26:Bool:=Nat.ble (Nat.succ x.2.1.toNat) y.1.1.length;
 let v27:Int:=y.2.2.1.getD x.2.1.toNat 0;bif decide (x.2.1<(↑y.2.2.1.length:Int)) then bif inB x.2.1 y.2.2.1.length then bif Nat.ble (Nat.succ x.2.1.toNat) y.2.2.1.length then af (bif List.all y.1.1 fun (x:Nat)=>eB y.1.2 x then aF (List.map (fun (x:Nat)=>ah y.1.2 x) y.1.1,y.2.1,y.2.2.1,y.2.2.2.1,y.2.2.2.2.1,y.2.2.2.2.2.1,y.2.2.2.2.2.2.1) v27 else none) fun (t:Int)=>bif v25 then bif v26 then bif inB y.2.2.2.2.2.2.1 (List.length (ah y.1.2 (y.1.1.getD x.2.1.toNat 0))) then bif Nat.ble (Nat.succ y.2.2.2.2.2.2.1.toNat) (List.length (ah y.1.2 (y.1.1.getD x.2.1.toNat 0))) then bif decide (v27<(↑x.2.2.1.length:Int)) then bif v25 then bif v26 then bif inB y.2.2.2.2.2.2.1 (List.length (ah y.1.2 (y.1.1.getD x.2.1.toNat 0))) then bif Nat.ble (Nat.succ y.2.2.2.2.2.2.1.toNat) (List.length (ah y.1.2 (y.1.1.getD x.2.1.toNat 0))) then bif inB v27 x.2.2.1.length then bif Nat.ble (Nat.succ v27.toNat) x.2.2.1.length then again (IntKind.wrap .i64 (x.1+IntKind.wrap .i64 (t*List.getD (ah y.1.2 (y.1.1.getD x.2.1.toNat 0)) y.2.2.2.2.2.2.1.toNat 0)),v24,x.2.2.1.set v27.toNat (List.getD (ah y.1.2 (y.1.1.getD x.2.1.toNat 0)) y.2.2.2.2.2.2.1.toNat 0),PUnit.unit) else none else none else none else none else none else none else again (IntKind.wrap .i64 (x.1+IntKind.wrap .i64 (t*List.getD (ah y.1.2 (y.1.1.getD x.2.1.toNat 0)) y.2.2.2.2.2.2.1.toNat 0)),v24,x.2.2.1,PUnit.unit) else none else none else none else none else none else none else af (bif List.all y.1.1 fun (x:Nat) =>eB y.1.2 x then aH (List.map (fun (x:Nat)=>ah y.1.2 x) y.1.1,y.2.1,y.2.2.1,y.2.2.2.1,y.2.2.2.2.1, y.2.2.2.2.2.1,y.2.2.2.2.2.2.1) x.1 else none) fun (t:Int×Int)=>lp (Int×(Int×Int)×List (Int×Int)×List (Int×Int)×PUnit) (((Int×Int) × List (Int×Int)×List (Int×Int))×Int×PUnit) (fun (again:Int×(Int×Int)×List (Int×Int)×List (Int×Int)×PUnit→Option (((Int×Int)×List (Int×Int)×List (Int × Int))×Int×PUnit)) (x_1:Int×(Int×Int)×List (Int×Int)×List (Int×Int)×PUnit) =>
 let v31:List (Int×Int)×PUnit:=(x_1.2.2.2.1,PUnit.unit);bif decide (x_1.1<(↑x.2.2.1.length:Int)) then bif inB x_1.1 x.2.2.1.length then bif Nat.ble (Nat.succ x_1.1.toNat) x.2.2.1.length then af (bif List.all y.1.1 fun (x:Nat)=>eB y.1.2 x then aH (List.map (fun (x : Nat)=>ah y.1.2 x) y.1.1,y.2.1,y.2.2.1,y.2.2.2.1,y.2.2.2.2.1,y.2.2.2.2.2.1,y.2.2.2.2.2.2.1) (x.2.2.1.getD x_1.1.toNat 0) else none) fun (t:Int×Int)=>bif dq (List.length x_1.2.2.1+1) 16 then again (IntKind.wrap .i64 (x_1.1+1),x_1.2.1,x_1.2.2.1++[t],v31) else none else none else none else lp (Int×(Int×Int)×List (Int×Int)×List (Int×Int)×PUnit) (((Int×Int) × List (Int×Int)×List (Int×Int))×Int×PUnit) (fun (again:Int×(Int×Int)×List (Int×Int)×List (Int×Int)×PUnit→Option (((Int×Int)×List (Int×Int)×List (Int × Int))×Int×PUnit)) (x:Int×(Int×Int)×List (Int×Int)×List (Int×Int)×PUnit) =>
 let v34:Int:=IntKind.wrap .i64 (y.2.2.2.2.2.1+x.1);bif decide (x.1<(↑x0.2.length:Int)) then lp (Int×Int×PUnit) (((Int×Int)×List (Int × Int)×List (Int×Int))×Int×PUnit) (fun (again_1:Int×Int×PUnit→Option (((Int×Int)×List (Int×Int)×List (Int×Int))×Int×PUnit)) (x_2:Int×Int×PUnit)=>bif decide (x_2.2.1<(↑y.2.2.1.length:Int)) then bif inB x_2.2.1 y.2.2.1.length then bif Nat.ble (Nat.succ x_2.2.1.toNat) y.2.2.1.length then af (bif List.all y.1.1 fun (x:Nat)=>eB y.1.2 x then aF (List.map (fun (x:Nat)=>ah y.1.2 x) y.1.1,y.2.1, y.2.2.1,y.2.2.2.1,y.2.2.2.2.1,y.2.2.2.2.2.1,y.2.2.2.2.2.2.1) (y.2.2.1.getD x_2.2.1.toNat 0) else none) fun (t:Int)=>bif inB x_2.2.1 y.1.1.length then bif Nat.ble (Nat.succ x_2.2.1.toNat) y.1.1.length then bif inB v34 (List.length (ah y.1.2 (y.1.1.getD x_2.2.1.toNat 0))) then bif Nat.ble (Nat.succ v34.toNat) (List.length (ah y.1.2 (y.1.1.getD x_2.2.1.toNat (0 : Nat)))) then again_1 (IntKind.wrap .i64 (x_2.1+IntKind.wrap .i64 (t*List.getD (ah y.1.2 (y.1.1.getD x_2.2.1.toNat 0)) v34.toNat 0)),IntKind.wrap .i64 (x_2.2.1+1),PUnit.unit) else none else none else none else none else none else none else bif inB x.1 y.2.2.2.1.length then bif Nat.ble (Nat.succ x.1.toNat) y.2.2.2.1.length then af (bif List.all y.1.1 fun (x:Nat)=>eB y.1.2 x then aH (List.map (fun (x:Nat)=>ah y.1.2 x) y.1.1,y.2.1,y.2.2.1,y.2.2.2.1,y.2.2.2.2.1,y.2.2.2.2.2.1, y.2.2.2.2.2.2.1) (IntKind.wrap .i64 (y.2.2.2.1.getD x.1.toNat 0*x_2.1)) else none) fun (t:Int×Int)=>bif dq (List.length x.2.2.2.1+1) 16 then again (IntKind.wrap .i64 (x.1+1),x.2.1,x.2.2.1,x.2.2.2.1++[t],PUnit.unit) else none else none else none) (0,0,PUnit.unit) else some ((x.2.1,x.2.2.1,x.2.2.2.1),0,PUnit.unit)) (0,x_1.2.1,x_1.2.2.1,v31)) ((0 : Int),t,[],[],PUnit.unit)) (0,0,List.replicate (Int.toNat (↑x0.1.length:Int)) 0,PUnit.unit) else none) ((↑x0.1.length:Int),(0 : Int),([],[]),1,[],[],t,v8,IntKind.wrap .i64 (v8+(↑x0.2.length:Int)),PUnit.unit)) (0,0,PUnit.unit)
def aK (x0:(List Int)×List ((List Int)×Int×Int)):Option (((Int×Int)×(List (Int×Int))×List (Int×Int))×Int×Unit):=g9 lpK jnK aU bV aX aL bp aF aH x0
abbrev t58:=((List Int)×List ((List Int)×Int×Int))→Option (((Int×Int)×(List (Int×Int))×List (Int×Int))×Int×Unit)
def k58 (aK:t58):Ctr:=⟨[T32],[],[],.tup [T96,i64],fun x _ _=>aK x.1⟩
def c58:Ctr:=k58 aK
theorem e58 (lp:Lp) (jn:Jn) (aU:t91) (bV:IQ) (aX:GT) (aL:Gl) (bp:MR) (aF:Ji) (aH:Gv):∀(x:TsS c58.as) (F:TsF c58.fs) (y:TsS c58.cs),g9 lp jn aU bV aX aL bp aF aH x.1=Hx lp jn (Dn.look [(111,OV bp),(110,MP aL)]) (yk AR An (BV [(113,Mg aH),(112,MT aF)] [] (jP prog shs vo its [(108,Nq bV),(91,k91 aU)] [(134,MO aX)]))) ao 4 58 f58 c58 x F y:=fun x F y=>by kernel_rfl
theorem M6:c58.ok prog 58:=Ctr.of_denS (au (oT (ai (ai (b6) (by kernel_rfl) NI) (by kernel_rfl) L5) (gO (by kernel_rfl) L8 (gO (by kernel_rfl) LN (mj))) (mv))) aV (mf Oh (mf LW (nX))) (hl:=ao) (d:=4) func58 rfl (by decide) (e58 lpK jnK aU bV aX aL bp aF aH)
def kC (_:Lp) (_:Jn) (ay:t11) (aK:t58) (x0:(List (ByteArray×Int))×List (ByteArray×(List (ByteArray×Int×Int×Int))×Bool)):Option ((List (Int×Int))×Int×Unit) :=
 af (ay x0) fun (t:(List Int×List (List Int×Int×Int))×Int×PUnit)=>bif !decide (t.2.1=0) then some ([],t.2.1,PUnit.unit) else af (aK t.1) fun (t:((Int×Int)×List (Int×Int)×List (Int×Int))×Int×PUnit)=>bif !decide (t.2.1=0) then some ([],t.2.1,PUnit.unit) else some (t.1.2.1,0,PUnit.unit)
def aJ (x0:(List (ByteArray×Int))×List (ByteArray×(List (ByteArray×Int×Int×Int))×Bool)):Option ((List (Int×Int))×Int×Unit):=kC lpK jnK ay aK x0
abbrev t19:=((List (ByteArray×Int))×List (ByteArray×(List (ByteArray×Int×Int×Int))×Bool))→Option ((List (Int×Int))×Int×Unit)
def k19 (aJ:t19):Ctr:=⟨[T25],[],[],.tup [(.sl T49),i64],fun x _ _=>aJ x.1⟩
def c19:Ctr:=k19 aJ
theorem e19 (lp:Lp) (jn:Jn) (ay:t11) (aK:t58):∀(x:TsS c19.as) (F:TsF c19.fs) (y:TsS c19.cs),kC lp jn ay aK x.1=cd lp jn (cx [(58,k58 aK),(11,k11 ay)] [(134,bH)]) ao 4 19 f19 c19 x F y:=fun x F y=>by kernel_rfl
theorem Oj:c19.ok prog 19:=Ctr.of_den (au (ai (ai (b6) (by kernel_rfl) Ny) (by kernel_rfl) M6)) aV (hl:=ao) (d:=4) func19 rfl (by decide) (e19 lpK jnK ay aK)
def i7 (lp:Lp) (_:Jn) (x0:List (ByteArray×(List (ByteArray×Int×Int×Int))×Bool)) (f0:(((ByteArray×(List (ByteArray×Int×Int×Int))×Bool)×Unit)→Option Bool)):Option Int :=
 lp (Int×PUnit) Int (fun (again:Int×PUnit→Option Int) (x:Int×PUnit)=>bif decide (x.1<(↑x0.length:Int)) then bif inB x.1 x0.length then af (f0 (x0.getD x.1.toNat ({ data:={ toList:=[] } },[],false),PUnit.unit)) fun (t:Bool)=>bif t then some x.1 else again (IntKind.wrap .i64 (x.1+1), PUnit.unit) else none else some (-1)) (0,PUnit.unit)
def ca (x0:List (ByteArray×(List (ByteArray×Int×Int×Int))×Bool)) (f0:(((ByteArray×(List (ByteArray×Int×Int×Int))×Bool)×Unit)→Option Bool)):Option Int:=i7 lpK jnK x0 f0
abbrev t60:=(List (ByteArray×(List (ByteArray×Int×Int×Int))×Bool))→((((ByteArray×(List (ByteArray×Int×Int×Int))×Bool)×Unit)→Option Bool))→Option (Int)
def k60 (ca:t60):Ctr:=⟨[(.sl T75)],[([T75],.bool)],[],.one i64,fun x F _=>ca x.1 F.1⟩
def c60:Ctr:=k60 ca
theorem e60 (lp:Lp) (jn:Jn):∀(x:TsS c60.as) (F:TsF c60.fs) (y:TsS c60.cs),i7 lp jn x.1 F.1=cd lp jn (cx [] [(134,bH)]) ao 4 60 f60 c60 x F y:=fun x F y=>by kernel_rfl
theorem P1:c60.ok prog 60:=Ctr.of_den (au (b6)) aV (hl:=ao) (d:=4) func60 rfl (by decide) (e60 lpK jnK)
def nD (_:Lp) (_:Jn) (x0:ByteArray×(List (ByteArray×Int×Int×Int))×Bool) (y0:ByteArray):Option Bool :=
 some (List.beq (ByteArray.toList x0.1) (ByteArray.toList y0))
def eI (x0:ByteArray×(List (ByteArray×Int×Int×Int))×Bool) (y0:ByteArray):Option Bool:=nD lpK jnK x0 y0
abbrev t61:=(ByteArray×(List (ByteArray×Int×Int×Int))×Bool)→(ByteArray)→Option (Bool)
def c61:Ctr:=⟨[T75],[],[.str],.one .bool,fun x _ y=>eI x.1 y.1⟩
theorem e61 (lp:Lp) (jn:Jn):∀(x:TsS c61.as) (F:TsF c61.fs) (y:TsS c61.cs),nD lp jn x.1 y.1=cd lp jn (cx [] [(134,bH)]) ao 4 61 f61 c61 x F y:=fun x F y=>by kernel_rfl
theorem PE:c61.ok prog 61:=Ctr.of_den (au (b6)) aV (hl:=ao) (d:=4) func61 rfl (by decide) (e61 lpK jnK)
def sD (_:Lp) (_:Jn) (ce:t45) (x0:(List (ByteArray×Int))×List (ByteArray×(List (ByteArray×Int×Int×Int))×Bool)) (x1:Int) (x2:Int):Option (((List Int)×List ((List Int)×Int×Int))×Int×Unit) :=
 bif decide (0≤(↑x0.2.length:Int))&&dq (Int.toNat (↑x0.2.length:Int)) 8 then bif inB x1 (Int.toNat (↑x0.2.length:Int)) then bif Nat.ble (Nat.succ x1.toNat) (Int.toNat (↑x0.2.length:Int)) then af (ce x0 (List.set (List.replicate (Int.toNat (↑x0.2.length:Int)) 0) x1.toNat x2)) fun (t:(List Int×List (List Int×Int×Int))×Int×PUnit)=>some (t.1,t.2.1,PUnit.unit) else none else none else none
def dw (x0:(List (ByteArray×Int))×List (ByteArray×(List (ByteArray×Int×Int×Int))×Bool)) (x1:Int) (x2:Int):Option (((List Int)×List ((List Int)×Int×Int))×Int×Unit):=sD lpK jnK ce x0 x1 x2
abbrev t62:=((List (ByteArray×Int))×List (ByteArray×(List (ByteArray×Int×Int×Int))×Bool))→(Int)→(Int)→Option (((List Int)×List ((List Int)×Int×Int))×Int×Unit)
def k62 (dw:t62):Ctr:=⟨[T25,i64,i64],[],[],.tup [T32,i64],fun x _ _=>dw x.1 x.2.1 x.2.2.1⟩
def c62:Ctr:=k62 dw
theorem e62 (lp:Lp) (jn:Jn) (ce:t45):∀(x:TsS c62.as) (F:TsF c62.fs) (y:TsS c62.cs),sD lp jn ce x.1 x.2.1 x.2.2.1=cd lp jn (cx [(45,k45 ce)] [(134,bH)]) ao 4 62 f62 c62 x F y:=fun x F y=>by kernel_rfl
theorem Ph:c62.ok prog 62:=Ctr.of_den (au (ai (b6) (by kernel_rfl) Pm)) aV (hl:=ao) (d:=4) func62 rfl (by decide) (e62 lpK jnK ce)
def pF (_:Lp) (_:Jn) (ax:t59) (aK:t58) (ca:t60) (eI:t61) (dw:t62) (x0:(List (ByteArray×Int))×List (ByteArray×(List (ByteArray×Int×Int×Int))×Bool)) (x1:ByteArray):Option ((Int×Int)×Int×Unit) :=
 af (ax x0) fun (t:Bool)=>bif !t then some ((0,0),1,PUnit.unit) else af (ca x0.2 fun (x:(ByteArray×List (ByteArray × Int×Int×Int)×Bool)×PUnit)=>eI x.1 x1) fun (t:Int)=>bif decide (t<0) then some ((0,0),9,PUnit.unit) else af (dw x0 t 1) fun (t:(List Int×List (List Int×Int×Int))×Int×PUnit)=>bif !decide (t.2.1=0) then some ((0,0),t.2.1,PUnit.unit) else af (aK t.1) fun (t:((Int×Int)×List (Int×Int)×List (Int×Int))×Int×PUnit)=>bif !decide (t.2.1=0) then some ((0,0), t.2.1,PUnit.unit) else some (t.1.1,0,PUnit.unit)
def bP (x0:(List (ByteArray×Int))×List (ByteArray×(List (ByteArray×Int×Int×Int))×Bool)) (x1:ByteArray):Option ((Int×Int)×Int×Unit):=pF lpK jnK ax aK ca eI dw x0 x1
abbrev t20:=((List (ByteArray×Int))×List (ByteArray×(List (ByteArray×Int×Int×Int))×Bool))→(ByteArray)→Option ((Int×Int)×Int×Unit)
def k20 (bP:t20):Ctr:=⟨[T25,.str],[],[],.tup [T49,i64],fun x _ _=>bP x.1 x.2.1⟩
def c20:Ctr:=k20 bP
theorem e20 (lp:Lp) (jn:Jn) (ax:t59) (aK:t58) (ca:t60) (eI:t61) (dw:t62):∀(x:TsS c20.as) (F:TsF c20.fs) (y:TsS c20.cs),pF lp jn ax aK ca eI dw x.1 x.2.1=cd lp jn (cx [(62,k62 dw),(61,⟨[T75],[],[.str],.one .bool,fun x _ y=>eI x.1 y.1⟩),(60,k60 ca),(58,k58 aK),(59,k59 ax)] [(134,bH)]) ao 4 20 f20 c20 x F y:=fun x F y=>by kernel_rfl
theorem QL:c20.ok prog 20:=Ctr.of_den (au (ai (ai (ai (ai (ai (b6) (by kernel_rfl) Kn) (by kernel_rfl) M6) (by kernel_rfl) P1) (by kernel_rfl) PE) (by kernel_rfl) Ph)) aV (hl:=ao) (d:=4) func20 rfl (by decide) (e20 lpK jnK ax aK ca eI dw)
def pv (lp:Lp) (_:Jn) (ax:t59) (aK:t58) (dw:t62) (x0:(List (ByteArray×Int))×List (ByteArray×(List (ByteArray×Int×Int×Int))×Bool)):Option ((List ByteArray)×Int×Unit) :=
 af (ax x0) fun (t:Bool)=>bif !t then some ([],1,PUnit.unit) else lp (List ByteArray×Int×PUnit) (List ByteArray×Int×PUnit) (fun (again:List ByteArray × Int×PUnit→Option (List ByteArray×Int×PUnit)) (x:List ByteArray×Int×PUnit) =>
 let v6:Int×PUnit:=(IntKind.wrap .i64 (x.2.1+1),PUnit.unit);bif decide (x.2.1<(↑x0.2.length:Int)) then bif inB x.2.1 x0.2.length then af (dw x0 x.2.1 (-1)) fun (t:(List Int×List (List Int×Int×Int))×Int×PUnit)=>bif !decide (t.2.1=0) then some ([],t.2.1, PUnit.unit) else af (aK t.1) fun (t:((Int×Int)×List (Int×Int)×List (Int×Int))×Int×PUnit)=>bif decide (t.2.1=21) then again (x.1,v6) else bif !decide (t.2.1=0) then some ([],t.2.1,PUnit.unit) else bif decide (t.1.1.1=0) then bif dq (List.length x.1+1) 16 then again (x.1++[(x0.2.getD x.2.1.toNat ({ data:={ toList:=[] } },[],false)).1],v6) else none else again (x.1,v6) else none else some (x.1,0, PUnit.unit)) ([],0,PUnit.unit)
def a6 (x0:(List (ByteArray×Int))×List (ByteArray×(List (ByteArray×Int×Int×Int))×Bool)):Option ((List ByteArray)×Int×Unit):=pv lpK jnK ax aK dw x0
abbrev t21:=((List (ByteArray×Int))×List (ByteArray×(List (ByteArray×Int×Int×Int))×Bool))→Option ((List ByteArray)×Int×Unit)
def k21 (a6:t21):Ctr:=⟨[T25],[],[],.tup [(.sl .str),i64],fun x _ _=>a6 x.1⟩
def c21:Ctr:=k21 a6
theorem e21 (lp:Lp) (jn:Jn) (ax:t59) (aK:t58) (dw:t62):∀(x:TsS c21.as) (F:TsF c21.fs) (y:TsS c21.cs),pv lp jn ax aK dw x.1=cd lp jn (cx [(62,k62 dw),(58,k58 aK),(59,k59 ax)] [(134,bH)]) ao 4 21 f21 c21 x F y:=fun x F y=>by kernel_rfl
theorem QW:c21.ok prog 21:=Ctr.of_den (au (ai (ai (ai (b6) (by kernel_rfl) Kn) (by kernel_rfl) M6) (by kernel_rfl) Ph)) aV (hl:=ao) (d:=4) func21 rfl (by decide) (e21 lpK jnK ax aK dw)
def pE (_:Lp) (_:Jn) (x0:Int):Option (Int×Int) :=
 some (x0,1)
def bR (x0:Int):Option (Int×Int):=pE lpK jnK x0
abbrev t34:=(Int)→Option (Int×Int)
def k34 (bR:t34):Ctr:=⟨[i64],[],[],.one T49,fun x _ _=>bR x.1⟩
def c34:Ctr:=k34 bR
theorem e34 (lp:Lp) (jn:Jn):∀(x:TsS c34.as) (F:TsF c34.fs) (y:TsS c34.cs),pE lp jn x.1=cd lp jn (cx [] [(134,bH)]) ao 4 34 f34 c34 x F y:=fun x F y=>by kernel_rfl
theorem OO:c34.ok prog 34:=Ctr.of_den (au (b6)) aV (hl:=ao) (d:=4) func34 rfl (by decide) (e34 lpK jnK)
def pH (lp:Lp) (_:Jn) (bR:t34) (x0:List Int):Option ((List (ByteArray×Int))×List (ByteArray×(List (ByteArray×Int×Int×Int))×Bool)) :=
 lp (Int×List (ByteArray×Int)×List (ByteArray×List (ByteArray×Int×Int×Int)×Bool)×PUnit) (List (ByteArray×Int)×List (ByteArray×List (ByteArray×Int×Int×Int)×Bool)) (fun (again:Int×List (ByteArray×Int)×List (ByteArray×List (ByteArray×Int×Int×Int)×Bool)×PUnit→Option (List (ByteArray×Int)×List (ByteArray×List (ByteArray×Int×Int×Int)×Bool))) (x:Int×List (ByteArray×Int)×List (ByteArray×List (ByteArray×Int×Int×Int)×Bool)×PUnit) => bif decide (x.1<(↑x0.length:Int)) then bif inB x.1 x0.length then af (bR 1) fun (t:Int×Int)=>af (bR 1) fun (t_1:Int×Int)=>bif dq (List.length x.2.2.1+1) 48 then again (IntKind.wrap .i64 (x.1+1),x.2.1,x.2.2.1++[({ data:=#[114] }++tG [IntKind.wrap IntKind.u8 (IntKind.wrap .i64 (49+x.1))],[({ data:=#[98] },x0.getD x.1.toNat 0,t),({ data:={ toList:=[] } },0,t_1)],false)],PUnit.unit) else none else none else some (x.2.1,x.2.2.1)) (0,[({ data:=#[98] },10)],[],PUnit.unit)
def dI (x0:List Int):Option ((List (ByteArray×Int))×List (ByteArray×(List (ByteArray×Int×Int×Int))×Bool)):=pH lpK jnK bR x0
abbrev t43:=(List Int)→Option ((List (ByteArray×Int))×List (ByteArray×(List (ByteArray×Int×Int×Int))×Bool))
def c43:Ctr:=⟨[(.sl i64)],[],[],.one T25,fun x _ _=>dI x.1⟩
theorem e43 (lp:Lp) (jn:Jn) (bR:t34):∀(x:TsS c43.as) (F:TsF c43.fs) (y:TsS c43.cs),pH lp jn bR x.1=cd lp jn (cx [(34,k34 bR)] [(134,bH)]) ao 4 43 f43 c43 x F y:=fun x F y=>by kernel_rfl
theorem Ql:c43.ok prog 43:=Ctr.of_den (au (ai (b6) (by kernel_rfl) OO)) aV (hl:=ao) (d:=4) func43 rfl (by decide) (e43 lpK jnK bR)
def pG (_:Lp) (_:Jn) (aN:t12) (aJ:t19) (bP:t20) (a6:t21) (bR:t34) (dI:t43):Option Bool :=
 af (dI [1,1,(-1)]) fun (t:List (ByteArray×Int)×List (ByteArray×List (ByteArray×Int×Int×Int)×Bool))=>af (aJ t) fun (t:List (Int×Int)×Int×PUnit) =>
 let v4:Bool:=decide (t.2.1=0);
 let v5:Bool:=!v4||v4;
 let v6:Bool:=bif v4 then decide ((↑t.1.length:Int)=3) else false;
 let v7:Bool:=!v6||v6;af (dI [1,1,(-1)]) fun (t:List (ByteArray×Int)×List (ByteArray×List (ByteArray×Int×Int×Int)×Bool))=>af (a6 t) fun (t:List ByteArray×Int×PUnit) =>
 let v10:Bool:=bif v6 then decide (t.2.1=0) else false;
 let v11:Bool:=!v10||v10;
 let v12:Bool:=bif v10 then decide ((↑t.1.length:Int)=0) else false;
 let v13:Bool:=!v12||v12;af (dI [1,1,(-1)]) fun (t:List (ByteArray×Int)×List (ByteArray×List (ByteArray×Int×Int×Int)×Bool)) => af (bP t { data:={ toList:=[{ toBitVec:={ toFin:=⟨114,Nat.mod_lt 114 (BitVec.ofNat._proof_1 8)⟩ } },{ toBitVec:={ toFin:=⟨49, Nat.mod_lt 49 (BitVec.ofNat._proof_1 8)⟩ } }] } }) fun (t:(Int×Int)×Int×PUnit) =>
 let v16:Bool:=bif v12 then decide (t.2.1=0) else false;
 let v17:Bool:=!v16||v16;af (dI [(-1)]) fun (t_1:List (ByteArray×Int)×List (ByteArray×List (ByteArray×Int×Int×Int)×Bool))=>af (bR (1 : Int)) fun (t_2:Int×Int)=>af (aN t_1 [t_2]) fun (t_3:Bool×Int×PUnit)=>af (dI [(-1)]) fun (t_4:List (ByteArray×Int)×List (ByteArray × List (ByteArray×Int×Int×Int)×Bool))=>af (aJ t_4) fun (t_5:List (Int×Int)×Int×PUnit)=>bif v5 then bif v5 then bif v5 then bif v7 then bif v7 then bif v11 then bif v11 then bif v11 then bif v13 then bif v13 then af (bif v16 then bR 0 else some (0,0)) fun (t_6:Int×Int) =>
 let v24:Bool:=bif v16 then decide (t.1.1=t_6.1)&&(decide (t.1.2=t_6.2)&&true) else false;
 let v25:Bool:=bif v24 then decide (t_3.2.1=0) else false;
 let v26:Bool:=bif v25 then t_3.1 else false;
 let v27:Bool:=!v24||v24;
 let v28:Bool:=!v26||v26;bif v17&&v17 then bif v17 then bif v27 then bif v27 then bif !v25||v25 then bif v28 then bif v28 then some (bif v26 then decide (t_5.2.1=(22 : Int)) else false) else none else none else none else none else none else none else none else none else none else none else none else none else none else none else none else none else none
def aP:Option Bool:=pG lpK jnK aN aJ bP a6 bR dI
abbrev t9:=Option (Bool)
def k9 (aP:t9):Ctr:=⟨[],[],[],.one .bool,fun _ _ _=>aP⟩
def c9:Ctr:=k9 aP
theorem e9 (lp:Lp) (jn:Jn) (aN:t12) (aJ:t19) (bP:t20) (a6:t21) (bR:t34) (dI:t43):∀(x:TsS c9.as) (F:TsF c9.fs) (y:TsS c9.cs),pG lp jn aN aJ bP a6 bR dI=cd lp jn (cx [(43,⟨[(.sl i64)],[],[],.one T25,fun x _ _=>dI x.1⟩),(34,k34 bR),(21,k21 a6),(20,k20 bP),(19,k19 aJ),(12,k12 aN)] [(134,bH)]) ao 4 9 f9 c9 x F y:=fun x F y=>by kernel_rfl
theorem ok9:c9.ok prog 9:=Ctr.of_den (au (ai (ai (ai (ai (ai (ai (b6) (by kernel_rfl) Ov) (by kernel_rfl) Oj) (by kernel_rfl) QL) (by kernel_rfl) QW) (by kernel_rfl) OO) (by kernel_rfl) Ql)) aV (hl:=ao) (d:=4) func9 rfl (by decide) (e9 lpK jnK aN aJ bP a6 bR dI)
def lZ (lp:Lp) (_:Jn) (x0:(List (ByteArray×Int))×List (ByteArray×(List (ByteArray×Int×Int×Int))×Bool)):Option Bool :=
 
 let v3:Bool:=decide ((↑x0.1.length:Int)>9);
 let v4:Bool:=!v3;
 let v5:Bool:=!v4||v4;bif v5 then bif v5 then bif v5 then bif v3||v4 then bif bif v3 then true else decide ((↑x0.2.length:Int)>9) then some false else lp (Int × PUnit) Bool (fun (again:Int×PUnit→Option Bool) (x:Int×PUnit)=>bif decide (x.1<(↑x0.1.length:Int)) then bif inB x.1 x0.1.length then bif decide ((↑(ByteArray.size (x0.1.getD x.1.toNat ({ data:={ toList:=[] } },0)).1):Int)>60) then some false else again (IntKind.wrap .i64 (x.1 + 1),PUnit.unit) else none else lp (Int×PUnit) Bool (fun (again:Int×PUnit→Option Bool) (x:Int×PUnit) =>
 let v10:Bool:=inB x.1 x0.2.length;
 let v11:Bool:=decide ((↑(ByteArray.size (x0.2.getD x.1.toNat ({ data:={ toList:=[] } },[],false)).1):Int)>60);
 let v12:Bool:=!v11;
 let v13:Bool:=!v12;
 let v14:Bool:=v13||v12;bif decide (x.1<(↑x0.2.length:Int)) then bif v10 then bif v14 then bif v14&&(v14&&(v13||v10)) then bif v14 then bif v14 then bif v14 then bif v14 then bif v11||v12 then bif bif v11 then true else decide ((↑(List.length (x0.2.getD x.1.toNat ({ data:={ toList:=[] } },[],false)).2.1):Int) > 13) then some false else lp (Int×PUnit) Bool (fun (again_1:Int×PUnit→Option Bool) (x_1:Int×PUnit)=>bif v10 then bif decide (x_1.1<(↑(List.length (x0.2.getD x.1.toNat ({ data:={ toList:=[] } },[],false)).2.1):Int)) then bif v10 then bif inB x_1.1 (List.length (x0.2.getD x.1.toNat ({ data:={ toList:=[] } },[],false)).2.1) then bif decide ((↑(ByteArray.size (List.getD (x0.2.getD x.1.toNat ({ data:={ toList:=[] } },[],false)).2.1 x_1.1.toNat ({ data:={ toList:=[] } },0,0,0)).1):Int)>60) then some false else again_1 (IntKind.wrap .i64 (x_1.1+1), PUnit.unit) else none else none else again (IntKind.wrap .i64 (x.1+1),PUnit.unit) else none) (0,PUnit.unit) else none else none else none else none else none else none else none else none else some true) (0,PUnit.unit)) (0,PUnit.unit) else none else none else none else none
def eJ (x0:(List (ByteArray×Int))×List (ByteArray×(List (ByteArray×Int×Int×Int))×Bool)):Option Bool:=lZ lpK jnK x0
abbrev t44:=((List (ByteArray×Int))×List (ByteArray×(List (ByteArray×Int×Int×Int))×Bool))→Option (Bool)
def c44:Ctr:=⟨[T25],[],[],.one .bool,fun x _ _=>eJ x.1⟩
theorem e44 (lp:Lp) (jn:Jn):∀(x:TsS c44.as) (F:TsF c44.fs) (y:TsS c44.cs),lZ lp jn x.1=cd lp jn (cx [] [(134,bH)]) ao 4 44 f44 c44 x F y:=fun x F y=>by kernel_rfl
theorem Qj:c44.ok prog 44:=Ctr.of_den (au (b6)) aV (hl:=ao) (d:=4) func44 rfl (by decide) (e44 lpK jnK)
def nR (_:Lp) (_:Jn) (eJ:t44) (x0:(List (ByteArray×Int))×List (ByteArray×(List (ByteArray×Int×Int×Int))×Bool)) (x1:List (Int×Int)):Option Bool :=
 af (eJ x0) fun (t:Bool) =>
 let v5:Bool:=!t||t;bif v5 then bif v5 then bif v5 then some (bif t then decide ((↑x1.length:Int)≤10) else false) else none else none else none
def ba (x0:(List (ByteArray×Int))×List (ByteArray×(List (ByteArray×Int×Int×Int))×Bool)) (x1:List (Int×Int)):Option Bool:=nR lpK jnK eJ x0 x1
abbrev t10:=((List (ByteArray×Int))×List (ByteArray×(List (ByteArray×Int×Int×Int))×Bool))→(List (Int×Int))→Option (Bool)
def k10 (ba:t10):Ctr:=⟨[T25,(.sl T49)],[],[],.one .bool,fun x _ _=>ba x.1 x.2.1⟩
def c10:Ctr:=k10 ba
theorem e10 (lp:Lp) (jn:Jn) (eJ:t44):∀(x:TsS c10.as) (F:TsF c10.fs) (y:TsS c10.cs),nR lp jn eJ x.1 x.2.1=cd lp jn (cx [(44,⟨[T25],[],[],.one .bool,fun x _ _=>eJ x.1⟩)] [(134,bH)]) ao 4 10 f10 c10 x F y:=fun x F y=>by kernel_rfl
theorem PQ:c10.ok prog 10:=Ctr.of_den (au (ai (b6) (by kernel_rfl) Qj)) aV (hl:=ao) (d:=4) func10 rfl (by decide) (e10 lpK jnK eJ)
def rF (lp:Lp) (_:Jn) (x0:(List (ByteArray×Int))×List (ByteArray×(List (ByteArray×Int×Int×Int))×Bool)) (x1:ByteArray):Option Int :=
 lp (Int×PUnit) Int (fun (again:Int×PUnit→Option Int) (x:Int×PUnit)=>bif decide (x.1<(↑x0.2.length:Int)) then bif inB x.1 x0.2.length then bif List.beq (ByteArray.toList (x0.2.getD x.1.toNat ({ data:={ toList:=[] } },[],false)).1) (ByteArray.toList x1) then some x.1 else again (IntKind.wrap .i64 (x.1+1),PUnit.unit) else none else some (-1)) (0,PUnit.unit)
def cD (x0:(List (ByteArray×Int))×List (ByteArray×(List (ByteArray×Int×Int×Int))×Bool)) (x1:ByteArray):Option Int:=rF lpK jnK x0 x1
abbrev t22:=((List (ByteArray×Int))×List (ByteArray×(List (ByteArray×Int×Int×Int))×Bool))→(ByteArray)→Option (Int)
def k22 (cD:t22):Ctr:=⟨[T25,.str],[],[],.one i64,fun x _ _=>cD x.1 x.2.1⟩
def vp (_:Lp) (_:Jn) (x0:Int):Option Bool :=
 
 let v3:Bool:=decide (x0≥97);
 let v4:Bool:=decide (x0≥65);
 let v5:Bool:=!v3||v3;
 let v6:Bool:=bif v3 then decide (x0≤122) else false;
 let v7:Bool:=!v6;
 let v8:Bool:=!v7;
 let v9:Bool:=v7&&v4;
 let v10:Bool:=v8||v7;bif v5 then bif v5 then bif v10 then bif v10 then bif !v9||v9 then bif (v8||v10)&&(v8||(!v4||(v8||v9))) then bif v6||v7 then some (bif v6 then true else bif v4 then decide (x0≤90) else false) else none else none else none else none else none else none else none
def gL (x0:Int):Option Bool:=vp lpK jnK x0
abbrev t98:=(Int)→Option (Bool)
def vW (_:Lp) (_:Jn) (x0:Int):Option Bool :=
 
 let v3:Bool:=decide (x0≥48);
 let v4:Bool:=!v3||v3;bif v4 then bif v4 then some (bif v3 then decide (x0≤57) else false) else none else none
def om (x0:Int):Option Bool:=vW lpK jnK x0
abbrev Pv:=(Int)→Option (Bool)
def xQ (lp:Lp) (_:Jn) (gL:t98) (om:Pv) (x0:ByteArray) (x1:Int):Option Int :=
 lp (Int×PUnit) Int (fun (again:Int×PUnit→Option Int) (x:Int×PUnit) =>
 let v6:Bool:=inB x.1 (ByteArray.size x0);
 let v7:Int:=eE x0 x.1.toNat;
 let v8:Bool:=decide (x.1<(↑(ByteArray.size x0):Int));
 let v9:Bool:=!v8;
 let v10:Bool:=v9||v8;
 let v11:Bool:=v9||v10;bif v10&&(v10&&(v9||v6)) then bif v10 then af (bif v8 then gL v7 else some false) fun (t:Bool) =>
 let v13:Bool:=v8&&!t;
 let v14:Bool:=!v13;
 let v15:Bool:=v14||v13;bif v10 then bif v15&&(v15&&(v14||v6)) then bif v15 then af (bif v13 then om v7 else some false) fun (t_1:Bool) =>
 let v17:Bool:=bif t then true else t_1;
 let v18:Bool:=v8&&!v17;
 let v19:Bool:=!v18;
 let v20:Bool:=v19||v18;bif v11&&(v9||(t||(v9||v13))) then bif v10 then bif v20&&(v20&&(v19||v6)) then bif v20 then bif v11&&(v9||(v17||(v9||v18))) then bif v10 then bif bif v8 then bif v17 then true else decide (v7=95) else false then again (IntKind.wrap .i64 (x.1+1),PUnit.unit) else some x.1 else none else none else none else none else none else none else none else none else none else none else none) (x1,PUnit.unit)
def qi (x0:ByteArray) (x1:Int):Option Int:=xQ lpK jnK gL om x0 x1
abbrev t99:=(ByteArray)→(Int)→Option (Int)
def uB (_:Lp) (_:Jn) (gL:t98) (qi:t99) (x0:ByteArray):Option Bool :=
 
 let v3:Bool:=decide ((↑(ByteArray.size x0):Int)=0);
 let v4:Bool:=!v3;
 let v5:Bool:=!v4||v4;
 let v6:Bool:=bif v3 then true else decide ((↑(ByteArray.size x0):Int)>20);
 let v7:Bool:=!v6;
 let v8:Bool:=!v7;
 let v9:Bool:=v8||v7;bif v5 then bif v5 then bif v3||v4 then bif v9&&(v8||inB 0 (ByteArray.size x0)) then bif v9 then af (bif v7 then gL (eE x0 (0 : Nat)) else some false) fun (t:Bool)=>bif v9 then bif v6||v7 then bif bif v6 then true else !t then some false else af (qi x0 0) fun (t:Int)=>some (decide (t = (↑(ByteArray.size x0):Int))) else none else none else none else none else none else none else none
def kI (x0:ByteArray):Option Bool:=uB lpK jnK gL qi x0
abbrev t48:=(ByteArray)→Option (Bool)
def qP (lp:Lp) (_:Jn) (x0:(List (ByteArray×Int))×List (ByteArray×(List (ByteArray×Int×Int×Int))×Bool)) (x1:ByteArray):Option Int :=
 lp (Int×PUnit) Int (fun (again:Int×PUnit→Option Int) (x:Int×PUnit)=>bif decide (x.1<(↑x0.1.length:Int)) then bif inB x.1 x0.1.length then bif List.beq (ByteArray.toList (x0.1.getD x.1.toNat ({ data:={ toList:=[] } },0)).1) (ByteArray.toList x1) then some x.1 else again (IntKind.wrap .i64 (x.1+1),PUnit.unit) else none else some (-1)) (0,PUnit.unit)
def dY (x0:(List (ByteArray×Int))×List (ByteArray×(List (ByteArray×Int×Int×Int))×Bool)) (x1:ByteArray):Option Int:=qP lpK jnK x0 x1
abbrev t49:=((List (ByteArray×Int))×List (ByteArray×(List (ByteArray×Int×Int×Int))×Bool))→(ByteArray)→Option (Int)
def BB (_:Lp) (_:Jn) (x0:Int):Option (Int×Int) :=
 some (x0,1)
def eA (x0:Int):Option (Int×Int):=BB lpK jnK x0
abbrev t73:=(Int)→Option (Int×Int)
def xM (_:Lp) (_:Jn) (x0:Int×Int):Option (Int×Int) :=
 
 let v3:Int:=2 ^ 1;
 let v4:Bool:=decide ((0:Int)≤1);bif v4 then bif v4 then bif decide ((0:Int)≤63) then some (Int.fdiv x0.1 v3,IntKind.wrap .u64 (Int.fdiv x0.2 v3 + IntKind.wrap .u64 (x0.1*2 ^ 63))) else none else none else none
def jI (x0:Int×Int):Option (Int×Int):=xM lpK jnK x0
abbrev QV:=(Int×Int)→Option (Int×Int)
def xD (_:Lp) (_:Jn) (x0:Int×Int) (x1:Int×Int):Option Bool :=
 
 let v4:Bool:=decide (x0.1=x1.1);
 let v5:Bool:=decide (x0.1<x1.1);
 let v6:Bool:=!v5;
 let v7:Bool:=!v6;
 let v8:Bool:=v6&&v4;
 let v9:Bool:=v7||v6;
 let v10:Bool:=!v8||v8;bif v9 then bif v9 then bif v9&&v9 then bif v9 then bif v10 then bif v10 then bif v10&&v10 then bif (v7||v9)&&(v7||(!v4||(v7||v8))) then bif v5 || v6 then some (bif v5 then true else bif v4 then decide (x0.2<x1.2) else false) else none else none else none else none else none else none else none else none else none
def eo (x0:Int×Int) (x1:Int×Int):Option Bool:=xD lpK jnK x0 x1
abbrev JW:=(Int×Int)→(Int×Int)→Option (Bool)
def vT (_:Lp) (_:Jn) (x0:Int×Int) (x1:Int×Int):Option (Int×Int) :=
 
 let v4:Int:=IntKind.wrap .u64 (x0.1 - x1.1);
 let v5:Int:=IntKind.wrap .u64 (x0.2 - x1.2);bif decide (x0.2<x1.2) then some (IntKind.wrap .u64 (v4 - 1),v5) else some (v4,v5)
def dS (x0:Int×Int) (x1:Int×Int):Option (Int×Int):=vT lpK jnK x0 x1
abbrev MN:=(Int×Int)→(Int×Int)→Option (Int×Int)
def yz (_:Lp) (_:Jn) (x0:Int×Int) (x1:Int×Int):Option (Int×Int) :=
 
 let v4:Int:=IntKind.wrap .u64 (x0.1+x1.1);
 let v5:Int:=IntKind.wrap .u64 (x0.2+x1.2);bif decide (v5<x0.2) then some (IntKind.wrap .u64 (v4+1),v5) else some (v4,v5)
def jr (x0:Int×Int) (x1:Int×Int):Option (Int×Int):=yz lpK jnK x0 x1
abbrev NN:=(Int×Int)→(Int×Int)→Option (Int×Int)
def AX (lp:Lp) (_:Jn) (jI:QV) (eo:JW) (dS:MN) (jr:NN) (x0:Int×Int) (x1:Int×Int):Option (Int×Int) :=
 bif decide (x0.1=0)&&(decide (x0.2=0)&&true) then some x1 else lp (Int×(Int×Int)×(Int×Int)×PUnit) (Int×Int) (fun (again:Int×(Int×Int)×(Int × Int)×PUnit→Option (Int×Int)) (x:Int×(Int×Int)×(Int×Int)×PUnit) =>
 let v6:Bool:=decide (IntKind.wrap .u64 (↑(Nat.land (Int.toNat (x.2.1.2 % Int.ofNat 18446744073709551616)) (Int.toNat (1 % Int.ofNat (18446744073709551616 : Nat)))):Int)=0);
 let v7:Bool:=!v6||v6;bif v7 then bif v7 then bif v7 then bif v7 then bif bif v6 then decide (IntKind.wrap .u64 (↑(Nat.land (Int.toNat (x.2.2.1.2 % Int.ofNat 18446744073709551616)) (Int.toNat (1 % Int.ofNat 18446744073709551616))):Int)=0) else false then af (jI x.2.1) fun (t:Int×Int) => af (jI x.2.2.1) fun (t_1:Int×Int)=>again (IntKind.wrap .i64 (x.1+1),t,t_1,PUnit.unit) else lp ((Int×Int)×(Int×Int)×PUnit) (Int × Int) (fun (again:(Int×Int)×(Int×Int)×PUnit→Option (Int×Int)) (x_1:(Int×Int)×(Int×Int)×PUnit) =>
 let v10:(Int×Int)×PUnit:=(x_1.2.1,PUnit.unit);bif !(decide (x_1.1.1=0)&&(decide (x_1.1.2=0)&&true)) then lp ((Int×Int)×PUnit) (Int×Int) (fun (again_1:(Int×Int)×PUnit→Option (Int×Int)) (x:(Int×Int)×PUnit)=>bif decide (IntKind.wrap .u64 (↑(Nat.land (Int.toNat (x.1.2 % Int.ofNat 18446744073709551616)) (Int.toNat (1 % Int.ofNat 18446744073709551616))):Int)=0) then af (jI x.1) fun (t:Int×Int)=>again_1 (t, PUnit.unit) else lp ((Int×Int)×PUnit) (Int×Int) (fun (again_2:(Int×Int)×PUnit→Option (Int×Int)) (x_2:(Int×Int)×PUnit)=>bif decide (IntKind.wrap .u64 (↑(Nat.land (Int.toNat (x_2.1.2 % Int.ofNat 18446744073709551616)) (Int.toNat (1 % Int.ofNat 18446744073709551616))):Int)=0) then af (jI x_2.1) fun (t:Int×Int)=>again_2 (t,PUnit.unit) else af (eo x.1 x_2.1) fun (t:Bool)=>bif t then af (dS x_2.1 x.1) fun (t:Int × Int)=>again (t,x.1,PUnit.unit) else af (dS x.1 x_2.1) fun (t:Int×Int)=>again (t,x_2.1,PUnit.unit)) v10) (x_1.1,PUnit.unit) else lp (Int×(Int×Int) × PUnit) (Int×Int) (fun (again:Int×(Int×Int)×PUnit→Option (Int×Int)) (x:Int×(Int×Int)×PUnit)=>bif decide (x.1>0) then af (jr x.2.1 x.2.1) fun (t:Int×Int)=>again (IntKind.wrap .i64 (x.1 - 1),t,PUnit.unit) else some x.2.1) (x.1,v10)) (x.2.1,x.2.2.1,PUnit.unit) else none else none else none else none) (0,x0,x1,PUnit.unit)
def kL (x0:Int×Int) (x1:Int×Int):Option (Int×Int):=AX lpK jnK jI eo dS jr x0 x1
abbrev On:=(Int×Int)→(Int×Int)→Option (Int×Int)
def xn (_:Lp) (_:Jn) (x0:Int):Option Int :=
 
 let v3:Int:=IntKind.wrap .u64 x0;bif decide (x0<0) then some (IntKind.wrap .u64 (0 - v3)) else some v3
def bv (x0:Int):Option Int:=xn lpK jnK x0
abbrev Im:=(Int)→Option (Int)
def vL (_:Lp) (_:Jn) (kL:On) (bv:Im) (x0:Int×Int):Option Bool :=
 
 let v3:Bool:=decide (x0.2<1);
 let v4:Bool:=!v3;
 let v5:Bool:=bif v3 then true else decide (x0.2>1152921504606846976);
 let v6:Bool:=!v4||v4;
 let v7:Bool:=!v5;
 let v8:Bool:=bif v5 then true else decide (x0.1<(-1152921504606846976));
 let v9:Bool:=!v8;
 let v10:Bool:=!v7||v7;
 let v11:Bool:=!v9||v9;bif v6 then bif v6 then bif v3||v4 then bif v10 then bif v10 then bif v5||v7 then bif v11 then bif v11 then bif v8||v9 then bif bif v8 then true else decide (x0.1>1152921504606846976) then some false else af (bv x0.1) fun (t:Int)=>af (bv x0.2) fun (t_1:Int)=>af (kL (0, t) (0,t_1)) fun (t:Int×Int)=>some (decide (t.1=0)&&(decide (t.2=1)&&true)) else none else none else none else none else none else none else none else none else none
def iz (x0:Int×Int):Option Bool:=vL lpK jnK kL bv x0
abbrev t52:=(Int×Int)→Option (Bool)
def qu (_:Lp) (_:Jn) (iz:t52) (x0:Int×Int):Option Bool :=
 af (iz x0) fun (t:Bool) =>
 let v4:Bool:=!t||t;
 let v5:Bool:=bif t then decide (x0.1≥x0.2) else false;
 let v6:Bool:=!v5||v5;bif v4 then bif v4 then bif v4&&v4 then bif v4 then bif v6 then bif v6 then bif v6 then some (bif v5 then decide (x0.1≤100) else false) else none else none else none else none else none else none else none
def kh (x0:Int×Int):Option Bool:=qu lpK jnK iz x0
abbrev Qv:=(Int×Int)→Option (Bool)
def xC (_:Lp) (_:Jn) (dY:t49) (eA:t73) (kh:Qv) (x0:(List (ByteArray×Int))×List (ByteArray×(List (ByteArray×Int×Int×Int))×Bool)) (x1:ByteArray×Int×Int×Int) (x2:Bool):Option Bool :=
 
 let v5:Bool:=!x2||x2;
 let v6:Bool:=decide (x1.2.1=0);
 let v7:Bool:=decide (x1.2.1=1);
 let v8:Bool:=decide (x1.2.1=2);
 let v9:Bool:=!v7;
 let v10:Bool:=!v8;
 let v11:Bool:=bif v8 then true else v6;
 let v12:Bool:=!v9||v9;
 let v13:Bool:=!v10||v10;
 let v14:Bool:=!v11;
 let v15:Bool:=!v14||v14;bif v5 then af (bif x2 then eA 1 else some (0,0)) fun (t:Int×Int) =>
 let v17:Bool:=bif x2 then !(decide (x1.2.2.1=t.1)&&(decide (x1.2.2.2=t.2)&&true)) else false;
 let v18:Bool:=!v17;
 let v19:Bool:=!v18||v18;bif v5&&v5 then bif v5 then bif v19 then bif v19 then af (bif v18 then kh x1.2.2 else some false) fun (t:Bool)=>bif v19 then bif v17||v18 then bif bif v17 then true else !t then some false else bif List.beq (ByteArray.toList x1.1) (ByteArray.toList { data:=#[] }) then some v6 else af (dY x0 x1.1) fun (t:Int)=>bif decide (t<0) then some false else bif x2 then bif v12 then bif v12 then bif v7||v9 then some (bif v7 then true else decide (x1.2.1=(-1 : Int))) else none else none else none else bif v13 then bif v13 then bif v8||v10 then bif v15 then bif v15 then bif v11||v14 then some (bif v11 then true else decide (x1.2.1 = (-2))) else none else none else none else none else none else none else none else none else none else none else none else none else none
def pS (x0:(List (ByteArray×Int))×List (ByteArray×(List (ByteArray×Int×Int×Int))×Bool)) (x1:ByteArray×Int×Int×Int) (x2:Bool):Option Bool:=xC lpK jnK dY eA kh x0 x1 x2
abbrev Qk:=((List (ByteArray×Int))×List (ByteArray×(List (ByteArray×Int×Int×Int))×Bool))→(ByteArray×Int×Int×Int)→(Bool)→Option (Bool)
def xy (lp:Lp) (_:Jn) (pS:Qk) (x0:(List (ByteArray×Int))×List (ByteArray×(List (ByteArray×Int×Int×Int))×Bool)) (x1:ByteArray×(List (ByteArray×Int×Int×Int))×Bool):Option Bool :=
 
 let v4:Bool:=!x1.2.2;
 let v5:Bool:=!v4;
 let v6:Bool:=!v5;
 let v7:Int:=IntKind.wrap .i64 ((↑x1.2.1.length:Int) - 1);
 let v8:Bool:=v6||v5;
 let v9:Bool:=decide ((↑x1.2.1.length:Int)<2);
 let v10:Bool:=!v9;
 let v11:Bool:=!v10||v10;bif v11 then bif v11 then bif v11 then bif v9||v10 then bif bif v9 then true else decide ((↑x1.2.1.length:Int)>10) then some false else lp (Int×PUnit) Bool (fun (again:Int×PUnit→Option Bool) (x:Int×PUnit) =>
 let v14:Bool:=decide (x.1=0);
 let v15:Bool:=!v14;
 let v16:Bool:=!v15||v15;bif decide (x.1<(↑x1.2.1.length:Int)) then bif inB x.1 x1.2.1.length then bif v16 then bif v16 then bif v16 then bif v16 && v16 then bif v14||v15 then af (pS x0 (x1.2.1.getD x.1.toNat ({ data:={ toList:=[] } },0,0,0)) (bif v14 then true else decide (x.1=v7))) fun (t:Bool)=>bif !t then some false else again (IntKind.wrap .i64 (x.1+1),PUnit.unit) else none else none else none else none else none else none else bif v8 then bif v8 then bif v8 then bif v8 then bif v8&&(v8&&(v6||inB v7 x1.2.1.length)) then bif v8 then bif v8 then bif v8 then bif v4||v5 then some (bif v4 then true else List.beq (ByteArray.toList (x1.2.1.getD v7.toNat ({ data:={ toList:=[] } },0,0,0)).1) (ByteArray.toList { data:=#[] })) else none else none else none else none else none else none else none else none else none) (0,PUnit.unit) else none else none else none else none
def qn (x0:(List (ByteArray×Int))×List (ByteArray×(List (ByteArray×Int×Int×Int))×Bool)) (x1:ByteArray×(List (ByteArray×Int×Int×Int))×Bool):Option Bool:=xy lpK jnK pS x0 x1
abbrev t50:=((List (ByteArray×Int))×List (ByteArray×(List (ByteArray×Int×Int×Int))×Bool))→(ByteArray×(List (ByteArray×Int×Int×Int))×Bool)→Option (Bool)
def vQ (lp:Lp) (_:Jn) (cD:t22) (kI:t48) (dY:t49) (qn:t50) (x0:(List (ByteArray×Int))×List (ByteArray×(List (ByteArray×Int×Int×Int))×Bool)):Option Bool :=
 
 let v3:Bool:=decide ((↑x0.1.length:Int)<1);
 let v4:Bool:=!v3;
 let v5:Bool:=bif v3 then true else decide ((↑x0.1.length:Int)>6);
 let v6:Bool:=!v4||v4;
 let v7:Bool:=!v5;
 let v8:Bool:=bif v5 then true else decide ((↑x0.2.length:Int)<1);
 let v9:Bool:=!v8;
 let v10:Bool:=!v7||v7;
 let v11:Bool:=!v9||v9;bif v6 then bif v6 then bif v6 then bif v3||v4 then bif v10 then bif v10 then bif v10 then bif v5||v7 then bif v11 then bif v11 then bif v11 then bif v8 || v9 then bif bif v8 then true else decide ((↑x0.2.length:Int)>6) then some false else lp (Int×PUnit) Bool (fun (again:Int×PUnit→Option Bool) (x:Int × PUnit)=>bif decide (x.1<(↑x0.1.length:Int)) then bif inB x.1 x0.1.length then af (kI (x0.1.getD x.1.toNat ({ data:={ toList := [] } },0)).1) fun (t:Bool) =>
 let v15:Bool:=!t;
 let v16:Bool:=!v15;
 let v17:Bool:=!v16||v16;
 let v18:Bool:=v17&&v17;bif v17 then bif v18 then af (bif v16 then dY x0 (x0.1.getD x.1.toNat ({ data:={ toList:=[] } },0)).1 else some 0) fun (t:Int) =>
 let v20:Bool:=bif v15 then true else !decide (t=x.1);
 let v21:Bool:=!v20;
 let v22:Bool:=!v21||v21;
 let v23:Bool:=bif v20 then true else decide ((x0.1.getD x.1.toNat ({ data:={ toList:=[] } },0)).2<0);
 let v24:Bool:=!v23;
 let v25:Bool:=!v24||v24;bif v18 then bif v15||v16 then bif v22 then bif v22 then bif v20||v21 then bif v25 then bif v25 then bif v23||v24 then bif bif v23 then true else decide ((x0.1.getD x.1.toNat ({ data:={ toList:=[] } },0)).2>16777216) then some false else again (IntKind.wrap .i64 (x.1+1), PUnit.unit) else none else none else none else none else none else none else none else none else none else none else none else lp (Int×Int×PUnit) Bool (fun (again:Int×Int × PUnit→Option Bool) (x:Int×Int×PUnit) =>
 let v16:Int×PUnit:=(IntKind.wrap .i64 (x.2.1+1),PUnit.unit);
 let v17:ByteArray×List (ByteArray×Int×Int×Int)×Bool:=x0.2.getD x.2.1.toNat ({ data:={ toList:=[] } },[],false);bif decide (x.2.1<(↑x0.2.length:Int)) then bif inB x.2.1 x0.2.length then af (kI v17.1) fun (t:Bool) =>
 let v19:Bool:=!t;
 let v20:Bool:=!v19;
 let v21:Bool:=!v20||v20;
 let v22:Bool:=v21&&v21;bif v21 then bif v22 then af (bif v20 then cD x0 v17.1 else some 0) fun (t:Int) =>
 let v24:Bool:=bif v19 then true else !decide (t=x.2.1);
 let v25:Bool:=!v24;
 let v26:Bool:=!v25||v25;bif v22 then bif v19||v20 then bif v26 then bif v26&&v26 then af (bif v25 then dY x0 v17.1 else some 0) fun (t:Int) =>
 let v28:Bool:=bif v24 then true else decide (t≥0);
 let v29:Bool:=!v28;
 let v30:Bool:=!v29||v29;bif v26 then bif v24||v25 then bif v30&&v30 then af (bif v29 then qn x0 v17 else some false) fun (t:Bool)=>bif v30 then bif v28||v29 then bif bif v28 then true else !t then some false else bif v17.2.2 then again (IntKind.wrap .i64 (x.1+1),v16) else again (x.1,v16) else none else none else none else none else none else none else none else none else none else none else none else none else some (decide (x.1≤1))) (0,0,PUnit.unit)) (0, PUnit.unit) else none else none else none else none else none else none else none else none else none else none else none else none
def b8 (x0:(List (ByteArray×Int))×List (ByteArray×(List (ByteArray×Int×Int×Int))×Bool)):Option Bool:=vQ lpK jnK cD kI dY qn x0
abbrev t13:=((List (ByteArray×Int))×List (ByteArray×(List (ByteArray×Int×Int×Int))×Bool))→Option (Bool)
def k13 (b8:t13):Ctr:=⟨[T25],[],[],.one .bool,fun x _ _=>b8 x.1⟩
def yB (lp:Lp) (_:Jn) (x0:(List Int)×List ((List Int)×Int×Int)) (x1:(List Int)×List ((List Int)×Int×Int)):Option Bool :=
 
 let v4:Bool:=!decide ((↑x0.1.length:Int)=(↑x1.1.length:Int));
 let v5:Bool:=!v4;
 let v6:Bool:=!v5||v5;bif v6 then bif v6 then bif v6 then bif v6 then bif v6&&v6 then bif v4||v5 then bif bif v4 then true else !decide ((↑x0.2.length:Int) = (↑x1.2.length:Int)) then some false else lp (Int×PUnit) Bool (fun (again:Int×PUnit→Option Bool) (x:Int×PUnit)=>bif decide (x.1<(↑x0.1.length : Int)) then bif inB x.1 x0.1.length then bif inB x.1 x1.1.length then bif !decide (x0.1.getD x.1.toNat 0=x1.1.getD x.1.toNat 0) then some false else again (IntKind.wrap .i64 (x.1+1),PUnit.unit) else none else none else lp (Int×PUnit) Bool (fun (again:Int×PUnit→Option Bool) (x:Int×PUnit) =>
 let v11:Bool:=!decide ((x0.2.getD x.1.toNat ([],0,0)).2.1=(x1.2.getD x.1.toNat ([],0,0)).2.1);
 let v12:Bool:=!v11;
 let v13:Bool:=bif v11 then true else !decide ((x0.2.getD x.1.toNat ([],0,0)).2.2=(x1.2.getD x.1.toNat ([],0,(0 : Int))).2.2);
 let v14:Bool:=!v12||v12;
 let v15:Bool:=!v13;
 let v16:Bool:=!v15||v15;bif decide (x.1<(↑x0.2.length:Int)) then bif inB x.1 x0.2.length then bif inB x.1 x1.2.length then bif v14 then bif v14 then bif v14&&v14 then bif v11||v12 then bif v16 then bif v16 then bif v16 then bif v16 then bif v16&&v16 then bif v13||v15 then bif bif v13 then true else !decide ((↑(List.length (x0.2.getD x.1.toNat ([],0,0)).1):Int)=(↑(List.length (x1.2.getD x.1.toNat ([],0,0)).1):Int)) then some false else lp (Int×PUnit) Bool (fun (again_1:Int×PUnit→Option Bool) (x_1:Int×PUnit)=>bif decide (x_1.1<(↑(List.length (x0.2.getD x.1.toNat ([],0,0)).1):Int)) then bif inB x_1.1 (List.length (x0.2.getD x.1.toNat ([],0,0)).1) then bif inB x_1.1 (List.length (x1.2.getD x.1.toNat ([],0,0)).1) then bif !decide (List.getD (x0.2.getD x.1.toNat ([],0,0)).1 x_1.1.toNat 0=List.getD (x1.2.getD x.1.toNat ([],0,0)).1 x_1.1.toNat 0) then some false else again_1 (IntKind.wrap .i64 (x_1.1 + 1),PUnit.unit) else none else none else again (IntKind.wrap .i64 (x.1+1),PUnit.unit)) (0,PUnit.unit) else none else none else none else none else none else none else none else none else none else none else none else none else some true) (0,PUnit.unit)) (0,PUnit.unit) else none else none else none else none else none else none
def hG (x0:(List Int)×List ((List Int)×Int×Int)) (x1:(List Int)×List ((List Int)×Int×Int)):Option Bool:=yB lpK jnK x0 x1
abbrev t14:=((List Int)×List ((List Int)×Int×Int))→((List Int)×List ((List Int)×Int×Int))→Option (Bool)
def yK (lp:Lp) (_:Jn) (x0:ByteArray×(List (ByteArray×Int×Int×Int))×Bool) (x1:ByteArray):Option Int :=
 lp (Int×Int×PUnit) Int (fun (again:Int×Int×PUnit→Option Int) (x:Int×Int×PUnit) =>
 let v6:Int×PUnit:=(IntKind.wrap .i64 (x.2.1+1),PUnit.unit);
 let v7:Bool:=inB x.2.1 x0.2.1.length;
 let v8:ByteArray×Int×Int×Int:=x0.2.1.getD x.2.1.toNat ({ data:={ toList:=[] } },0,0,0);bif decide (x.2.1<(↑x0.2.1.length:Int)) then bif v7 then bif List.beq (ByteArray.toList v8.1) (ByteArray.toList x1) then bif v7 then again (IntKind.wrap .i64 (x.1+v8.2.1),v6) else none else again (x.1,v6) else none else some x.1) (0,0,PUnit.unit)
def p7 (x0:ByteArray×(List (ByteArray×Int×Int×Int))×Bool) (x1:ByteArray):Option Int:=yK lpK jnK x0 x1
abbrev Ps:=(ByteArray×(List (ByteArray×Int×Int×Int))×Bool)→(ByteArray)→Option (Int)
def uK (lp:Lp) (_:Jn) (p7:Ps) (x0:(List (ByteArray×Int))×List (ByteArray×(List (ByteArray×Int×Int×Int))×Bool)):Option (List (List Int)) :=
 lp ((List Nat×List (Option (List Int)))×Int×PUnit) (List (List Int)) (fun (again:(List Nat×List (Option (List Int)))×Int×PUnit→Option (List (List Int))) (x:(List Nat × List (Option (List Int)))×Int×PUnit)=>bif decide (x.2.1<(↑x0.1.length:Int)) then lp (List Int×Int×PUnit) (List (List Int)) (fun (again_1:List Int×Int × PUnit→Option (List (List Int))) (x_1:List Int×Int×PUnit)=>bif decide (x_1.2.1<(↑x0.2.length:Int)) then bif inB x_1.2.1 x0.2.length then bif inB x.2.1 x0.1.length then af (p7 (x0.2.getD x_1.2.1.toNat ({ data:={ toList:=[] } },[],false)) (x0.1.getD x.2.1.toNat ({ data:={ toList:=[] } },0)).1) fun (t:Int)=>bif dq (List.length x_1.1+1) 8 then again_1 (x_1.1++[t],IntKind.wrap .i64 (x_1.2.1 + 1),PUnit.unit) else none else none else none else bif dq (List.length x.1.1+1) 24 then again ((x.1.1++[List.length x.1.2+0], x.1.2++[some x_1.1]),IntKind.wrap .i64 (x.2.1+1),PUnit.unit) else none) ([],0,PUnit.unit) else bif List.all x.1.1 fun (x_1:Nat)=>eB x.1.2 x_1 then some (List.map (fun (x_1:Nat)=>ah x.1.2 x_1) x.1.1) else none) (([],[]),0,PUnit.unit)
def mQ (x0:(List (ByteArray×Int))×List (ByteArray×(List (ByteArray×Int×Int×Int))×Bool)):Option (List (List Int)):=uK lpK jnK p7 x0
abbrev t51:=((List (ByteArray×Int))×List (ByteArray×(List (ByteArray×Int×Int×Int))×Bool))→Option (List (List Int))
def tg (lp:Lp) (_:Jn) (mQ:t51) (x0:(List (ByteArray×Int))×List (ByteArray×(List (ByteArray×Int×Int×Int))×Bool)) (x1:List Int):Option ((List Int)×List ((List Int)×Int×Int)) :=
 af (mQ x0) fun (t:List (List Int))=>lp (Int×List Int×List (List Int×Int×Int)×PUnit) (List Int×List (List Int×Int×Int)) (fun (again:Int×List Int×List (List Int×Int×Int)×PUnit→Option (List Int×List (List Int×Int×Int))) (x:Int×List Int×List (List Int×Int×Int)×PUnit)=>bif decide (x.1<(↑x0.1.length:Int)) then bif inB x.1 t.length then bif inB x.1 x0.1.length then bif dq (List.length x.2.2.1+1) 40 then again (IntKind.wrap IntKind.i64 (x.1+1),x.2.1,x.2.2.1++[(t.getD x.1.toNat [],3,(x0.1.getD x.1.toNat ({ data:={ toList:=[] } },(0 : Int))).2)],PUnit.unit) else none else none else none else some (x.2.1,x.2.2.1)) (0,x1,[],PUnit.unit)
def aM (x0:(List (ByteArray×Int))×List (ByteArray×(List (ByteArray×Int×Int×Int))×Bool)) (x1:List Int):Option ((List Int)×List ((List Int)×Int×Int)):=tg lpK jnK mQ x0 x1
abbrev t15:=((List (ByteArray×Int))×List (ByteArray×(List (ByteArray×Int×Int×Int))×Bool))→(List Int)→Option ((List Int)×List ((List Int)×Int×Int))
def k15 (aM:t15):Ctr:=⟨[T25,(.sl i64)],[],[],.one T32,fun x _ _=>aM x.1 x.2.1⟩
def y7 (lp:Lp) (_:Jn) (x0:(List (ByteArray×Int))×List (ByteArray×(List (ByteArray×Int×Int×Int))×Bool)):Option (List Int) :=
 lp (List Int×Int×PUnit) (List Int) (fun (again:List Int×Int×PUnit→Option (List Int)) (x:List Int×Int×PUnit)=>bif decide (x.2.1<(↑x0.2.length:Int)) then bif dq (List.length x.1+1) 8 then again (x.1++[1],IntKind.wrap .i64 (x.2.1+1),PUnit.unit) else none else some x.1) ([],(0 : Int),PUnit.unit)
def cl (x0:(List (ByteArray×Int))×List (ByteArray×(List (ByteArray×Int×Int×Int))×Bool)):Option (List Int):=y7 lpK jnK x0
abbrev t16:=((List (ByteArray×Int))×List (ByteArray×(List (ByteArray×Int×Int×Int))×Bool))→Option (List Int)
def k16 (cl:t16):Ctr:=⟨[T25],[],[],.one (.sl i64),fun x _ _=>cl x.1⟩
def Bl (lp:Lp) (_:Jn) (iz:t52) (x0:List (Int×Int)):Option Bool :=
 lp (Int×PUnit) Bool (fun (again:Int×PUnit→Option Bool) (x:Int×PUnit)=>bif decide (x.1<(↑x0.length:Int)) then bif inB x.1 x0.length then af (iz (x0.getD x.1.toNat (0,0))) fun (t:Bool)=>bif !t then some false else again (IntKind.wrap .i64 (x.1+1),PUnit.unit) else none else some true) (0,PUnit.unit)
def kU (x0:List (Int×Int)):Option Bool:=Bl lpK jnK iz x0
abbrev t17:=(List (Int×Int))→Option (Bool)
def Ak (lp:Lp) (_:Jn) (eo:JW) (dS:MN) (x0:Int×Int) (x1:Int×Int):Option ((Int×Int)×(Int×Int)×Unit) :=
 
 let v4:Bool:=nzB x1.2;
 let v5:Int:=2 ^ 63;
 let v6:Int:=2 ^ 1;
 let v7:Bool:=decide (x0.1=0);
 let v8:Bool:=decide ((0:Int)≤63);
 let v9:Bool:=decide ((0:Int)≤1);
 let v10:Bool:=!v7||v7;bif v10 then bif v10 then bif v10 then bif bif v7 then decide (x1.1=0) else false then bif v4 then bif v4 then some ((0,IntKind.wrap IntKind.u64 (Int.tdiv x0.2 x1.2)),(0,Int.tmod x0.2 x1.2),PUnit.unit) else none else none else lp (Int×(Int×Int)×(Int×Int)×(Int×Int)×PUnit) ((Int×Int) × (Int×Int)×PUnit) (fun (again:Int×(Int×Int)×(Int×Int)×(Int×Int)×PUnit→Option ((Int×Int)×(Int×Int)×PUnit)) (x:Int×(Int×Int)×(Int×Int)×(Int × Int)×PUnit) =>
 let v13:Int:=IntKind.wrap .i64 (x.1+1);
 let v14:Int:=IntKind.wrap .u64 (x.2.2.1.2*v6);
 let v15:Int:=IntKind.wrap .u64 (IntKind.wrap .u64 (x.2.2.1.1*v6)+Int.fdiv x.2.2.1.2 v5);
 let v16:Bool:=decide (Int.fdiv x.2.2.2.1.1 v5>0);
 let v17:Bool:=!v16;
 let v18:Int×Int:=(IntKind.wrap .u64 (IntKind.wrap .u64 (x.2.1.1*v6)+Int.fdiv x.2.1.2 v5),IntKind.wrap .u64 (x.2.1.2*v6));
 let v19:Int×Int:=(IntKind.wrap .u64 (IntKind.wrap .u64 (x.2.2.2.1.1*v6)+Int.fdiv x.2.2.2.1.2 v5),IntKind.wrap .u64 (IntKind.wrap IntKind.u64 (x.2.2.2.1.2*v6)+Int.fdiv x.2.1.1 v5));
 let v20:Bool:=!v17||v17;bif decide (x.1<128) then bif v8 then bif v9 then bif v8 then bif v9 then bif v8 then bif v9 then bif v8 then bif v9 then bif v9 then bif v8 then bif v9 then bif v20&&v20 then af (bif v17 then eo v19 x1 else some false) fun (t:Bool)=>bif v20 then bif v16||v17 then bif bif v16 then true else !t then af (dS v19 x1) fun (t:Int×Int)=>again (v13,v18,(v15,IntKind.wrap .u64 (v14+1)),t,PUnit.unit) else again (v13,v18,(v15,v14),v19,PUnit.unit) else none else none else none else none else none else none else none else none else none else none else none else none else none else none else some (x.2.2.1,x.2.2.2.1, PUnit.unit)) (0,x0,(0,0),(0,0),PUnit.unit) else none else none else none
def oM (x0:Int×Int) (x1:Int×Int):Option ((Int×Int)×(Int×Int)×Unit):=Ak lpK jnK eo dS x0 x1
abbrev Px:=(Int×Int)→(Int×Int)→Option ((Int×Int)×(Int×Int)×Unit)
def yu (_:Lp) (_:Jn) (kL:On) (oM:Px) (x0:Int×Int) (x1:Bool) (x2:Int×Int):Option ((Int×Int)×Int×Unit) :=
 bif decide (x2.1=0)&&(decide (x2.2=0)&&true) then some ((0,0),16,PUnit.unit) else af (kL x0 x2) fun (t:Int×Int)=>af (oM x0 t) fun (t_1:(Int×Int)×(Int×Int)×PUnit) =>
 let v7:Int:=IntKind.wrap .i64 t_1.1.2;
 let v8:Bool:=decide (t_1.1.1>0);
 let v9:Bool:=!v8;
 let v10:Bool:=bif v8 then true else decide (t_1.1.2>1152921504606846976);
 let v11:Bool:=!v9||v9;
 let v12:Bool:=!v10;
 let v13:Bool:=!v12||v12;af (oM x2 t) fun (t:(Int×Int)×(Int×Int)×PUnit) =>
 let v15:Int:=IntKind.wrap .i64 t.1.2;
 let v16:Bool:=bif v10 then true else decide (t.1.1>0);
 let v17:Bool:=!v16;
 let v18:Bool:=!v17||v17;bif v11 then bif v11 then bif v8||v9 then bif v13 then bif v13 then bif v10||v12 then bif v18 then bif v18 then bif v16||v17 then bif bif v16 then true else decide (t.1.2>1152921504606846976) then some ((0,0),5,PUnit.unit) else bif x1 then some ((IntKind.wrap .i64 (0 - v7), v15),0,PUnit.unit) else some ((v7,v15),0,PUnit.unit) else none else none else none else none else none else none else none else none else none
def eT (x0:Int×Int) (x1:Bool) (x2:Int×Int):Option ((Int×Int)×Int×Unit):=yu lpK jnK kL oM x0 x1 x2
abbrev MA:=(Int×Int)→(Bool)→(Int×Int)→Option ((Int×Int)×Int×Unit)
def zu (_:Lp) (_:Jn) (x0:Int) (x1:Int):Option (Int×Int) :=
 
 let v4:Int:=2 ^ 32;
 let v5:Int:=Int.fdiv x0 v4;
 let v6:Int:=Int.fdiv x1 v4;
 let v7:Bool:=decide ((0:Int)≤32);
 let v8:Int:=IntKind.wrap .u64 (↑(Nat.land (Int.toNat (x1 % Int.ofNat 18446744073709551616)) (Int.toNat (4294967295 % Int.ofNat 18446744073709551616))) : Int);
 let v9:Int:=IntKind.wrap .u64 (↑(Nat.land (Int.toNat (x0 % Int.ofNat 18446744073709551616)) (Int.toNat (4294967295 % Int.ofNat 18446744073709551616))) : Int);
 let v10:Int:=IntKind.wrap .u64 (v9*v8);
 let v11:Int:=IntKind.wrap .u64 (IntKind.wrap .u64 (v5*v8)+Int.fdiv v10 v4);
 let v12:Int:=IntKind.wrap .u64 (IntKind.wrap .u64 (v9*v6)+IntKind.wrap .u64 (↑(Nat.land (Int.toNat (v11 % Int.ofNat 18446744073709551616)) (Int.toNat (4294967295 % Int.ofNat 18446744073709551616))):Int));bif v7 then bif v7 then bif v7 then bif v7 then bif v7 then bif v7 then some (IntKind.wrap .u64 (IntKind.wrap .u64 (IntKind.wrap .u64 (v5*v6)+Int.fdiv v11 v4)+Int.fdiv v12 v4),IntKind.wrap .u64 (IntKind.wrap .u64 (v12*v4)+IntKind.wrap IntKind.u64 (↑(Nat.land (Int.toNat (v10 % Int.ofNat 18446744073709551616)) (Int.toNat (4294967295 % Int.ofNat 18446744073709551616))):Int))) else none else none else none else none else none else none
def eL (x0:Int) (x1:Int):Option (Int×Int):=zu lpK jnK x0 x1
abbrev Nd:=(Int)→(Int)→Option (Int×Int)
def vG (_:Lp) (_:Jn) (bv:Im) (eT:MA) (eL:Nd) (x0:Int×Int) (x1:Int×Int):Option ((Int×Int)×Int×Unit) :=
 af (bv x0.1) fun (t:Int)=>af (bv x1.1) fun (t_1:Int)=>af (eL t t_1) fun (t:Int×Int)=>af (bv x0.2) fun (t_2:Int)=>af (bv x1.2) fun (t_3:Int)=>af (eL t_2 t_3) fun (t_4:Int×Int)=>af (eT t (!decide (decide (x0.1<0)=decide (x1.1<0))) t_4) fun (t:(Int×Int)×Int×PUnit)=>some (t.1,t.2.1,PUnit.unit)
def oD (x0:Int×Int) (x1:Int×Int):Option ((Int×Int)×Int×Unit):=vG lpK jnK bv eT eL x0 x1
abbrev QB:=(Int×Int)→(Int×Int)→Option ((Int×Int)×Int×Unit)
def AM (_:Lp) (_:Jn) (eo:JW) (dS:MN) (jr:NN) (bv:Im) (eT:MA) (eL:Nd) (x0:Int×Int) (x1:Int×Int):Option ((Int×Int)×Int×Unit) :=
 
 let v4:Bool:=decide (x0.1<0);af (bv x0.1) fun (t:Int)=>af (bv x1.2) fun (t_1:Int)=>af (eL t t_1) fun (t:Int×Int)=>af (bv x1.1) fun (t_2:Int)=>af (bv x0.2) fun (t_3:Int)=>af (eL t_2 t_3) fun (t_4:Int×Int)=>af (bv x0.2) fun (t_5:Int)=>af (bv x1.2) fun (t_6:Int)=>af (eL t_5 t_6) fun (t_7:Int×Int)=>bif decide (v4=decide (x1.1<0)) then af (jr t t_4) fun (t:Int×Int) =>af (eT t v4 t_7) fun (t:(Int×Int)×Int×PUnit)=>some (t.1,t.2.1,PUnit.unit) else af (eo t t_4) fun (t_8:Bool)=>bif t_8 then af (dS t_4 t) fun (t:Int×Int)=>af (eT t (decide (x1.1<0)) t_7) fun (t:(Int×Int)×Int×PUnit)=>some (t.1,t.2.1,PUnit.unit) else af (dS t t_4) fun (t:Int×Int)=>af (eT t v4 t_7) fun (t:(Int×Int)×Int×PUnit)=>some (t.1,t.2.1,PUnit.unit)
def rK (x0:Int×Int) (x1:Int×Int):Option ((Int×Int)×Int×Unit):=AM lpK jnK eo dS jr bv eT eL x0 x1
abbrev Qd:=(Int×Int)→(Int×Int)→Option ((Int×Int)×Int×Unit)
def Ae (lp:Lp) (_:Jn) (eA:t73) (oD:QB) (rK:Qd) (x0:List Int) (x1:List (Int×Int)):Option ((Int×Int)×Int×Unit) :=
 af (eA 0) fun (t:Int×Int)=>lp (Int×(Int×Int)×(Int×Int)×PUnit) ((Int×Int)×Int×PUnit) (fun (again:Int×(Int×Int)×(Int×Int)×PUnit→Option ((Int×Int)×Int×PUnit)) (x:Int×(Int×Int)×(Int×Int)×PUnit)=>bif decide (x.1<(↑x0.length:Int)) then bif inB x.1 x0.length then af (eA (x0.getD x.1.toNat 0)) fun (t:Int×Int)=>bif inB x.1 x1.length then af (oD t (x1.getD x.1.toNat (0,0))) fun (t:(Int×Int)×Int×PUnit)=>bif !decide (t.2.1=0) then some ((0,0),t.2.1,PUnit.unit) else af (rK x.2.2.1 t.1) fun (t:(Int × Int)×Int×PUnit)=>bif !decide (t.2.1=0) then some ((0,0),t.2.1,PUnit.unit) else again (IntKind.wrap .i64 (x.1+1), x.2.1,t.1,PUnit.unit) else none else none else some (x.2.2.1,0,PUnit.unit)) (0,(0,0),t,PUnit.unit)
def kS (x0:List Int) (x1:List (Int×Int)):Option ((Int×Int)×Int×Unit):=Ae lpK jnK eA oD rK x0 x1
abbrev t54:=(List Int)→(List (Int×Int))→Option ((Int×Int)×Int×Unit)
def t7 (lp:Lp) (_:Jn) (x0:(List Int)×List ((List Int)×Int×Int)) (x1:Int):Option (List Int) :=
 lp (List Int×Int×PUnit) (List Int) (fun (again:List Int×Int×PUnit→Option (List Int)) (x:List Int×Int×PUnit)=>bif decide (x.2.1<(↑x0.2.length:Int)) then bif inB x.2.1 x0.2.length then bif inB x1 (List.length (x0.2.getD x.2.1.toNat ([],0,0)).1) then bif dq (List.length x.1+(1 : Nat)) 8 then again (x.1++[List.getD (x0.2.getD x.2.1.toNat ([],0,0)).1 x1.toNat 0],IntKind.wrap .i64 (x.2.1 + 1),PUnit.unit) else none else none else none else some x.1) ([],0,PUnit.unit)
def m0 (x0:(List Int)×List ((List Int)×Int×Int)) (x1:Int):Option (List Int):=t7 lpK jnK x0 x1
abbrev Pu:=((List Int)×List ((List Int)×Int×Int))→(Int)→Option (List Int)
def A8 (_:Lp) (_:Jn) (eo:JW) (bv:Im) (eL:Nd) (x0:Int×Int) (x1:Int×Int):Option Int :=
 
 let v4:Bool:=decide (x0.1<0);
 let v5:Bool:=decide (x0.1≥0);
 let v6:Bool:=!v4||v4;
 let v7:Bool:=!v5||v5;af (bv x0.1) fun (t:Int)=>af (bv x1.2) fun (t_1:Int)=>af (eL t t_1) fun (t:Int×Int)=>af (bv x1.1) fun (t_2:Int)=>af (bv x0.2) fun (t_3:Int)=>af (eL t_2 t_3) fun (t_4:Int×Int)=>bif v6 then bif v6 then bif v6 then bif bif v4 then decide (x1.1≥0) else false then some (-1) else bif v7 then bif v7 then bif v7 then bif bif v5 then decide (x1.1<0) else false then some 1 else bif decide (t.1=t_4.1)&&(decide (t.2=t_4.2)&&true) then some 0 else af (eo t t_4) fun (t:Bool)=>bif decide (t=v5) then some (-1) else some 1 else none else none else none else none else none else none
def kM (x0:Int×Int) (x1:Int×Int):Option Int:=A8 lpK jnK eo bv eL x0 x1
abbrev Ob:=(Int×Int)→(Int×Int)→Option (Int)
def vH (lp:Lp) (_:Jn) (eA:t73) (kS:t54) (m0:Pu) (kM:Ob) (x0:(List Int)×List ((List Int)×Int×Int)) (x1:List (Int×Int)) (x2:List Int):Option (Bool×Int×Unit) :=
 lp (Bool×Int×PUnit) (Bool×Int×PUnit) (fun (again:Bool×Int×PUnit→Option (Bool×Int×PUnit)) (x:Bool×Int×PUnit) =>
 let v7:Bool:=!x.1;
 let v8:Bool:=v7||x.1;bif decide (x.2.1<(↑x2.length:Int)) then af (m0 x0 x.2.1) fun (t:List Int)=>af (kS t x1) fun (t:(Int×Int) × Int×PUnit)=>bif !decide (t.2.1=0) then some (false,t.2.1,PUnit.unit) else bif v8&&(v8&&(v7||inB x.2.1 x2.length)) then bif v8 then bif v8 then af (bif x.1 then eA (x2.getD x.2.1.toNat 0) else some (0,0)) fun (t_1:Int×Int)=>bif v8&&v8 then af (bif x.1 then kM t.1 t_1 else some 0) fun (t:Int)=>bif v8 then bif v8 then again (bif x.1 then decide (t≤0) else false,IntKind.wrap .i64 (x.2.1+(1 : Int)),PUnit.unit) else none else none else none else none else none else none else some (x.1,0,PUnit.unit)) (true,0,PUnit.unit)
def oq (x0:(List Int)×List ((List Int)×Int×Int)) (x1:List (Int×Int)) (x2:List Int):Option (Bool×Int×Unit):=vH lpK jnK eA kS m0 kM x0 x1 x2
abbrev t53:=((List Int)×List ((List Int)×Int×Int))→(List (Int×Int))→(List Int)→Option (Bool×Int×Unit)
end
end Go.Proofs.YtfknoaclabfdlaaGreat
