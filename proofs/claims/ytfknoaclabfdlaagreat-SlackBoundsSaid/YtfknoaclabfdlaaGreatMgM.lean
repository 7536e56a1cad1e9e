/- r15: the shapes of its types, and the places of its loops. r15: what its functions answer (printed by a program), and that they do. r15: what its functions answer (printed by a program), and that they do; part 2. -/
import Derived.Test.YtfknoaclabfdlaaGreatProg
import Derived.KernelRfl
import Derived.Test.YtfknoaclabfdlaaGreatMgL

namespace Go.Proofs.YtfknoaclabfdlaaGreat
open Tryz Dn Dn.Sh
abbrev i64:Sh:=.int .i64
abbrev T66:Sh:=.agg (.pair .str i64)
abbrev T49:Sh:=.agg (.pair i64 i64)
abbrev NF:Sh:=.agg (.pair .str (.pair i64 T49))
abbrev T75:Sh:=.agg (.pair .str (.pair (.sl NF) .bool))
abbrev T25:Sh:=.agg (.pair (.sl T66) (.sl T75))
abbrev T86:Sh:=.agg (.pair (.sl i64) (.pair i64 i64))
abbrev T32:Sh:=.agg (.pair (.sl i64) (.sl T86))
abbrev T96:Sh:=.agg (.pair T49 (.pair (.sl T49) (.sl T49)))
abbrev mi:Sh:=.agg (.pair (.int .u64) (.int .u64))
abbrev MP:Sh:=.agg i64
abbrev ww:Sh:=.agg (.pair (.int .u64) (.int .u64))
abbrev EO:Sh:=.agg (.pair (.sl (.sl i64)) (.pair i64 (.pair (.sl i64) (.pair (.sl i64) (.pair (.sl i64) (.pair i64 i64))))))
abbrev qT:Sh:=.agg (.pair .bool (.pair (.int .u64) (.int .u64)))
def shs:TypeId->Option Sh
 | 3=>some i64
 | 4=>some .bool
 | 5=>some (.int .u8)
 | 9=>some .str
 | 29=>some (.sl i64)
 | 49=>some T49
 | 66=>some T66
 | 75=>some T75
 | 86=>some T86
 | 134=>some NF
 | _=>none
def Ip:Nat->Option Hd
 | 2=>some ⟨[(3,false,[.d i64])],[],[]⟩
 | _=>none
def Ge:Nat->Option Hd
 | 2=>some ⟨[(8,false,[.d i64])],[],[]⟩
 | _=>none
def J8:Nat->Option Hd
 | 1=>some ⟨[(0,false,[.d (.int .u64)]),(1,false,[.d (.int .u64)])],[],[]⟩
 | _=>none
def Hq:Nat->Option Hd
 | 5=>some ⟨[(17,false,[.d i64])],[],[]⟩
 | _=>none
def L6:Nat->Option Hd
 | 6=>some ⟨[(27,false,[.d i64])],[],[(3,some 0,.x (.map 158 .str .bool))]⟩
 | 13=>some ⟨[(7,false,[.d i64]),(46,false,[.d i64])],[],[(3,some 0,.x (.map 158 .str .bool))]⟩
 | _=>none
def Kv:Nat->Option Hd
 | 5=>some ⟨[(20,false,[.d i64])],[],[(4,none,.x (.tab 29 .ref 3 i64))]⟩
 | 10=>some ⟨[(34,false,[.d i64])],[],[(4,none,.x (.tab 29 .ref 3 i64))]⟩
 | 13=>some ⟨[(42,false,[.d i64])],[],[(4,none,.x (.tab 29 .ref 3 i64))]⟩
 | _=>none
def Lg:Nat->Option Hd
 | 5=>some ⟨[(4,false,[.row 3 i64]),(13,false,[.d i64])],[],[]⟩
 | _=>none
def KH:Nat->Option Hd
 | 9=>some ⟨[(34,false,[.d i64])],[(9,[.d (.sl i64),.row 86 T86])],[]⟩
 | _=>none
def L0:Nat->Option Hd
 | 8=>some ⟨[(8,false,[.d i64])],[],[(7,none,.row 3 i64)]⟩
 | _=>none
def LC:Nat->Option Hd
 | 1000002=>some ⟨[],[],[]⟩
 | 1000005=>some ⟨[],[],[]⟩
 | _=>none
def IV:Nat->Option Hd
 | 2=>some ⟨[(8,false,[.d i64])],[],[]⟩
 | _=>none
def Ju:Nat->Option Hd
 | 2=>some ⟨[(8,false,[.d i64])],[],[]⟩
 | _=>none
def J1:Nat->Option Hd
 | 2=>some ⟨[(8,false,[.d i64])],[],[]⟩
 | _=>none
def Ir:Nat->Option Hd
 | 1000002=>some ⟨[(0,false,[.d (.int .u64)]),(2,false,[.d i64])],[],[]⟩
 | 1000005=>some ⟨[(0,false,[.d (.int .u64)]),(2,false,[.d i64])],[],[]⟩
 | _=>none
def Je:Nat->Option Hd
 | 17=>some ⟨[(15,false,[.d (.int .u64)]),(16,false,[.d (.int .u64)])],[],[]⟩
 | 24=>some ⟨[(16,false,[.d (.int .u64)]),(18,false,[.d (.int .u64)])],[],[]⟩
 | _=>none
def HX:Nat->Option Hd
 | 0=>some ⟨[(15,false,[.d (.int .u64)])],[],[]⟩
 | 2=>some ⟨[(18,false,[.d (.int .u64)])],[],[]⟩
 | 1000002=>some ⟨[],[],[]⟩
 | 1000004=>some ⟨[],[],[]⟩
 | _=>none
def Kx:Nat->Option Hd
 | 1000008=>some ⟨[(9,false,[.d .bool])],[(10,[.d mi])],[]⟩
 | 1000010=>some ⟨[(9,false,[.d .bool])],[(10,[.d mi])],[]⟩
 | _=>none
def L2:Nat->Option Hd
 | 3=>some ⟨[(15,false,[.d i64])],[(0,[.d MP]),(6,[.d T49]),(7,[.d T49])],[]⟩
 | _=>none
def LS:Nat->Option Hd
 | 1000007=>some ⟨[(11,false,[.d i64])],[(10,[.d T49])],[]⟩
 | _=>none
def J3:Nat->Option Hd
 | 1000009=>some ⟨[],[(6,[.d mi]),(7,[.d mi])],[]⟩
 | _=>none
def Ih:Nat->Option Hd
 | 3=>some ⟨[(5,false,[.row 3 i64]),(11,false,[.d i64])],[],[]⟩
 | _=>none
def Ka:Nat->Option Hd
 | 3=>some ⟨[(9,false,[.d .bool]),(14,false,[.d i64])],[(0,[.d MP])],[]⟩
 | _=>none
def J5:Nat->Option Hd
 | 3=>some ⟨[(3,false,[.row 3 i64]),(9,false,[.d i64])],[],[]⟩
 | _=>none
def KZ:Nat->Option Hd
 | 2=>some ⟨[(10,false,[.d i64])],[],[]⟩
 | _=>none
def HP:Nat->Option Hd
 | 3=>some ⟨[(5,false,[.d i64]),(14,false,[.d i64])],[],[]⟩
 | _=>none
def JG:Nat->Option Hd
 | 5=>some ⟨[(3,false,[.d i64]),(4,false,[.d i64])],[],[]⟩
 | _=>none
def It:Nat->Option Hd
 | 1000002=>some ⟨[],[],[]⟩
 | _=>none
def Gn:Nat->Option Hd
 | 4=>some ⟨[(4,false,[.row 3 i64]),(18,false,[.d i64])],[],[]⟩
 | 10=>some ⟨[(7,false,[.d i64]),(34,false,[.d i64])],[],[]⟩
 | _=>none
def Jr:Nat->Option Hd
 | 4=>some ⟨[(5,false,[.d i64]),(24,false,[.d i64])],[],[]⟩
 | 12=>some ⟨[(9,false,[.d i64]),(51,false,[.d i64])],[(46,[.x (.tab 29 .ref 3 i64),.d i64,.row 3 i64,.row 3 i64,.row 3 i64,.d i64,.d i64])],[]⟩
 | 28=>some ⟨[(95,false,[.d i64])],[],[(12,none,.row 3 i64)]⟩
 | _=>none
def GE:Nat->Option Hd
 | 1000019=>some ⟨[(9,false,[.d i64])],[],[(12,none,.row 3 i64)]⟩
 | 1000022=>some ⟨[(9,false,[.d i64])],[],[(12,none,.row 3 i64)]⟩
 | 1000026=>some ⟨[(13,false,[.d i64])],[],[(12,none,.row 3 i64)]⟩
 | _=>none
def G3:Nat->Option Hd
 | 3=>some ⟨[(5,false,[.d i64]),(13,false,[.d i64])],[],[]⟩
 | _=>none
def GK:Nat->Option Hd
 | 1000008=>some ⟨[(10,false,[.d .bool])],[(2,[.d qT]),(3,[.d qT])],[]⟩
 | _=>none
def Gg:Nat->Option Hd
 | 2=>some ⟨[(29,false,[.d i64])],[],[(0,some 0,.x (.tab 29 .ref 3 i64))]⟩
 | 7=>some ⟨[(43,false,[.d i64])],[],[(0,some 0,.x (.tab 29 .ref 3 i64))]⟩
 | 17=>some ⟨[(98,false,[.d i64])],[],[(0,some 0,.x (.tab 29 .ref 3 i64))]⟩
 | 20=>some ⟨[(104,false,[.d i64])],[],[(0,some 0,.x (.tab 29 .ref 3 i64))]⟩
 | _=>none
def H3:Nat->Option Hd
 | 3=>some ⟨[(5,false,[.d i64]),(14,false,[.d i64])],[],[]⟩
 | _=>none
def Hj:Nat->Option Hd
 | 1=>some ⟨[],[(0,[.x (.tab 29 .ref 3 i64),.d i64,.row 3 i64,.row 3 i64,.row 3 i64,.d i64,.d i64])],[]⟩
 | 3=>some ⟨[(3,false,[.d i64]),(4,false,[.d i64])],[],[]⟩
 | 12=>some ⟨[(44,false,[.d i64])],[(0,[.x (.tab 29 .ref 3 i64),.d i64,.row 3 i64,.row 3 i64,.row 3 i64,.d i64,.d i64])],[]⟩
 | 15=>some ⟨[(6,false,[.d i64])],[(0,[.x (.tab 29 .ref 3 i64),.d i64,.row 3 i64,.row 3 i64,.row 3 i64,.d i64,.d i64])],[]⟩
 | _=>none
def Gk:Nat->Option Hd
 | 3=>some ⟨[(5,false,[.d i64]),(21,false,[.d i64])],[],[]⟩
 | _=>none
def HA:Nat->Option Hd
 | 1=>some ⟨[],[(0,[.x (.tab 29 .ref 3 i64),.d i64,.row 3 i64,.row 3 i64,.row 3 i64,.d i64,.d i64])],[]⟩
 | 3=>some ⟨[(3,false,[.d i64]),(4,false,[.d i64])],[],[]⟩
 | _=>none
def J7:Nat->Option Hd
 | 14=>some ⟨[(6,false,[.d i64]),(43,false,[.d i64])],[],[(7,none,.row 3 i64)]⟩
 | 22=>some ⟨[(94,false,[.d i64])],[(5,[.d T49,.row 49 T49,.row 49 T49])],[]⟩
 | 27=>some ⟨[(110,false,[.d i64])],[(5,[.d T49,.row 49 T49,.row 49 T49])],[]⟩
 | 31=>some ⟨[(13,false,[.d i64]),(118,false,[.d i64])],[],[]⟩
 | _=>none
def Lc:Nat->Option Hd
 | 2=>some ⟨[(8,false,[.d i64])],[],[]⟩
 | _=>none
def Kp:Nat->Option Hd
 | 5=>some ⟨[(4,false,[.row 9 .str]),(16,false,[.d i64])],[],[]⟩
 | _=>none
def Lx:Nat->Option Hd
 | 3=>some ⟨[(11,false,[.d i64])],[(3,[.d (.sl T66),.row 75 T75])],[]⟩
 | _=>none
def Lo:Nat->Option Hd
 | 4=>some ⟨[(3,false,[.d i64])],[],[]⟩
 | 9=>some ⟨[(4,false,[.d i64])],[],[]⟩
 | 14=>some ⟨[(5,false,[.d i64])],[],[]⟩
 | _=>none
def Lw:Nat->Option Hd
 | 2=>some ⟨[(5,false,[.d i64])],[],[]⟩
 | _=>none
def KC:Nat->Option Hd
 | 1=>some ⟨[(1,false,[.d i64])],[],[]⟩
 | _=>none
def Lz:Nat->Option Hd
 | 2=>some ⟨[(5,false,[.d i64])],[],[]⟩
 | _=>none
def Gv:Nat->Option Hd
 | 4=>some ⟨[(5,false,[.d i64])],[(2,[.d ww]),(3,[.d ww])],[]⟩
 | 6=>some ⟨[],[(2,[.d ww]),(3,[.d ww])],[]⟩
 | 7=>some ⟨[],[(2,[.d ww])],[]⟩
 | 9=>some ⟨[],[(3,[.d ww])],[]⟩
 | 14=>some ⟨[(5,false,[.d i64])],[(3,[.d ww])],[]⟩
 | _=>none
def Kc:Nat->Option Hd
 | 4=>some ⟨[(5,false,[.d i64])],[],[]⟩
 | _=>none
def LW:Nat->Option Hd
 | 4=>some ⟨[(3,false,[.d i64])],[],[]⟩
 | 11=>some ⟨[(5,false,[.d i64]),(6,false,[.d i64])],[],[]⟩
 | _=>none
def LD:Nat->Option Hd
 | 4=>some ⟨[(5,false,[.d i64])],[],[]⟩
 | 9=>some ⟨[(6,false,[.d i64])],[],[]⟩
 | 15=>some ⟨[(9,false,[.d i64])],[],[]⟩
 | _=>none
def Gj:Nat->Option Hd
 | 3=>some ⟨[(5,false,[.d i64]),(6,false,[.d i64])],[],[]⟩
 | _=>none
def K1:Nat->Option Hd
 | 3=>some ⟨[(3,false,[.x (.tab 29 .ref 3 i64)]),(4,false,[.d i64])],[],[]⟩
 | 7=>some ⟨[(5,false,[.row 3 i64]),(6,false,[.d i64])],[],[]⟩
 | _=>none
def K4:Nat->Option Hd
 | 4=>some ⟨[(7,false,[.d i64])],[(5,[.d (.sl i64),.row 86 T86])],[]⟩
 | _=>none
def Mb:Nat->Option Hd
 | 3=>some ⟨[(3,false,[.row 3 i64]),(4,false,[.d i64])],[],[]⟩
 | _=>none
def Ls:Nat->Option Hd
 | 2=>some ⟨[(3,false,[.d i64])],[],[]⟩
 | _=>none
def I8:Nat->Option Hd
 | 5=>some ⟨[(8,false,[.d i64])],[(2,[.d ww]),(6,[.d ww]),(7,[.d ww])],[]⟩
 | _=>none
def Le:Nat->Option Hd
 | 3=>some ⟨[(7,false,[.d i64])],[(4,[.d T49]),(6,[.d T49])],[]⟩
 | _=>none
def HO:Nat->Option Hd
 | 3=>some ⟨[(5,false,[.row 3 i64]),(6,false,[.d i64])],[],[]⟩
 | _=>none
def L7:Nat->Option Hd
 | 3=>some ⟨[(8,false,[.d .bool]),(9,false,[.d i64])],[],[]⟩
 | _=>none
def Ke:Nat->Option Hd
 | 3=>some ⟨[(3,false,[.row 3 i64]),(4,false,[.d i64])],[],[]⟩
 | _=>none
def LK:Nat->Option Hd
 | 2=>some ⟨[(5,false,[.d i64])],[],[]⟩
 | _=>none
def Ig:Nat->Option Hd
 | 3=>some ⟨[(3,false,[.d i64]),(4,false,[.d i64])],[],[]⟩
 | 8=>some ⟨[(5,false,[.row 3 i64]),(6,false,[.d i64])],[],[]⟩
 | 12=>some ⟨[(7,false,[.d i64]),(8,false,[.d i64])],[],[]⟩
 | _=>none
def HN:Nat->Option Hd
 | 3=>some ⟨[(6,false,[.d i64]),(7,false,[.d i64])],[],[]⟩
 | _=>none
def KU:Nat->Option Hd
 | 5=>some ⟨[(6,false,[.d i64]),(7,false,[.d i64])],[],[]⟩
 | _=>none
def Hb:Nat->Option Hd
 | 3=>some ⟨[(8,false,[.d i64])],[],[(3,some 0,.x (.tab 29 .ref 3 i64))]⟩
 | 8=>some ⟨[(10,false,[.d i64])],[],[(3,some 0,.x (.tab 29 .ref 3 i64))]⟩
 | _=>none
def Lk:Nat->Option Hd
 | 2=>some ⟨[],[(1,[.x (.tab 29 .ref 3 i64),.row 3 i64,.d i64,.d i64]),(2,[.x (.tab 29 .ref 3 i64),.row 3 i64,.d i64,.d i64])],[]⟩
 | 3=>some ⟨[(5,false,[.d i64])],[],[]⟩
 | 9=>some ⟨[(6,false,[.d i64]),(8,false,[.d i64])],[],[]⟩
 | _=>none
def Ky:Nat->Option Hd
 | 1=>some ⟨[(4,false,[.d i64])],[],[(0,none,.row 3 i64)]⟩
 | _=>none
def L4:Nat->Option Hd
 | 5=>some ⟨[(7,false,[.d i64])],[(5,[.x (.tab 29 .ref 3 i64),.row 3 i64,.d i64,.d i64])],[(6,none,.row 3 i64)]⟩
 | 16=>some ⟨[(9,false,[.d i64])],[],[(8,none,.row 3 i64)]⟩
 | 20=>some ⟨[(10,false,[.d i64])],[],[(6,none,.row 3 i64)]⟩
 | _=>none
def KX:Nat->Option Hd
 | 1000010=>some ⟨[],[],[(8,none,.row 3 i64)]⟩
 | 1000012=>some ⟨[],[],[(8,none,.row 3 i64)]⟩
 | 1000015=>some ⟨[],[],[(8,none,.row 3 i64)]⟩
 | _=>none
def KQ:Nat->Option Hd
 | 2=>some ⟨[(3,false,[.d i64])],[(1,[.x (.tab 29 .ref 3 i64),.row 3 i64,.d i64,.d i64])],[]⟩
 | 6=>some ⟨[(4,false,[.d i64])],[],[]⟩
 | 11=>some ⟨[(5,false,[.d i64])],[],[(1,some 0,.x (.tab 29 .ref 3 i64))]⟩
 | _=>none
def LB:Nat->Option Hd
 | 9=>some ⟨[(9,false,[.d i64])],[],[(4,some 0,.x (.tab 29 .ref 3 i64))]⟩
 | 13=>some ⟨[(10,false,[.d i64]),(11,false,[.d i64])],[],[]⟩
 | _=>none
def KE:Nat->Option Hd
 | 7=>some ⟨[(20,false,[.d i64])],[(2,[.d T49]),(4,[.d T49])],[]⟩
 | _=>none
def Ko:Nat->Option Hd
 | 3=>some ⟨[(4,false,[.row 9 .str]),(5,false,[.d i64])],[],[]⟩
 | _=>none
def Ku:Nat->Option Hd
 | 4=>some ⟨[(13,false,[.d i64])],[],[]⟩
 | _=>none
def Oc:Nat->Option Hd
 | 1000023=>some ⟨[],[],[]⟩
 | _=>none
def Ks:Nat->Option Hd
 | 3=>some ⟨[(4,false,[.d i64])],[(3,[.row 66 T66,.row 75 T75])],[]⟩
 | _=>none
def NV:Nat->Option Hd
 | 7=>some ⟨[(39,false,[.d i64])],[],[]⟩
 | _=>none
def MU:Nat->Option Hd
 | 1000014=>some ⟨[],[],[]⟩
 | _=>none
def Lh:Nat->Option Hd
 | 10=>some ⟨[(5,false,[.row 49 T49]),(20,false,[.d i64])],[],[]⟩
 | _=>none
def K8:Nat->Option Hd
 | 7=>some ⟨[(8,false,[.row 49 T49]),(9,false,[.d i64]),(25,false,[.d i64])],[],[]⟩
 | 11=>some ⟨[(31,false,[.d i64])],[(11,[.d T49])],[]⟩
 | _=>none
def KJ:Nat->Option Hd
 | 2=>some ⟨[(3,false,[.d i64])],[],[]⟩
 | _=>none
def LI:Nat->Option Hd
 | 2=>some ⟨[(8,false,[.d i64])],[],[]⟩
 | _=>none
def M0:Nat->Option Hd
 | 25=>some ⟨[(123,false,[.d i64])],[],[]⟩
 | _=>none
def Nv:Nat->Option Hd
 | 1000020=>some ⟨[],[],[]⟩
 | _=>none
def JJ:Nat->Option Hd
 | 2=>some ⟨[(8,false,[.d i64])],[],[]⟩
 | _=>none
def I0:Nat->Option Hd
 | 1000007=>some ⟨[(12,false,[.d (.int .u64)]),(13,false,[.d (.int .u64)]),(18,false,[.d .bool])],[],[]⟩
 | 1000008=>some ⟨[(12,false,[.d (.int .u64)]),(13,false,[.d (.int .u64)]),(14,false,[.d (.int .u64)]),(15,false,[.d (.int .u64)]),(18,false,[.d .bool])],[],[]⟩
 | _=>none
def Iy:Nat->Option Hd
 | 3=>some ⟨[(20,false,[.d i64])],[(5,[.x (.tab 29 .ref 3 i64),.d i64,.row 3 i64,.row 3 i64,.d .bool])],[]⟩
 | 9=>some ⟨[(40,false,[.d i64])],[(5,[.x (.tab 29 .ref 3 i64),.d i64,.row 3 i64,.row 3 i64,.d .bool])],[]⟩
 | 14=>some ⟨[(10,false,[.d i64]),(11,false,[.d i64])],[],[]⟩
 | 19=>some ⟨[(10,false,[.d i64])],[(5,[.x (.tab 29 .ref 3 i64),.d i64,.row 3 i64,.row 3 i64,.d .bool])],[]⟩
 | 26=>some ⟨[(130,false,[.d i64])],[],[(5,some 0,.x (.tab 29 .ref 3 i64))]⟩
 | 31=>some ⟨[(144,false,[.d i64])],[],[(5,some 0,.x (.tab 29 .ref 3 i64))]⟩
 | _=>none
def Lq:Nat->Option Hd
 | 10=>some ⟨[(7,false,[.x (.tab 29 .ref 3 i64)]),(37,false,[.d i64])],[],[]⟩
 | 16=>some ⟨[(64,false,[.d i64])],[],[]⟩
 | 25=>some ⟨[(13,false,[.row 49 T49]),(80,false,[.d i64])],[],[]⟩
 | _=>none
def Ki:Nat->Option Hd
 | 4=>some ⟨[(13,false,[.d i64])],[],[]⟩
 | _=>none
def M8:Nat->Option Hd
 | 16=>some ⟨[(9,false,[.row 9 .str]),(59,false,[.d i64])],[],[]⟩
 | _=>none
def MQ:Nat->Option Hd
 | 1000019=>some ⟨[(9,false,[.row 9 .str])],[],[]⟩
 | _=>none
def ao:FuncId->Hint
 | 161=>{loop:=Ip}
 | 167=>{loop:=Ge}
 | 75=>{loop:=J8}
 | 117=>{loop:=Hq}
 | 59=>{loop:=L6}
 | 87=>{loop:=Kv}
 | 88=>{loop:=Lg}
 | 45=>{loop:=KH}
 | 46=>{loop:=L0,join:=LC}
 | 173=>{loop:=IV}
 | 174=>{loop:=Ju}
 | 74=>{loop:=J1}
 | 181=>{join:=Ir}
 | 125=>{loop:=Je,join:=HX}
 | 35=>{join:=Kx}
 | 95=>{loop:=L2,join:=LS}
 | 39=>{join:=J3}
 | 145=>{loop:=Ih}
 | 93=>{loop:=Ka}
 | 96=>{loop:=J5}
 | 97=>{loop:=KZ}
 | 154=>{loop:=HP}
 | 156=>{loop:=JG,join:=It}
 | 108=>{loop:=Gn}
 | 109=>{loop:=Jr,join:=GE}
 | 126=>{loop:=G3}
 | 176=>{join:=GK}
 | 157=>{loop:=Gg}
 | 158=>{loop:=H3}
 | 110=>{loop:=Hj}
 | 159=>{loop:=Gk}
 | 111=>{loop:=HA}
 | 58=>{loop:=J7}
 | 60=>{loop:=Lc}
 | 21=>{loop:=Kp}
 | 43=>{loop:=Lx}
 | 44=>{loop:=Lo}
 | 22=>{loop:=Lw}
 | 99=>{loop:=KC}
 | 49=>{loop:=Lz}
 | 102=>{loop:=Gv}
 | 50=>{loop:=Kc}
 | 13=>{loop:=LW}
 | 14=>{loop:=LD}
 | 101=>{loop:=Gj}
 | 51=>{loop:=K1}
 | 15=>{loop:=K4}
 | 16=>{loop:=Mb}
 | 17=>{loop:=Ls}
 | 164=>{loop:=I8}
 | 54=>{loop:=Le}
 | 104=>{loop:=HO}
 | 53=>{loop:=L7}
 | 55=>{loop:=Ke}
 | 57=>{loop:=LK}
 | 118=>{loop:=Ig}
 | 119=>{loop:=HN}
 | 63=>{loop:=KU}
 | 120=>{loop:=Hb}
 | 66=>{loop:=Lk}
 | 69=>{loop:=Ky}
 | 67=>{loop:=L4,join:=KX}
 | 68=>{loop:=KQ}
 | 26=>{loop:=LB}
 | 27=>{loop:=KE}
 | 28=>{loop:=Ko}
 | 29=>{loop:=Ku}
 | 4=>{join:=Oc}
 | 31=>{loop:=Ks}
 | 5=>{loop:=NV,join:=MU}
 | 83=>{loop:=Lh}
 | 84=>{loop:=K8}
 | 38=>{loop:=KJ}
 | 86=>{loop:=LI}
 | 7=>{loop:=M0,join:=Nv}
 | 182=>{loop:=JJ}
 | 172=>{join:=I0}
 | 135=>{loop:=Iy}
 | 89=>{loop:=Lq}
 | 42=>{loop:=Ki}
 | 8=>{loop:=M8,join:=MQ}
 | _=>{}
def AJ (p : String) : Bool := p == "program.go:104" || p == "ref.go:45"
def zH:TypeId->Option XP
 | 87=>some (.tab 29 .ref 3 i64)
 | 88=>some (.tab 29 .ref 3 i64)
 | _=>none
def uX:List Nat:=[115,174,141,142,93,109,157,110,111,120,66,69,67,68]
def its:List (Nat×ICtr):=[]
theorem PW:HD prog its:=FG
end Go.Proofs.YtfknoaclabfdlaaGreat

namespace Go.Proofs.YtfknoaclabfdlaaGreat
noncomputable section
open Tryz Dn Dn.Sh
set_option maxRecDepth 100000
theorem aS:prog.follows .mixedOrders=true:=by kernel_rfl
theorem MS:Bl prog uX=true:=by kernel_rfl
theorem q0:(kh prog shs uX its [] []).ok:=FY MS PW
abbrev cx (l) (r):=xV zH AJ (kh prog shs uX its l r)
def f8 (_:Lp) (_:Jn) (x0:List Int):Option (List Int) :=
 bif dx (0+List.length x0) 8 then some x0 else none
def a7 (x0:List Int):Option (List Int):=f8 lpK jnK x0
abbrev Ga:=(List Int)->Option (List Int)
def MO (a7:Ga):RCtr:=⟨[(.sl i64)],3,i64,fun x=>a7 x.1⟩
def bH:RCtr:=MO a7
theorem QE (lp:Lp) (jn:Jn):∀x:TsS bH.as,f8 lp jn x.1=Fb lp jn (cx [] []) ao 4 134 f134 bH.t bH.e (zF bH.as x true):=fun x=>by kernel_rfl
theorem NX:bH.ok prog 134:=RCtr.of_den_nil (c:=bH) (au (q0)) aS (hl:=ao) (d:=4) rfl func134 rfl (by decide) (QE lpK jnK) fun x h=>by
 obtain ⟨l,u⟩:=x
 simp only at h
 subst h
 kernel_rfl
theorem bX:(kh prog shs uX its [] [(134,bH)]).ok:=Ep q0 (by kernel_rfl) NX
def jJ (_:Lp) (_:Jn) (x0:Int) (x1:Int) (x2:Int):Option Bool :=
 
 let v5:Bool:=decide (x0>=x1);
 let v6:Bool:=!v5||v5;bif v6&&v6 then bif v6 then some (bif v5 then decide (x0<=x2) else false) else none else none
def be (x0:Int) (x1:Int) (x2:Int):Option Bool:=jJ lpK jnK x0 x1 x2
abbrev IX:=(Int)->(Int)->(Int)->Option (Bool)
def NY (be:IX):Ctr:=⟨[i64,i64,i64],[],[],.one .bool,fun x _ _=>be x.1 x.2.1 x.2.2.1⟩
def Jt:Ctr:=NY be
theorem Qo (lp:Lp) (jn:Jn):∀(x:TsS Jt.as) (F:TsF Jt.fs) (y:TsS Jt.cs),jJ lp jn x.1 x.2.1 x.2.2.1=ce lp jn (cx [] [(134,bH)]) ao 4 114 f114 Jt x F y:=fun x F y=>by kernel_rfl
theorem Mu:Jt.ok prog 114:=Ctr.of_den (au (bX)) aS (hl:=ao) (d:=4) func114 rfl (by decide) (Qo lpK jnK)
def jY (_:Lp) (_:Jn) (x0:Int):Option Bool :=
 
 let v3:Bool:=decide (x0>=97);
 let v4:Bool:=decide (x0>=65);
 let v5:Bool:=!v3||v3;
 let v6:Bool:=bif v3 then decide (x0<=122) else false;
 let v7:Bool:=!v6;
 let v8:Bool:=!v7;
 let v9:Bool:=v7&&v4;
 let v10:Bool:=v8||v7;bif v5 then bif v5 then bif v10 then bif v10 then bif !v9||v9 then bif (v8||v10)&&(v8||(!v4||(v8||v9))) then bif v6||v7 then some (bif v6 then true else bif v4 then decide (x0<=90) else false) else none else none else none else none else none else none else none
def bm (x0:Int):Option Bool:=jY lpK jnK x0
abbrev Gx:=(Int)->Option (Bool)
def M2 (bm:Gx):Ctr:=⟨[(.int .u8)],[],[],.one .bool,fun x _ _=>bm x.1⟩
def GW:Ctr:=M2 bm
theorem Qc (lp:Lp) (jn:Jn):∀(x:TsS GW.as) (F:TsF GW.fs) (y:TsS GW.cs),jY lp jn x.1=ce lp jn (cx [] [(134,bH)]) ao 4 160 f160 GW x F y:=fun x F y=>by kernel_rfl
theorem Mo:GW.ok prog 160:=Ctr.of_den (au (bX)) aS (hl:=ao) (d:=4) func160 rfl (by decide) (Qc lpK jnK)
def kq (_:Lp) (_:Jn) (x0:Int):Option Bool :=
 
 let v3:Bool:=decide (x0>=48);
 let v4:Bool:=!v3||v3;bif v4 then bif v4 then some (bif v3 then decide (x0<=57) else false) else none else none
def dI (x0:Int):Option Bool:=kq lpK jnK x0
abbrev PV:=(Int)->Option (Bool)
def Gr:Ctr:=⟨[(.int .u8)],[],[],.one .bool,fun x _ _=>dI x.1⟩
theorem QZ (lp:Lp) (jn:Jn):∀(x:TsS Gr.as) (F:TsF Gr.fs) (y:TsS Gr.cs),kq lp jn x.1=ce lp jn (cx [] [(134,bH)]) ao 4 179 f179 Gr x F y:=fun x F y=>by kernel_rfl
theorem Oz:Gr.ok prog 179:=Ctr.of_den (au (bX)) aS (hl:=ao) (d:=4) func179 rfl (by decide) (QZ lpK jnK)
def lv (lp:Lp) (_:Jn) (bm:Gx) (dI:PV) (x0:ByteArray):Option Int :=
 lp (Int×PUnit) Int (fun (again:Int×PUnit->Option Int) (x:Int×PUnit) =>
 let v5:Bool:=inB x.1 (ByteArray.size x0);
 let v6:Int:=eO x0 x.1.toNat;
 let v7:Bool:=decide (x.1<(↑(ByteArray.size x0):Int));
 let v8:Bool:=!v7;
 let v9:Bool:=v8||v7;
 let v10:Bool:=v8||v9;bif v9&&(v9&&(v8||v5)) then bif v9 then af (bif v7 then bm v6 else some false) fun (t:Bool) =>
 let v12:Bool:=v7&&!t;
 let v13:Bool:=!v12;
 let v14:Bool:=v13||v12;bif v9 then bif v14&&(v14&&(v13||v5)) then bif v14 then af (bif v12 then dI v6 else some false) fun (t_1:Bool) =>
 let v16:Bool:=bif t then true else t_1;
 let v17:Bool:=v7&&!v16;
 let v18:Bool:=!v17;
 let v19:Bool:=v18||v17;bif v10&&(v8||(t||(v8||v12))) then bif v9 then bif v19&&(v19&&(v18||v5)) then bif v19 then bif v10&&(v8||(v16||(v8||v17))) then bif v9 then bif bif v7 then bif v16 then true else decide (v6=95) else false then again (IntKind.wrap .i64 (x.1+1),PUnit.unit) else some x.1 else none else none else none else none else none else none else none else none else none else none else none) (0,PUnit.unit)
def dL (x0:ByteArray):Option Int:=lv lpK jnK bm dI x0
abbrev OD:=(ByteArray)->Option (Int)
def G9:Ctr:=⟨[.str],[],[],.one i64,fun x _ _=>dL x.1⟩
theorem Qu (lp:Lp) (jn:Jn) (bm:Gx) (dI:PV):∀(x:TsS G9.as) (F:TsF G9.fs) (y:TsS G9.cs),lv lp jn bm dI x.1=ce lp jn (cx [(179,⟨[(.int .u8)],[],[],.one .bool,fun x _ _=>dI x.1⟩),(160,M2 bm)] [(134,bH)]) ao 4 161 f161 G9 x F y:=fun x F y=>by kernel_rfl
theorem OH:G9.ok prog 161:=Ctr.of_den (au (ai (ai (bX) (by kernel_rfl) Mo) (by kernel_rfl) Oz)) aS (hl:=ao) (d:=4) func161 rfl (by decide) (Qu lpK jnK bm dI)
def jB (_:Lp) (_:Jn) (bm:Gx) (dL:OD) (x0:ByteArray):Option Bool :=
 
 let v3:Bool:=!List.beq (ByteArray.toList x0) (ByteArray.toList { data:=#[] });
 let v4:Bool:=!v3||v3;
 let v5:Bool:=bif v3 then decide ((↑(ByteArray.size x0):Int)<=20) else false;
 let v6:Bool:=!v5;
 let v7:Bool:=v6||v5;bif v4 then bif v4 then bif v4 then bif v7&&(v6||inB 0 (ByteArray.size x0)) then bif v7 then af (bif v5 then bm (eO x0 0) else some false) fun (t:Bool) =>
 let v9:Bool:=bif v5 then t else false;
 let v10:Bool:=!v9||v9;bif v7 then bif v10 then af (bif v9 then dL x0 else some 0) fun (t:Int)=>bif v10 then bif v10&&v10 then bif v10 then some (bif v9 then decide (t=(↑(ByteArray.size x0):Int)) else false) else none else none else none else none else none else none else none else none else none else none
def cL (x0:ByteArray):Option Bool:=jB lpK jnK bm dL x0
abbrev Pa:=(ByteArray)->Option (Bool)
def Jo:Ctr:=⟨[.str],[],[],.one .bool,fun x _ _=>cL x.1⟩
theorem QS (lp:Lp) (jn:Jn) (bm:Gx) (dL:OD):∀(x:TsS Jo.as) (F:TsF Jo.fs) (y:TsS Jo.cs),jB lp jn bm dL x.1=ce lp jn (cx [(161,⟨[.str],[],[],.one i64,fun x _ _=>dL x.1⟩),(160,M2 bm)] [(134,bH)]) ao 4 116 f116 Jo x F y:=fun x F y=>by kernel_rfl
theorem Pe:Jo.ok prog 116:=Ctr.of_den (au (ai (ai (bX) (by kernel_rfl) Mo) (by kernel_rfl) OH)) aS (hl:=ao) (d:=4) func116 rfl (by decide) (QS lpK jnK bm dL)
def gj (lp:Lp) (_:Jn) (x0:List (ByteArray×Int)) (f0:(((ByteArray×Int)×Unit)->Option Bool)):Option Int :=
 lp (Int×PUnit) Int (fun (again:Int×PUnit->Option Int) (x:Int×PUnit)=>bif decide (x.1<(↑x0.length:Int)) then bif inB x.1 x0.length then af (f0 (x0.getD x.1.toNat ({ data:={ toList:=[] } },0),PUnit.unit)) fun (t:Bool)=>bif t then some x.1 else again (IntKind.wrap .i64 (x.1+1), PUnit.unit) else none else some (-1)) (0,PUnit.unit)
def bK (x0:List (ByteArray×Int)) (f0:(((ByteArray×Int)×Unit)->Option Bool)):Option Int:=gj lpK jnK x0 f0
abbrev NT:=(List (ByteArray×Int))->((((ByteArray×Int)×Unit)->Option Bool))->Option (Int)
def PE (bK:NT):Ctr:=⟨[(.sl T66)],[([T66],.bool)],[],.one i64,fun x F _=>bK x.1 F.1⟩
def Iu:Ctr:=PE bK
theorem Rc (lp:Lp) (jn:Jn):∀(x:TsS Iu.as) (F:TsF Iu.fs) (y:TsS Iu.cs),gj lp jn x.1 F.1=ce lp jn (cx [] [(134,bH)]) ao 4 167 f167 Iu x F y:=fun x F y=>by kernel_rfl
theorem OV:Iu.ok prog 167:=Ctr.of_den (au (bX)) aS (hl:=ao) (d:=4) func167 rfl (by decide) (Rc lpK jnK)
def jK (_:Lp) (_:Jn) (x0:ByteArray×Int) (y0:ByteArray):Option Bool :=
 some (List.beq (ByteArray.toList x0.1) (ByteArray.toList y0))
def dJ (x0:ByteArray×Int) (y0:ByteArray):Option Bool:=jK lpK jnK x0 y0
abbrev O1:=(ByteArray×Int)->(ByteArray)->Option (Bool)
def G7:Ctr:=⟨[T66],[],[.str],.one .bool,fun x _ y=>dJ x.1 y.1⟩
theorem Qm (lp:Lp) (jn:Jn):∀(x:TsS G7.as) (F:TsF G7.fs) (y:TsS G7.cs),jK lp jn x.1 y.1=ce lp jn (cx [] [(134,bH)]) ao 4 168 f168 G7 x F y:=fun x F y=>by kernel_rfl
theorem PR:G7.ok prog 168:=Ctr.of_den (au (bX)) aS (hl:=ao) (d:=4) func168 rfl (by decide) (Qm lpK jnK)
def lR (_:Lp) (_:Jn) (bK:NT) (dJ:O1) (x0:(List (ByteArray×Int))×List (ByteArray×(List (ByteArray×Int×Int×Int))×Bool)) (x1:ByteArray):Option Int :=
 af (bK x0.1 fun (x:(ByteArray×Int)×PUnit)=>dJ x.1 x1) fun (t:Int)=>some t
def bO (x0:(List (ByteArray×Int))×List (ByteArray×(List (ByteArray×Int×Int×Int))×Bool)) (x1:ByteArray):Option Int:=lR lpK jnK bK dJ x0 x1
abbrev Hc:=((List (ByteArray×Int))×List (ByteArray×(List (ByteArray×Int×Int×Int))×Bool))->(ByteArray)->Option (Int)
def N7 (bO:Hc):Ctr:=⟨[T25,.str],[],[],.one i64,fun x _ _=>bO x.1 x.2.1⟩
def JU:Ctr:=N7 bO
theorem QK (lp:Lp) (jn:Jn) (bK:NT) (dJ:O1):∀(x:TsS JU.as) (F:TsF JU.fs) (y:TsS JU.cs),lR lp jn bK dJ x.1 x.2.1=ce lp jn (cx [(168,⟨[T66],[],[.str],.one .bool,fun x _ y=>dJ x.1 y.1⟩),(167,PE bK)] [(134,bH)]) ao 4 131 f131 JU x F y:=fun x F y=>by kernel_rfl
theorem MJ:JU.ok prog 131:=Ctr.of_den (au (ai (ai (bX) (by kernel_rfl) OV) (by kernel_rfl) PR)) aS (hl:=ao) (d:=4) func131 rfl (by decide) (QK lpK jnK bK dJ)
def oG (lp:Lp) (_:Jn) (x0:Int) (x1:Int):Option Int :=
 lp (Int×Int×PUnit) Int (fun (again:Int×Int×PUnit->Option Int) (x:Int×Int×PUnit)=>bif !decide (x.2.1=0) then bif nzB x.2.1 then again (x.2.1, Int.tmod x.1 x.2.1,PUnit.unit) else none else some x.1) (x0,x1,PUnit.unit)
def bg (x0:Int) (x1:Int):Option Int:=oG lpK jnK x0 x1
abbrev t75:=(Int)->(Int)->Option (Int)
def k75 (bg:t75):Ctr:=⟨[(.int .u64),(.int .u64)],[],[],.one (.int .u64),fun x _ _=>bg x.1 x.2.1⟩
def c75:Ctr:=k75 bg
theorem e75 (lp:Lp) (jn:Jn):∀(x:TsS c75.as) (F:TsF c75.fs) (y:TsS c75.cs),oG lp jn x.1 x.2.1=ce lp jn (cx [] [(134,bH)]) ao 4 75 f75 c75 x F y:=fun x F y=>by kernel_rfl
theorem Kw:c75.ok prog 75:=Ctr.of_den (au (bX)) aS (hl:=ao) (d:=4) func75 rfl (by decide) (e75 lpK jnK)
def nz (_:Lp) (_:Jn) (x0:Int):Option Int :=
 
 let v3:Int:=IntKind.wrap .u64 x0;bif decide (x0<0) then some (IntKind.wrap .u64 (0 - v3)) else some v3
def aB (x0:Int):Option Int:=nz lpK jnK x0
abbrev t77:=(Int)->Option (Int)
def k77 (aB:t77):Ctr:=⟨[i64],[],[],.one (.int .u64),fun x _ _=>aB x.1⟩
def c77:Ctr:=k77 aB
theorem e77 (lp:Lp) (jn:Jn):∀(x:TsS c77.as) (F:TsF c77.fs) (y:TsS c77.cs),nz lp jn x.1=ce lp jn (cx [] [(134,bH)]) ao 4 77 f77 c77 x F y:=fun x F y=>by kernel_rfl
theorem JB:c77.ok prog 77:=Ctr.of_den (au (bX)) aS (hl:=ao) (d:=4) func77 rfl (by decide) (e77 lpK jnK)
def ms (_:Lp) (_:Jn) (bg:t75) (aB:t77) (x0:Int×Int):Option Bool :=
 
 let v3:Bool:=decide (x0.2>=1);
 let v4:Bool:=!v3||v3;
 let v5:Bool:=bif v3 then decide (x0.2<=1152921504606846976) else false;
 let v6:Bool:=bif v5 then decide (x0.1>=(-1152921504606846976)) else false;
 let v7:Bool:=!v5||v5;
 let v8:Bool:=bif v6 then decide (x0.1<=1152921504606846976) else false;
 let v9:Bool:=!v6||v6;
 let v10:Bool:=!v8||v8;bif v4 then bif v4 then bif v4 then bif v7 then bif v7 then bif v7 then bif v9 then bif v9 then bif v9 then bif v10 then bif v10 then af (bif v8 then aB x0.1 else some 0) fun (t:Int)=>bif v10 then bif v10 then bif v10&&v10 then af (bif v8 then bg t (IntKind.wrap .u64 x0.2) else some (0 : Int)) fun (t:Int)=>bif v10 then bif v10 then some (bif v8 then decide (t=1) else false) else none else none else none else none else none else none else none else none else none else none else none else none else none else none else none else none
def ap (x0:Int×Int):Option Bool:=ms lpK jnK bg aB x0
abbrev t72:=(Int×Int)->Option (Bool)
def k72 (ap:t72):Ctr:=⟨[T49],[],[],.one .bool,fun x _ _=>ap x.1⟩
def c72:Ctr:=k72 ap
theorem e72 (lp:Lp) (jn:Jn) (bg:t75) (aB:t77):∀(x:TsS c72.as) (F:TsF c72.fs) (y:TsS c72.cs),ms lp jn bg aB x.1=ce lp jn (cx [(77,k77 aB),(75,k75 bg)] [(134,bH)]) ao 4 72 f72 c72 x F y:=fun x F y=>by kernel_rfl
theorem Br:c72.ok prog 72:=Ctr.of_den (au (ai (ai (bX) (by kernel_rfl) Kw) (by kernel_rfl) JB)) aS (hl:=ao) (d:=4) func72 rfl (by decide) (e72 lpK jnK bg aB)
def kz (_:Lp) (_:Jn) (ap:t72) (x0:Int×Int):Option Bool :=
 af (ap x0) fun (t:Bool) =>
 let v4:Bool:=!t||t;
 let v5:Bool:=bif t then decide (x0.1>=x0.2) else false;
 let v6:Bool:=!v5||v5;bif v4 then bif v4 then bif v4&&v4 then bif v4 then bif v6 then bif v6 then bif v6 then some (bif v5 then decide (x0.1<=100) else false) else none else none else none else none else none else none else none
def dH (x0:Int×Int):Option Bool:=kz lpK jnK ap x0
abbrev Ph:=(Int×Int)->Option (Bool)
def JV:Ctr:=⟨[T49],[],[],.one .bool,fun x _ _=>dH x.1⟩
theorem Q5 (lp:Lp) (jn:Jn) (ap:t72):∀(x:TsS JV.as) (F:TsF JV.fs) (y:TsS JV.cs),kz lp jn ap x.1=ce lp jn (cx [(72,k72 ap)] [(134,bH)]) ao 4 180 f180 JV x F y:=fun x F y=>by kernel_rfl
theorem Py:JV.ok prog 180:=Ctr.of_den (au (ai (bX) (by kernel_rfl) Br)) aS (hl:=ao) (d:=4) func180 rfl (by decide) (Q5 lpK jnK ap)
def lQ (_:Lp) (_:Jn) (bO:Hc) (dH:Ph) (x0:(List (ByteArray×Int))×List (ByteArray×(List (ByteArray×Int×Int×Int))×Bool)) (x1:ByteArray×Int×Int×Int) (x2:Bool):Option Bool :=
 
 let v5:Bool:=!x2;
 let v6:Bool:=v5||x2;
 let v7:Bool:=decide (x1.2.1=0);
 let v8:Bool:=decide (x1.2.1=1);
 let v9:Bool:=decide (x1.2.1=2);
 let v10:Bool:=!v8;
 let v11:Bool:=!v9;
 let v12:Bool:=bif v9 then true else v7;
 let v13:Bool:=!v10||v10;
 let v14:Bool:=!v11||v11;
 let v15:Bool:=!v12;
 let v16:Bool:=bif x2 then !(decide (x1.2.2.1=1)&&(decide (x1.2.2.2=1)&&true)) else false;
 let v17:Bool:=!v16;
 let v18:Bool:=!v17;
 let v19:Bool:=v17&&v5;
 let v20:Bool:=!v15||v15;
 let v21:Bool:=v18||v17;
 let v22:Bool:=!v19||v19;bif v6 then bif v6&&v6 then bif v6 then bif v21 then bif v21 then bif v22 then bif v22 then af (bif v19 then dH x1.2.2 else some false) fun (t:Bool)=>bif v22 then bif (v18||v21)&&(v18||(!v5||(v18||v19))) then bif v16||v17 then bif bif v16 then true else bif v5 then !t else false then some false else bif List.beq (ByteArray.toList x1.1) (ByteArray.toList { data:=#[] }) then some v7 else af (bO x0 x1.1) fun (t:Int)=>bif decide (t<0) then some false else bif x2 then bif v13 then bif v13 then bif v8||v10 then some (bif v8 then true else decide (x1.2.1=(-1))) else none else none else none else bif v14 then bif v14 then bif v9||v11 then bif v20 then bif v20 then bif v12||v15 then some (bif v12 then true else decide (x1.2.1=(-2))) else none else none else none else none else none else none else none else none else none else none else none else none else none else none else none else none
def dw (x0:(List (ByteArray×Int))×List (ByteArray×(List (ByteArray×Int×Int×Int))×Bool)) (x1:ByteArray×Int×Int×Int) (x2:Bool):Option Bool:=lQ lpK jnK bO dH x0 x1 x2
abbrev Od:=((List (ByteArray×Int))×List (ByteArray×(List (ByteArray×Int×Int×Int))×Bool))->(ByteArray×Int×Int×Int)->(Bool)->Option (Bool)
def Oy (dw:Od):Ctr:=⟨[T25,NF,.bool],[],[],.one .bool,fun x _ _=>dw x.1 x.2.1 x.2.2.1⟩
def JH:Ctr:=Oy dw
theorem Qi (lp:Lp) (jn:Jn) (bO:Hc) (dH:Ph):∀(x:TsS JH.as) (F:TsF JH.fs) (y:TsS JH.cs),lQ lp jn bO dH x.1 x.2.1 x.2.2.1=ce lp jn (cx [(180,⟨[T49],[],[],.one .bool,fun x _ _=>dH x.1⟩),(131,N7 bO)] [(134,bH)]) ao 4 162 f162 JH x F y:=fun x F y=>by kernel_rfl
theorem Pr:JH.ok prog 162:=Ctr.of_den (au (ai (ai (bX) (by kernel_rfl) MJ) (by kernel_rfl) Py)) aS (hl:=ao) (d:=4) func162 rfl (by decide) (Qi lpK jnK bO dH)
def lV (lp:Lp) (_:Jn) (be:IX) (dw:Od) (x0:(List (ByteArray×Int))×List (ByteArray×(List (ByteArray×Int×Int×Int))×Bool)) (x1:ByteArray×(List (ByteArray×Int×Int×Int))×Bool):Option Bool :=
 
 let v4:Bool:=!x1.2.2;
 let v5:Bool:=!v4;
 let v6:Bool:=!v5;
 let v7:Int:=IntKind.wrap .i64 ((↑x1.2.1.length:Int) - 1);
 let v8:Bool:=v6||v5;af (be (↑x1.2.1.length:Int) 2 10) fun (t:Bool)=>bif !t then some false else lp (Int×PUnit) Bool (fun (again : Int×PUnit->Option Bool) (x:Int×PUnit) =>
 let v12:Bool:=decide (x.1=0);
 let v13:Bool:=!v12;
 let v14:Bool:=!v13||v13;bif decide (x.1<(↑x1.2.1.length:Int)) then bif inB x.1 x1.2.1.length then bif v14 then bif v14&&v14 then bif v12||v13 then af (dw x0 (x1.2.1.getD x.1.toNat ({ data:={ toList:=[] } },0,0,0)) (bif v12 then true else decide (x.1=v7))) fun (t : Bool)=>bif !t then some false else again (IntKind.wrap .i64 (x.1+1),PUnit.unit) else none else none else none else none else bif v8 then bif v8 then bif v8&&(v8 && (v6||inB v7 x1.2.1.length)) then bif v8 then bif v8 then bif v8 then bif v4||v5 then some (bif v4 then true else List.beq (ByteArray.toList (x1.2.1.getD v7.toNat ({ data:={ toList:=[] } },0,0,0)).1) (ByteArray.toList { data:=#[] })) else none else none else none else none else none else none else none) (0,PUnit.unit)
def dY (x0:(List (ByteArray×Int))×List (ByteArray×(List (ByteArray×Int×Int×Int))×Bool)) (x1:ByteArray×(List (ByteArray×Int×Int×Int))×Bool):Option Bool:=lV lpK jnK be dw x0 x1
abbrev O3:=((List (ByteArray×Int))×List (ByteArray×(List (ByteArray×Int×Int×Int))×Bool))->(ByteArray×(List (ByteArray×Int×Int×Int))×Bool)->Option (Bool)
def G5:Ctr:=⟨[T25,T75],[],[],.one .bool,fun x _ _=>dY x.1 x.2.1⟩
theorem QJ (lp:Lp) (jn:Jn) (be:IX) (dw:Od):∀(x:TsS G5.as) (F:TsF G5.fs) (y:TsS G5.cs),lV lp jn be dw x.1 x.2.1=ce lp jn (cx [(162,Oy dw),(114,NY be)] [(134,bH)]) ao 4 117 f117 G5 x F y:=fun x F y=>by kernel_rfl
theorem PP:G5.ok prog 117:=Ctr.of_den (au (ai (ai (bX) (by kernel_rfl) Mu) (by kernel_rfl) Pr)) aS (hl:=ao) (d:=4) func117 rfl (by decide) (QJ lpK jnK be dw)
def kA (lp:Lp) (_:Jn) (be:IX) (cL:Pa) (dY:O3) (x0:(List (ByteArray×Int))×List (ByteArray×(List (ByteArray×Int×Int×Int))×Bool)):Option Bool :=
 af (be (↑x0.1.length:Int) 1 6) fun (t:Bool) =>
 let v4:Bool:=!t;
 let v5:Bool:=!v4;
 let v6:Bool:=!v5||v5;bif v6 then bif v6 then bif v6 then af (bif v5 then be (↑x0.2.length:Int) 1 6 else some false) fun (t:Bool)=>bif v6 then bif v4||v5 then bif bif v4 then true else !t then some false else lp (Int×List (ByteArray×Bool)×PUnit) Bool (fun (again:Int×List (ByteArray×Bool)×PUnit->Option Bool) (x:Int×List (ByteArray×Bool)×PUnit) =>
 let v10:ByteArray×Int:=x0.1.getD x.1.toNat ({ data:={ toList:=[] } },0);bif decide (x.1<(↑x0.1.length:Int)) then bif inB x.1 x0.1.length then af (cL v10.1) fun (t:Bool) =>
 let v12:Bool:=!t||t;bif v12&&v12 then bif v12 then bif v12 then bif (!!!bif t then !gZ str Sh.bool v10.1 false x.2.1 else false)||!!bif t then !gZ str Sh.bool v10.1 false x.2.1 else false then bif (!!!bif t then !gZ str Sh.bool v10.1 false x.2.1 else false)||!!bif t then !gZ str Sh.bool v10.1 false x.2.1 else false then af (bif !!bif t then !gZ str Sh.bool v10.1 false x.2.1 else false then be v10.2 0 16777216 else some false) fun (t_1:Bool)=>bif (!!!bif t then !gZ str Sh.bool v10.1 false x.2.1 else false)||!!bif t then !gZ str Sh.bool v10.1 false x.2.1 else false then bif (!bif t then !gZ str Sh.bool v10.1 false x.2.1 else false)||!!bif t then !gZ str Sh.bool v10.1 false x.2.1 else false then bif bif !bif t then !gZ str Sh.bool v10.1 false x.2.1 else false then true else !t_1 then some false else again (IntKind.wrap .i64 (x.1+1),nX str Sh.bool v10.1 true x.2.1,PUnit.unit) else none else none else none else none else none else none else none else none else lp (Int×Int×List (ByteArray×Bool)×PUnit) Bool (fun (again:Int×Int×List (ByteArray×Bool)×PUnit->Option Bool) (x:Int×Int×List (ByteArray×Bool)×PUnit) =>
 let v13:ByteArray×List (ByteArray×Int×Int×Int)×Bool:=x0.2.getD x.2.1.toNat ({ data:={ toList:=[] } },[],false);bif decide (x.2.1<(↑x0.2.length:Int)) then bif inB x.2.1 x0.2.length then af (cL v13.1) fun (t:Bool) =>
 let v15:Bool:=!t||t;bif v15&&v15 then bif v15 then bif v15 then bif ((!!!bif t then !gZ str Sh.bool v13.1 false x.2.2.1 else false)||!!bif t then !gZ str Sh.bool v13.1 false x.2.2.1 else false)&&((!!!bif t then !gZ str Sh.bool v13.1 false x.2.2.1 else false)||!!bif t then !gZ str Sh.bool v13.1 false x.2.2.1 else false) then af (bif !!bif t then !gZ str Sh.bool v13.1 false x.2.2.1 else false then dY x0 v13 else some false) fun (t_1:Bool)=>bif (!!!bif t then !gZ str Sh.bool v13.1 false x.2.2.1 else false)||!!bif t then !gZ str Sh.bool v13.1 false x.2.2.1 else false then bif (!bif t then !gZ str Sh.bool v13.1 false x.2.2.1 else false)||!!bif t then !gZ str Sh.bool v13.1 false x.2.2.1 else false then bif bif !bif t then !gZ str Sh.bool v13.1 false x.2.2.1 else false then true else !t_1 then some false else bif v13.2.2 then again (IntKind.wrap .i64 (x.1+1),IntKind.wrap .i64 (x.2.1+1),nX str Sh.bool v13.1 true x.2.2.1,PUnit.unit) else again (x.1,IntKind.wrap .i64 (x.2.1+1),nX str Sh.bool v13.1 true x.2.2.1,PUnit.unit) else none else none else none else none else none else none else none else some (decide (x.1<=1))) (0,0,x.2.1,PUnit.unit)) (0,[],PUnit.unit) else none else none else none else none else none
def ay (x0:(List (ByteArray×Int))×List (ByteArray×(List (ByteArray×Int×Int×Int))×Bool)):Option Bool:=kA lpK jnK be cL dY x0
abbrev t59:=((List (ByteArray×Int))×List (ByteArray×(List (ByteArray×Int×Int×Int))×Bool))->Option (Bool)
def k59 (ay:t59):Ctr:=⟨[T25],[],[],.one .bool,fun x _ _=>ay x.1⟩
def c59:Ctr:=k59 ay
theorem e59 (lp:Lp) (jn:Jn) (be:IX) (cL:Pa) (dY:O3):∀(x:TsS c59.as) (F:TsF c59.fs) (y:TsS c59.cs),kA lp jn be cL dY x.1=ce lp jn (cx [(117,⟨[T25,T75],[],[],.one .bool,fun x _ _=>dY x.1 x.2.1⟩),(116,⟨[.str],[],[],.one .bool,fun x _ _=>cL x.1⟩),(114,NY be)] [(134,bH)]) ao 4 59 f59 c59 x F y:=fun x F y=>by kernel_rfl
theorem L5:c59.ok prog 59:=Ctr.of_den (au (ai (ai (ai (bX) (by kernel_rfl) Mu) (by kernel_rfl) Pe) (by kernel_rfl) PP)) aS (hl:=ao) (d:=4) func59 rfl (by decide) (e59 lpK jnK be cL dY)
def mA (lp:Lp) (_:Jn) (bO:Hc) (ay:t59) (x0:(List (ByteArray×Int))×List (ByteArray×(List (ByteArray×Int×Int×Int))×Bool)):Option ((List (List Int))×Int×Unit) :=
 af (ay x0) fun (t:Bool)=>bif !t then some ([],1,PUnit.unit) else bif decide (0<=(↑x0.1.length:Int))&&dx (Int.toNat (↑x0.1.length : Int)) 24 then lp (Int×(List Nat×List (Option (List Int)))×PUnit) (List (List Int)×Int×PUnit) (fun (again:Int×(List Nat×List (Option (List Int)))×PUnit -> Option (List (List Int)×Int×PUnit)) (x:Int×(List Nat×List (Option (List Int)))×PUnit)=>bif decide (x.1<(↑(List.length (Nat.brecOn (motive:=fun (x:Nat)=>Nat->List Nat) (Int.toNat (↑x0.1.length:Int)) (fun (x:Nat) (f:Nat.below (motive:=fun (x:Nat)=>Nat->List (T ref)) x) (x_1:Nat)=>(match (motive:=(x:Nat)->Nat->Nat.below (motive:=fun (x:Nat)=>Nat->List (T ref)) x->List Nat) x,x_1 with | 0,x=>fun (_:PUnit)=>[] | Nat.succ n,k=>fun (x:(Nat->List Nat) ×' Nat.rec PUnit (fun (n:Nat) (n_ih:Type)=>(fun (x:Nat)=>Nat->List (T ref)) n ×' n_ih) n)=>(k+0) ::x.1 (k+1)) f) 0)):Int)) then bif decide (0 <= (↑x0.2.length:Int))&&dx (Int.toNat (↑x0.2.length:Int)) 8 then bif inB x.1 x.2.1.1.length then bif Nat.ble (Nat.succ x.1.toNat) x.2.1.1.length then again (IntKind.wrap .i64 (x.1+1),(x.2.1.1.set x.1.toNat x.2.1.2.length,x.2.1.2++[some (List.replicate (Int.toNat (↑x0.2.length:Int)) 0)]),PUnit.unit) else none else none else none else lp (Int×(List Nat×List (Option (List Int)))×PUnit) (List (List Int)×Int×PUnit) (fun (again:Int×(List Nat×List (Option (List Int)))×PUnit->Option (List (List Int)×Int×PUnit)) (x:Int×(List Nat×List (Option (List Int))) × PUnit)=>bif decide (x.1<(↑x0.2.length:Int)) then bif inB x.1 x0.2.length then lp (Int×(List Nat×List (Option (List Int)))×PUnit) (List (List Int)×Int × PUnit) (fun (again_1:Int×(List Nat×List (Option (List Int)))×PUnit->Option (List (List Int)×Int×PUnit)) (x_1:Int×(List Nat×List (Option (List Int)))×PUnit) =>
 let v10:Int:=IntKind.wrap .i64 (x_1.1+1);
 let v11:(List Nat×List (Option (List Int)))×PUnit:=(x_1.2.1,PUnit.unit);
 let v12:ByteArray×Int×Int×Int:=List.getD (x0.2.getD x.1.toNat ({ data:={ toList:=[] } },[],false)).2.1 x_1.1.toNat ({ data:={ toList:=[] } },0,0,0);bif decide (x_1.1<(↑(List.length (x0.2.getD x.1.toNat ({ data:={ toList:=[] } },[],false)).2.1):Int)) then bif inB x_1.1 (List.length (x0.2.getD x.1.toNat ({ data:={ toList:=[] } },[],false)).2.1) then af (bO x0 v12.1) fun (t:Int)=>bif decide (t>=(0 : Int)) then bif inB t x_1.2.1.1.length then bif Nat.ble (Nat.succ t.toNat) x_1.2.1.1.length then bif inB x.1 (List.length (ah x_1.2.1.2 (x_1.2.1.1.getD t.toNat 0))) then bif Nat.ble (Nat.succ x.1.toNat) (List.length (ah x_1.2.1.2 (x_1.2.1.1.getD t.toNat (0 : Nat)))) then bif inB x.1 (List.length (ah x_1.2.1.2 (x_1.2.1.1.getD t.toNat 0))) then bif Nat.ble (Nat.succ x.1.toNat) (List.length (ah x_1.2.1.2 (x_1.2.1.1.getD t.toNat 0))) then again_1 (v10,(x_1.2.1.1,x_1.2.1.2.set (x_1.2.1.1.getD t.toNat 0) (some (List.set (ah x_1.2.1.2 (x_1.2.1.1.getD t.toNat 0)) x.1.toNat (IntKind.wrap .i64 (List.getD (ah x_1.2.1.2 (x_1.2.1.1.getD t.toNat 0)) x.1.toNat 0+v12.2.1))))),PUnit.unit) else none else none else none else none else none else none else again_1 (v10,v11) else none else again (IntKind.wrap .i64 (x.1+1),v11)) (0,x.2.1,PUnit.unit) else none else bif List.all x.2.1.1 fun (x_1:Nat)=>eJ x.2.1.2 x_1 then some (List.map (fun (x_1:Nat)=>ah x.2.1.2 x_1) x.2.1.1,0,PUnit.unit) else none) (0,x.2.1,PUnit.unit)) (0, (Nat.brecOn (motive:=fun (x:Nat)=>Nat->List Nat) (Int.toNat (↑x0.1.length:Int)) (fun (x:Nat) (f:Nat.below (motive:=fun (x:Nat)=>Nat->List (T ref)) x) (x_1:Nat)=>(match (motive:=(x:Nat)->Nat->Nat.below (motive:=fun (x:Nat)=>Nat->List (T ref)) x->List Nat) x,x_1 with | 0,x=>fun (_:PUnit)=>[] | Nat.succ n,k=>fun (x:(Nat->List Nat) ×' Nat.rec PUnit (fun (n:Nat) (n_ih:Type)=>(fun (x:Nat)=>Nat->List (T ref)) n ×' n_ih) n)=>(k+0) ::x.1 (k+1)) f) 0,List.replicate (Int.toNat (↑x0.1.length:Int)) (some [])),PUnit.unit) else none
def bn (x0:(List (ByteArray×Int))×List (ByteArray×(List (ByteArray×Int×Int×Int))×Bool)):Option ((List (List Int))×Int×Unit):=mA lpK jnK bO ay x0
abbrev t87:=((List (ByteArray×Int))×List (ByteArray×(List (ByteArray×Int×Int×Int))×Bool))->Option ((List (List Int))×Int×Unit)
def k87 (bn:t87):Ctr:=⟨[T25],[],[],.tup [(.sl (.sl i64)),i64],fun x _ _=>bn x.1⟩
def c87:Ctr:=k87 bn
theorem e87 (lp:Lp) (jn:Jn) (bO:Hc) (ay:t59):∀(x:TsS c87.as) (F:TsF c87.fs) (y:TsS c87.cs),mA lp jn bO ay x.1=ce lp jn (cx [(59,k59 ay),(131,N7 bO)] [(134,bH)]) ao 4 87 f87 c87 x F y:=fun x F y=>by kernel_rfl
theorem OA:c87.ok prog 87:=Ctr.of_den (au (ai (ai (bX) (by kernel_rfl) MJ) (by kernel_rfl) L5)) aS (hl:=ao) (d:=4) func87 rfl (by decide) (e87 lpK jnK bO ay)
def jd (lp:Lp) (_:Jn) (ay:t59) (x0:(List (ByteArray×Int))×List (ByteArray×(List (ByteArray×Int×Int×Int))×Bool)):Option ((List Int)×Int×Unit) :=
 af (ay x0) fun (t:Bool)=>bif !t then some ([],1,PUnit.unit) else lp (List Int×Int×PUnit) (List Int×Int×PUnit) (fun (again:List Int×Int×PUnit -> Option (List Int×Int×PUnit)) (x:List Int×Int×PUnit)=>bif decide (x.2.1<(↑x0.1.length:Int)) then bif inB x.2.1 x0.1.length then bif dx (List.length x.1+1) 8 then again (x.1++[(x0.1.getD x.2.1.toNat ({ data:={ toList:=[] } },0)).2],IntKind.wrap .i64 (x.2.1+1),PUnit.unit) else none else none else some (x.1,0,PUnit.unit)) ([],0,PUnit.unit)
def cl (x0:(List (ByteArray×Int))×List (ByteArray×(List (ByteArray×Int×Int×Int))×Bool)):Option ((List Int)×Int×Unit):=jd lpK jnK ay x0
abbrev t88:=((List (ByteArray×Int))×List (ByteArray×(List (ByteArray×Int×Int×Int))×Bool))->Option ((List Int)×Int×Unit)
def k88 (cl:t88):Ctr:=⟨[T25],[],[],.tup [(.sl i64),i64],fun x _ _=>cl x.1⟩
def c88:Ctr:=k88 cl
theorem e88 (lp:Lp) (jn:Jn) (ay:t59):∀(x:TsS c88.as) (F:TsF c88.fs) (y:TsS c88.cs),jd lp jn ay x.1=ce lp jn (cx [(59,k59 ay)] [(134,bH)]) ao 4 88 f88 c88 x F y:=fun x F y=>by kernel_rfl
theorem Qt:c88.ok prog 88:=Ctr.of_den (au (ai (bX) (by kernel_rfl) L5)) aS (hl:=ao) (d:=4) func88 rfl (by decide) (e88 lpK jnK ay)
def nt (lp:Lp) (_:Jn) (bn:t87) (cl:t88) (x0:(List (ByteArray×Int))×List (ByteArray×(List (ByteArray×Int×Int×Int))×Bool)) (x1:List Int):Option (((List Int)×List ((List Int)×Int×Int))×Int×Unit) :=
 af (bn x0) fun (t:List (List Int)×Int×PUnit)=>bif !decide (t.2.1=0) then some (([],[]),t.2.1,PUnit.unit) else af (cl x0) fun (t_1 : List Int×Int×PUnit)=>bif !decide (t_1.2.1=0) then some (([],[]),t_1.2.1,PUnit.unit) else lp (Int×List Int×List (List Int×Int×Int)×PUnit) ((List Int×List (List Int×Int×Int))×Int×PUnit) (fun (again:Int×List Int×List (List Int×Int×Int)×PUnit->Option ((List Int×List (List Int×Int×Int))×Int×PUnit)) (x:Int×List Int×List (List Int×Int×Int)×PUnit)=>bif decide (x.1<(↑t.1.length:Int)) then bif inB x.1 t.1.length then bif inB x.1 t_1.1.length then bif dx (List.length x.2.2.1+1) 40 then again (IntKind.wrap .i64 (x.1+1),x.2.1,x.2.2.1++[(t.1.getD x.1.toNat [],3,t_1.1.getD x.1.toNat 0)],PUnit.unit) else none else none else none else some ((x.2.1,x.2.2.1),0, PUnit.unit)) (0,x1,[],PUnit.unit)
def cA (x0:(List (ByteArray×Int))×List (ByteArray×(List (ByteArray×Int×Int×Int))×Bool)) (x1:List Int):Option (((List Int)×List ((List Int)×Int×Int))×Int×Unit):=nt lpK jnK bn cl x0 x1
abbrev t45:=((List (ByteArray×Int))×List (ByteArray×(List (ByteArray×Int×Int×Int))×Bool))->(List Int)->Option (((List Int)×List ((List Int)×Int×Int))×Int×Unit)
def k45 (cA:t45):Ctr:=⟨[T25,(.sl i64)],[],[],.tup [T32,i64],fun x _ _=>cA x.1 x.2.1⟩
def c45:Ctr:=k45 cA
theorem e45 (lp:Lp) (jn:Jn) (bn:t87) (cl:t88):∀(x:TsS c45.as) (F:TsF c45.fs) (y:TsS c45.cs),nt lp jn bn cl x.1 x.2.1=ce lp jn (cx [(88,k88 cl),(87,k87 bn)] [(134,bH)]) ao 4 45 f45 c45 x F y:=fun x F y=>by kernel_rfl
theorem PL:c45.ok prog 45:=Ctr.of_den (au (ai (ai (bX) (by kernel_rfl) OA) (by kernel_rfl) Qt)) aS (hl:=ao) (d:=4) func45 rfl (by decide) (e45 lpK jnK bn cl)
def nk (_:Lp) (_:Jn) (x0:Int) (x1:Int):Option (Int×Int×Unit) :=
 
 let v4:Int:=2 ^ 32;
 let v5:Int:=Int.fdiv x0 v4;
 let v6:Int:=Int.fdiv x1 v4;
 let v7:Bool:=decide ((0:Int)<=32);
 let v8:Int:=IntKind.wrap .u64 (↑(Nat.land (Int.toNat (x1 % Int.ofNat 18446744073709551616)) (Int.toNat (4294967295 % Int.ofNat 18446744073709551616))) : Int);
 let v9:Int:=IntKind.wrap .u64 (↑(Nat.land (Int.toNat (x0 % Int.ofNat 18446744073709551616)) (Int.toNat (4294967295 % Int.ofNat 18446744073709551616))) : Int);
 let v10:Int:=IntKind.wrap .u64 (IntKind.wrap .u64 (v5*v8)+Int.fdiv (IntKind.wrap .u64 (v9*v8)) v4);bif v7 then bif v7 then bif v7 then bif v7 then bif v7 then some (IntKind.wrap .u64 (IntKind.wrap .u64 (IntKind.wrap .u64 (v5*v6)+Int.fdiv v10 v4)+Int.fdiv (IntKind.wrap .u64 (IntKind.wrap .u64 (↑(Nat.land (Int.toNat (v10 % Int.ofNat 18446744073709551616)) (Int.toNat (4294967295 % Int.ofNat 18446744073709551616))):Int)+IntKind.wrap .u64 (v9 * v6))) v4),IntKind.wrap .u64 (x0*x1),PUnit.unit) else none else none else none else none else none
def bJ (x0:Int) (x1:Int):Option (Int×Int×Unit):=nk lpK jnK x0 x1
abbrev C2:=(Int)->(Int)->Option (Int×Int×Unit)
def KD (bJ:C2):Ctr:=⟨[(.int .u64),(.int .u64)],[],[],.tup [(.int .u64),(.int .u64)],fun x _ _=>bJ x.1 x.2.1⟩
def Hi:Ctr:=KD bJ
theorem Rq (lp:Lp) (jn:Jn):∀(x:TsS Hi.as) (F:TsF Hi.fs) (y:TsS Hi.cs),nk lp jn x.1 x.2.1=ce lp jn (cx [] [(134,bH)]) ao 4 122 f122 Hi x F y:=fun x F y=>by kernel_rfl
theorem Ix:Hi.ok prog 122:=Ctr.of_den (au (bX)) aS (hl:=ao) (d:=4) func122 rfl (by decide) (Rq lpK jnK)
def qQ (_:Lp) (_:Jn) (x0:Int) (x1:Int):Option (Int×Int×Unit) :=
 
 let v4:Int:=IntKind.wrap .u64 (IntKind.wrap .u64 x0*IntKind.wrap .u64 x1);bif decide ((0:Int)<=32) then some (IntKind.wrap IntKind.u32 (Int.fdiv v4 (2 ^ 32)),IntKind.wrap IntKind.u32 v4,PUnit.unit) else none
def gU (x0:Int) (x1:Int):Option (Int×Int×Unit):=qQ lpK jnK x0 x1
def PF (gU:(Int)->(Int)->Option (Int×Int×Unit)):Ctr:=⟨[(.int .u32),(.int .u32)],[],[],.tup [(.int .u32),(.int .u32)],fun x _ _=>gU x.1 x.2.1⟩
def IY:Ctr:=PF gU
theorem Rb (lp:Lp) (jn:Jn):∀(x:TsS IY.as) (F:TsF IY.fs) (y:TsS IY.cs),qQ lp jn x.1 x.2.1=ce lp jn (cx [] [(134,bH)]) ao 4 137 f137 IY x F y:=fun x F y=>by kernel_rfl
theorem OW:IY.ok prog 137:=Ctr.of_den (au (bX)) aS (hl:=ao) (d:=4) func137 rfl (by decide) (Rb lpK jnK)
def qC (_:Lp) (_:Jn) (bJ:C2) (_:(Int)->(Int)->Option (Int×Int×Unit)) (x0:Int) (x1:Int):Option (Int×Int×Unit) :=
 af (bJ x0 x1) fun (t:Int×Int×PUnit)=>some (t.1,t.2.1,PUnit.unit)
def gl (x0:Int) (x1:Int):Option (Int×Int×Unit):=qC lpK jnK bJ gU x0 x1
abbrev t90:=(Int)->(Int)->Option (Int×Int×Unit)
def k90 (gl:t90):Ctr:=⟨[(.int .u64),(.int .u64)],[],[],.tup [(.int .u64),(.int .u64)],fun x _ _=>gl x.1 x.2.1⟩
def c90:Ctr:=k90 gl
theorem e90 (lp:Lp) (jn:Jn) (bJ:C2) (gU:(Int)->(Int)->Option (Int×Int×Unit)):∀(x:TsS c90.as) (F:TsF c90.fs) (y:TsS c90.cs),qC lp jn bJ gU x.1 x.2.1=ce lp jn (cx [(137,PF gU),(122,KD bJ)] [(134,bH)]) ao 4 90 f90 c90 x F y:=fun x F y=>by kernel_rfl
theorem P8:c90.ok prog 90:=Ctr.of_den (au (ai (ai (bX) (by kernel_rfl) Ix) (by kernel_rfl) OW)) aS (hl:=ao) (d:=4) func90 rfl (by decide) (e90 lpK jnK bJ gU)
def iB (lp:Lp) (jn:Jn) (gl:t90) (x0:List Int) (x1:Int):Option (List Int) :=
 jn PUnit (List Int) (fun (_:PUnit)=>af (gl (IntKind.wrap .u64 (↑x0.length:Int)) (IntKind.wrap .u64 x1)) fun (t:Int×Int×PUnit) =>
 let v6:List Int:=List.take (Int.toNat (IntKind.wrap .i64 t.2.1)) x0;
 let v7:List Int:=List.replicate (Int.toNat (IntKind.wrap .i64 t.2.1)) 0;
 let v8:Bool:=decide (t.1>0);
 let v9:Bool:=!v8;bif !v9||v9 then bif v8||v9 then jn PUnit (List Int) (fun (_:PUnit)=>bif decide (0<=IntKind.wrap .i64 t.2.1)&&dx (Int.toNat (IntKind.wrap .i64 t.2.1)) 8 then lp (Int×List Int×PUnit) (List Int) (fun (again:Int×List Int×PUnit->Option (List Int)) (x:Int×List Int×PUnit) =>
 let v13:List Int:=List.take x.1.toNat x.2.1;
 let v14:List Int:=List.take (Int.toNat (↑x.2.1.length:Int) - Int.toNat x.1) (List.drop 0 v13);bif decide (x.1<(↑x.2.1.length:Int)) then bif slB x.1 (↑x.2.1.length:Int) x.2.1.length then bif slB 0 x.1 x.2.1.length then bif Nat.ble x.1.toNat (Int.toNat (↑x.2.1.length:Int))&&(Nat.ble (Int.toNat (↑x.2.1.length:Int)) x.2.1.length&&Nat.ble x.1.toNat x.2.1.length) then again (IntKind.wrap IntKind.i64 (x.1+(↑v14.length:Int)),v13++v14++List.drop (Int.toNat x.1+List.length v14) x.2.1,PUnit.unit) else none else none else none else some x.2.1) ((↑v6.length:Int),List.take 0 v7++v6++List.drop (0+List.length v6) v7,PUnit.unit) else none) fun (j:PUnit->Option (List Int))=>bif bif v8 then true else decide (t.2.1>9223372036854775807) then none else j PUnit.unit else none else none) fun (j:PUnit->Option (List Int))=>bif decide (x1<0) then none else j PUnit.unit
def cg (x0:List Int) (x1:Int):Option (List Int):=iB lpK jnK gl x0 x1
abbrev t46:=(List Int)->(Int)->Option (List Int)
def k46 (cg:t46):Ctr:=⟨[(.sl i64),i64],[],[],.one (.sl i64),fun x _ _=>cg x.1 x.2.1⟩
def c46:Ctr:=k46 cg
theorem e46 (lp:Lp) (jn:Jn) (gl:t90):∀(x:TsS c46.as) (F:TsF c46.fs) (y:TsS c46.cs),iB lp jn gl x.1 x.2.1=ce lp jn (cx [(90,k90 gl)] [(134,bH)]) ao 4 46 f46 c46 x F y:=fun x F y=>by kernel_rfl
theorem Q1:c46.ok prog 46:=Ctr.of_den (au (ai (bX) (by kernel_rfl) P8)) aS (hl:=ao) (d:=4) func46 rfl (by decide) (e46 lpK jnK gl)
def kB (_:Lp) (_:Jn) (cA:t45) (cg:t46) (x0:(List (ByteArray×Int))×List (ByteArray×(List (ByteArray×Int×Int×Int))×Bool)):Option (((List Int)×List ((List Int)×Int×Int))×Int×Unit) :=
 af (cg [1] (↑x0.2.length:Int)) fun (t:List Int)=>af (cA x0 t) fun (t:(List Int×List (List Int×Int×Int))×Int×PUnit)=>some (t.1,t.2.1,PUnit.unit)
def aF (x0:(List (ByteArray×Int))×List (ByteArray×(List (ByteArray×Int×Int×Int))×Bool)):Option (((List Int)×List ((List Int)×Int×Int))×Int×Unit):=kB lpK jnK cA cg x0
abbrev t11:=((List (ByteArray×Int))×List (ByteArray×(List (ByteArray×Int×Int×Int))×Bool))->Option (((List Int)×List ((List Int)×Int×Int))×Int×Unit)
def k11 (aF:t11):Ctr:=⟨[T25],[],[],.tup [T32,i64],fun x _ _=>aF x.1⟩
def c11:Ctr:=k11 aF
theorem e11 (lp:Lp) (jn:Jn) (cA:t45) (cg:t46):∀(x:TsS c11.as) (F:TsF c11.fs) (y:TsS c11.cs),kB lp jn cA cg x.1=ce lp jn (cx [(46,k46 cg),(45,k45 cA)] [(134,bH)]) ao 4 11 f11 c11 x F y:=fun x F y=>by kernel_rfl
theorem NO:c11.ok prog 11:=Ctr.of_den (au (ai (ai (bX) (by kernel_rfl) PL) (by kernel_rfl) Q1)) aS (hl:=ao) (d:=4) func11 rfl (by decide) (e11 lpK jnK cA cg)
def ib (_:Lp) (_:Jn) (x0:Int) (y0:Int):Option Bool :=
 
 let v4:Bool:=decide (x0<IntKind.wrap .i64 (0 - y0));
 let v5:Bool:=!v4;
 let v6:Bool:=!v5||v5;bif v6&&v6 then bif v4||v5 then some (bif v4 then true else decide (x0>y0)) else none else none
def bM (x0:Int) (y0:Int):Option Bool:=ib lpK jnK x0 y0
abbrev PA:=(Int)->(Int)->Option (Bool)
def Hy:Ctr:=⟨[i64],[],[i64],.one .bool,fun x _ y=>bM x.1 y.1⟩
theorem Rl (lp:Lp) (jn:Jn):∀(x:TsS Hy.as) (F:TsF Hy.fs) (y:TsS Hy.cs),ib lp jn x.1 y.1=ce lp jn (cx [] [(134,bH)]) ao 4 139 f139 Hy x F y:=fun x F y=>by kernel_rfl
theorem Oo:Hy.ok prog 139:=Ctr.of_den (au (bX)) aS (hl:=ao) (d:=4) func139 rfl (by decide) (Rl lpK jnK)
def i8 (_:Lp) (_:Jn) (bM:PA) (x0:Int):Option ((Int×Unit)->Option Bool) :=
 some fun (x:Int×PUnit)=>bM x.1 x0
def cC (x0:Int):Option ((Int×Unit)->Option Bool):=i8 lpK jnK bM x0
abbrev Pu:=(Int)->Option ((Int×Unit)->Option Bool)
def N3:FCtr:=⟨[i64],[i64],.bool,fun x=>cC x.1⟩
theorem QO (lp:Lp) (jn:Jn) (bM:PA):∀x:TsS N3.as,i8 lp jn bM x.1=ND lp jn (cx [(139,⟨[i64],[],[i64],.one .bool,fun x _ y=>bM x.1 y.1⟩)] [(134,bH)]) ao 4 138 f138 N3 x:=fun x=>by kernel_rfl
theorem N2:N3.ok prog 138:=FCtr.of_den (au (ai (bX) (by kernel_rfl) Oo)) aS (hl:=ao) (d:=4) func138 rfl (by decide) (QO lpK jnK bM)
def ga (lp:Lp) (_:Jn) (x0:List Int) (f0:((Int×Unit)->Option Bool)):Option Int :=
 lp (Int×PUnit) Int (fun (again:Int×PUnit->Option Int) (x:Int×PUnit)=>bif decide (x.1<(↑x0.length:Int)) then bif inB x.1 x0.length then af (f0 (x0.getD x.1.toNat 0,PUnit.unit)) fun (t:Bool)=>bif t then some x.1 else again (IntKind.wrap .i64 (x.1+1),PUnit.unit) else none else some (-1)) (0,PUnit.unit)
def bu (x0:List Int) (f0:((Int×Unit)->Option Bool)):Option Int:=ga lpK jnK x0 f0
abbrev NG:=(List Int)->(((Int×Unit)->Option Bool))->Option (Int)
def O9 (bu:NG):Ctr:=⟨[(.sl i64)],[([i64],.bool)],[],.one i64,fun x F _=>bu x.1 F.1⟩
def Ic:Ctr:=O9 bu
theorem QD (lp:Lp) (jn:Jn):∀(x:TsS Ic.as) (F:TsF Ic.fs) (y:TsS Ic.cs),ga lp jn x.1 F.1=ce lp jn (cx [] [(134,bH)]) ao 4 173 f173 Ic x F y:=fun x F y=>by kernel_rfl
theorem Pz:Ic.ok prog 173:=Ctr.of_den (au (bX)) aS (hl:=ao) (d:=4) func173 rfl (by decide) (QD lpK jnK)
def fo (_:Lp) (_:Jn) (bu:NG) (x0:List Int) (f0:((Int×Unit)->Option Bool)):Option Bool :=
 af (bu x0 f0) fun (t:Int)=>some (decide (t>=0))
def aQ (x0:List Int) (f0:((Int×Unit)->Option Bool)):Option Bool:=fo lpK jnK bu x0 f0
abbrev NI:=(List Int)->(((Int×Unit)->Option Bool))->Option (Bool)
def P4 (aQ:NI):Ctr:=⟨[(.sl i64)],[([i64],.bool)],[],.one .bool,fun x F _=>aQ x.1 F.1⟩
def Jw:Ctr:=P4 aQ
theorem RB (lp:Lp) (jn:Jn) (bu:NG):∀(x:TsS Jw.as) (F:TsF Jw.fs) (y:TsS Jw.cs),fo lp jn bu x.1 F.1=ce lp jn (cx [(173,O9 bu)] [(134,bH)]) ao 4 140 f140 Jw x F y:=fun x F y=>by kernel_rfl
theorem OT:Jw.ok prog 140:=Ctr.of_den (au (ai (bX) (by kernel_rfl) Pz)) aS (hl:=ao) (d:=4) func140 rfl (by decide) (RB lpK jnK bu)
def jl (lp:Lp) (_:Jn) (x0:List ((List Int)×Int×Int)) (f0:((((List Int)×Int×Int)×Unit)->Option Bool)):Option Int :=
 lp (Int×PUnit) Int (fun (again:Int×PUnit->Option Int) (x:Int×PUnit)=>bif decide (x.1<(↑x0.length:Int)) then bif inB x.1 x0.length then af (f0 (x0.getD x.1.toNat ([],0,0),PUnit.unit)) fun (t:Bool)=>bif t then some x.1 else again (IntKind.wrap .i64 (x.1+1),PUnit.unit) else none else some (-1)) (0,PUnit.unit)
def b7 (x0:List ((List Int)×Int×Int)) (f0:((((List Int)×Int×Int)×Unit)->Option Bool)):Option Int:=jl lpK jnK x0 f0
abbrev Nt:=(List ((List Int)×Int×Int))->(((((List Int)×Int×Int)×Unit)->Option Bool))->Option (Int)
def OI (b7:Nt):Ctr:=⟨[(.sl T86)],[([T86],.bool)],[],.one i64,fun x F _=>b7 x.1 F.1⟩
def GG:Ctr:=OI b7
theorem QB (lp:Lp) (jn:Jn):∀(x:TsS GG.as) (F:TsF GG.fs) (y:TsS GG.cs),jl lp jn x.1 F.1=ce lp jn (cx [] [(134,bH)]) ao 4 174 f174 GG x F y:=fun x F y=>by kernel_rfl
theorem PQ:GG.ok prog 174:=Ctr.of_den (au (bX)) aS (hl:=ao) (d:=4) func174 rfl (by decide) (QB lpK jnK)
def hO (_:Lp) (_:Jn) (b7:Nt) (x0:List ((List Int)×Int×Int)) (f0:((((List Int)×Int×Int)×Unit)->Option Bool)):Option Bool :=
 af (b7 x0 f0) fun (t:Int)=>some (decide (t>=0))
def cd (x0:List ((List Int)×Int×Int)) (f0:((((List Int)×Int×Int)×Unit)->Option Bool)):Option Bool:=hO lpK jnK b7 x0 f0
def OE (cd:(List ((List Int)×Int×Int))->(((((List Int)×Int×Int)×Unit)->Option Bool))->Option (Bool)):Ctr:=⟨[(.sl T86)],[([T86],.bool)],[],.one .bool,fun x F _=>cd x.1 F.1⟩
def IB:Ctr:=OE cd
theorem Qg (lp:Lp) (jn:Jn) (b7:Nt):∀(x:TsS IB.as) (F:TsF IB.fs) (y:TsS IB.cs),hO lp jn b7 x.1 F.1=ce lp jn (cx [(174,OI b7)] [(134,bH)]) ao 4 141 f141 IB x F y:=fun x F y=>by kernel_rfl
theorem PX:IB.ok prog 141:=Ctr.of_den (au (ai (bX) (by kernel_rfl) PQ)) aS (hl:=ao) (d:=4) func141 rfl (by decide) (Qg lpK jnK b7)
def ky (lp:Lp) (_:Jn) (aQ:NI) (_:(List ((List Int)×Int×Int))->(((((List Int)×Int×Int)×Unit)->Option Bool))->Option (Bool)) (cC:Pu) (x0:(List Int)×List ((List Int)×Int×Int)):Option Bool :=
 
 let v3:Bool:=decide ((↑x0.1.length:Int)<1);
 let v4:Bool:=!v3;
 let v5:Bool:=bif v3 then true else decide ((↑x0.1.length:Int)>12);
 let v6:Bool:=!v4||v4;
 let v7:Bool:=!v5;
 let v8:Bool:=bif v5 then true else decide ((↑x0.2.length:Int)>6);
 let v9:Bool:=!v8;
 let v10:Bool:=!v7||v7;
 let v11:Bool:=!v9||v9;bif v6 then bif v6 then bif v6 then bif v3||v4 then bif v10 then bif v10 then bif v10 then bif v5||v7 then bif v11 then bif v11 then af (bif v9 then cC 1048576 else some fun (_:Int×PUnit)=>none) fun (t:Int×PUnit->Option Bool)=>bif v11&&v11 then af (bif v9 then aQ x0.1 t else some false) fun (t:Bool)=>bif v8||v9 then bif bif v8 then true else t then some false else lp (Int×PUnit) Bool (fun (again:Int×PUnit->Option Bool) (x:Int×PUnit) =>
 let v16:List Int×Int×Int:=x0.2.getD x.1.toNat ([],0,0);
 let v17:Bool:=decide (v16.2.1<1);
 let v18:Bool:=decide (v16.2.1>3);
 let v19:Bool:=!decide ((↑v16.1.length:Int)=(↑x0.1.length:Int));
 let v20:Bool:=!v19;
 let v21:Bool:=!v20||v20;bif decide (x.1<(↑x0.2.length:Int)) then bif inB x.1 x0.2.length then bif v21 then bif v21 then af (bif v20 then cC 1048576 else some fun (_:Int×PUnit)=>none) fun (t:Int×PUnit->Option Bool)=>bif v21&&v21 then af (bif v20 then aQ v16.1 t else some false) fun (t:Bool) =>
 let v24:Bool:=bif v19 then true else t;
 let v25:Bool:=!v24;
 let v26:Bool:=bif v24 then true else v17;
 let v27:Bool:=!v26;
 let v28:Bool:=bif v26 then true else v18;
 let v29:Bool:=!v25||v25;
 let v30:Bool:=!v28;
 let v31:Bool:=!v27||v27;
 let v32:Bool:=!v30||v30;bif v19||v20 then bif v29 then bif v29 then bif v24||v25 then bif v31 then bif v31 then bif v26||v27 then bif v32 then af (bif v30 then cC 1073741824 else some fun (_:Int×PUnit)=>none) fun (t:Int×PUnit->Option Bool)=>bif v32 then bif v32&&v32 then af (bif v30 then t (v16.2.2, PUnit.unit) else some false) fun (t:Bool)=>bif v28||v30 then bif bif v28 then true else t then some !decide (x.1>=0) else again (IntKind.wrap .i64 (x.1+(1 : Int)),PUnit.unit) else none else none else none else none else none else none else none else none else none else none else none else none else none else none else none else some !decide ((-1:Int)>=0)) (0,PUnit.unit) else none else none else none else none else none else none else none else none else none else none else none else none
def aX (x0:(List Int)×List ((List Int)×Int×Int)):Option Bool:=ky lpK jnK aQ cd cC x0
abbrev t91:=((List Int)×List ((List Int)×Int×Int))->Option (Bool)
def k91 (aX:t91):Ctr:=⟨[T32],[],[],.one .bool,fun x _ _=>aX x.1⟩
def c91:Ctr:=k91 aX
theorem e91 (lp:Lp) (jn:Jn) (aQ:NI) (cd:(List ((List Int)×Int×Int))->(((((List Int)×Int×Int)×Unit)->Option Bool))->Option (Bool)) (cC:Pu):∀(x:TsS c91.as) (F:TsF c91.fs) (y:TsS c91.cs),ky lp jn aQ cd cC x.1=ce lp jn (xV zH AJ (Ok [(138,⟨[i64],[i64],.bool,fun x=>cC x.1⟩)] (kh prog shs uX its [(141,OE cd),(140,P4 aQ)] [(134,bH)]))) ao 4 91 f91 c91 x F y:=fun x F y=>by kernel_rfl
theorem N8:c91.ok prog 91:=Ctr.of_den (au (KO (ai (ai (bX) (by kernel_rfl) OT) (by kernel_rfl) PX) (Fl (by kernel_rfl) N2 (Jm)))) aS (hl:=ao) (d:=4) func91 rfl (by decide) (e91 lpK jnK aQ cd cC)
def fe (lp:Lp) (_:Jn) (x0:List (Int×Int)) (f0:(((Int×Int)×Unit)->Option Bool)):Option Int :=
 lp (Int×PUnit) Int (fun (again:Int×PUnit->Option Int) (x:Int×PUnit)=>bif decide (x.1<(↑x0.length:Int)) then bif inB x.1 x0.length then af (f0 (x0.getD x.1.toNat (0,0),PUnit.unit)) fun (t:Bool)=>bif t then some x.1 else again (IntKind.wrap .i64 (x.1+1),PUnit.unit) else none else some (-1)) (0,PUnit.unit)
def bj (x0:List (Int×Int)) (f0:(((Int×Int)×Unit)->Option Bool)):Option Int:=fe lpK jnK x0 f0
abbrev t74:=(List (Int×Int))->((((Int×Int)×Unit)->Option Bool))->Option (Int)
def k74 (bj:t74):Ctr:=⟨[(.sl T49)],[([T49],.bool)],[],.one i64,fun x F _=>bj x.1 F.1⟩
def c74:Ctr:=k74 bj
theorem e74 (lp:Lp) (jn:Jn):∀(x:TsS c74.as) (F:TsF c74.fs) (y:TsS c74.cs),fe lp jn x.1 F.1=ce lp jn (cx [] [(134,bH)]) ao 4 74 f74 c74 x F y:=fun x F y=>by kernel_rfl
theorem QR:c74.ok prog 74:=Ctr.of_den (au (bX)) aS (hl:=ao) (d:=4) func74 rfl (by decide) (e74 lpK jnK)
def dX (_:Lp) (_:Jn) (bj:t74) (x0:List (Int×Int)) (f0:(((Int×Int)×Unit)->Option Bool)):Option Bool :=
 af (bj x0 f0) fun (t:Int)=>some (decide (t>=0))
def aj (x0:List (Int×Int)) (f0:(((Int×Int)×Unit)->Option Bool)):Option Bool:=dX lpK jnK bj x0 f0
abbrev t32:=(List (Int×Int))->((((Int×Int)×Unit)->Option Bool))->Option (Bool)
def k32 (aj:t32):Ctr:=⟨[(.sl T49)],[([T49],.bool)],[],.one .bool,fun x F _=>aj x.1 F.1⟩
def c32:Ctr:=k32 aj
theorem e32 (lp:Lp) (jn:Jn) (bj:t74):∀(x:TsS c32.as) (F:TsF c32.fs) (y:TsS c32.cs),dX lp jn bj x.1 F.1=ce lp jn (cx [(74,k74 bj)] [(134,bH)]) ao 4 32 f32 c32 x F y:=fun x F y=>by kernel_rfl
theorem LF:c32.ok prog 32:=Ctr.of_den (au (ai (bX) (by kernel_rfl) QR)) aS (hl:=ao) (d:=4) func32 rfl (by decide) (e32 lpK jnK bj)
def ji (_:Lp) (_:Jn) (ap:t72) (x0:Int×Int):Option Bool :=
 af (ap x0) fun (t:Bool)=>some !t
def cQ (x0:Int×Int):Option Bool:=ji lpK jnK ap x0
abbrev OJ:=(Int×Int)->Option (Bool)
def Iq:Ctr:=⟨[T49],[],[],.one .bool,fun x _ _=>cQ x.1⟩
theorem Ql (lp:Lp) (jn:Jn) (ap:t72):∀(x:TsS Iq.as) (F:TsF Iq.fs) (y:TsS Iq.cs),ji lp jn ap x.1=ce lp jn (cx [(72,k72 ap)] [(134,bH)]) ao 4 143 f143 Iq x F y:=fun x F y=>by kernel_rfl
theorem O0:Iq.ok prog 143:=Ctr.of_den (au (ai (bX) (by kernel_rfl) Br)) aS (hl:=ao) (d:=4) func143 rfl (by decide) (Ql lpK jnK ap)
def kx (_:Lp) (_:Jn) (aj:t32) (cQ:OJ) (x0:List (Int×Int)):Option Bool :=
 af (aj x0 fun (x:(Int×Int)×PUnit)=>cQ x.1) fun (t:Bool)=>some !t
def dG (x0:List (Int×Int)):Option Bool:=kx lpK jnK aj cQ x0
abbrev t92:=(List (Int×Int))->Option (Bool)
def c92:Ctr:=⟨[(.sl T49)],[],[],.one .bool,fun x _ _=>dG x.1⟩
theorem e92 (lp:Lp) (jn:Jn) (aj:t32) (cQ:OJ):∀(x:TsS c92.as) (F:TsF c92.fs) (y:TsS c92.cs),kx lp jn aj cQ x.1=ce lp jn (cx [(143,⟨[T49],[],[],.one .bool,fun x _ _=>cQ x.1⟩),(32,k32 aj)] [(134,bH)]) ao 4 92 f92 c92 x F y:=fun x F y=>by kernel_rfl
theorem QH:c92.ok prog 92:=Ctr.of_den (au (ai (ai (bX) (by kernel_rfl) LF) (by kernel_rfl) O0)) aS (hl:=ao) (d:=4) func92 rfl (by decide) (e92 lpK jnK aj cQ)
def kC (_:Lp) (_:Jn) (bJ:C2) (x0:Int) (x1:Int):Option (Int×Int) :=
 af (bJ x0 x1) fun (t:Int×Int×PUnit)=>some (t.1,t.2.1)
def aI (x0:Int) (x1:Int):Option (Int×Int):=kC lpK jnK bJ x0 x1
abbrev t76:=(Int)->(Int)->Option (Int×Int)
def k76 (aI:t76):Ctr:=⟨[(.int .u64),(.int .u64)],[],[],.one mi,fun x _ _=>aI x.1 x.2.1⟩
def c76:Ctr:=k76 aI
theorem e76 (lp:Lp) (jn:Jn) (bJ:C2):∀(x:TsS c76.as) (F:TsF c76.fs) (y:TsS c76.cs),kC lp jn bJ x.1 x.2.1=ce lp jn (cx [(122,KD bJ)] [(134,bH)]) ao 4 76 f76 c76 x F y:=fun x F y=>by kernel_rfl
theorem MY:c76.ok prog 76:=Ctr.of_den (au (ai (bX) (by kernel_rfl) Ix)) aS (hl:=ao) (d:=4) func76 rfl (by decide) (e76 lpK jnK bJ)
def kK (_:Lp) (_:Jn) (x0:Int×Int) (x1:Int×Int):Option (Int×Int) :=
 bif decide ((0:Int)<=0)&&decide ((0:Int)<=1) then bif decide (0<=nW x0.2 x1.2 0)&&decide (nW x0.2 x1.2 0<=1) then some (wn x0.1 x1.1 (nW x0.2 x1.2 0),wn x0.2 x1.2 0) else none else none
def fa (x0:Int×Int) (x1:Int×Int):Option (Int×Int):=kK lpK jnK x0 x1
abbrev t78:=(Int×Int)->(Int×Int)->Option (Int×Int)
def c78:Ctr:=⟨[mi,mi],[],[],.one mi,fun x _ _=>fa x.1 x.2.1⟩
theorem e78 (lp:Lp) (jn:Jn):∀(x:TsS c78.as) (F:TsF c78.fs) (y:TsS c78.cs),kK lp jn x.1 x.2.1=ce lp jn (cx [] [(134,bH)]) ao 4 78 f78 c78 x F y:=fun x F y=>by kernel_rfl
theorem Qz:c78.ok prog 78:=Ctr.of_den (au (bX)) aS (hl:=ao) (d:=4) func78 rfl (by decide) (e78 lpK jnK)
def nK (_:Lp) (_:Jn) (x0:Int×Int) (x1:Int×Int):Option Bool :=
 
 let v4:Bool:=decide (x0.1=x1.1);
 let v5:Bool:=decide (x0.1<x1.1);
 let v6:Bool:=!v5;
 let v7:Bool:=!v6;
 let v8:Bool:=v6&&v4;
 let v9:Bool:=v7||v6;
 let v10:Bool:=!v8||v8;bif v9 then bif v9 then bif v9&&v9 then bif v9 then bif v10 then bif v10 then bif v10&&v10 then bif (v7||v9)&&(v7||(!v4||(v7||v8))) then bif v5 || v6 then some (bif v5 then true else bif v4 then decide (x0.2<x1.2) else false) else none else none else none else none else none else none else none else none else none
def cq (x0:Int×Int) (x1:Int×Int):Option Bool:=nK lpK jnK x0 x1
abbrev t79:=(Int×Int)->(Int×Int)->Option (Bool)
def k79 (cq:t79):Ctr:=⟨[mi,mi],[],[],.one .bool,fun x _ _=>cq x.1 x.2.1⟩
def c79:Ctr:=k79 cq
theorem e79 (lp:Lp) (jn:Jn):∀(x:TsS c79.as) (F:TsF c79.fs) (y:TsS c79.cs),nK lp jn x.1 x.2.1=ce lp jn (cx [] [(134,bH)]) ao 4 79 f79 c79 x F y:=fun x F y=>by kernel_rfl
theorem PZ:c79.ok prog 79:=Ctr.of_den (au (bX)) aS (hl:=ao) (d:=4) func79 rfl (by decide) (e79 lpK jnK)
def jZ (_:Lp) (_:Jn) (x0:Int×Int) (x1:Int×Int):Option (Int×Int) :=
 bif decide ((0:Int)<=0)&&decide ((0:Int)<=1) then bif decide (0<=mN x0.2 x1.2 0)&&decide (mN x0.2 x1.2 0<=1) then some (sE x0.1 x1.1 (mN x0.2 x1.2 0),sE x0.2 x1.2 0) else none else none
def dQ (x0:Int×Int) (x1:Int×Int):Option (Int×Int):=jZ lpK jnK x0 x1
abbrev t80:=(Int×Int)->(Int×Int)->Option (Int×Int)
def c80:Ctr:=⟨[mi,mi],[],[],.one mi,fun x _ _=>dQ x.1 x.2.1⟩
theorem e80 (lp:Lp) (jn:Jn):∀(x:TsS c80.as) (F:TsF c80.fs) (y:TsS c80.cs),jZ lp jn x.1 x.2.1=ce lp jn (cx [] [(134,bH)]) ao 4 80 f80 c80 x F y:=fun x F y=>by kernel_rfl
theorem Qf:c80.ok prog 80:=Ctr.of_den (au (bX)) aS (hl:=ao) (d:=4) func80 rfl (by decide) (e80 lpK jnK)
def rX (_:Lp) (jn:Jn) (x0:Int):Option Int :=
 jn (Int×Int×PUnit) Int (fun (x:Int×Int×PUnit)=>jn (Int×Int×PUnit) Int (fun (x:Int×Int×PUnit) =>
 let v5:Int:=IntKind.wrap IntKind.u8 x.1;
 let v6:Int:=IntKind.wrap IntKind.u8 (Int.fdiv x.1 (2 ^ 8));bif decide (x.1>=256) then bif decide ((0:Int)<=8) then bif inB v6 256 then some (IntKind.wrap .i64 (IntKind.wrap .i64 (x.2.1+8)+IntKind.wrap .i64 (eO { data:=List.toArray (List.append (List.append [(0:UInt8),(1 : UInt8),(2:UInt8),(2:UInt8),(3:UInt8),(3:UInt8),(3:UInt8),(3:UInt8),(4:UInt8),(4:UInt8),(4:UInt8),(4:UInt8),(4:UInt8),(4:UInt8),(4:UInt8),(4 : UInt8),(5:UInt8),(5:UInt8),(5:UInt8),(5:UInt8),(5:UInt8),(5:UInt8),(5:UInt8),(5:UInt8),(5:UInt8),(5:UInt8),(5:UInt8),(5:UInt8),(5:UInt8),(5 : UInt8),(5:UInt8),(5:UInt8),(6:UInt8),(6:UInt8),(6:UInt8),(6:UInt8),(6:UInt8),(6:UInt8),(6:UInt8),(6:UInt8),(6:UInt8),(6:UInt8),(6:UInt8),(6 : UInt8),(6:UInt8),(6:UInt8),(6:UInt8),(6:UInt8),(6:UInt8),(6:UInt8),(6:UInt8),(6:UInt8),(6:UInt8),(6:UInt8),(6:UInt8),(6:UInt8),(6:UInt8),(6 : UInt8),(6:UInt8),(6:UInt8),(6:UInt8),(6:UInt8),(6:UInt8),(6:UInt8)] [(7:UInt8),(7:UInt8),(7:UInt8),(7:UInt8),(7:UInt8),(7:UInt8),(7:UInt8),(7 : UInt8),(7:UInt8),(7:UInt8),(7:UInt8),(7:UInt8),(7:UInt8),(7:UInt8),(7:UInt8),(7:UInt8),(7:UInt8),(7:UInt8),(7:UInt8),(7:UInt8),(7:UInt8),(7 : UInt8),(7:UInt8),(7:UInt8),(7:UInt8),(7:UInt8),(7:UInt8),(7:UInt8),(7:UInt8),(7:UInt8),(7:UInt8),(7:UInt8),(7:UInt8),(7:UInt8),(7:UInt8),(7 : UInt8),(7:UInt8),(7:UInt8),(7:UInt8),(7:UInt8),(7:UInt8),(7:UInt8),(7:UInt8),(7:UInt8),(7:UInt8),(7:UInt8),(7:UInt8),(7:UInt8),(7:UInt8),(7 : UInt8),(7:UInt8),(7:UInt8),(7:UInt8),(7:UInt8),(7:UInt8),(7:UInt8),(7:UInt8),(7:UInt8),(7:UInt8),(7:UInt8),(7:UInt8),(7:UInt8),(7:UInt8),(7 : UInt8)]) (List.append [(8:UInt8),(8:UInt8),(8:UInt8),(8:UInt8),(8:UInt8),(8:UInt8),(8:UInt8),(8:UInt8),(8:UInt8),(8:UInt8),(8:UInt8),(8:UInt8),(8 : UInt8),(8:UInt8),(8:UInt8),(8:UInt8),(8:UInt8),(8:UInt8),(8:UInt8),(8:UInt8),(8:UInt8),(8:UInt8),(8:UInt8),(8:UInt8),(8:UInt8),(8:UInt8),(8 : UInt8),(8:UInt8),(8:UInt8),(8:UInt8),(8:UInt8),(8:UInt8),(8:UInt8),(8:UInt8),(8:UInt8),(8:UInt8),(8:UInt8),(8:UInt8),(8:UInt8),(8:UInt8),(8 : UInt8),(8:UInt8),(8:UInt8),(8:UInt8),(8:UInt8),(8:UInt8),(8:UInt8),(8:UInt8),(8:UInt8),(8:UInt8),(8:UInt8),(8:UInt8),(8:UInt8),(8:UInt8),(8 : UInt8),(8:UInt8),(8:UInt8),(8:UInt8),(8:UInt8),(8:UInt8),(8:UInt8),(8:UInt8),(8:UInt8),(8:UInt8)] [(8:UInt8),(8:UInt8),(8:UInt8),(8:UInt8),(8 : UInt8),(8:UInt8),(8:UInt8),(8:UInt8),(8:UInt8),(8:UInt8),(8:UInt8),(8:UInt8),(8:UInt8),(8:UInt8),(8:UInt8),(8:UInt8),(8:UInt8),(8:UInt8),(8 : UInt8),(8:UInt8),(8:UInt8),(8:UInt8),(8:UInt8),(8:UInt8),(8:UInt8),(8:UInt8),(8:UInt8),(8:UInt8),(8:UInt8),(8:UInt8),(8:UInt8),(8:UInt8),(8 : UInt8),(8:UInt8),(8:UInt8),(8:UInt8),(8:UInt8),(8:UInt8),(8:UInt8),(8:UInt8),(8:UInt8),(8:UInt8),(8:UInt8),(8:UInt8),(8:UInt8),(8:UInt8),(8 : UInt8),(8:UInt8),(8:UInt8),(8:UInt8),(8:UInt8),(8:UInt8),(8:UInt8),(8:UInt8),(8:UInt8),(8:UInt8),(8:UInt8),(8:UInt8),(8:UInt8),(8:UInt8),(8 : UInt8),(8:UInt8),(8:UInt8),(8:UInt8)])) } v6.toNat))) else none else none else bif inB v5 256 then some (IntKind.wrap .i64 (x.2.1+IntKind.wrap IntKind.i64 (eO { data:=List.toArray (List.append (List.append [(0:UInt8),(1:UInt8),(2:UInt8),(2:UInt8),(3:UInt8),(3:UInt8),(3:UInt8),(3:UInt8),(4 : UInt8),(4:UInt8),(4:UInt8),(4:UInt8),(4:UInt8),(4:UInt8),(4:UInt8),(4:UInt8),(5:UInt8),(5:UInt8),(5:UInt8),(5:UInt8),(5:UInt8),(5:UInt8),(5 : UInt8),(5:UInt8),(5:UInt8),(5:UInt8),(5:UInt8),(5:UInt8),(5:UInt8),(5:UInt8),(5:UInt8),(5:UInt8),(6:UInt8),(6:UInt8),(6:UInt8),(6:UInt8),(6 : UInt8),(6:UInt8),(6:UInt8),(6:UInt8),(6:UInt8),(6:UInt8),(6:UInt8),(6:UInt8),(6:UInt8),(6:UInt8),(6:UInt8),(6:UInt8),(6:UInt8),(6:UInt8),(6 : UInt8),(6:UInt8),(6:UInt8),(6:UInt8),(6:UInt8),(6:UInt8),(6:UInt8),(6:UInt8),(6:UInt8),(6:UInt8),(6:UInt8),(6:UInt8),(6:UInt8),(6:UInt8)] [(7 : UInt8),(7:UInt8),(7:UInt8),(7:UInt8),(7:UInt8),(7:UInt8),(7:UInt8),(7:UInt8),(7:UInt8),(7:UInt8),(7:UInt8),(7:UInt8),(7:UInt8),(7:UInt8),(7 : UInt8),(7:UInt8),(7:UInt8),(7:UInt8),(7:UInt8),(7:UInt8),(7:UInt8),(7:UInt8),(7:UInt8),(7:UInt8),(7:UInt8),(7:UInt8),(7:UInt8),(7:UInt8),(7 : UInt8),(7:UInt8),(7:UInt8),(7:UInt8),(7:UInt8),(7:UInt8),(7:UInt8),(7:UInt8),(7:UInt8),(7:UInt8),(7:UInt8),(7:UInt8),(7:UInt8),(7:UInt8),(7 : UInt8),(7:UInt8),(7:UInt8),(7:UInt8),(7:UInt8),(7:UInt8),(7:UInt8),(7:UInt8),(7:UInt8),(7:UInt8),(7:UInt8),(7:UInt8),(7:UInt8),(7:UInt8),(7 : UInt8),(7:UInt8),(7:UInt8),(7:UInt8),(7:UInt8),(7:UInt8),(7:UInt8),(7:UInt8)]) (List.append [(8:UInt8),(8:UInt8),(8:UInt8),(8:UInt8),(8:UInt8),(8 : UInt8),(8:UInt8),(8:UInt8),(8:UInt8),(8:UInt8),(8:UInt8),(8:UInt8),(8:UInt8),(8:UInt8),(8:UInt8),(8:UInt8),(8:UInt8),(8:UInt8),(8:UInt8),(8 : UInt8),(8:UInt8),(8:UInt8),(8:UInt8),(8:UInt8),(8:UInt8),(8:UInt8),(8:UInt8),(8:UInt8),(8:UInt8),(8:UInt8),(8:UInt8),(8:UInt8),(8:UInt8),(8 : UInt8),(8:UInt8),(8:UInt8),(8:UInt8),(8:UInt8),(8:UInt8),(8:UInt8),(8:UInt8),(8:UInt8),(8:UInt8),(8:UInt8),(8:UInt8),(8:UInt8),(8:UInt8),(8 : UInt8),(8:UInt8),(8:UInt8),(8:UInt8),(8:UInt8),(8:UInt8),(8:UInt8),(8:UInt8),(8:UInt8),(8:UInt8),(8:UInt8),(8:UInt8),(8:UInt8),(8:UInt8),(8 : UInt8),(8:UInt8),(8:UInt8)] [(8:UInt8),(8:UInt8),(8:UInt8),(8:UInt8),(8:UInt8),(8:UInt8),(8:UInt8),(8:UInt8),(8:UInt8),(8:UInt8),(8:UInt8),(8 : UInt8),(8:UInt8),(8:UInt8),(8:UInt8),(8:UInt8),(8:UInt8),(8:UInt8),(8:UInt8),(8:UInt8),(8:UInt8),(8:UInt8),(8:UInt8),(8:UInt8),(8:UInt8),(8 : UInt8),(8:UInt8),(8:UInt8),(8:UInt8),(8:UInt8),(8:UInt8),(8:UInt8),(8:UInt8),(8:UInt8),(8:UInt8),(8:UInt8),(8:UInt8),(8:UInt8),(8:UInt8),(8 : UInt8),(8:UInt8),(8:UInt8),(8:UInt8),(8:UInt8),(8:UInt8),(8:UInt8),(8:UInt8),(8:UInt8),(8:UInt8),(8:UInt8),(8:UInt8),(8:UInt8),(8:UInt8),(8 : UInt8),(8:UInt8),(8:UInt8),(8:UInt8),(8:UInt8),(8:UInt8),(8:UInt8),(8:UInt8),(8:UInt8),(8:UInt8),(8:UInt8)])) } v5.toNat))) else none) fun (j:Int × Int×PUnit->Option Int)=>bif decide (x.1>=65536) then bif decide ((0:Int)<=16) then j (Int.fdiv x.1 (2 ^ 16),IntKind.wrap .i64 (x.2.1+16),PUnit.unit) else none else j (x.1,x.2.1,PUnit.unit)) fun (j:Int×Int×PUnit->Option Int)=>bif decide (x0>=4294967296) then bif decide (0<=32) then j (Int.fdiv x0 (2 ^ 32),32,PUnit.unit) else none else j (x0,0,PUnit.unit)
def fC (x0:Int):Option Int:=rX lpK jnK x0
abbrev Ow:=(Int)->Option (Int)
def IL:Ctr:=⟨[(.int .u64)],[],[],.one i64,fun x _ _=>fC x.1⟩
theorem QA (lp:Lp) (jn:Jn):∀(x:TsS IL.as) (F:TsF IL.fs) (y:TsS IL.cs),rX lp jn x.1=ce lp jn (cx [] [(134,bH)]) ao 4 181 f181 IL x F y:=fun x F y=>by kernel_rfl
theorem P1:IL.ok prog 181:=Ctr.of_den (au (bX)) aS (hl:=ao) (d:=4) func181 rfl (by decide) (QA lpK jnK)
def gG (_:Lp) (_:Jn) (fC:Ow) (x0:Int):Option Int :=
 af (fC x0) fun (t:Int)=>some (IntKind.wrap .i64 (64 - t))
def cj (x0:Int):Option Int:=gG lpK jnK fC x0
abbrev Oj:=(Int)->Option (Int)
def HU:Ctr:=⟨[(.int .u64)],[],[],.one i64,fun x _ _=>cj x.1⟩
theorem Qk (lp:Lp) (jn:Jn) (fC:Ow):∀(x:TsS HU.as) (F:TsF HU.fs) (y:TsS HU.cs),gG lp jn fC x.1=ce lp jn (cx [(181,⟨[(.int .u64)],[],[],.one i64,fun x _ _=>fC x.1⟩)] [(134,bH)]) ao 4 165 f165 HU x F y:=fun x F y=>by kernel_rfl
theorem Ol:HU.ok prog 165:=Ctr.of_den (au (ai (bX) (by kernel_rfl) P1)) aS (hl:=ao) (d:=4) func165 rfl (by decide) (Qk lpK jnK fC)
def nI (lp:Lp) (jn:Jn) (cj:Oj) (x0:Int) (x1:Int) (x2:Int):Option (Int×Int×Unit) :=
 
 let v5:Bool:=nzB x2;
 let v6:Int:=2 ^ 32;
 let v7:Bool:=decide ((0:Int)<=32);jn PUnit (Int×Int×PUnit) (fun (_:PUnit)=>jn PUnit (Int×Int×PUnit) (fun (_:PUnit)=>bif decide (x0=0) then bif v5 then bif v5 then some (IntKind.wrap .u64 (Int.tdiv x1 x2),Int.tmod x1 x2,PUnit.unit) else none else none else af (cj x2) fun (t:Int) =>
 let v11:Int:=IntKind.wrap .u64 t;
 let v12:Bool:=decide (0<=v11);
 let v13:Int:=2 ^ min v11.toNat 64;
 let v14:Int:=IntKind.wrap .u64 (x2*v13);
 let v15:Int:=IntKind.wrap .u64 (x1*v13);
 let v16:Int:=Int.fdiv v14 v6;
 let v17:Int:=Int.fdiv v15 v6;
 let v18:Bool:=nzB v16;
 let v19:Int:=IntKind.wrap .u64 (↑(Nat.land (Int.toNat (v15 % Int.ofNat 18446744073709551616)) (Int.toNat (4294967295 % Int.ofNat 18446744073709551616))) : Int);
 let v20:Int:=IntKind.wrap .u64 (↑(Nat.land (Int.toNat (v14 % Int.ofNat 18446744073709551616)) (Int.toNat (4294967295 % Int.ofNat 18446744073709551616))) : Int);
 let v21:Int:=IntKind.wrap .u64 (↑(Nat.lor (Int.toNat (IntKind.wrap .u64 (x0*v13) % Int.ofNat 18446744073709551616)) (Int.toNat (Int.fdiv x1 (2 ^ min (Int.toNat (IntKind.wrap .u64 (64 - v11))) 64) % Int.ofNat 18446744073709551616))):Int);
 let v22:Int:=IntKind.wrap .u64 (Int.tdiv v21 v16);bif v12 then bif v7 then bif v12 then bif decide (0<=IntKind.wrap .u64 (64 - v11)) then bif v12 then bif v7 then bif v18 then jn (Int×PUnit) (Int×Int×PUnit) (fun (x:Int×PUnit) =>
 let v24:Int:=IntKind.wrap .u64 (IntKind.wrap .u64 (IntKind.wrap .u64 (v21*4294967296)+v17) - IntKind.wrap .u64 (x.1*v14));
 let v25:Int:=IntKind.wrap .u64 (Int.tdiv v24 v16);bif v18 then jn (Int×PUnit) (Int×Int×PUnit) (fun (x_1:Int×PUnit)=>bif v12 then some (IntKind.wrap .u64 (IntKind.wrap .u64 (x.1*4294967296)+x_1.1),Int.fdiv (IntKind.wrap .u64 (IntKind.wrap .u64 (IntKind.wrap .u64 (v24*4294967296) + v19) - IntKind.wrap .u64 (x_1.1*v14))) v13,PUnit.unit) else none) fun (j:Int×PUnit->Option (Int×Int×PUnit))=>lp (Int×Int×PUnit) (Int×Int×PUnit) (fun (again:Int×Int×PUnit->Option (Int×Int×PUnit)) (x:Int×Int×PUnit) =>
 let v29:Int×PUnit:=(IntKind.wrap .u64 (x.2.1 - 1),PUnit.unit);
 let v30:Bool:=decide (x.2.1>=4294967296);
 let v31:Bool:=!v30;
 let v32:Bool:=!v31||v31;
 let v33:Bool:=v32&&v32;bif v33 then bif v32 then bif v33 then bif v33 then bif v30||v31 then bif bif v30 then true else decide (IntKind.wrap .u64 (x.2.1*v20) > IntKind.wrap .u64 (IntKind.wrap .u64 (4294967296*x.1)+v19)) then bif decide (IntKind.wrap .u64 (x.1+v16)>=4294967296) then j v29 else again (IntKind.wrap .u64 (x.1+v16),v29) else j (x.2.1,PUnit.unit) else none else none else none else none else none) (IntKind.wrap .u64 (v24 - IntKind.wrap IntKind.u64 (v25*v16)),v25,PUnit.unit) else none) fun (j:Int×PUnit->Option (Int×Int×PUnit))=>lp (Int×Int×PUnit) (Int×Int×PUnit) (fun (again:Int×Int×PUnit -> Option (Int×Int×PUnit)) (x:Int×Int×PUnit) =>
 let v26:Int:=IntKind.wrap .u64 (x.1 - 1);
 let v27:Bool:=decide (x.1>=4294967296);
 let v28:Bool:=!v27;
 let v29:Bool:=!v28||v28;
 let v30:Bool:=v29&&v29;bif v30 then bif v29 then bif v30 then bif v30 then bif v27||v28 then bif bif v27 then true else decide (IntKind.wrap .u64 (x.1*v20) > IntKind.wrap .u64 (IntKind.wrap .u64 (4294967296*x.2.1)+v17)) then bif decide (IntKind.wrap .u64 (x.2.1+v16)>=4294967296) then j (v26,PUnit.unit) else again (v26,IntKind.wrap .u64 (x.2.1+v16),PUnit.unit) else j (x.1,PUnit.unit) else none else none else none else none else none) (v22, IntKind.wrap .u64 (v21 - IntKind.wrap .u64 (v22*v16)),PUnit.unit) else none else none else none else none else none else none else none) fun (j:PUnit->Option (Int × Int×PUnit))=>bif decide (x2<=x0) then none else j PUnit.unit) fun (j:PUnit->Option (Int×Int×PUnit))=>bif decide (x2=0) then none else j PUnit.unit
def cB (x0:Int) (x1:Int) (x2:Int):Option (Int×Int×Unit):=nI lpK jnK cj x0 x1 x2
abbrev Ia:=(Int)->(Int)->(Int)->Option (Int×Int×Unit)
def M5 (cB:Ia):Ctr:=⟨[(.int .u64),(.int .u64),(.int .u64)],[],[],.tup [(.int .u64),(.int .u64)],fun x _ _=>cB x.1 x.2.1 x.2.2.1⟩
def Gb:Ctr:=M5 cB
theorem Rt (lp:Lp) (jn:Jn) (cj:Oj):∀(x:TsS Gb.as) (F:TsF Gb.fs) (y:TsS Gb.cs),nI lp jn cj x.1 x.2.1 x.2.2.1=ce lp jn (cx [(165,⟨[(.int .u64)],[],[],.one i64,fun x _ _=>cj x.1⟩)] [(134,bH)]) ao 4 125 f125 Gb x F y:=fun x F y=>by kernel_rfl
theorem Ms:Gb.ok prog 125:=Ctr.of_den (au (ai (bX) (by kernel_rfl) Ol)) aS (hl:=ao) (d:=4) func125 rfl (by decide) (Rt lpK jnK cj)
def nv (_:Lp) (_:Jn) (cB:Ia) (x0:Int×Int) (x1:Int):Option ((Int×Int)×Int×Unit) :=
 
 let v4:Bool:=nzB x1;bif v4 then af (cB (Int.tmod x0.1 x1) x0.2 x1) fun (t:Int×Int×PUnit)=>bif v4 then some ((IntKind.wrap .u64 (Int.tdiv x0.1 x1), t.1),t.2.1,PUnit.unit) else none else none
def dy (x0:Int×Int) (x1:Int):Option ((Int×Int)×Int×Unit):=nv lpK jnK cB x0 x1
abbrev t81:=(Int×Int)->(Int)->Option ((Int×Int)×Int×Unit)
def k81 (dy:t81):Ctr:=⟨[mi,(.int .u64)],[],[],.tup [mi,(.int .u64)],fun x _ _=>dy x.1 x.2.1⟩
def c81:Ctr:=k81 dy
theorem e81 (lp:Lp) (jn:Jn) (cB:Ia):∀(x:TsS c81.as) (F:TsF c81.fs) (y:TsS c81.cs),nv lp jn cB x.1 x.2.1=ce lp jn (cx [(125,M5 cB)] [(134,bH)]) ao 4 81 f81 c81 x F y:=fun x F y=>by kernel_rfl
theorem Q7:c81.ok prog 81:=Ctr.of_den (au (ai (bX) (by kernel_rfl) Ms)) aS (hl:=ao) (d:=4) func81 rfl (by decide) (e81 lpK jnK cB)
def lW (_:Lp) (_:Jn) (x0:Bool) (x1:Int) (x2:Int):Option ((Int×Int)×Int×Unit) :=
 
 let v5:Int:=IntKind.wrap .i64 x1;
 let v6:Int:=IntKind.wrap .i64 x2;
 let v7:Bool:=decide (x1>1152921504606846976);
 let v8:Bool:=!v7;bif !v8||v8 then bif v7||v8 then bif bif v7 then true else decide (x2>1152921504606846976) then some ((0,0),5,PUnit.unit) else bif x0 then some ((IntKind.wrap .i64 (0 - v5),v6),0,PUnit.unit) else some ((v5,v6),0,PUnit.unit) else none else none
def a6 (x0:Bool) (x1:Int) (x2:Int):Option ((Int×Int)×Int×Unit):=lW lpK jnK x0 x1 x2
abbrev t82:=(Bool)->(Int)->(Int)->Option ((Int×Int)×Int×Unit)
def k82 (a6:t82):Ctr:=⟨[.bool,(.int .u64),(.int .u64)],[],[],.tup [T49,i64],fun x _ _=>a6 x.1 x.2.1 x.2.2.1⟩
def c82:Ctr:=k82 a6
theorem e82 (lp:Lp) (jn:Jn):∀(x:TsS c82.as) (F:TsF c82.fs) (y:TsS c82.cs),lW lp jn x.1 x.2.1 x.2.2.1=ce lp jn (cx [] [(134,bH)]) ao 4 82 f82 c82 x F y:=fun x F y=>by kernel_rfl
theorem M1:c82.ok prog 82:=Ctr.of_den (au (bX)) aS (hl:=ao) (d:=4) func82 rfl (by decide) (e82 lpK jnK)
def oP (_:Lp) (jn:Jn) (bg:t75) (aB:t77) (ap:t72) (aI:t76) (fa:t78) (cq:t79) (dQ:t80) (dy:t81) (a6:t82) (x0:Int×Int) (x1:Int×Int):Option ((Int×Int)×Int×Unit) :=
 
 let v4:Int:=IntKind.wrap .u64 x0.2;
 let v5:Int:=IntKind.wrap .u64 x1.2;
 let v6:Bool:=decide (x0.1<0);af (ap x0) fun (t:Bool) =>
 let v8:Bool:=!t;
 let v9:Bool:=!v8;
 let v10:Bool:=!v9||v9;bif v10 then af (bif v9 then ap x1 else some false) fun (t:Bool)=>bif v10 then bif v8||v9 then bif bif v8 then true else !t then some (((0 : Int),0),1,PUnit.unit) else af (bg v4 v5) fun (t:Int) =>
 let v13:Bool:=nzB t;
 let v14:Int:=IntKind.wrap .u64 (Int.tdiv v4 t);af (aB x0.1) fun (t_1:Int)=>bif v13 then af (aI t_1 (IntKind.wrap .u64 (Int.tdiv v5 t))) fun (t_2:Int×Int)=>af (aB x1.1) fun (t_3:Int)=>bif v13 then af (aI t_3 v14) fun (t_4:Int×Int)=>jn (Bool×(Int×Int)×PUnit) ((Int×Int) × Int×PUnit) (fun (x:Bool×(Int×Int)×PUnit)=>bif decide (x.2.1.1=0)&&(decide (x.2.1.2=0)&&true) then some ((0,1),(0 : Int),PUnit.unit) else af (dy x.2.1 t) fun (t_5:(Int×Int)×Int×PUnit)=>af (bg t t_5.2.1) fun (t:Int)=>af (dy x.2.1 t) fun (t_6 : (Int×Int)×Int×PUnit) =>
 let v23:Bool:=decide (t_6.1.1>0);
 let v24:Bool:=!v23;
 let v25:Bool:=!v24||v24;bif v13 then bif nzB t then af (aI v14 (IntKind.wrap .u64 (Int.tdiv v5 t))) fun (t:Int×Int)=>bif v25 then bif v25 then bif v23 || v24 then bif bif v23 then true else decide (t.1>0) then some ((0,0),5,PUnit.unit) else af (a6 x.1 t_6.1.2 t.2) fun (t:(Int × Int)×Int×PUnit)=>some (t.1,t.2.1,PUnit.unit) else none else none else none else none else none) fun (j:Bool×(Int×Int)×PUnit->Option ((Int×Int)×Int×PUnit)) =>bif decide (v6=decide (x1.1<0)) then af (fa t_2 t_4) fun (t:Int×Int)=>j (v6,t,PUnit.unit) else af (cq t_2 t_4) fun (t:Bool)=>jn (Bool × (Int×Int)×PUnit) ((Int×Int)×Int×PUnit) (fun (x:Bool×(Int×Int)×PUnit)=>j (x.1,x.2.1,PUnit.unit)) fun (j:Bool×(Int×Int)×PUnit->Option ((Int×Int) × Int×PUnit))=>bif t then af (dQ t_4 t_2) fun (t:Int×Int)=>j (!v6,t,PUnit.unit) else af (dQ t_2 t_4) fun (t:Int×Int)=>j (v6,t,PUnit.unit) else none else none else none else none else none
def a9 (x0:Int×Int) (x1:Int×Int):Option ((Int×Int)×Int×Unit):=oP lpK jnK bg aB ap aI fa cq dQ dy a6 x0 x1
abbrev t35:=(Int×Int)->(Int×Int)->Option ((Int×Int)×Int×Unit)
def k35 (a9:t35):Ctr:=⟨[T49,T49],[],[],.tup [T49,i64],fun x _ _=>a9 x.1 x.2.1⟩
def c35:Ctr:=k35 a9
theorem e35 (lp:Lp) (jn:Jn) (bg:t75) (aB:t77) (ap:t72) (aI:t76) (fa:t78) (cq:t79) (dQ:t80) (dy:t81) (a6:t82):∀(x:TsS c35.as) (F:TsF c35.fs) (y:TsS c35.cs),oP lp jn bg aB ap aI fa cq dQ dy a6 x.1 x.2.1=ce lp jn (cx [(82,k82 a6),(81,k81 dy),(80,⟨[mi,mi],[],[],.one mi,fun x _ _=>dQ x.1 x.2.1⟩),(79,k79 cq),(78,⟨[mi,mi],[],[],.one mi,fun x _ _=>fa x.1 x.2.1⟩),(76,k76 aI),(72,k72 ap),(77,k77 aB),(75,k75 bg)] [(134,bH)]) ao 4 35 f35 c35 x F y:=fun x F y=>by kernel_rfl
theorem LV:c35.ok prog 35:=Ctr.of_den (au (ai (ai (ai (ai (ai (ai (ai (ai (ai (bX) (by kernel_rfl) Kw) (by kernel_rfl) JB) (by kernel_rfl) Br) (by kernel_rfl) MY) (by kernel_rfl) Qz) (by kernel_rfl) PZ) (by kernel_rfl) Qf) (by kernel_rfl) Q7) (by kernel_rfl) M1)) aS (hl:=ao) (d:=4) func35 rfl (by decide) (e35 lpK jnK bg aB ap aI fa cq dQ dy a6)
def ow (_:Lp) (_:Jn) (bg:t75) (aB:t77) (ap:t72) (aI:t76) (a6:t82) (x0:Int×Int) (x1:Int×Int):Option ((Int×Int)×Int×Unit) :=
 
 let v4:Int:=IntKind.wrap .u64 x1.2;
 let v5:Int:=IntKind.wrap .u64 x0.2;af (ap x0) fun (t:Bool) =>
 let v7:Bool:=!t;
 let v8:Bool:=!v7;
 let v9:Bool:=!v8||v8;bif v9 then af (bif v8 then ap x1 else some false) fun (t:Bool)=>bif v9 then bif v7||v8 then bif bif v7 then true else !t then some (((0 : Int),0),1,PUnit.unit) else af (aB x0.1) fun (t:Int)=>af (bg t v4) fun (t:Int) =>
 let v13:Bool:=nzB t;af (aB x1.1) fun (t_1:Int)=>af (bg t_1 v5) fun (t_2:Int) =>
 let v16:Bool:=nzB t_2;af (aB x0.1) fun (t_3:Int)=>bif v13 then af (aB x1.1) fun (t_4:Int)=>bif v16 then af (aI (IntKind.wrap IntKind.u64 (Int.tdiv t_3 t)) (IntKind.wrap .u64 (Int.tdiv t_4 t_2))) fun (t_5:Int×Int) =>
 let v20:Bool:=decide (t_5.1>0);
 let v21:Bool:=decide (t_5.2>0);
 let v22:Bool:=!v20;
 let v23:Bool:=!v21||v21;
 let v24:Bool:=!v22||v22;bif v16 then bif v13 then af (aI (IntKind.wrap .u64 (Int.tdiv v5 t_2)) (IntKind.wrap .u64 (Int.tdiv v4 t))) fun (t:Int×Int) =>bif v24 then bif v24 then bif v20||v22 then bif bif v20 then true else decide (t.1>0) then some ((0,0),5,PUnit.unit) else bif v23 then bif v23 then bif v23 then bif v23 then bif v23&&v23 then bif v23 then af (a6 (bif v21 then !decide (decide (x0.1<0)=decide (x1.1<0)) else false) t_5.2 t.2) fun (t:(Int×Int)×Int×PUnit)=>some (t.1,t.2.1,PUnit.unit) else none else none else none else none else none else none else none else none else none else none else none else none else none else none else none else none
def cX (x0:Int×Int) (x1:Int×Int):Option ((Int×Int)×Int×Unit):=ow lpK jnK bg aB ap aI a6 x0 x1
abbrev Ha:=(Int×Int)->(Int×Int)->Option ((Int×Int)×Int×Unit)
def Nk (cX:Ha):Ctr:=⟨[T49,T49],[],[],.tup [T49,i64],fun x _ _=>cX x.1 x.2.1⟩
def Hu:Ctr:=Nk cX
theorem P9 (lp:Lp) (jn:Jn) (bg:t75) (aB:t77) (ap:t72) (aI:t76) (a6:t82):∀(x:TsS Hu.as) (F:TsF Hu.fs) (y:TsS Hu.cs),ow lp jn bg aB ap aI a6 x.1 x.2.1=ce lp jn (cx [(82,k82 a6),(76,k76 aI),(72,k72 ap),(77,k77 aB),(75,k75 bg)] [(134,bH)]) ao 4 146 f146 Hu x F y:=fun x F y=>by kernel_rfl
theorem Mg:Hu.ok prog 146:=Ctr.of_den (au (ai (ai (ai (ai (ai (bX) (by kernel_rfl) Kw) (by kernel_rfl) JB) (by kernel_rfl) Br) (by kernel_rfl) MY) (by kernel_rfl) M1)) aS (hl:=ao) (d:=4) func146 rfl (by decide) (P9 lpK jnK bg aB ap aI a6)
def iZ (lp:Lp) (jn:Jn) (a9:t35) (cX:Ha) (x0:Int) (x1:List Int) (x2:List (Int×Int)):Option (Int×(Int×Int)) :=
 lp (Int×Int×(Int×Int)×(Int×Int)×PUnit) (Int×Int×Int) (fun (again:Int×Int×(Int×Int)×(Int×Int)×PUnit->Option (Int×Int×Int)) (x:Int×Int×(Int×Int) × (Int×Int)×PUnit)=>bif decide (x.1<(↑x1.length:Int)) then bif inB x.1 x1.length then bif inB x.1 x2.length then af (cX (x1.getD x.1.toNat 0,1) (x2.getD x.1.toNat (0,0))) fun (t:(Int×Int)×Int×PUnit)=>jn (Int×(Int×Int)×PUnit) (Int×Int×Int) (fun (x_1:Int×(Int×Int)×PUnit)=>bif !decide (x_1.1=0) then some (x_1.1,0,1) else again (IntKind.wrap .i64 (x.1+1), x.2.1,x.2.2.1,x_1.2.1,PUnit.unit)) fun (j:Int×(Int×Int)×PUnit->Option (Int×Int×Int))=>bif decide (t.2.1=0) then af (a9 x.2.2.2.1 t.1) fun (t:(Int×Int)×Int×PUnit)=>j (t.2.1,t.1,PUnit.unit) else j (t.2.1,t.1,PUnit.unit) else none else none else some (x.2.1, x.2.2.2.1)) (0,x0,(0,0),(0,1),PUnit.unit)
def bP (x0:Int) (x1:List Int) (x2:List (Int×Int)):Option (Int×(Int×Int)):=iZ lpK jnK a9 cX x0 x1 x2
abbrev t95:=(Int)->(List Int)->(List (Int×Int))->Option (Int×(Int×Int))
def k95 (bP:t95):MCtr:=⟨MP,[(.sl i64),(.sl T49)],.one T49,fun x y=>bP x y.1 y.2.1⟩
def m95:MCtr:=k95 bP
theorem e95 (lp:Lp) (jn:Jn) (a9:t35) (cX:Ha):∀(x:m95.s.T) (y:TsS m95.as),iZ lp jn a9 cX x y.1 y.2.1=NJ lp jn (cx [(146,Nk cX),(35,k35 a9)] [(134,bH)]) ao 4 95 f95 m95 x y:=fun x y=>by kernel_rfl
theorem Q2:m95.ok prog 95:=MCtr.of_den (au (ai (ai (bX) (by kernel_rfl) LV) (by kernel_rfl) Mg)) aS (hl:=ao) (d:=4) func95 rfl (by decide) rfl (e95 lpK jnK a9 cX)
def oi (_:Lp) (jn:Jn) (aB:t77) (ap:t72) (aI:t76) (cq:t79) (x0:Int×Int) (x1:Int×Int):Option (Int×Int×Unit) :=
 
 let v4:Bool:=decide (x0.1<0);af (ap x0) fun (t:Bool) =>
 let v6:Bool:=!t;
 let v7:Bool:=!v6;
 let v8:Bool:=!v7||v7;bif v8 then af (bif v7 then ap x1 else some false) fun (t:Bool)=>bif v8 then bif v6||v7 then bif bif v6 then true else !t then some ((0 : Int),1,PUnit.unit) else af (aB x0.1) fun (t:Int)=>af (aI t (IntKind.wrap .u64 x1.2)) fun (t:Int×Int)=>af (aB x1.1) fun (t_1:Int)=>af (aI t_1 (IntKind.wrap .u64 x0.2)) fun (t_2:Int×Int)=>bif !decide (v4=decide (x1.1<0)) then bif v4 then some ((-1), 0,PUnit.unit) else some (1,0,PUnit.unit) else jn ((Int×Int)×(Int×Int)×PUnit) (Int×Int×PUnit) (fun (x:(Int×Int)×(Int×Int)×PUnit)=>af (cq x.1 x.2.1) fun (t:Bool)=>bif t then some ((-1),0,PUnit.unit) else af (cq x.2.1 x.1) fun (t:Bool)=>bif t then some (1, 0,PUnit.unit) else some (0,0,PUnit.unit)) fun (j:(Int×Int)×(Int×Int)×PUnit->Option (Int×Int×PUnit))=>bif v4 then j (t_2,t,PUnit.unit) else j (t,t_2,PUnit.unit) else none else none else none
def cG (x0:Int×Int) (x1:Int×Int):Option (Int×Int×Unit):=oi lpK jnK aB ap aI cq x0 x1
abbrev t39:=(Int×Int)->(Int×Int)->Option (Int×Int×Unit)
def k39 (cG:t39):Ctr:=⟨[T49,T49],[],[],.tup [i64,i64],fun x _ _=>cG x.1 x.2.1⟩
def c39:Ctr:=k39 cG
theorem e39 (lp:Lp) (jn:Jn) (aB:t77) (ap:t72) (aI:t76) (cq:t79):∀(x:TsS c39.as) (F:TsF c39.fs) (y:TsS c39.cs),oi lp jn aB ap aI cq x.1 x.2.1=ce lp jn (cx [(79,k79 cq),(76,k76 aI),(72,k72 ap),(77,k77 aB)] [(134,bH)]) ao 4 39 f39 c39 x F y:=fun x F y=>by kernel_rfl
theorem Pf:c39.ok prog 39:=Ctr.of_den (au (ai (ai (ai (ai (bX) (by kernel_rfl) JB) (by kernel_rfl) Br) (by kernel_rfl) MY) (by kernel_rfl) PZ)) aS (hl:=ao) (d:=4) func39 rfl (by decide) (e39 lpK jnK aB ap aI cq)
def mo (_:Lp) (_:Jn) (cG:t39) (x0:Int×Int) (x1:Int):Option Int :=
 af (cG x0 (x1,1)) fun (t:Int×Int×PUnit)=>some t.1
def eT (x0:Int×Int) (x1:Int):Option Int:=mo lpK jnK cG x0 x1
abbrev PG:=(Int×Int)->(Int)->Option (Int)
def HJ:Ctr:=⟨[T49,i64],[],[],.one i64,fun x _ _=>eT x.1 x.2.1⟩
theorem Ry (lp:Lp) (jn:Jn) (cG:t39):∀(x:TsS HJ.as) (F:TsF HJ.fs) (y:TsS HJ.cs),mo lp jn cG x.1 x.2.1=ce lp jn (cx [(39,k39 cG)] [(134,bH)]) ao 4 144 f144 HJ x F y:=fun x F y=>by kernel_rfl
theorem PU:HJ.ok prog 144:=Ctr.of_den (au (ai (bX) (by kernel_rfl) Pf)) aS (hl:=ao) (d:=4) func144 rfl (by decide) (Ry lpK jnK cG)
def jA (lp:Lp) (_:Jn) (x0:(List Int)×List ((List Int)×Int×Int)) (x1:Int):Option (List Int) :=
 lp (List Int×Int×PUnit) (List Int) (fun (again:List Int×Int×PUnit->Option (List Int)) (x:List Int×Int×PUnit)=>bif decide (x.2.1<(↑x0.2.length:Int)) then bif inB x.2.1 x0.2.length then bif inB x1 (List.length (x0.2.getD x.2.1.toNat ([],0,0)).1) then bif dx (List.length x.1+(1 : Nat)) 8 then again (x.1++[List.getD (x0.2.getD x.2.1.toNat ([],0,0)).1 x1.toNat 0],IntKind.wrap .i64 (x.2.1 + 1),PUnit.unit) else none else none else none else some x.1) ([],0,PUnit.unit)
def dg (x0:(List Int)×List ((List Int)×Int×Int)) (x1:Int):Option (List Int):=jA lpK jnK x0 x1
abbrev P3:=((List Int)×List ((List Int)×Int×Int))->(Int)->Option (List Int)
def F5:Ctr:=⟨[T32,i64],[],[],.one (.sl i64),fun x _ _=>dg x.1 x.2.1⟩
theorem Qe (lp:Lp) (jn:Jn):∀(x:TsS F5.as) (F:TsF F5.fs) (y:TsS F5.cs),jA lp jn x.1 x.2.1=ce lp jn (cx [] [(134,bH)]) ao 4 145 f145 F5 x F y:=fun x F y=>by kernel_rfl
theorem Pk:F5.ok prog 145:=Ctr.of_den (au (bX)) aS (hl:=ao) (d:=4) func145 rfl (by decide) (Qe lpK jnK)
def ia (_:Lp) (_:Jn) (_:Int):Option Int :=
 some 0
def cH (x0:Int):Option Int:=ia lpK jnK x0
abbrev t94:=(Int)->Option (Int)
def c94:Ctr:=⟨[i64],[],[],.one i64,fun x _ _=>cH x.1⟩
theorem e94 (lp:Lp) (jn:Jn):∀(x:TsS c94.as) (F:TsF c94.fs) (y:TsS c94.cs),ia lp jn x.1=ce lp jn (cx [] [(134,bH)]) ao 4 94 f94 c94 x F y:=fun x F y=>by kernel_rfl
theorem QC:c94.ok prog 94:=Ctr.of_den (au (bX)) aS (hl:=ao) (d:=4) func94 rfl (by decide) (e94 lpK jnK)
def jz (lp:Lp) (_:Jn) (x0:(List Int)×List ((List Int)×Int×Int)):Option (List Int) :=
 lp (List Int×Int×PUnit) (List Int) (fun (again:List Int×Int×PUnit->Option (List Int)) (x:List Int×Int×PUnit)=>bif decide (x.2.1<(↑x0.2.length:Int)) then bif inB x.2.1 x0.2.length then bif dx (List.length x.1+1) 8 then again (x.1++[(x0.2.getD x.2.1.toNat ([],0,(0 : Int))).2.2],IntKind.wrap .i64 (x.2.1+1),PUnit.unit) else none else none else some x.1) ([],0,PUnit.unit)
def dk (x0:(List Int)×List ((List Int)×Int×Int)):Option (List Int):=jz lpK jnK x0
abbrev t96:=((List Int)×List ((List Int)×Int×Int))->Option (List Int)
def c96:Ctr:=⟨[T32],[],[],.one (.sl i64),fun x _ _=>dk x.1⟩
theorem e96 (lp:Lp) (jn:Jn):∀(x:TsS c96.as) (F:TsF c96.fs) (y:TsS c96.cs),jz lp jn x.1=ce lp jn (cx [] [(134,bH)]) ao 4 96 f96 c96 x F y:=fun x F y=>by kernel_rfl
theorem Qn:c96.ok prog 96:=Ctr.of_den (au (bX)) aS (hl:=ao) (d:=4) func96 rfl (by decide) (e96 lpK jnK)
def jy (lp:Lp) (_:Jn) (x0:(List Int)×List ((List Int)×Int×Int)) (x1:List (Int×Int)):Option Bool :=
 lp (Int×PUnit) Bool (fun (again:Int×PUnit->Option Bool) (x:Int×PUnit) =>
 let v6:Bool:=inB x.1 x1.length;
 let v7:Bool:=decide ((x0.2.getD x.1.toNat ([],0,0)).2.1=1);
 let v8:Bool:=decide ((x0.2.getD x.1.toNat ([],0,0)).2.1=2);
 let v9:Bool:=!v7;
 let v10:Bool:=bif v7 then decide ((x1.getD x.1.toNat (0,0)).1>0) else false;
 let v11:Bool:=!v10;
 let v12:Bool:=!v11;
 let v13:Bool:=v9||v7;
 let v14:Bool:=v11&&v8;
 let v15:Bool:=!v14;
 let v16:Bool:=v12||v11;
 let v17:Bool:=v15||v14;bif decide (x.1<(↑x0.2.length:Int)) then bif inB x.1 x0.2.length then bif v13&&(v13&&(v9||v6)) then bif v13 then bif v13 then bif v13 then bif v13 then bif v16 then bif v16 then bif v16 then bif v17&&(v17&&(v15||v6)) then bif v17 then bif v17 then bif v17 then bif (v12||v16)&&(v12||(!v8||(v12 || v14))) then bif v10||v11 then bif bif v10 then true else bif v8 then decide ((x1.getD x.1.toNat (0,0)).1<0) else false then some false else again (IntKind.wrap .i64 (x.1+1),PUnit.unit) else none else none else none else none else none else none else none else none else none else none else none else none else none else none else none else some true) (0,PUnit.unit)
def dh (x0:(List Int)×List ((List Int)×Int×Int)) (x1:List (Int×Int)):Option Bool:=jy lpK jnK x0 x1
abbrev t97:=((List Int)×List ((List Int)×Int×Int))->(List (Int×Int))->Option (Bool)
def c97:Ctr:=⟨[T32,(.sl T49)],[],[],.one .bool,fun x _ _=>dh x.1 x.2.1⟩
theorem e97 (lp:Lp) (jn:Jn):∀(x:TsS c97.as) (F:TsF c97.fs) (y:TsS c97.cs),jy lp jn x.1 x.2.1=ce lp jn (cx [] [(134,bH)]) ao 4 97 f97 c97 x F y:=fun x F y=>by kernel_rfl
theorem Rh:c97.ok prog 97:=Ctr.of_den (au (bX)) aS (hl:=ao) (d:=4) func97 rfl (by decide) (e97 lpK jnK)
def jo (lp:Lp) (_:Jn) (aX:t91) (dG:t92) (eT:PG) (dg:P3) (cH:t94) (dk:t96) (dh:t97) (bP:t95) (x0:(List Int)×List ((List Int)×Int×Int)) (x1:List (Int×Int)):Option (Bool×Int×Unit) :=
 af (aX x0) fun (t:Bool) =>
 let v5:Bool:=!t;
 let v6:Bool:=!v5;
 let v7:Bool:=!v6||v6;bif v7 then af (bif v6 then dG x1 else some false) fun (t:Bool)=>bif v7 then bif v5||v6 then bif bif v5 then true else !t then some (false, 1,PUnit.unit) else bif !decide ((↑x1.length:Int)=(↑x0.2.length:Int)) then some (false,3,PUnit.unit) else lp (Bool×Int×Int×PUnit) (Bool × Int×PUnit) (fun (again:Bool×Int×Int×PUnit->Option (Bool×Int×PUnit)) (x:Bool×Int×Int×PUnit)=>bif decide (x.2.1<(↑x0.1.length:Int)) then af (dg x0 x.2.1) fun (t:List Int)=>af (bP x.2.2.1 t x1) fun (t:Int×Int×Int)=>af (cH x.2.1) fun (t_1:Int)=>af (eT t.2 t_1) fun (t_2:Int) =>
 let v15:Bool:=decide (t_2<=0);bif !v15||v15 then again (bif v15 then x.1 else false,IntKind.wrap .i64 (x.2.1+1),t.1,PUnit.unit) else none else af (dk x0) fun (t:List Int)=>af (bP x.2.2.1 t x1) fun (t:Int×Int×Int) =>
 let v13:Bool:=decide (t.2.1>0);
 let v14:Bool:=!v13||v13;bif v14&&v14 then af (bif v13 then dh x0 x1 else some false) fun (t_1:Bool) =>
 let v16:Bool:=bif v13 then t_1 else false;
 let v17:Bool:=bif v16 then x.1 else false;
 let v18:Bool:=!v17||v17;bif v14 then bif !v16||v16 then bif v18 then bif v18 then bif v18 then some (bif v17 then decide (t.1=0) else false,t.1,PUnit.unit) else none else none else none else none else none else none) (true,0,0,PUnit.unit) else none else none else none
def bQ (x0:(List Int)×List ((List Int)×Int×Int)) (x1:List (Int×Int)):Option (Bool×Int×Unit):=jo lpK jnK aX dG eT dg cH dk dh bP x0 x1
abbrev t47:=((List Int)×List ((List Int)×Int×Int))->(List (Int×Int))->Option (Bool×Int×Unit)
def k47 (bQ:t47):Ctr:=⟨[T32,(.sl T49)],[],[],.tup [.bool,i64],fun x _ _=>bQ x.1 x.2.1⟩
def c47:Ctr:=k47 bQ
theorem e47 (lp:Lp) (jn:Jn) (aX:t91) (dG:t92) (eT:PG) (dg:P3) (cH:t94) (dk:t96) (dh:t97) (bP:t95):∀(x:TsS c47.as) (F:TsF c47.fs) (y:TsS c47.cs),jo lp jn aX dG eT dg cH dk dh bP x.1 x.2.1=ce lp jn (xV zH AJ (CX [] [(95,k95 bP)] (kh prog shs uX its [(97,⟨[T32,(.sl T49)],[],[],.one .bool,fun x _ _=>dh x.1 x.2.1⟩),(96,⟨[T32],[],[],.one (.sl i64),fun x _ _=>dk x.1⟩),(94,⟨[i64],[],[],.one i64,fun x _ _=>cH x.1⟩),(145,⟨[T32,i64],[],[],.one (.sl i64),fun x _ _=>dg x.1 x.2.1⟩),(144,⟨[T49,i64],[],[],.one i64,fun x _ _=>eT x.1 x.2.1⟩),(92,⟨[(.sl T49)],[],[],.one .bool,fun x _ _=>dG x.1⟩),(91,k91 aX)] [(134,bH)]))) ao 4 47 f47 c47 x F y:=fun x F y=>by kernel_rfl
theorem Qs:c47.ok prog 47:=Ctr.of_den (au (pc (ai (ai (ai (ai (ai (ai (ai (bX) (by kernel_rfl) N8) (by kernel_rfl) QH) (by kernel_rfl) PU) (by kernel_rfl) Pk) (by kernel_rfl) QC) (by kernel_rfl) Qn) (by kernel_rfl) Rh) (mD) (Fe (by kernel_rfl) Q2 (mt)))) aS (hl:=ao) (d:=4) func47 rfl (by decide) (e47 lpK jnK aX dG eT dg cH dk dh bP)
def lM (_:Lp) (_:Jn) (aF:t11) (bQ:t47) (x0:(List (ByteArray×Int))×List (ByteArray×(List (ByteArray×Int×Int×Int))×Bool)) (x1:List (Int×Int)):Option (Bool×Int×Unit) :=
 af (aF x0) fun (t:(List Int×List (List Int×Int×Int))×Int×PUnit)=>bif !decide (t.2.1=0) then some (false,t.2.1,PUnit.unit) else af (bQ t.1 x1) fun (t:Bool×Int×PUnit)=>some (t.1,t.2.1,PUnit.unit)
def aL (x0:(List (ByteArray×Int))×List (ByteArray×(List (ByteArray×Int×Int×Int))×Bool)) (x1:List (Int×Int)):Option (Bool×Int×Unit):=lM lpK jnK aF bQ x0 x1
abbrev t12:=((List (ByteArray×Int))×List (ByteArray×(List (ByteArray×Int×Int×Int))×Bool))->(List (Int×Int))->Option (Bool×Int×Unit)
def k12 (aL:t12):Ctr:=⟨[T25,(.sl T49)],[],[],.tup [.bool,i64],fun x _ _=>aL x.1 x.2.1⟩
def c12:Ctr:=k12 aL
theorem e12 (lp:Lp) (jn:Jn) (aF:t11) (bQ:t47):∀(x:TsS c12.as) (F:TsF c12.fs) (y:TsS c12.cs),lM lp jn aF bQ x.1 x.2.1=ce lp jn (cx [(47,k47 bQ),(11,k11 aF)] [(134,bH)]) ao 4 12 f12 c12 x F y:=fun x F y=>by kernel_rfl
theorem Px:c12.ok prog 12:=Ctr.of_den (au (ai (ai (bX) (by kernel_rfl) NO) (by kernel_rfl) Qs)) aS (hl:=ao) (d:=4) func12 rfl (by decide) (e12 lpK jnK aF bQ)
def n7 (_:Lp) (_:Jn) (x0:Int):Option Int :=
 
 let v3:Int:=IntKind.wrap .u64 x0;bif decide (x0<0) then some (IntKind.wrap .u64 (0 - v3)) else some v3
def bN (x0:Int):Option Int:=n7 lpK jnK x0
abbrev JZ:=(Int)->Option (Int)
def NE (bN:JZ):Ctr:=⟨[i64],[],[],.one (.int .u64),fun x _ _=>bN x.1⟩
def II:Ctr:=NE bN
theorem QT (lp:Lp) (jn:Jn):∀(x:TsS II.as) (F:TsF II.fs) (y:TsS II.cs),n7 lp jn x.1=ce lp jn (cx [] [(134,bH)]) ao 4 155 f155 II x F y:=fun x F y=>by kernel_rfl
theorem Mf:II.ok prog 155:=Ctr.of_den (au (bX)) aS (hl:=ao) (d:=4) func155 rfl (by decide) (QT lpK jnK)
def jL (lp:Lp) (_:Jn) (bN:JZ) (x0:List Int) (x1:Int):Option Int :=
 af (bN x1) fun (t:Int)=>lp (Int×Int×PUnit) Int (fun (again:Int×Int×PUnit->Option Int) (x:Int×Int×PUnit)=>bif decide (x.2.1<(↑x0.length : Int)) then bif inB x.2.1 x0.length then af (bN (x0.getD x.2.1.toNat 0)) fun (t:Int)=>again (IntKind.wrap .i64 (x.1 + IntKind.wrap .i64 t),IntKind.wrap .i64 (x.2.1+1),PUnit.unit) else none else some x.1) (IntKind.wrap .i64 (1+IntKind.wrap .i64 t), 0,PUnit.unit)
def cO (x0:List Int) (x1:Int):Option Int:=jL lpK jnK bN x0 x1
abbrev OZ:=(List Int)->(Int)->Option (Int)
def Hr:Ctr:=⟨[(.sl i64),i64],[],[],.one i64,fun x _ _=>cO x.1 x.2.1⟩
theorem QW (lp:Lp) (jn:Jn) (bN:JZ):∀(x:TsS Hr.as) (F:TsF Hr.fs) (y:TsS Hr.cs),jL lp jn bN x.1 x.2.1=ce lp jn (cx [(155,NE bN)] [(134,bH)]) ao 4 154 f154 Hr x F y:=fun x F y=>by kernel_rfl
theorem Pp:Hr.ok prog 154:=Ctr.of_den (au (ai (bX) (by kernel_rfl) Mf)) aS (hl:=ao) (d:=4) func154 rfl (by decide) (QW lpK jnK bN)
def jG (lp:Lp) (jn:Jn) (x0:List Int):Option Int :=
 jn PUnit Int (fun (_:PUnit)=>bif inB 0 x0.length then lp (Int×Int×PUnit) Int (fun (again:Int×Int×PUnit->Option Int) (x:Int×Int×PUnit)=>bif decide (x.2.1<(↑x0.length:Int)) then bif inB x.2.1 x0.length then again (if x0.getD x.2.1.toNat 0>x.1 then x0.getD x.2.1.toNat 0 else x.1,IntKind.wrap .i64 (x.2.1+1),PUnit.unit) else none else some x.1) (x0.getD 0 0,1,PUnit.unit) else none) fun (j:PUnit->Option Int)=>bif decide ((↑x0.length:Int)<1) then none else j PUnit.unit
def df (x0:List Int):Option Int:=jG lpK jnK x0
abbrev Pm:=(List Int)->Option (Int)
def IR:Ctr:=⟨[(.sl i64)],[],[],.one i64,fun x _ _=>df x.1⟩
theorem Qa (lp:Lp) (jn:Jn):∀(x:TsS IR.as) (F:TsF IR.fs) (y:TsS IR.cs),jG lp jn x.1=ce lp jn (cx [] [(134,bH)]) ao 4 156 f156 IR x F y:=fun x F y=>by kernel_rfl
theorem Om:IR.ok prog 156:=Ctr.of_den (au (bX)) aS (hl:=ao) (d:=4) func156 rfl (by decide) (Qa lpK jnK)
def lH (lp:Lp) (_:Jn) (cO:OZ) (df:Pm) (x0:(List Int)×List ((List Int)×Int×Int)):Option Bool :=
 af (cO x0.1 0) fun (t:Int)=>lp (List Int×Int×PUnit) Bool (fun (again:List Int×Int×PUnit->Option Bool) (x:List Int×Int×PUnit) =>
 let v6:List Int×Int×Int:=x0.2.getD x.2.1.toNat ([],0,0);bif decide (x.2.1<(↑x0.2.length:Int)) then bif inB x.2.1 x0.2.length then af (cO v6.1 v6.2.2) fun (t:Int)=>bif dx (List.length x.1+1) 8 then again (x.1++[t],IntKind.wrap .i64 (x.2.1+1),PUnit.unit) else none else none else lp (Int×Int×PUnit) Bool (fun (again:Int×Int×PUnit->Option Bool) (x_1:Int×Int×PUnit) =>
 let v9:Int:=x.1.getD x_1.2.1.toNat 0;bif decide (x_1.2.1<(↑x.1.length:Int)) then bif inB x_1.2.1 x.1.length then bif Nat.ble (Nat.succ x_1.2.1.toNat) x.1.length then bif nzB v9 then bif decide (x_1.1>IntKind.wrap .i64 (Int.tdiv 17592186044416 v9)) then some false else again (IntKind.wrap .i64 (x_1.1*v9),IntKind.wrap .i64 (x_1.2.1+1),PUnit.unit) else none else none else none else af (df x.1) fun (t : Int)=>bif nzB t then some (decide (x_1.1<=IntKind.wrap .i64 (Int.tdiv 144115188075855872 t))) else none) (1,0,PUnit.unit)) ([t],0, PUnit.unit)
def bZ (x0:(List Int)×List ((List Int)×Int×Int)):Option Bool:=lH lpK jnK cO df x0
abbrev F6:=((List Int)×List ((List Int)×Int×Int))->Option (Bool)
def M3 (bZ:F6):Ctr:=⟨[T32],[],[],.one .bool,fun x _ _=>bZ x.1⟩
def F9:Ctr:=M3 bZ
theorem QN (lp:Lp) (jn:Jn) (cO:OZ) (df:Pm):∀(x:TsS F9.as) (F:TsF F9.fs) (y:TsS F9.cs),lH lp jn cO df x.1=ce lp jn (cx [(156,⟨[(.sl i64)],[],[],.one i64,fun x _ _=>df x.1⟩),(154,⟨[(.sl i64),i64],[],[],.one i64,fun x _ _=>cO x.1 x.2.1⟩)] [(134,bH)]) ao 4 108 f108 F9 x F y:=fun x F y=>by kernel_rfl
theorem MD:F9.ok prog 108:=Ctr.of_den (au (ai (ai (bX) (by kernel_rfl) Pp) (by kernel_rfl) Om)) aS (hl:=ao) (d:=4) func108 rfl (by decide) (QN lpK jnK cO df)
def fc (lp:Lp) (_:Jn) (x0:(List (List Int))×Int×(List Int)×(List Int)×(List Int)×Int×Int) (x1:Int):Option Int :=
 lp (Int×Int×PUnit) Int (fun (again:Int×Int×PUnit->Option Int) (x:Int×Int×PUnit) =>
 let v6:Int×PUnit:=(IntKind.wrap .i64 (x.2.1+1),PUnit.unit);
 let v7:List Int:=x0.1.getD x.2.1.toNat [];bif decide (x.2.1<(↑x0.1.length:Int)) then bif inB x.2.1 x0.1.length then bif inB x.2.1 x0.2.2.1.length then bif decide (x0.2.2.1.getD x.2.1.toNat 0>=x0.2.2.2.2.2.1) then bif inB x1 v7.length then again (IntKind.wrap .i64 (x.1+v7.getD x1.toNat 0),v6) else none else again (x.1,v6) else none else none else some x.1) (0,0,PUnit.unit)
def av (x0:(List (List Int))×Int×(List Int)×(List Int)×(List Int)×Int×Int) (x1:Int):Option Int:=fc lpK jnK x0 x1
abbrev GA:=((List (List Int))×Int×(List Int)×(List Int)×(List Int)×Int×Int)->(Int)->Option (Int)
def NC (av:GA):PCtr:=⟨EO,[i64],.one i64,fun x y=>av x y.1⟩
def Kj:PCtr:=NC av
theorem RC (lp:Lp) (jn:Jn):∀(x:Kj.s.T) (y:TsS Kj.as),fc lp jn x y.1=Co lp jn (cx [] [(134,bH)]) ao 4 126 f126 Kj x y:=fun x y=>by kernel_rfl
theorem ML:Kj.ok prog 126:=PCtr.of_den (au (bX)) aS (hl:=ao) (d:=4) func126 rfl (by decide) (RC lpK jnK)
def kw (_:Lp) (_:Jn) (bJ:C2) (bN:JZ) (x0:Int) (x1:Int):Option (Bool×Int×Int) :=
 
 let v4:Bool:=!decide (decide (x0<0)=decide (x1<0));
 let v5:Bool:=!v4;
 let v6:Bool:=v5||v4;af (bN x0) fun (t:Int)=>af (bN x1) fun (t_1:Int)=>af (bJ t t_1) fun (t:Int×Int×PUnit) =>
 let v10:Bool:=!decide (t.1=0);
 let v11:Bool:=v4&&!v10;bif v6 then bif v6 then bif !v11||v11 then bif (v5||v6)&&(v5||(v10||(v5||v11))) then bif v6 then some (bif v4 then bif v10 then true else !decide (t.2.1=0) else false,t.1,t.2.1) else none else none else none else none else none
def bt (x0:Int) (x1:Int):Option (Bool×Int×Int):=kw lpK jnK bJ bN x0 x1
abbrev HG:=(Int)->(Int)->Option (Bool×Int×Int)
def Na (bt:HG):Ctr:=⟨[i64,i64],[],[],.one qT,fun x _ _=>bt x.1 x.2.1⟩
def IP:Ctr:=Na bt
theorem Qd (lp:Lp) (jn:Jn) (bJ:C2) (bN:JZ):∀(x:TsS IP.as) (F:TsF IP.fs) (y:TsS IP.cs),kw lp jn bJ bN x.1 x.2.1=ce lp jn (cx [(155,NE bN),(122,KD bJ)] [(134,bH)]) ao 4 175 f175 IP x F y:=fun x F y=>by kernel_rfl
theorem MF:IP.ok prog 175:=Ctr.of_den (au (ai (ai (bX) (by kernel_rfl) Ix) (by kernel_rfl) Mf)) aS (hl:=ao) (d:=4) func175 rfl (by decide) (Qd lpK jnK bJ bN)
def fi (_:Lp) (_:Jn) (x0:Bool×Int×Int) (x1:Bool×Int×Int):Option Int :=
 
 let v4:Bool:=decide (x0.2.1=x1.2.1);
 let v5:Bool:=!v4;
 let v6:Bool:=v5||v4;
 let v7:Bool:=!v5||v5;
 let v8:Bool:=bif v5 then decide (x0.2.1<x1.2.1) else false;
 let v9:Bool:=!v8;
 let v10:Bool:=!v9;
 let v11:Bool:=v9&&v4;
 let v12:Bool:=v10||v9;
 let v13:Bool:=!v11||v11;bif v7 then bif v7 then bif v7&&v7 then bif v7 then bif v12 then bif v12 then bif v12&&v12 then bif v12 then bif v13 then bif v13 then bif v13&&v13 then bif (v10||v12)&&(v10||(v5||(v10||v11))) then bif v8||v9 then bif bif v8 then true else bif v4 then decide (x0.2.2<x1.2.2) else false then some (-1) else bif v6 then bif v6 then bif v6&&v6 then bif v6 then bif bif v4 then decide (x0.2.2=x1.2.2) else false then some 0 else some 1 else none else none else none else none else none else none else none else none else none else none else none else none else none else none else none else none else none
def ax (x0:Bool×Int×Int) (x1:Bool×Int×Int):Option Int:=fi lpK jnK x0 x1
abbrev I5:=(Bool×Int×Int)->(Bool×Int×Int)->Option (Int)
def Oe (ax:I5):Ctr:=⟨[qT,qT],[],[],.one i64,fun x _ _=>ax x.1 x.2.1⟩
def GY:Ctr:=Oe ax
theorem Rm (lp:Lp) (jn:Jn):∀(x:TsS GY.as) (F:TsF GY.fs) (y:TsS GY.cs),fi lp jn x.1 x.2.1=ce lp jn (cx [] [(134,bH)]) ao 4 184 f184 GY x F y:=fun x F y=>by kernel_rfl
theorem Mm:GY.ok prog 184:=Ctr.of_den (au (bX)) aS (hl:=ao) (d:=4) func184 rfl (by decide) (Rm lpK jnK)
def fR (_:Lp) (jn:Jn) (ax:I5) (x0:Bool×Int×Int) (x1:Bool×Int×Int):Option (Bool×Int×Int) :=
 
 let v4:Bool:=!x0.1;
 let v5:Bool:=!x1.1;
 let v6:Bool:=!v4;
 let v7:Bool:=v4&&v5;
 let v8:Bool:=v6||v4;
 let v9:Bool:=!v7;
 let v10:Bool:=v9||v7;
 let v11:Bool:=!decide (x1.2.1=0);
 let v12:Bool:=v7&&!v11;
 let v13:Bool:=decide ((0:Int)<=0)&&decide ((0:Int)<=1);
 let v14:Bool:=!v12||v12;bif !decide (x0.1=x1.1) then bif v13 then bif decide (0<=nW x0.2.2 x1.2.2 0)&&decide (nW x0.2.2 x1.2.2 (0 : Int)<=1) then bif v8 then bif v8 then bif v8 then bif v10 then bif v10 then bif v10 then bif v14 then bif v14 then bif (v9||v10)&&(v9||(v11||(v9||v12))) then bif (v6 || v8)&&(v6||(!v5||(v6||v7))) then bif x0.1||v4 then some (bif x0.1 then true else bif v5 then bif v11 then true else !decide (x1.2.2=0) else false,wn x0.2.1 x1.2.1 (nW x0.2.2 x1.2.2 0),wn x0.2.2 x1.2.2 0) else none else none else none else none else none else none else none else none else none else none else none else none else none else af (ax x0 x1) fun (t:Int)=>jn (Bool×(Bool×Int×Int)×(Bool×Int×Int)×PUnit) (Bool×Int×Int) (fun (x:Bool×(Bool×Int×Int)×(Bool×Int×Int)×PUnit) =>
 let v17:Bool:=!x.1;
 let v18:Bool:=v17||x.1;
 let v19:Bool:=!decide (sE x.2.1.2.1 x.2.2.1.2.1 (mN x.2.1.2.2 x.2.2.1.2.2 0)=0);
 let v20:Bool:=x.1&&!v19;bif v13 then bif decide (0<=mN x.2.1.2.2 x.2.2.1.2.2 0)&&decide (mN x.2.1.2.2 x.2.2.1.2.2 (0 : Int)<=1) then bif v18 then bif v18 then bif !v20||v20 then bif (v17||v18)&&(v17||(v19||(v17||v20))) then bif v18 then some (bif x.1 then bif v19 then true else !decide (sE x.2.1.2.2 x.2.2.1.2.2 0=0) else false,sE x.2.1.2.1 x.2.2.1.2.1 (mN x.2.1.2.2 x.2.2.1.2.2 (0 : Int)),sE x.2.1.2.2 x.2.2.1.2.2 0) else none else none else none else none else none else none else none) fun (j:Bool×(Bool×Int×Int)×(Bool×Int × Int)×PUnit->Option (Bool×Int×Int))=>bif decide (t<0) then j (v4,x1,x0,PUnit.unit) else j (x0.1,x0,x1,PUnit.unit)
def bp (x0:Bool×Int×Int) (x1:Bool×Int×Int):Option (Bool×Int×Int):=fR lpK jnK ax x0 x1
abbrev Oa:=(Bool×Int×Int)->(Bool×Int×Int)->Option (Bool×Int×Int)
def PY (bp:Oa):Ctr:=⟨[qT,qT],[],[],.one qT,fun x _ _=>bp x.1 x.2.1⟩
def Jq:Ctr:=PY bp
theorem Q4 (lp:Lp) (jn:Jn) (ax:I5):∀(x:TsS Jq.as) (F:TsF Jq.fs) (y:TsS Jq.cs),fR lp jn ax x.1 x.2.1=ce lp jn (cx [(184,Oe ax)] [(134,bH)]) ao 4 176 f176 Jq x F y:=fun x F y=>by kernel_rfl
theorem Oq:Jq.ok prog 176:=Ctr.of_den (au (ai (bX) (by kernel_rfl) Mm)) aS (hl:=ao) (d:=4) func176 rfl (by decide) (Q4 lpK jnK ax)
def fY (_:Lp) (_:Jn) (cB:Ia) (x0:Bool×Int×Int) (x1:Int):Option Int :=
 af (cB x0.2.1 x0.2.2 (IntKind.wrap .u64 x1)) fun (t:Int×Int×PUnit) =>
 let v5:Int:=IntKind.wrap .i64 t.1;bif x0.1 then some (IntKind.wrap .i64 (0 - v5)) else some v5
def bL (x0:Bool×Int×Int) (x1:Int):Option Int:=fY lpK jnK cB x0 x1
abbrev Pn:=(Bool×Int×Int)->(Int)->Option (Int)
def GV:Ctr:=⟨[qT,i64],[],[],.one i64,fun x _ _=>bL x.1 x.2.1⟩
theorem Rg (lp:Lp) (jn:Jn) (cB:Ia):∀(x:TsS GV.as) (F:TsF GV.fs) (y:TsS GV.cs),fY lp jn cB x.1 x.2.1=ce lp jn (cx [(125,M5 cB)] [(134,bH)]) ao 4 177 f177 GV x F y:=fun x F y=>by kernel_rfl
theorem OC:GV.ok prog 177:=Ctr.of_den (au (ai (bX) (by kernel_rfl) Ms)) aS (hl:=ao) (d:=4) func177 rfl (by decide) (Rg lpK jnK cB)
def gC (lp:Lp) (_:Jn) (bt:HG) (bp:Oa) (bL:Pn) (x0:List Nat×List (Option (List Int))) (x1:Int) (x2:List Int) (x3:List Int) (x4:List Int) (x5:Int) (x6:Int) (x7:Int) (x8:Int):Option ((List Nat×List (Option (List Int)))×Int×(List Int)×(List Int)×(List Int)×Int×Int×Unit) :=
 
 let v11:List Int×List Int×List Int×Int×Int×PUnit:=(x2.set x7.toNat x8,x3,x4,x5,x6,PUnit.unit);bif inB x7 x0.1.length then bif Nat.ble (Nat.succ x7.toNat) x0.1.length then bif inB x8 (List.length (ah x0.2 (x0.1.getD x7.toNat 0))) then bif Nat.ble (Nat.succ x8.toNat) (List.length (ah x0.2 (x0.1.getD x7.toNat 0))) then lp (Int×(List Nat×List (Option (List Int)))×PUnit) ((List Nat×List (Option (List Int)))×Int×List Int×List Int×List Int×Int×Int×PUnit) (fun (again:Int×(List Nat×List (Option (List Int)))×PUnit->Option ((List Nat×List (Option (List Int)))×Int×List Int×List Int×List Int×Int×Int×PUnit)) (x:Int×(List Nat×List (Option (List Int)))×PUnit) =>
 let v14:Int:=IntKind.wrap .i64 (x.1+1);
 let v15:(List Nat×List (Option (List Int)))×PUnit:=(x.2.1,PUnit.unit);
 let v16:Int×(List Nat×List (Option (List Int)))×PUnit:=(0,v15);bif decide (x.1<(↑x0.1.length:Int)) then bif inB x.1 x.2.1.1.length then bif Nat.ble (Nat.succ x.1.toNat) x.2.1.1.length then bif decide (x.1=x7) then again (v14,v15) else bif inB x8 (List.length (ah x.2.1.2 (x.2.1.1.getD x.1.toNat 0))) then bif Nat.ble (Nat.succ x8.toNat) (List.length (ah x.2.1.2 (x.2.1.1.getD x.1.toNat 0))) then bif eJ x.2.1.2 (x.2.1.1.getD x.1.toNat 0) then lp (Int×(List Nat×List (Option (List Int)))×PUnit) ((List Nat×List (Option (List Int)))×Int × List Int×List Int×List Int×Int×Int×PUnit) (fun (again_1:Int×(List Nat×List (Option (List Int)))×PUnit->Option ((List Nat×List (Option (List Int)))×Int×List Int × List Int×List Int×Int×Int×PUnit)) (x_1:Int×(List Nat×List (Option (List Int)))×PUnit)=>bif decide (x_1.1<(↑(List.length (ah x.2.1.2 (x.2.1.1.getD x.1.toNat 0))):Int)) then bif inB x_1.1 (List.length (ah x_1.2.1.2 (x.2.1.1.getD x.1.toNat 0))) then bif Nat.ble (Nat.succ x_1.1.toNat) (List.length (ah x_1.2.1.2 (x.2.1.1.getD x.1.toNat 0))) then af (bt (List.getD (ah x_1.2.1.2 (x.2.1.1.getD x.1.toNat 0)) x_1.1.toNat 0) (List.getD (ah x0.2 (x0.1.getD x7.toNat 0)) x8.toNat 0)) fun (t:Bool×Int×Int)=>bif inB x7 x_1.2.1.1.length then bif Nat.ble (Nat.succ x7.toNat) x_1.2.1.1.length then bif inB x_1.1 (List.length (ah x_1.2.1.2 (x_1.2.1.1.getD x7.toNat 0))) then bif Nat.ble (Nat.succ x_1.1.toNat) (List.length (ah x_1.2.1.2 (x_1.2.1.1.getD x7.toNat 0))) then af (bt (List.getD (ah x.2.1.2 (x.2.1.1.getD x.1.toNat 0)) x8.toNat 0) (List.getD (ah x_1.2.1.2 (x_1.2.1.1.getD x7.toNat 0)) x_1.1.toNat 0)) fun (t_1:Bool×Int×Int)=>af (bp t t_1) fun (t:Bool × Int×Int)=>af (bL t x1) fun (t:Int)=>bif inB x_1.1 (List.length (ah x_1.2.1.2 (x.2.1.1.getD x.1.toNat 0))) then bif Nat.ble (Nat.succ x_1.1.toNat) (List.length (ah x_1.2.1.2 (x.2.1.1.getD x.1.toNat 0))) then again_1 (IntKind.wrap .i64 (x_1.1+(1 : Int)),(x_1.2.1.1,x_1.2.1.2.set (x.2.1.1.getD x.1.toNat 0) (some (List.set (ah x_1.2.1.2 (x.2.1.1.getD x.1.toNat 0)) x_1.1.toNat t))),PUnit.unit) else none else none else none else none else none else none else none else none else again (v14,x_1.2.1,PUnit.unit)) v16 else none else none else none else none else none else bif inB x7 x2.length then bif Nat.ble (Nat.succ x7.toNat) x2.length then bif decide (List.getD (ah x0.2 (x0.1.getD x7.toNat 0)) x8.toNat 0<0) then lp (Int×(List Nat×List (Option (List Int)))×PUnit) ((List Nat×List (Option (List Int))) × Int×List Int×List Int×List Int×Int×Int×PUnit) (fun (again:Int×(List Nat×List (Option (List Int)))×PUnit->Option ((List Nat×List (Option (List Int)))×Int×List Int×List Int×List Int×Int×Int×PUnit)) (x_1:Int×(List Nat×List (Option (List Int)))×PUnit)=>bif decide (x_1.1<(↑x.2.1.1.length:Int)) then bif inB x_1.1 x_1.2.1.1.length then bif Nat.ble (Nat.succ x_1.1.toNat) x_1.2.1.1.length then bif eJ x_1.2.1.2 (x_1.2.1.1.getD x_1.1.toNat 0) then lp (Int×(List Nat×List (Option (List Int)))×PUnit) ((List Nat×List (Option (List Int)))×Int×List Int×List Int×List Int×Int×Int×PUnit) (fun (again_1:Int×(List Nat×List (Option (List Int)))×PUnit->Option ((List Nat×List (Option (List Int)))×Int×List Int×List Int×List Int×Int×Int×PUnit)) (x:Int × (List Nat×List (Option (List Int)))×PUnit)=>bif decide (x.1<(↑(List.length (ah x_1.2.1.2 (x_1.2.1.1.getD x_1.1.toNat 0))):Int)) then bif inB x.1 (List.length (ah x.2.1.2 (x_1.2.1.1.getD x_1.1.toNat 0))) then bif Nat.ble (Nat.succ x.1.toNat) (List.length (ah x.2.1.2 (x_1.2.1.1.getD x_1.1.toNat 0))) then bif inB x.1 (List.length (ah x.2.1.2 (x_1.2.1.1.getD x_1.1.toNat 0))) then bif Nat.ble (Nat.succ x.1.toNat) (List.length (ah x.2.1.2 (x_1.2.1.1.getD x_1.1.toNat 0))) then again_1 (IntKind.wrap .i64 (x.1+(1 : Int)),(x.2.1.1,x.2.1.2.set (x_1.2.1.1.getD x_1.1.toNat 0) (some (List.set (ah x.2.1.2 (x_1.2.1.1.getD x_1.1.toNat 0)) x.1.toNat (IntKind.wrap .i64 (0 - List.getD (ah x.2.1.2 (x_1.2.1.1.getD x_1.1.toNat 0)) x.1.toNat 0))))),PUnit.unit) else none else none else none else none else again (IntKind.wrap .i64 (x_1.1+1),x.2.1,PUnit.unit)) (0,x_1.2.1, PUnit.unit) else none else none else none else some (x_1.2.1,IntKind.wrap .i64 (0 - List.getD (ah x0.2 (x0.1.getD x7.toNat 0)) x8.toNat 0),v11)) v16 else some (x.2.1,List.getD (ah x0.2 (x0.1.getD x7.toNat 0)) x8.toNat 0,v11) else none else none) (0,x0, PUnit.unit) else none else none else none else none
def aG (x0:List Nat×List (Option (List Int))) (x1:Int) (x2:List Int) (x3:List Int) (x4:List Int) (x5:Int) (x6:Int) (x7:Int) (x8:Int):Option ((List Nat×List (Option (List Int)))×Int×(List Int)×(List Int)×(List Int)×Int×Int×Unit):=gC lpK jnK bt bp bL x0 x1 x2 x3 x4 x5 x6 x7 x8
abbrev JS:=(List Nat×List (Option (List Int)))->(Int)->(List Int)->(List Int)->(List Int)->(Int)->(Int)->(Int)->(Int)->Option ((List Nat×List (Option (List Int)))×Int×(List Int)×(List Int)×(List Int)×Int×Int×Unit)
def Nx (aG:JS):SCtr:=⟨[.b [.x (.tab 29 .ref 3 i64),.d i64,.row 3 i64,.row 3 i64,.row 3 i64,.d i64,.d i64],.d i64,.d i64],[],fun x=>aG x.1 x.2.1 x.2.2.1 x.2.2.2.1 x.2.2.2.2.1 x.2.2.2.2.2.1 x.2.2.2.2.2.2.1 x.2.2.2.2.2.2.2.1 x.2.2.2.2.2.2.2.2.1⟩
def MR:SCtr:=Nx aG
theorem Ru (lp:Lp) (jn:Jn) (bt:HG) (bp:Oa) (bL:Pn):∀x:TsR (rhI 0 MR.ks),gC lp jn bt bp bL x.1 x.2.1 x.2.2.1 x.2.2.2.1 x.2.2.2.2.1 x.2.2.2.2.2.1 x.2.2.2.2.2.2.1 x.2.2.2.2.2.2.2.1 x.2.2.2.2.2.2.2.2.1=G2 lp jn (Dn.look []) (cx [(177,⟨[qT,i64],[],[],.one i64,fun x _ _=>bL x.1 x.2.1⟩),(176,PY bp),(175,Na bt)] [(134,bH)]) ao 4 157 f157 MR x:=fun x=>by kernel_rfl
theorem Mp:MR.ok prog 157:=SCtr.of_den (au (ai (ai (ai (bX) (by kernel_rfl) MF) (by kernel_rfl) Oq) (by kernel_rfl) OC)) aS (oO) (hl:=ao) (d:=4) func157 rfl (by decide) (Ru lpK jnK bt bp bL)
set_option maxRecDepth 100000
def gB (_:Lp) (_:Jn) (ax:I5) (x0:Bool×Int×Int) (x1:Bool×Int×Int):Option Int :=
 
 let v4:Bool:=!decide (x0.1=x1.1);
 let v5:Bool:=!v4||v4;bif v5 then bif v5 then bif bif v4 then x0.1 else false then some (-1) else bif v4 then some 1 else bif x0.1 then af (ax x1 x0) fun (t:Int)=>some t else af (ax x0 x1) fun (t:Int)=>some t else none else none
def cf (x0:Bool×Int×Int) (x1:Bool×Int×Int):Option Int:=gB lpK jnK ax x0 x1
abbrev OG:=(Bool×Int×Int)->(Bool×Int×Int)->Option (Int)
def Ie:Ctr:=⟨[qT,qT],[],[],.one i64,fun x _ _=>cf x.1 x.2.1⟩
theorem Q3 (lp:Lp) (jn:Jn) (ax:I5):∀(x:TsS Ie.as) (F:TsF Ie.fs) (y:TsS Ie.cs),gB lp jn ax x.1 x.2.1=ce lp jn (cx [(184,Oe ax)] [(134,bH)]) ao 4 178 f178 Ie x F y:=fun x F y=>by kernel_rfl
theorem Pd:Ie.ok prog 178:=Ctr.of_den (au (ai (bX) (by kernel_rfl) Mm)) aS (hl:=ao) (d:=4) func178 rfl (by decide) (Q3 lpK jnK ax)
def fQ (lp:Lp) (_:Jn) (bt:HG) (cf:OG) (x0:(List (List Int))×Int×(List Int)×(List Int)×(List Int)×Int×Int) (x1:Int):Option Int :=
 lp (Int×Int×PUnit) Int (fun (again:Int×Int×PUnit->Option Int) (x:Int×Int×PUnit) =>
 let v6:Int×PUnit:=(IntKind.wrap .i64 (x.2.1+1),PUnit.unit);
 let v7:Bool:=inB x.1 x0.1.length;
 let v8:List Int:=x0.1.getD x.1.toNat [];
 let v9:List Int:=x0.1.getD x.2.1.toNat [];
 let v10:Bool:=inB x1 v9.length;bif decide (x.2.1<(↑x0.1.length:Int)) then bif inB x.2.1 x0.1.length then bif v10 then bif decide (v9.getD x1.toNat 0<=0) then again (x.1,v6) else bif decide (x.1<0) then again (x.2.1,v6) else bif inB x0.2.2.2.2.2.2 v9.length then bif v7 then bif inB x1 v8.length then af (bt (v9.getD x0.2.2.2.2.2.2.toNat 0) (v8.getD x1.toNat 0)) fun (t:Bool × Int×Int)=>bif v7 then bif inB x0.2.2.2.2.2.2 v8.length then bif v10 then af (bt (v8.getD x0.2.2.2.2.2.2.toNat 0) (v9.getD x1.toNat 0)) fun (t_1:Bool×Int×Int)=>af (cf t t_1) fun (t:Int) =>
 let v14:Bool:=decide (t=0);
 let v15:Bool:=decide (t<0);
 let v16:Bool:=!v15;
 let v17:Bool:=!v16;
 let v18:Bool:=v16&&v14;
 let v19:Bool:=!v18;
 let v20:Bool:=v17||v16;
 let v21:Bool:=v19||v18;bif v20 then bif v20 then bif v21 then bif v21 then bif v21 then bif v21&&(v21&&(v19||inB x.2.1 x0.2.2.1.length)) then bif v21 then bif v21 then bif v21 then bif v21 then bif v21&&(v21&&(v19||inB x.1 x0.2.2.1.length)) then bif v21 then bif v21&&v21 then bif (v17||v20)&&(v17||(!v14 || (v17||v18))) then bif v15||v16 then bif bif v15 then true else bif v14 then decide (x0.2.2.1.getD x.2.1.toNat 0<x0.2.2.1.getD x.1.toNat 0) else false then again (x.2.1,v6) else again (x.1,v6) else none else none else none else none else none else none else none else none else none else none else none else none else none else none else none else none else none else none else none else none else none else none else none else some x.1) ((-1),0,PUnit.unit)
def aA (x0:(List (List Int))×Int×(List Int)×(List Int)×(List Int)×Int×Int) (x1:Int):Option Int:=fQ lpK jnK bt cf x0 x1
abbrev GD:=((List (List Int))×Int×(List Int)×(List Int)×(List Int)×Int×Int)->(Int)->Option (Int)
def MW (aA:GD):PCtr:=⟨EO,[i64],.one i64,fun x y=>aA x y.1⟩
def L3:PCtr:=MW aA
theorem Qy (lp:Lp) (jn:Jn) (bt:HG) (cf:OG):∀(x:L3.s.T) (y:TsS L3.as),fQ lp jn bt cf x y.1=Co lp jn (cx [(178,⟨[qT,qT],[],[],.one i64,fun x _ _=>cf x.1 x.2.1⟩),(175,Na bt)] [(134,bH)]) ao 4 158 f158 L3 x y:=fun x y=>by kernel_rfl
theorem Ml:L3.ok prog 158:=PCtr.of_den (au (ai (ai (bX) (by kernel_rfl) MF) (by kernel_rfl) Pd)) aS (hl:=ao) (d:=4) func158 rfl (by decide) (Qy lpK jnK bt cf)
def gF (lp:Lp) (_:Jn) (aG:JS) (av:GA) (aA:GD) (x0:List Nat×List (Option (List Int))) (x1:Int) (x2:List Int) (x3:List Int) (x4:List Int) (x5:Int) (x6:Int):Option ((List Nat×List (Option (List Int)))×Int×(List Int)×(List Int)×(List Int)×Int×Int×Bool×Unit) :=
 lp ((List Nat×List (Option (List Int)))×Int×List Int×List Int×List Int×Int×Int×PUnit) ((List Nat×List (Option (List Int)))×Int×List Int×List Int×List Int×Int × Int×Bool×PUnit) (fun (again:(List Nat×List (Option (List Int)))×Int×List Int×List Int×List Int×Int×Int×PUnit->Option ((List Nat×List (Option (List Int)))×Int × List Int×List Int×List Int×Int×Int×Bool×PUnit)) (x:(List Nat×List (Option (List Int)))×Int×List Int×List Int×List Int×Int×Int×PUnit)=>lp (Int×Int × PUnit) ((List Nat×List (Option (List Int)))×Int×List Int×List Int×List Int×Int×Int×Bool×PUnit) (fun (again_1:Int×Int×PUnit->Option ((List Nat×List (Option (List Int)))×Int×List Int×List Int×List Int×Int×Int×Bool×PUnit)) (x_1:Int×Int×PUnit) =>
 let v13:Bool:=decide (x_1.1<0);
 let v14:Int×PUnit:=(IntKind.wrap .i64 (x_1.2.1+1),PUnit.unit);
 let v15:Bool:=decide (x_1.2.1<x.2.2.2.2.2.1);
 let v16:Bool:=!v15||v15;bif v16 then bif v16 then bif bif v15 then v13 else false then af (bif List.all x.1.1 fun (x_2:Nat)=>eJ x.1.2 x_2 then av (List.map (fun (x_2:Nat)=>ah x.1.2 x_2) x.1.1,x.2.1,x.2.2.1,x.2.2.2.1,x.2.2.2.2.1,x.2.2.2.2.2.1, x.2.2.2.2.2.2.1) x_1.2.1 else none) fun (t:Int)=>bif decide (t>0) then again_1 (x_1.2.1,v14) else again_1 (x_1.1,v14) else bif v13 then af (bif List.all x.1.1 fun (x_2:Nat)=>eJ x.1.2 x_2 then av (List.map (fun (x_2:Nat)=>ah x.1.2 x_2) x.1.1,x.2.1,x.2.2.1, x.2.2.2.1,x.2.2.2.2.1,x.2.2.2.2.2.1,x.2.2.2.2.2.2.1) x.2.2.2.2.2.2.1 else none) fun (t:Int)=>bif decide (t>0) then some (x.1,x.2.1,x.2.2.1,x.2.2.2.1,x.2.2.2.2.1,x.2.2.2.2.2.1,x.2.2.2.2.2.2.1,false,PUnit.unit) else lp (Int×(List Nat×List (Option (List Int)))×Int×List Int×List Int×List Int×Int×Int×PUnit) ((List Nat×List (Option (List Int)))×Int×List Int×List Int×List Int×Int×Int × Bool×PUnit) (fun (again:Int×(List Nat×List (Option (List Int)))×Int×List Int×List Int×List Int×Int×Int×PUnit->Option ((List Nat×List (Option (List Int)))×Int × List Int×List Int×List Int×Int×Int×Bool×PUnit)) (x_2:Int×(List Nat×List (Option (List Int)))×Int×List Int×List Int×List Int×Int×Int×PUnit)=>bif decide (x_2.1<(↑x.1.1.length:Int)) then lp (Int×(List Nat×List (Option (List Int)))×Int×List Int×List Int×List Int×Int×Int×PUnit) ((List Nat×List (Option (List Int)))×Int×List Int×List Int×List Int×Int×Int×Bool×PUnit) (fun (again_2:Int×(List Nat×List (Option (List Int)))×Int×List Int×List Int×List Int×Int×Int×PUnit->Option ((List Nat×List (Option (List Int)))×Int×List Int×List Int×List Int×Int×Int×Bool×PUnit)) (x:Int×(List Nat×List (Option (List Int)))×Int×List Int×List Int×List Int×Int×Int×PUnit) =>
 let v22:Int:=IntKind.wrap .i64 (x.1+1);
 let v23:Bool:=decide (x.1<x.2.2.2.2.2.2.1);
 let v24:Bool:=!v23;
 let v25:Bool:=v24||v23;
 let v26:(List Nat×List (Option (List Int)))×Int×List Int×List Int×List Int×Int×Int×PUnit:=(x.2.1,x.2.2.1,x.2.2.2.1,x.2.2.2.2.1, x.2.2.2.2.2.1,x.2.2.2.2.2.2.1,x.2.2.2.2.2.2.2.1,PUnit.unit);bif v25 then bif v25 then bif v25 then bif v25&&(v25&&(v24||inB x_2.1 x.2.2.2.1.length)) then bif v25&&(v24||Nat.ble (Nat.succ x_2.1.toNat) x.2.2.2.1.length) then bif v25 then bif v25 then bif v25 then bif v25 && v25 then bif v25 then bif bif v23 then decide (x.2.2.2.1.getD x_2.1.toNat 0>=x.2.2.2.2.2.2.1) else false then bif inB x_2.1 x.2.1.1.length then bif Nat.ble (Nat.succ x_2.1.toNat) x.2.1.1.length then bif inB x.1 (List.length (ah x.2.1.2 (x.2.1.1.getD x_2.1.toNat 0))) then bif Nat.ble (Nat.succ x.1.toNat) (List.length (ah x.2.1.2 (x.2.1.1.getD x_2.1.toNat 0))) then bif !decide (List.getD (ah x.2.1.2 (x.2.1.1.getD x_2.1.toNat 0)) x.1.toNat 0=0) then af (aG x.2.1 x.2.2.1 x.2.2.2.1 x.2.2.2.2.1 x.2.2.2.2.2.1 x.2.2.2.2.2.2.1 x.2.2.2.2.2.2.2.1 x_2.1 x.1) fun (y:(List Nat×List (Option (List Int)))×Int×List Int×List Int×List Int×Int×Int×PUnit)=>again_2 (v22,y.1,y.2.1,y.2.2.1,y.2.2.2.1,y.2.2.2.2.1,y.2.2.2.2.2.1, y.2.2.2.2.2.2.1,PUnit.unit) else again_2 (v22,v26) else none else none else none else none else again (IntKind.wrap .i64 (x_2.1+1),v26) else none else none else none else none else none else none else none else none else none else none) (0,x_2.2.1,x_2.2.2.1,x_2.2.2.2.1,x_2.2.2.2.2.1, x_2.2.2.2.2.2.1,x_2.2.2.2.2.2.2.1,x_2.2.2.2.2.2.2.2.1,PUnit.unit) else some (x_2.2.1,x_2.2.2.1,x_2.2.2.2.1, x_2.2.2.2.2.1,x_2.2.2.2.2.2.1,x_2.2.2.2.2.2.2.1,x_2.2.2.2.2.2.2.2.1,true,PUnit.unit)) (0,x.1,x.2.1, x.2.2.1,x.2.2.2.1,x.2.2.2.2.1,x.2.2.2.2.2.1,x.2.2.2.2.2.2.1,PUnit.unit) else af (bif List.all x.1.1 fun (x_2:Nat) => eJ x.1.2 x_2 then aA (List.map (fun (x_2:Nat)=>ah x.1.2 x_2) x.1.1,x.2.1,x.2.2.1,x.2.2.2.1,x.2.2.2.2.1, x.2.2.2.2.2.1,x.2.2.2.2.2.2.1) x_1.1 else none) fun (t:Int)=>af (aG x.1 x.2.1 x.2.2.1 x.2.2.2.1 x.2.2.2.2.1 x.2.2.2.2.2.1 x.2.2.2.2.2.2.1 t x_1.1) fun (y:(List Nat×List (Option (List Int)))×Int×List Int×List Int×List Int×Int × Int×PUnit)=>again (y.1,y.2.1,y.2.2.1,y.2.2.2.1,y.2.2.2.2.1,y.2.2.2.2.2.1,y.2.2.2.2.2.2.1,PUnit.unit) else none else none) ((-1),0,PUnit.unit)) (x0,x1,x2,x3,x4,x5,x6,PUnit.unit)
def aK (x0:List Nat×List (Option (List Int))) (x1:Int) (x2:List Int) (x3:List Int) (x4:List Int) (x5:Int) (x6:Int):Option ((List Nat×List (Option (List Int)))×Int×(List Int)×(List Int)×(List Int)×Int×Int×Bool×Unit):=gF lpK jnK aG av aA x0 x1 x2 x3 x4 x5 x6
abbrev Ib:=(List Nat×List (Option (List Int)))->(Int)->(List Int)->(List Int)->(List Int)->(Int)->(Int)->Option ((List Nat×List (Option (List Int)))×Int×(List Int)×(List Int)×(List Int)×Int×Int×Bool×Unit)
def N4 (aK:Ib):SCtr:=⟨[.b [.x (.tab 29 .ref 3 i64),.d i64,.row 3 i64,.row 3 i64,.row 3 i64,.d i64,.d i64]],[(false,[.d .bool])],fun x=>aK x.1 x.2.1 x.2.2.1 x.2.2.2.1 x.2.2.2.2.1 x.2.2.2.2.2.1 x.2.2.2.2.2.2.1⟩
def Ns:SCtr:=N4 aK
theorem Qx (lp:Lp) (jn:Jn) (aG:JS) (av:GA) (aA:GD):∀x:TsR (rhI 0 Ns.ks),gF lp jn aG av aA x.1 x.2.1 x.2.2.1 x.2.2.2.1 x.2.2.2.2.1 x.2.2.2.2.2.1 x.2.2.2.2.2.2.1=G2 lp jn (Dn.look [(157,Nx aG)]) (xV zH AJ (CX [(158,MW aA),(126,NC av)] [] (kh prog shs uX its [] [(134,bH)]))) ao 4 110 f110 Ns x:=fun x=>by kernel_rfl
theorem MG:Ns.ok prog 110:=SCtr.of_den (au (pc (bX) (gV (by kernel_rfl) Ml (gV (by kernel_rfl) ML (mD))) (mt))) aS (mw Mp (oO)) (hl:=ao) (d:=4) func110 rfl (by decide) (Qx lpK jnK aG av aA)
def gN (_:Lp) (_:Jn) (x0:(List (List Int))×Int×(List Int)×(List Int)×(List Int)×Int×Int) (x1:Int):Option Int :=
 bif decide (x1<(↑x0.2.2.2.2.1.length:Int)) then bif inB x1 x0.2.2.2.2.1.length then some (x0.2.2.2.2.1.getD x1.toNat 0) else none else some 0
def aJ (x0:(List (List Int))×Int×(List Int)×(List Int)×(List Int)×Int×Int) (x1:Int):Option Int:=gN lpK jnK x0 x1
abbrev GM:=((List (List Int))×Int×(List Int)×(List Int)×(List Int)×Int×Int)->(Int)->Option (Int)
def M4 (aJ:GM):PCtr:=⟨EO,[i64],.one i64,fun x y=>aJ x y.1⟩
def LA:PCtr:=M4 aJ
theorem Re (lp:Lp) (jn:Jn):∀(x:LA.s.T) (y:TsS LA.as),gN lp jn x y.1=Co lp jn (cx [] [(134,bH)]) ao 4 112 f112 LA x y:=fun x y=>by kernel_rfl
theorem MA:LA.ok prog 112:=PCtr.of_den (au (bX)) aS (hl:=ao) (d:=4) func112 rfl (by decide) (Re lpK jnK)
def fO (lp:Lp) (_:Jn) (aJ:GM) (x0:(List (List Int))×Int×(List Int)×(List Int)×(List Int)×Int×Int) (x1:Int):Option Int :=
 af (aJ x0 x1) fun (t:Int)=>lp (Int×Int×PUnit) Int (fun (again:Int×Int×PUnit->Option Int) (x:Int×Int×PUnit) =>
 let v7:List Int:=x0.1.getD x.2.1.toNat [];bif decide (x.2.1<(↑x0.1.length:Int)) then bif inB x.2.1 x0.1.length then bif inB x.2.1 x0.2.2.1.length then af (aJ x0 (x0.2.2.1.getD x.2.1.toNat 0)) fun (t:Int)=>bif inB x1 v7.length then again (IntKind.wrap .i64 (x.1 - IntKind.wrap .i64 (t*v7.getD x1.toNat 0)),IntKind.wrap .i64 (x.2.1+1),PUnit.unit) else none else none else none else some x.1) (IntKind.wrap .i64 (t*x0.2.1),0,PUnit.unit)
def bC (x0:(List (List Int))×Int×(List Int)×(List Int)×(List Int)×Int×Int) (x1:Int):Option Int:=fO lpK jnK aJ x0 x1
abbrev Ov:=((List (List Int))×Int×(List Int)×(List Int)×(List Int)×Int×Int)->(Int)->Option (Int)
def Kn:PCtr:=⟨EO,[i64],.one i64,fun x y=>bC x y.1⟩
theorem Qp (lp:Lp) (jn:Jn) (aJ:GM):∀(x:Kn.s.T) (y:TsS Kn.as),fO lp jn aJ x y.1=Co lp jn (xV zH AJ (CX [(112,M4 aJ)] [] (kh prog shs uX its [] [(134,bH)]))) ao 4 159 f159 Kn x y:=fun x y=>by kernel_rfl
theorem OK:Kn.ok prog 159:=PCtr.of_den (au (pc (bX) (gV (by kernel_rfl) MA (mD)) (mt))) aS (hl:=ao) (d:=4) func159 rfl (by decide) (Qp lpK jnK aJ)
def fT (lp:Lp) (_:Jn) (aG:JS) (aA:GD) (bC:Ov) (x0:List Nat×List (Option (List Int))) (x1:Int) (x2:List Int) (x3:List Int) (x4:List Int) (x5:Int) (x6:Int):Option ((List Nat×List (Option (List Int)))×Int×(List Int)×(List Int)×(List Int)×Int×Int×Bool×Unit) :=
 lp ((List Nat×List (Option (List Int)))×Int×List Int×List Int×List Int×Int×Int×PUnit) ((List Nat×List (Option (List Int)))×Int×List Int×List Int×List Int×Int × Int×Bool×PUnit) (fun (again:(List Nat×List (Option (List Int)))×Int×List Int×List Int×List Int×Int×Int×PUnit->Option ((List Nat×List (Option (List Int)))×Int × List Int×List Int×List Int×Int×Int×Bool×PUnit)) (x:(List Nat×List (Option (List Int)))×Int×List Int×List Int×List Int×Int×Int×PUnit)=>lp (Int×Int × PUnit) ((List Nat×List (Option (List Int)))×Int×List Int×List Int×List Int×Int×Int×Bool×PUnit) (fun (again_1:Int×Int×PUnit->Option ((List Nat×List (Option (List Int)))×Int×List Int×List Int×List Int×Int×Int×Bool×PUnit)) (x_1:Int×Int×PUnit) =>
 let v13:Bool:=decide (x_1.1<0);
 let v14:Int×PUnit:=(IntKind.wrap .i64 (x_1.2.1+1),PUnit.unit);
 let v15:Bool:=decide (x_1.2.1<x.2.2.2.2.2.1);
 let v16:Bool:=!v15||v15;bif v16 then bif v16 then bif bif v15 then v13 else false then af (bif List.all x.1.1 fun (x_2:Nat)=>eJ x.1.2 x_2 then bC (List.map (fun (x_2:Nat)=>ah x.1.2 x_2) x.1.1,x.2.1,x.2.2.1,x.2.2.2.1,x.2.2.2.2.1,x.2.2.2.2.2.1, x.2.2.2.2.2.2.1) x_1.2.1 else none) fun (t:Int)=>bif decide (t<0) then again_1 (x_1.2.1,v14) else again_1 (x_1.1,v14) else bif v13 then some (x.1,x.2.1,x.2.2.1,x.2.2.2.1,x.2.2.2.2.1,x.2.2.2.2.2.1,x.2.2.2.2.2.2.1,true,PUnit.unit) else af (bif List.all x.1.1 fun (x_2:Nat)=>eJ x.1.2 x_2 then aA (List.map (fun (x_2:Nat)=>ah x.1.2 x_2) x.1.1,x.2.1,x.2.2.1,x.2.2.2.1, x.2.2.2.2.1,x.2.2.2.2.2.1,x.2.2.2.2.2.2.1) x_1.1 else none) fun (t:Int)=>bif decide (t<0) then some (x.1,x.2.1, x.2.2.1,x.2.2.2.1,x.2.2.2.2.1,x.2.2.2.2.2.1,x.2.2.2.2.2.2.1,false,PUnit.unit) else af (aG x.1 x.2.1 x.2.2.1 x.2.2.2.1 x.2.2.2.2.1 x.2.2.2.2.2.1 x.2.2.2.2.2.2.1 t x_1.1) fun (y:(List Nat×List (Option (List Int)))×Int×List Int × List Int×List Int×Int×Int×PUnit)=>again (y.1,y.2.1,y.2.2.1,y.2.2.2.1,y.2.2.2.2.1,y.2.2.2.2.2.1,y.2.2.2.2.2.2.1, PUnit.unit) else none else none) ((-1),0,PUnit.unit)) (x0,x1,x2,x3,x4,x5,x6,PUnit.unit)
def bo (x0:List Nat×List (Option (List Int))) (x1:Int) (x2:List Int) (x3:List Int) (x4:List Int) (x5:Int) (x6:Int):Option ((List Nat×List (Option (List Int)))×Int×(List Int)×(List Int)×(List Int)×Int×Int×Bool×Unit):=fT lpK jnK aG aA bC x0 x1 x2 x3 x4 x5 x6
abbrev Og:=(List Nat×List (Option (List Int)))->(Int)->(List Int)->(List Int)->(List Int)->(Int)->(Int)->Option ((List Nat×List (Option (List Int)))×Int×(List Int)×(List Int)×(List Int)×Int×Int×Bool×Unit)
def O5 (bo:Og):SCtr:=⟨[.b [.x (.tab 29 .ref 3 i64),.d i64,.row 3 i64,.row 3 i64,.row 3 i64,.d i64,.d i64]],[(false,[.d .bool])],fun x=>bo x.1 x.2.1 x.2.2.1 x.2.2.2.1 x.2.2.2.2.1 x.2.2.2.2.2.1 x.2.2.2.2.2.2.1⟩
def NU:SCtr:=O5 bo
theorem Rf (lp:Lp) (jn:Jn) (aG:JS) (aA:GD) (bC:Ov):∀x:TsR (rhI 0 NU.ks),fT lp jn aG aA bC x.1 x.2.1 x.2.2.1 x.2.2.2.1 x.2.2.2.2.1 x.2.2.2.2.2.1 x.2.2.2.2.2.2.1=G2 lp jn (Dn.look [(157,Nx aG)]) (xV zH AJ (CX [(159,⟨EO,[i64],.one i64,fun x y=>bC x y.1⟩),(158,MW aA)] [] (kh prog shs uX its [] [(134,bH)]))) ao 4 111 f111 NU x:=fun x=>by kernel_rfl
theorem ON:NU.ok prog 111:=SCtr.of_den (au (pc (bX) (gV (by kernel_rfl) OK (gV (by kernel_rfl) Ml (mD))) (mt))) aS (mw Mp (oO)) (hl:=ao) (d:=4) func111 rfl (by decide) (Rf lpK jnK aG aA bC)
def nE (_:Lp) (_:Jn) (bg:t75) (aB:t77) (a6:t82) (x0:Int) (x1:Int):Option ((Int×Int)×Int×Unit) :=
 
 let v4:Bool:=!decide (x0=0);
 let v5:Bool:=!v4||v4;bif decide (x1=0) then some ((0,0),16,PUnit.unit) else af (aB x0) fun (t:Int)=>af (aB x1) fun (t_1:Int)=>af (bg t t_1) fun (t_2:Int) =>
 let v9:Bool:=nzB t_2;bif v5 then bif v5 then bif v5&&v5 then bif v5 then bif v9 then bif v9 then af (a6 (bif v4 then !decide (decide (x0<0)=decide (x1<(0 : Int))) else false) (IntKind.wrap .u64 (Int.tdiv t t_2)) (IntKind.wrap .u64 (Int.tdiv t_1 t_2))) fun (t:(Int×Int)×Int×PUnit)=>some (t.1,t.2.1, PUnit.unit) else none else none else none else none else none else none
def eB (x0:Int) (x1:Int):Option ((Int×Int)×Int×Unit):=nE lpK jnK bg aB a6 x0 x1
abbrev NN:=(Int)->(Int)->Option ((Int×Int)×Int×Unit)
def Pw (eB:NN):Ctr:=⟨[i64,i64],[],[],.tup [T49,i64],fun x _ _=>eB x.1 x.2.1⟩
def HH:Ctr:=Pw eB
theorem QM (lp:Lp) (jn:Jn) (bg:t75) (aB:t77) (a6:t82):∀(x:TsS HH.as) (F:TsF HH.fs) (y:TsS HH.cs),nE lp jn bg aB a6 x.1 x.2.1=ce lp jn (cx [(82,k82 a6),(77,k77 aB),(75,k75 bg)] [(134,bH)]) ao 4 136 f136 HH x F y:=fun x F y=>by kernel_rfl
theorem On:HH.ok prog 136:=Ctr.of_den (au (ai (ai (ai (bX) (by kernel_rfl) Kw) (by kernel_rfl) JB) (by kernel_rfl) M1)) aS (hl:=ao) (d:=4) func136 rfl (by decide) (QM lpK jnK bg aB a6)
def gL (_:Lp) (_:Jn) (eB:NN) (x0:(List (List Int))×Int×(List Int)×(List Int)×(List Int)×Int×Int) (x1:Int):Option (Int×Int) :=
 af (eB x1 x0.2.1) fun (t:(Int×Int)×Int×PUnit)=>some t.1
def aH (x0:(List (List Int))×Int×(List Int)×(List Int)×(List Int)×Int×Int) (x1:Int):Option (Int×Int):=gL lpK jnK eB x0 x1
abbrev GB:=((List (List Int))×Int×(List Int)×(List Int)×(List Int)×Int×Int)->(Int)->Option (Int×Int)
def Np (aH:GB):PCtr:=⟨EO,[i64],.one T49,fun x y=>aH x y.1⟩
def KT:PCtr:=Np aH
theorem QV (lp:Lp) (jn:Jn) (eB:NN):∀(x:KT.s.T) (y:TsS KT.as),gL lp jn eB x y.1=Co lp jn (cx [(136,Pw eB)] [(134,bH)]) ao 4 113 f113 KT x y:=fun x y=>by kernel_rfl
theorem Mz:KT.ok prog 113:=PCtr.of_den (au (ai (bX) (by kernel_rfl) On)) aS (hl:=ao) (d:=4) func113 rfl (by decide) (QV lpK jnK eB)
def iv (lp:Lp) (jn:Jn) (aX:t91) (bZ:F6) (a7:Ga) (aK:Ib) (bo:Og) (aJ:GM) (aH:GB) (x0:(List Int)×List ((List Int)×Int×Int)):Option (((Int×Int)×(List (Int×Int))×List (Int×Int))×Int×Unit) :=
 af (aX x0) fun (t:Bool)=>bif !t then some (((0,0),[],[]),1,PUnit.unit) else af (bZ x0) fun (t:Bool)=>bif !t then some ((((0 : Int),0),[],[]),5,PUnit.unit) else lp (Int×Int×PUnit) (((Int×Int)×List (Int×Int)×List (Int×Int))×Int×PUnit) (fun (again:Int×Int×PUnit -> Option (((Int×Int)×List (Int×Int)×List (Int×Int))×Int×PUnit)) (x:Int×Int×PUnit) =>
 let v7:Int×PUnit:=(IntKind.wrap .i64 (x.2.1+1),PUnit.unit);
 let v8:Int:=IntKind.wrap .i64 ((↑x0.1.length:Int)+x.1);bif decide (x.2.1<(↑x0.2.length:Int)) then bif inB x.2.1 x0.2.length then bif !decide ((x0.2.getD x.2.1.toNat ([],0,0)).2.1=3) then again (IntKind.wrap .i64 (x.1+1),v7) else again (x.1, v7) else none else af (a7 x0.1) fun (t:List Int)=>lp (Int×Int×(List Nat×List (Option (List Int)))×Int×List Int×List Int×List Int×Int×Int × PUnit) (((Int×Int)×List (Int×Int)×List (Int×Int))×Int×PUnit) (fun (again:Int×Int×(List Nat×List (Option (List Int)))×Int×List Int×List Int×List Int×Int × Int×PUnit->Option (((Int×Int)×List (Int×Int)×List (Int×Int))×Int×PUnit)) (x:Int×Int×(List Nat×List (Option (List Int)))×Int×List Int×List Int×List Int × Int×Int×PUnit) =>
 let v12:Int:=IntKind.wrap .i64 (x.1+1);
 let v13:List Int×Int×Int:=x0.2.getD x.2.1.toNat ([],0,0);
 let v14:List Int:=List.replicate (Int.toNat (IntKind.wrap .i64 (x.2.2.2.2.2.2.2.2.1+1))) 0;
 let v15:Bool:=inB x.1 (Int.toNat (IntKind.wrap .i64 (x.2.2.2.2.2.2.2.2.1+1)));
 let v16:Bool:=Nat.ble (Nat.succ x.1.toNat) (Int.toNat (IntKind.wrap .i64 (x.2.2.2.2.2.2.2.2.1+1)));
 let v17:Int:=IntKind.wrap .i64 (x.2.2.2.2.2.2.2.1+x.2.1);
 let v18:List Int:=List.take (Int.toNat (IntKind.wrap .i64 (x.2.2.2.2.2.2.2.2.1+1))) v13.1;
 let v19:List Int:=List.set (List.take 0 v14++v18++List.drop (0+List.length v18) v14) x.2.2.2.2.2.2.2.2.1.toNat v13.2.2;bif decide (x.2.1<(↑x0.2.length:Int)) then bif inB x.2.1 x0.2.length then bif decide (0<=IntKind.wrap .i64 (x.2.2.2.2.2.2.2.2.1+(1 : Int)))&&dx (Int.toNat (IntKind.wrap .i64 (x.2.2.2.2.2.2.2.2.1+1))) 8 then bif inB x.2.2.2.2.2.2.2.2.1 (Int.toNat (IntKind.wrap .i64 (x.2.2.2.2.2.2.2.2.1+1))) then bif Nat.ble (Nat.succ x.2.2.2.2.2.2.2.2.1.toNat) (Int.toNat (IntKind.wrap IntKind.i64 (x.2.2.2.2.2.2.2.2.1+1))) then jn (Int×List Int×PUnit) (((Int×Int)×List (Int×Int)×List (Int×Int))×Int×PUnit) (fun (x_1:Int × List Int×PUnit) =>
 let v21:List Int×PUnit:=(x_1.2.1,PUnit.unit);jn (Int×List Int×PUnit) (((Int×Int)×List (Int×Int)×List (Int×Int))×Int×PUnit) (fun (x_2:Int×List Int × PUnit)=>bif inB v17 x_2.2.1.length then bif Nat.ble (Nat.succ v17.toNat) x_2.2.1.length then bif dx (List.length x.2.2.1.1+1) (24 : Nat) then bif dx (List.length x.2.2.2.2.2.1+1) 8 then bif dx (List.length x.2.2.2.2.1+1) 8 then again (x_1.1, IntKind.wrap .i64 (x.2.1+1),(x.2.2.1.1++[List.length x.2.2.1.2+0],x.2.2.1.2++[some (x_2.2.1.set v17.toNat (1 : Int))]),x.2.2.2.1,x.2.2.2.2.1++[v17],x.2.2.2.2.2.1++[x_2.1],x.2.2.2.2.2.2.1,x.2.2.2.2.2.2.2.1, x.2.2.2.2.2.2.2.2.1,PUnit.unit) else none else none else none else none else none) fun (j:Int×List Int×PUnit->Option (((Int×Int)×List (Int×Int)×List (Int×Int))×Int×PUnit))=>bif decide (v13.2.2<0) then lp (Int×List Int×PUnit) (((Int×Int)×List (Int×Int)×List (Int×Int))×Int×PUnit) (fun (again : Int×List Int×PUnit->Option (((Int×Int)×List (Int×Int)×List (Int×Int))×Int×PUnit)) (x:Int×List Int×PUnit) =>
 let v25:Bool:=inB x.1 x.2.1.length;
 let v26:Bool:=Nat.ble (Nat.succ x.1.toNat) x.2.1.length;bif decide (x.1<(↑x_1.2.1.length:Int)) then bif v25 then bif v26 then bif v25 then bif v26 then again (IntKind.wrap .i64 (x.1+1),x.2.1.set x.1.toNat (IntKind.wrap .i64 (0 - x.2.1.getD x.1.toNat 0)), PUnit.unit) else none else none else none else none else j ((-1),x.2.1,PUnit.unit)) (0,v21) else j (1,v21)) fun (j:Int×List Int×PUnit->Option (((Int × Int)×List (Int×Int)×List (Int×Int))×Int×PUnit))=>bif decide (v13.2.1=1) then bif v15 then bif v16 then j (v12,v19.set x.1.toNat 1, PUnit.unit) else none else none else jn (Int×List Int×PUnit) (((Int×Int)×List (Int×Int)×List (Int×Int))×Int×PUnit) (fun (x:Int×List Int×PUnit)=>j (x.1, x.2.1,PUnit.unit)) fun (j:Int×List Int×PUnit->Option (((Int×Int)×List (Int×Int)×List (Int×Int))×Int×PUnit))=>bif decide (v13.2.1=2) then bif v15 then bif v16 then j (v12,v19.set x.1.toNat (-1),PUnit.unit) else none else none else j (x.1,v19,PUnit.unit) else none else none else none else none else af (aK x.2.2.1 x.2.2.2.1 x.2.2.2.2.1 x.2.2.2.2.2.1 x.2.2.2.2.2.2.1 x.2.2.2.2.2.2.2.1 x.2.2.2.2.2.2.2.2.1) fun (y:(List Nat×List (Option (List Int)))×Int×List Int×List Int×List Int×Int×Int×Bool×PUnit)=>bif !y.2.2.2.2.2.2.2.1 then some (((0,0),[],[]),22,PUnit.unit) else af (bo y.1 y.2.1 y.2.2.1 y.2.2.2.1 y.2.2.2.2.1 y.2.2.2.2.2.1 y.2.2.2.2.2.2.1) fun (y:(List Nat×List (Option (List Int)))×Int×List Int×List Int×List Int×Int×Int×Bool × PUnit)=>bif !y.2.2.2.2.2.2.2.1 then some (((0,0),[],[]),21,PUnit.unit) else bif decide (0<=(↑x0.1.length:Int))&&dx (Int.toNat (↑x0.1.length:Int)) 8 then lp (Int×Int×List Int×PUnit) (((Int×Int)×List (Int×Int)×List (Int×Int))×Int×PUnit) (fun (again:Int×Int × List Int×PUnit->Option (((Int×Int)×List (Int×Int)×List (Int×Int))×Int×PUnit)) (x:Int×Int×List Int×PUnit) =>
 let v24:Int:=IntKind.wrap .i64 (x.2.1+1);
 let v25:Bool:=inB x.2.1 y.1.1.length;
 let v26:Bool:=Nat.ble (Nat.succ x.2.1.toNat) y.1.1.length;
 let v27:Int:=y.2.2.1.getD x.2.1.toNat 0;bif decide (x.2.1<(↑y.2.2.1.length:Int)) then bif inB x.2.1 y.2.2.1.length then bif Nat.ble (Nat.succ x.2.1.toNat) y.2.2.1.length then af (bif List.all y.1.1 fun (x:Nat)=>eJ y.1.2 x then aJ (List.map (fun (x:Nat)=>ah y.1.2 x) y.1.1,y.2.1,y.2.2.1,y.2.2.2.1,y.2.2.2.2.1,y.2.2.2.2.2.1,y.2.2.2.2.2.2.1) v27 else none) fun (t:Int)=>bif v25 then bif v26 then bif inB y.2.2.2.2.2.2.1 (List.length (ah y.1.2 (y.1.1.getD x.2.1.toNat 0))) then bif Nat.ble (Nat.succ y.2.2.2.2.2.2.1.toNat) (List.length (ah y.1.2 (y.1.1.getD x.2.1.toNat 0))) then bif decide (v27<(↑x.2.2.1.length:Int)) then bif v25 then bif v26 then bif inB y.2.2.2.2.2.2.1 (List.length (ah y.1.2 (y.1.1.getD x.2.1.toNat 0))) then bif Nat.ble (Nat.succ y.2.2.2.2.2.2.1.toNat) (List.length (ah y.1.2 (y.1.1.getD x.2.1.toNat 0))) then bif inB v27 x.2.2.1.length then bif Nat.ble (Nat.succ v27.toNat) x.2.2.1.length then again (IntKind.wrap .i64 (x.1+IntKind.wrap .i64 (t*List.getD (ah y.1.2 (y.1.1.getD x.2.1.toNat 0)) y.2.2.2.2.2.2.1.toNat 0)),v24,x.2.2.1.set v27.toNat (List.getD (ah y.1.2 (y.1.1.getD x.2.1.toNat 0)) y.2.2.2.2.2.2.1.toNat 0),PUnit.unit) else none else none else none else none else none else none else again (IntKind.wrap .i64 (x.1+IntKind.wrap .i64 (t*List.getD (ah y.1.2 (y.1.1.getD x.2.1.toNat 0)) y.2.2.2.2.2.2.1.toNat 0)),v24,x.2.2.1,PUnit.unit) else none else none else none else none else none else none else af (bif List.all y.1.1 fun (x:Nat) =>eJ y.1.2 x then aH (List.map (fun (x:Nat)=>ah y.1.2 x) y.1.1,y.2.1,y.2.2.1,y.2.2.2.1,y.2.2.2.2.1, y.2.2.2.2.2.1,y.2.2.2.2.2.2.1) x.1 else none) fun (t:Int×Int)=>lp (Int×(Int×Int)×List (Int×Int)×List (Int×Int)×PUnit) (((Int×Int) × List (Int×Int)×List (Int×Int))×Int×PUnit) (fun (again:Int×(Int×Int)×List (Int×Int)×List (Int×Int)×PUnit->Option (((Int×Int)×List (Int×Int)×List (Int × Int))×Int×PUnit)) (x_1:Int×(Int×Int)×List (Int×Int)×List (Int×Int)×PUnit) =>
 let v31:List (Int×Int)×PUnit:=(x_1.2.2.2.1,PUnit.unit);bif decide (x_1.1<(↑x.2.2.1.length:Int)) then bif inB x_1.1 x.2.2.1.length then bif Nat.ble (Nat.succ x_1.1.toNat) x.2.2.1.length then af (bif List.all y.1.1 fun (x:Nat)=>eJ y.1.2 x then aH (List.map (fun (x : Nat)=>ah y.1.2 x) y.1.1,y.2.1,y.2.2.1,y.2.2.2.1,y.2.2.2.2.1,y.2.2.2.2.2.1,y.2.2.2.2.2.2.1) (x.2.2.1.getD x_1.1.toNat 0) else none) fun (t:Int×Int)=>bif dx (List.length x_1.2.2.1+1) 16 then again (IntKind.wrap .i64 (x_1.1+1),x_1.2.1,x_1.2.2.1++[t],v31) else none else none else none else lp (Int×(Int×Int)×List (Int×Int)×List (Int×Int)×PUnit) (((Int×Int) × List (Int×Int)×List (Int×Int))×Int×PUnit) (fun (again:Int×(Int×Int)×List (Int×Int)×List (Int×Int)×PUnit->Option (((Int×Int)×List (Int×Int)×List (Int × Int))×Int×PUnit)) (x:Int×(Int×Int)×List (Int×Int)×List (Int×Int)×PUnit) =>
 let v34:Int:=IntKind.wrap .i64 (y.2.2.2.2.2.1+x.1);bif decide (x.1<(↑x0.2.length:Int)) then lp (Int×Int×PUnit) (((Int×Int)×List (Int × Int)×List (Int×Int))×Int×PUnit) (fun (again_1:Int×Int×PUnit->Option (((Int×Int)×List (Int×Int)×List (Int×Int))×Int×PUnit)) (x_2:Int×Int×PUnit)=>bif decide (x_2.2.1<(↑y.2.2.1.length:Int)) then bif inB x_2.2.1 y.2.2.1.length then bif Nat.ble (Nat.succ x_2.2.1.toNat) y.2.2.1.length then af (bif List.all y.1.1 fun (x:Nat)=>eJ y.1.2 x then aJ (List.map (fun (x:Nat)=>ah y.1.2 x) y.1.1,y.2.1, y.2.2.1,y.2.2.2.1,y.2.2.2.2.1,y.2.2.2.2.2.1,y.2.2.2.2.2.2.1) (y.2.2.1.getD x_2.2.1.toNat 0) else none) fun (t:Int)=>bif inB x_2.2.1 y.1.1.length then bif Nat.ble (Nat.succ x_2.2.1.toNat) y.1.1.length then bif inB v34 (List.length (ah y.1.2 (y.1.1.getD x_2.2.1.toNat 0))) then bif Nat.ble (Nat.succ v34.toNat) (List.length (ah y.1.2 (y.1.1.getD x_2.2.1.toNat (0 : Nat)))) then again_1 (IntKind.wrap .i64 (x_2.1+IntKind.wrap .i64 (t*List.getD (ah y.1.2 (y.1.1.getD x_2.2.1.toNat 0)) v34.toNat 0)),IntKind.wrap .i64 (x_2.2.1+1),PUnit.unit) else none else none else none else none else none else none else bif inB x.1 y.2.2.2.1.length then bif Nat.ble (Nat.succ x.1.toNat) y.2.2.2.1.length then af (bif List.all y.1.1 fun (x:Nat)=>eJ y.1.2 x then aH (List.map (fun (x:Nat)=>ah y.1.2 x) y.1.1,y.2.1,y.2.2.1,y.2.2.2.1,y.2.2.2.2.1,y.2.2.2.2.2.1, y.2.2.2.2.2.2.1) (IntKind.wrap .i64 (y.2.2.2.1.getD x.1.toNat 0*x_2.1)) else none) fun (t:Int×Int)=>bif dx (List.length x.2.2.2.1+1) 16 then again (IntKind.wrap .i64 (x.1+1),x.2.1,x.2.2.1,x.2.2.2.1++[t],PUnit.unit) else none else none else none) (0,0,PUnit.unit) else some ((x.2.1,x.2.2.1,x.2.2.2.1),0,PUnit.unit)) (0,x_1.2.1,x_1.2.2.1,v31)) ((0 : Int),t,[],[],PUnit.unit)) (0,0,List.replicate (Int.toNat (↑x0.1.length:Int)) 0,PUnit.unit) else none) ((↑x0.1.length:Int),(0 : Int),([],[]),1,[],[],t,v8,IntKind.wrap .i64 (v8+(↑x0.2.length:Int)),PUnit.unit)) (0,0,PUnit.unit)
def aw (x0:(List Int)×List ((List Int)×Int×Int)):Option (((Int×Int)×(List (Int×Int))×List (Int×Int))×Int×Unit):=iv lpK jnK aX bZ a7 aK bo aJ aH x0
abbrev t58:=((List Int)×List ((List Int)×Int×Int))->Option (((Int×Int)×(List (Int×Int))×List (Int×Int))×Int×Unit)
def k58 (aw:t58):Ctr:=⟨[T32],[],[],.tup [T96,i64],fun x _ _=>aw x.1⟩
def c58:Ctr:=k58 aw
theorem e58 (lp:Lp) (jn:Jn) (aX:t91) (bZ:F6) (a7:Ga) (aK:Ib) (bo:Og) (aJ:GM) (aH:GB):∀(x:TsS c58.as) (F:TsF c58.fs) (y:TsS c58.cs),iv lp jn aX bZ a7 aK bo aJ aH x.1=JR lp jn (Dn.look [(111,O5 bo),(110,N4 aK)]) (xV zH AJ (CX [(113,Np aH),(112,M4 aJ)] [] (kh prog shs uX its [(108,M3 bZ),(91,k91 aX)] [(134,MO a7)]))) ao 4 58 f58 c58 x F y:=fun x F y=>by kernel_rfl
theorem MT:c58.ok prog 58:=Ctr.of_denS (au (pc (ai (ai (bX) (by kernel_rfl) N8) (by kernel_rfl) MD) (gV (by kernel_rfl) Mz (gV (by kernel_rfl) MA (mD))) (mt))) aS (mw ON (mw MG (oO))) (hl:=ao) (d:=4) func58 rfl (by decide) (e58 lpK jnK aX bZ a7 aK bo aJ aH)
def mU (_:Lp) (_:Jn) (aF:t11) (aw:t58) (x0:(List (ByteArray×Int))×List (ByteArray×(List (ByteArray×Int×Int×Int))×Bool)):Option ((List (Int×Int))×Int×Unit) :=
 af (aF x0) fun (t:(List Int×List (List Int×Int×Int))×Int×PUnit)=>bif !decide (t.2.1=0) then some ([],t.2.1,PUnit.unit) else af (aw t.1) fun (t:((Int×Int)×List (Int×Int)×List (Int×Int))×Int×PUnit)=>bif !decide (t.2.1=0) then some ([],t.2.1,PUnit.unit) else some (t.1.2.1,0,PUnit.unit)
def aN (x0:(List (ByteArray×Int))×List (ByteArray×(List (ByteArray×Int×Int×Int))×Bool)):Option ((List (Int×Int))×Int×Unit):=mU lpK jnK aF aw x0
abbrev t19:=((List (ByteArray×Int))×List (ByteArray×(List (ByteArray×Int×Int×Int))×Bool))->Option ((List (Int×Int))×Int×Unit)
def k19 (aN:t19):Ctr:=⟨[T25],[],[],.tup [(.sl T49),i64],fun x _ _=>aN x.1⟩
def c19:Ctr:=k19 aN
theorem e19 (lp:Lp) (jn:Jn) (aF:t11) (aw:t58):∀(x:TsS c19.as) (F:TsF c19.fs) (y:TsS c19.cs),mU lp jn aF aw x.1=ce lp jn (cx [(58,k58 aw),(11,k11 aF)] [(134,bH)]) ao 4 19 f19 c19 x F y:=fun x F y=>by kernel_rfl
theorem OL:c19.ok prog 19:=Ctr.of_den (au (ai (ai (bX) (by kernel_rfl) NO) (by kernel_rfl) MT)) aS (hl:=ao) (d:=4) func19 rfl (by decide) (e19 lpK jnK aF aw)
def gD (lp:Lp) (_:Jn) (x0:List (ByteArray×(List (ByteArray×Int×Int×Int))×Bool)) (f0:(((ByteArray×(List (ByteArray×Int×Int×Int))×Bool)×Unit)->Option Bool)):Option Int :=
 lp (Int×PUnit) Int (fun (again:Int×PUnit->Option Int) (x:Int×PUnit)=>bif decide (x.1<(↑x0.length:Int)) then bif inB x.1 x0.length then af (f0 (x0.getD x.1.toNat ({ data:={ toList:=[] } },[],false),PUnit.unit)) fun (t:Bool)=>bif t then some x.1 else again (IntKind.wrap .i64 (x.1+1), PUnit.unit) else none else some (-1)) (0,PUnit.unit)
def bG (x0:List (ByteArray×(List (ByteArray×Int×Int×Int))×Bool)) (f0:(((ByteArray×(List (ByteArray×Int×Int×Int))×Bool)×Unit)->Option Bool)):Option Int:=gD lpK jnK x0 f0
abbrev t60:=(List (ByteArray×(List (ByteArray×Int×Int×Int))×Bool))->((((ByteArray×(List (ByteArray×Int×Int×Int))×Bool)×Unit)->Option Bool))->Option (Int)
def k60 (bG:t60):Ctr:=⟨[(.sl T75)],[([T75],.bool)],[],.one i64,fun x F _=>bG x.1 F.1⟩
def c60:Ctr:=k60 bG
theorem e60 (lp:Lp) (jn:Jn):∀(x:TsS c60.as) (F:TsF c60.fs) (y:TsS c60.cs),gD lp jn x.1 F.1=ce lp jn (cx [] [(134,bH)]) ao 4 60 f60 c60 x F y:=fun x F y=>by kernel_rfl
theorem P6:c60.ok prog 60:=Ctr.of_den (au (bX)) aS (hl:=ao) (d:=4) func60 rfl (by decide) (e60 lpK jnK)
def kr (_:Lp) (_:Jn) (x0:ByteArray×(List (ByteArray×Int×Int×Int))×Bool) (y0:ByteArray):Option Bool :=
 some (List.beq (ByteArray.toList x0.1) (ByteArray.toList y0))
def dF (x0:ByteArray×(List (ByteArray×Int×Int×Int))×Bool) (y0:ByteArray):Option Bool:=kr lpK jnK x0 y0
abbrev t61:=(ByteArray×(List (ByteArray×Int×Int×Int))×Bool)->(ByteArray)->Option (Bool)
def c61:Ctr:=⟨[T75],[],[.str],.one .bool,fun x _ y=>dF x.1 y.1⟩
theorem e61 (lp:Lp) (jn:Jn):∀(x:TsS c61.as) (F:TsF c61.fs) (y:TsS c61.cs),kr lp jn x.1 y.1=ce lp jn (cx [] [(134,bH)]) ao 4 61 f61 c61 x F y:=fun x F y=>by kernel_rfl
theorem P7:c61.ok prog 61:=Ctr.of_den (au (bX)) aS (hl:=ao) (d:=4) func61 rfl (by decide) (e61 lpK jnK)
def oY (_:Lp) (_:Jn) (cA:t45) (x0:(List (ByteArray×Int))×List (ByteArray×(List (ByteArray×Int×Int×Int))×Bool)) (x1:Int) (x2:Int):Option (((List Int)×List ((List Int)×Int×Int))×Int×Unit) :=
 bif decide (0<=(↑x0.2.length:Int))&&dx (Int.toNat (↑x0.2.length:Int)) 8 then bif inB x1 (Int.toNat (↑x0.2.length:Int)) then bif Nat.ble (Nat.succ x1.toNat) (Int.toNat (↑x0.2.length:Int)) then af (cA x0 (List.set (List.replicate (Int.toNat (↑x0.2.length:Int)) 0) x1.toNat x2)) fun (t:(List Int×List (List Int×Int×Int))×Int×PUnit)=>some (t.1,t.2.1,PUnit.unit) else none else none else none
def cW (x0:(List (ByteArray×Int))×List (ByteArray×(List (ByteArray×Int×Int×Int))×Bool)) (x1:Int) (x2:Int):Option (((List Int)×List ((List Int)×Int×Int))×Int×Unit):=oY lpK jnK cA x0 x1 x2
abbrev t62:=((List (ByteArray×Int))×List (ByteArray×(List (ByteArray×Int×Int×Int))×Bool))->(Int)->(Int)->Option (((List Int)×List ((List Int)×Int×Int))×Int×Unit)
def k62 (cW:t62):Ctr:=⟨[T25,i64,i64],[],[],.tup [T32,i64],fun x _ _=>cW x.1 x.2.1 x.2.2.1⟩
def c62:Ctr:=k62 cW
theorem e62 (lp:Lp) (jn:Jn) (cA:t45):∀(x:TsS c62.as) (F:TsF c62.fs) (y:TsS c62.cs),oY lp jn cA x.1 x.2.1 x.2.2.1=ce lp jn (cx [(45,k45 cA)] [(134,bH)]) ao 4 62 f62 c62 x F y:=fun x F y=>by kernel_rfl
theorem Ou:c62.ok prog 62:=Ctr.of_den (au (ai (bX) (by kernel_rfl) PL)) aS (hl:=ao) (d:=4) func62 rfl (by decide) (e62 lpK jnK cA)
def mg (_:Lp) (_:Jn) (ay:t59) (aw:t58) (bG:t60) (dF:t61) (cW:t62) (x0:(List (ByteArray×Int))×List (ByteArray×(List (ByteArray×Int×Int×Int))×Bool)) (x1:ByteArray):Option ((Int×Int)×Int×Unit) :=
 af (ay x0) fun (t:Bool)=>bif !t then some ((0,0),1,PUnit.unit) else af (bG x0.2 fun (x:(ByteArray×List (ByteArray × Int×Int×Int)×Bool)×PUnit)=>dF x.1 x1) fun (t:Int)=>bif decide (t<0) then some ((0,0),9,PUnit.unit) else af (cW x0 t 1) fun (t:(List Int×List (List Int×Int×Int))×Int×PUnit)=>bif !decide (t.2.1=0) then some ((0,0),t.2.1,PUnit.unit) else af (aw t.1) fun (t:((Int×Int)×List (Int×Int)×List (Int×Int))×Int×PUnit)=>bif !decide (t.2.1=0) then some ((0,0), t.2.1,PUnit.unit) else some (t.1.1,0,PUnit.unit)
def br (x0:(List (ByteArray×Int))×List (ByteArray×(List (ByteArray×Int×Int×Int))×Bool)) (x1:ByteArray):Option ((Int×Int)×Int×Unit):=mg lpK jnK ay aw bG dF cW x0 x1
abbrev t20:=((List (ByteArray×Int))×List (ByteArray×(List (ByteArray×Int×Int×Int))×Bool))->(ByteArray)->Option ((Int×Int)×Int×Unit)
def k20 (br:t20):Ctr:=⟨[T25,.str],[],[],.tup [T49,i64],fun x _ _=>br x.1 x.2.1⟩
def c20:Ctr:=k20 br
theorem e20 (lp:Lp) (jn:Jn) (ay:t59) (aw:t58) (bG:t60) (dF:t61) (cW:t62):∀(x:TsS c20.as) (F:TsF c20.fs) (y:TsS c20.cs),mg lp jn ay aw bG dF cW x.1 x.2.1=ce lp jn (cx [(62,k62 cW),(61,⟨[T75],[],[.str],.one .bool,fun x _ y=>dF x.1 y.1⟩),(60,k60 bG),(58,k58 aw),(59,k59 ay)] [(134,bH)]) ao 4 20 f20 c20 x F y:=fun x F y=>by kernel_rfl
theorem OU:c20.ok prog 20:=Ctr.of_den (au (ai (ai (ai (ai (ai (bX) (by kernel_rfl) L5) (by kernel_rfl) MT) (by kernel_rfl) P6) (by kernel_rfl) P7) (by kernel_rfl) Ou)) aS (hl:=ao) (d:=4) func20 rfl (by decide) (e20 lpK jnK ay aw bG dF cW)
def j4 (lp:Lp) (_:Jn) (ay:t59) (aw:t58) (cW:t62) (x0:(List (ByteArray×Int))×List (ByteArray×(List (ByteArray×Int×Int×Int))×Bool)):Option ((List ByteArray)×Int×Unit) :=
 af (ay x0) fun (t:Bool)=>bif !t then some ([],1,PUnit.unit) else lp (List ByteArray×Int×PUnit) (List ByteArray×Int×PUnit) (fun (again:List ByteArray × Int×PUnit->Option (List ByteArray×Int×PUnit)) (x:List ByteArray×Int×PUnit) =>
 let v6:Int×PUnit:=(IntKind.wrap .i64 (x.2.1+1),PUnit.unit);bif decide (x.2.1<(↑x0.2.length:Int)) then bif inB x.2.1 x0.2.length then af (cW x0 x.2.1 (-1)) fun (t:(List Int×List (List Int×Int×Int))×Int×PUnit)=>bif !decide (t.2.1=0) then some ([],t.2.1, PUnit.unit) else af (aw t.1) fun (t:((Int×Int)×List (Int×Int)×List (Int×Int))×Int×PUnit)=>bif decide (t.2.1=21) then again (x.1,v6) else bif !decide (t.2.1=0) then some ([],t.2.1,PUnit.unit) else bif decide (t.1.1.1=0) then bif dx (List.length x.1+1) 16 then again (x.1++[(x0.2.getD x.2.1.toNat ({ data:={ toList:=[] } },[],false)).1],v6) else none else again (x.1,v6) else none else some (x.1,0, PUnit.unit)) ([],0,PUnit.unit)
def aO (x0:(List (ByteArray×Int))×List (ByteArray×(List (ByteArray×Int×Int×Int))×Bool)):Option ((List ByteArray)×Int×Unit):=j4 lpK jnK ay aw cW x0
abbrev t21:=((List (ByteArray×Int))×List (ByteArray×(List (ByteArray×Int×Int×Int))×Bool))->Option ((List ByteArray)×Int×Unit)
def k21 (aO:t21):Ctr:=⟨[T25],[],[],.tup [(.sl .str),i64],fun x _ _=>aO x.1⟩
def c21:Ctr:=k21 aO
theorem e21 (lp:Lp) (jn:Jn) (ay:t59) (aw:t58) (cW:t62):∀(x:TsS c21.as) (F:TsF c21.fs) (y:TsS c21.cs),j4 lp jn ay aw cW x.1=ce lp jn (cx [(62,k62 cW),(58,k58 aw),(59,k59 ay)] [(134,bH)]) ao 4 21 f21 c21 x F y:=fun x F y=>by kernel_rfl
theorem Po:c21.ok prog 21:=Ctr.of_den (au (ai (ai (ai (bX) (by kernel_rfl) L5) (by kernel_rfl) MT) (by kernel_rfl) Ou)) aS (hl:=ao) (d:=4) func21 rfl (by decide) (e21 lpK jnK ay aw cW)
def qa (_:Lp) (_:Jn) (x0:Int):Option (Int×Int) :=
 some (x0,1)
def bT (x0:Int):Option (Int×Int):=qa lpK jnK x0
abbrev t34:=(Int)->Option (Int×Int)
def k34 (bT:t34):Ctr:=⟨[i64],[],[],.one T49,fun x _ _=>bT x.1⟩
def c34:Ctr:=k34 bT
theorem e34 (lp:Lp) (jn:Jn):∀(x:TsS c34.as) (F:TsF c34.fs) (y:TsS c34.cs),qa lp jn x.1=ce lp jn (cx [] [(134,bH)]) ao 4 34 f34 c34 x F y:=fun x F y=>by kernel_rfl
theorem PO:c34.ok prog 34:=Ctr.of_den (au (bX)) aS (hl:=ao) (d:=4) func34 rfl (by decide) (e34 lpK jnK)
def pR (lp:Lp) (_:Jn) (bT:t34) (x0:List Int):Option ((List (ByteArray×Int))×List (ByteArray×(List (ByteArray×Int×Int×Int))×Bool)) :=
 lp (Int×List (ByteArray×Int)×List (ByteArray×List (ByteArray×Int×Int×Int)×Bool)×PUnit) (List (ByteArray×Int)×List (ByteArray×List (ByteArray×Int×Int×Int)×Bool)) (fun (again:Int×List (ByteArray×Int)×List (ByteArray×List (ByteArray×Int×Int×Int)×Bool)×PUnit->Option (List (ByteArray×Int)×List (ByteArray×List (ByteArray×Int×Int×Int)×Bool))) (x:Int×List (ByteArray×Int)×List (ByteArray×List (ByteArray×Int×Int×Int)×Bool)×PUnit) => bif decide (x.1<(↑x0.length:Int)) then bif inB x.1 x0.length then af (bT 1) fun (t:Int×Int)=>af (bT 1) fun (t_1:Int×Int)=>bif dx (List.length x.2.2.1+1) 48 then again (IntKind.wrap .i64 (x.1+1),x.2.1,x.2.2.1++[({ data:=#[114] }++tU [IntKind.wrap IntKind.u8 (IntKind.wrap .i64 (49+x.1))],[({ data:=#[98] },x0.getD x.1.toNat 0,t),({ data:={ toList:=[] } },0,t_1)],false)],PUnit.unit) else none else none else some (x.2.1,x.2.2.1)) (0,[({ data:=#[98] },10)],[],PUnit.unit)
def dR (x0:List Int):Option ((List (ByteArray×Int))×List (ByteArray×(List (ByteArray×Int×Int×Int))×Bool)):=pR lpK jnK bT x0
abbrev t43:=(List Int)->Option ((List (ByteArray×Int))×List (ByteArray×(List (ByteArray×Int×Int×Int))×Bool))
def c43:Ctr:=⟨[(.sl i64)],[],[],.one T25,fun x _ _=>dR x.1⟩
theorem e43 (lp:Lp) (jn:Jn) (bT:t34):∀(x:TsS c43.as) (F:TsF c43.fs) (y:TsS c43.cs),pR lp jn bT x.1=ce lp jn (cx [(34,k34 bT)] [(134,bH)]) ao 4 43 f43 c43 x F y:=fun x F y=>by kernel_rfl
theorem Qr:c43.ok prog 43:=Ctr.of_den (au (ai (bX) (by kernel_rfl) PO)) aS (hl:=ao) (d:=4) func43 rfl (by decide) (e43 lpK jnK bT)
def qc (_:Lp) (_:Jn) (aL:t12) (aN:t19) (br:t20) (aO:t21) (bT:t34) (dR:t43):Option Bool :=
 af (dR [1,1,(-1)]) fun (t:List (ByteArray×Int)×List (ByteArray×List (ByteArray×Int×Int×Int)×Bool))=>af (aN t) fun (t:List (Int×Int)×Int×PUnit) =>
 let v4:Bool:=decide (t.2.1=0);
 let v5:Bool:=!v4||v4;
 let v6:Bool:=bif v4 then decide ((↑t.1.length:Int)=3) else false;
 let v7:Bool:=!v6||v6;af (dR [1,1,(-1)]) fun (t:List (ByteArray×Int)×List (ByteArray×List (ByteArray×Int×Int×Int)×Bool))=>af (aO t) fun (t:List ByteArray×Int×PUnit) =>
 let v10:Bool:=bif v6 then decide (t.2.1=0) else false;
 let v11:Bool:=!v10||v10;
 let v12:Bool:=bif v10 then decide ((↑t.1.length:Int)=0) else false;
 let v13:Bool:=!v12||v12;af (dR [1,1,(-1)]) fun (t:List (ByteArray×Int)×List (ByteArray×List (ByteArray×Int×Int×Int)×Bool)) => af (br t { data:={ toList:=[{ toBitVec:={ toFin:=⟨114,Nat.mod_lt 114 (BitVec.ofNat._proof_1 8)⟩ } },{ toBitVec:={ toFin:=⟨49, Nat.mod_lt 49 (BitVec.ofNat._proof_1 8)⟩ } }] } }) fun (t:(Int×Int)×Int×PUnit) =>
 let v16:Bool:=bif v12 then decide (t.2.1=0) else false;
 let v17:Bool:=!v16||v16;af (dR [(-1)]) fun (t_1:List (ByteArray×Int)×List (ByteArray×List (ByteArray×Int×Int×Int)×Bool))=>af (bT (1 : Int)) fun (t_2:Int×Int)=>af (aL t_1 [t_2]) fun (t_3:Bool×Int×PUnit)=>af (dR [(-1)]) fun (t_4:List (ByteArray×Int)×List (ByteArray × List (ByteArray×Int×Int×Int)×Bool))=>af (aN t_4) fun (t_5:List (Int×Int)×Int×PUnit)=>bif v5 then bif v5 then bif v5 then bif v7 then bif v7 then bif v11 then bif v11 then bif v11 then bif v13 then bif v13 then af (bif v16 then bT 0 else some (0,0)) fun (t_6:Int×Int) =>
 let v24:Bool:=bif v16 then decide (t.1.1=t_6.1)&&(decide (t.1.2=t_6.2)&&true) else false;
 let v25:Bool:=bif v24 then decide (t_3.2.1=0) else false;
 let v26:Bool:=bif v25 then t_3.1 else false;
 let v27:Bool:=!v24||v24;
 let v28:Bool:=!v26||v26;bif v17&&v17 then bif v17 then bif v27 then bif v27 then bif !v25||v25 then bif v28 then bif v28 then some (bif v26 then decide (t_5.2.1=(22 : Int)) else false) else none else none else none else none else none else none else none else none else none else none else none else none else none else none else none else none else none
def aP:Option Bool:=qc lpK jnK aL aN br aO bT dR
abbrev t9:=Option (Bool)
def k9 (aP:t9):Ctr:=⟨[],[],[],.one .bool,fun _ _ _=>aP⟩
def c9:Ctr:=k9 aP
theorem e9 (lp:Lp) (jn:Jn) (aL:t12) (aN:t19) (br:t20) (aO:t21) (bT:t34) (dR:t43):∀(x:TsS c9.as) (F:TsF c9.fs) (y:TsS c9.cs),qc lp jn aL aN br aO bT dR=ce lp jn (cx [(43,⟨[(.sl i64)],[],[],.one T25,fun x _ _=>dR x.1⟩),(34,k34 bT),(21,k21 aO),(20,k20 br),(19,k19 aN),(12,k12 aL)] [(134,bH)]) ao 4 9 f9 c9 x F y:=fun x F y=>by kernel_rfl
theorem ok9:c9.ok prog 9:=Ctr.of_den (au (ai (ai (ai (ai (ai (ai (bX) (by kernel_rfl) Px) (by kernel_rfl) OL) (by kernel_rfl) OU) (by kernel_rfl) Po) (by kernel_rfl) PO) (by kernel_rfl) Qr)) aS (hl:=ao) (d:=4) func9 rfl (by decide) (e9 lpK jnK aL aN br aO bT dR)
def mr (lp:Lp) (_:Jn) (x0:(List (ByteArray×Int))×List (ByteArray×(List (ByteArray×Int×Int×Int))×Bool)):Option Bool :=
 
 let v3:Bool:=decide ((↑x0.1.length:Int)>9);
 let v4:Bool:=!v3;
 let v5:Bool:=!v4||v4;bif v5 then bif v5 then bif v5 then bif v3||v4 then bif bif v3 then true else decide ((↑x0.2.length:Int)>9) then some false else lp (Int × PUnit) Bool (fun (again:Int×PUnit->Option Bool) (x:Int×PUnit)=>bif decide (x.1<(↑x0.1.length:Int)) then bif inB x.1 x0.1.length then bif decide ((↑(ByteArray.size (x0.1.getD x.1.toNat ({ data:={ toList:=[] } },0)).1):Int)>60) then some false else again (IntKind.wrap .i64 (x.1 + 1),PUnit.unit) else none else lp (Int×PUnit) Bool (fun (again:Int×PUnit->Option Bool) (x:Int×PUnit) =>
 let v10:Bool:=inB x.1 x0.2.length;
 let v11:Bool:=decide ((↑(ByteArray.size (x0.2.getD x.1.toNat ({ data:={ toList:=[] } },[],false)).1):Int)>60);
 let v12:Bool:=!v11;
 let v13:Bool:=!v12;
 let v14:Bool:=v13||v12;bif decide (x.1<(↑x0.2.length:Int)) then bif v10 then bif v14 then bif v14&&(v14&&(v13||v10)) then bif v14 then bif v14 then bif v14 then bif v14 then bif v11||v12 then bif bif v11 then true else decide ((↑(List.length (x0.2.getD x.1.toNat ({ data:={ toList:=[] } },[],false)).2.1):Int) > 13) then some false else lp (Int×PUnit) Bool (fun (again_1:Int×PUnit->Option Bool) (x_1:Int×PUnit)=>bif v10 then bif decide (x_1.1<(↑(List.length (x0.2.getD x.1.toNat ({ data:={ toList:=[] } },[],false)).2.1):Int)) then bif v10 then bif inB x_1.1 (List.length (x0.2.getD x.1.toNat ({ data:={ toList:=[] } },[],false)).2.1) then bif decide ((↑(ByteArray.size (List.getD (x0.2.getD x.1.toNat ({ data:={ toList:=[] } },[],false)).2.1 x_1.1.toNat ({ data:={ toList:=[] } },0,0,0)).1):Int)>60) then some false else again_1 (IntKind.wrap .i64 (x_1.1+1), PUnit.unit) else none else none else again (IntKind.wrap .i64 (x.1+1),PUnit.unit) else none) (0,PUnit.unit) else none else none else none else none else none else none else none else none else some true) (0,PUnit.unit)) (0,PUnit.unit) else none else none else none else none
def eQ (x0:(List (ByteArray×Int))×List (ByteArray×(List (ByteArray×Int×Int×Int))×Bool)):Option Bool:=mr lpK jnK x0
abbrev t44:=((List (ByteArray×Int))×List (ByteArray×(List (ByteArray×Int×Int×Int))×Bool))->Option (Bool)
def c44:Ctr:=⟨[T25],[],[],.one .bool,fun x _ _=>eQ x.1⟩
theorem e44 (lp:Lp) (jn:Jn):∀(x:TsS c44.as) (F:TsF c44.fs) (y:TsS c44.cs),mr lp jn x.1=ce lp jn (cx [] [(134,bH)]) ao 4 44 f44 c44 x F y:=fun x F y=>by kernel_rfl
theorem Qv:c44.ok prog 44:=Ctr.of_den (au (bX)) aS (hl:=ao) (d:=4) func44 rfl (by decide) (e44 lpK jnK)
def oN (_:Lp) (_:Jn) (eQ:t44) (x0:(List (ByteArray×Int))×List (ByteArray×(List (ByteArray×Int×Int×Int))×Bool)) (x1:List (Int×Int)):Option Bool :=
 af (eQ x0) fun (t:Bool) =>
 let v5:Bool:=!t||t;bif v5 then bif v5 then bif v5 then some (bif t then decide ((↑x1.length:Int)<=10) else false) else none else none else none
def bf (x0:(List (ByteArray×Int))×List (ByteArray×(List (ByteArray×Int×Int×Int))×Bool)) (x1:List (Int×Int)):Option Bool:=oN lpK jnK eQ x0 x1
abbrev t10:=((List (ByteArray×Int))×List (ByteArray×(List (ByteArray×Int×Int×Int))×Bool))->(List (Int×Int))->Option (Bool)
def k10 (bf:t10):Ctr:=⟨[T25,(.sl T49)],[],[],.one .bool,fun x _ _=>bf x.1 x.2.1⟩
def c10:Ctr:=k10 bf
theorem e10 (lp:Lp) (jn:Jn) (eQ:t44):∀(x:TsS c10.as) (F:TsF c10.fs) (y:TsS c10.cs),oN lp jn eQ x.1 x.2.1=ce lp jn (cx [(44,⟨[T25],[],[],.one .bool,fun x _ _=>eQ x.1⟩)] [(134,bH)]) ao 4 10 f10 c10 x F y:=fun x F y=>by kernel_rfl
theorem Rs:c10.ok prog 10:=Ctr.of_den (au (ai (bX) (by kernel_rfl) Qv)) aS (hl:=ao) (d:=4) func10 rfl (by decide) (e10 lpK jnK eQ)
def sM (lp:Lp) (_:Jn) (x0:(List (ByteArray×Int))×List (ByteArray×(List (ByteArray×Int×Int×Int))×Bool)) (x1:ByteArray):Option Int :=
 lp (Int×PUnit) Int (fun (again:Int×PUnit->Option Int) (x:Int×PUnit)=>bif decide (x.1<(↑x0.2.length:Int)) then bif inB x.1 x0.2.length then bif List.beq (ByteArray.toList (x0.2.getD x.1.toNat ({ data:={ toList:=[] } },[],false)).1) (ByteArray.toList x1) then some x.1 else again (IntKind.wrap .i64 (x.1+1),PUnit.unit) else none else some (-1)) (0,PUnit.unit)
def cP (x0:(List (ByteArray×Int))×List (ByteArray×(List (ByteArray×Int×Int×Int))×Bool)) (x1:ByteArray):Option Int:=sM lpK jnK x0 x1
abbrev t22:=((List (ByteArray×Int))×List (ByteArray×(List (ByteArray×Int×Int×Int))×Bool))->(ByteArray)->Option (Int)
def k22 (cP:t22):Ctr:=⟨[T25,.str],[],[],.one i64,fun x _ _=>cP x.1 x.2.1⟩
def ve (_:Lp) (_:Jn) (x0:Int):Option Bool :=
 
 let v3:Bool:=decide (x0>=97);
 let v4:Bool:=decide (x0>=65);
 let v5:Bool:=!v3||v3;
 let v6:Bool:=bif v3 then decide (x0<=122) else false;
 let v7:Bool:=!v6;
 let v8:Bool:=!v7;
 let v9:Bool:=v7&&v4;
 let v10:Bool:=v8||v7;bif v5 then bif v5 then bif v10 then bif v10 then bif !v9||v9 then bif (v8||v10)&&(v8||(!v4||(v8||v9))) then bif v6||v7 then some (bif v6 then true else bif v4 then decide (x0<=90) else false) else none else none else none else none else none else none else none
def gY (x0:Int):Option Bool:=ve lpK jnK x0
abbrev t98:=(Int)->Option (Bool)
def wh (_:Lp) (_:Jn) (x0:Int):Option Bool :=
 
 let v3:Bool:=decide (x0>=48);
 let v4:Bool:=!v3||v3;bif v4 then bif v4 then some (bif v3 then decide (x0<=57) else false) else none else none
def om (x0:Int):Option Bool:=wh lpK jnK x0
abbrev Qq:=(Int)->Option (Bool)
def yP (lp:Lp) (_:Jn) (gY:t98) (om:Qq) (x0:ByteArray) (x1:Int):Option Int :=
 lp (Int×PUnit) Int (fun (again:Int×PUnit->Option Int) (x:Int×PUnit) =>
 let v6:Bool:=inB x.1 (ByteArray.size x0);
 let v7:Int:=eO x0 x.1.toNat;
 let v8:Bool:=decide (x.1<(↑(ByteArray.size x0):Int));
 let v9:Bool:=!v8;
 let v10:Bool:=v9||v8;
 let v11:Bool:=v9||v10;bif v10&&(v10&&(v9||v6)) then bif v10 then af (bif v8 then gY v7 else some false) fun (t:Bool) =>
 let v13:Bool:=v8&&!t;
 let v14:Bool:=!v13;
 let v15:Bool:=v14||v13;bif v10 then bif v15&&(v15&&(v14||v6)) then bif v15 then af (bif v13 then om v7 else some false) fun (t_1:Bool) =>
 let v17:Bool:=bif t then true else t_1;
 let v18:Bool:=v8&&!v17;
 let v19:Bool:=!v18;
 let v20:Bool:=v19||v18;bif v11&&(v9||(t||(v9||v13))) then bif v10 then bif v20&&(v20&&(v19||v6)) then bif v20 then bif v11&&(v9||(v17||(v9||v18))) then bif v10 then bif bif v8 then bif v17 then true else decide (v7=95) else false then again (IntKind.wrap .i64 (x.1+1),PUnit.unit) else some x.1 else none else none else none else none else none else none else none else none else none else none else none) (x1,PUnit.unit)
def qu (x0:ByteArray) (x1:Int):Option Int:=yP lpK jnK gY om x0 x1
abbrev t99:=(ByteArray)->(Int)->Option (Int)
def vU (_:Lp) (_:Jn) (gY:t98) (qu:t99) (x0:ByteArray):Option Bool :=
 
 let v3:Bool:=decide ((↑(ByteArray.size x0):Int)=0);
 let v4:Bool:=!v3;
 let v5:Bool:=!v4||v4;
 let v6:Bool:=bif v3 then true else decide ((↑(ByteArray.size x0):Int)>20);
 let v7:Bool:=!v6;
 let v8:Bool:=!v7;
 let v9:Bool:=v8||v7;bif v5 then bif v5 then bif v3||v4 then bif v9&&(v8||inB 0 (ByteArray.size x0)) then bif v9 then af (bif v7 then gY (eO x0 (0 : Nat)) else some false) fun (t:Bool)=>bif v9 then bif v6||v7 then bif bif v6 then true else !t then some false else af (qu x0 0) fun (t:Int)=>some (decide (t = (↑(ByteArray.size x0):Int))) else none else none else none else none else none else none else none
def kH (x0:ByteArray):Option Bool:=vU lpK jnK gY qu x0
abbrev t48:=(ByteArray)->Option (Bool)
def ry (lp:Lp) (_:Jn) (x0:(List (ByteArray×Int))×List (ByteArray×(List (ByteArray×Int×Int×Int))×Bool)) (x1:ByteArray):Option Int :=
 lp (Int×PUnit) Int (fun (again:Int×PUnit->Option Int) (x:Int×PUnit)=>bif decide (x.1<(↑x0.1.length:Int)) then bif inB x.1 x0.1.length then bif List.beq (ByteArray.toList (x0.1.getD x.1.toNat ({ data:={ toList:=[] } },0)).1) (ByteArray.toList x1) then some x.1 else again (IntKind.wrap .i64 (x.1+1),PUnit.unit) else none else some (-1)) (0,PUnit.unit)
def eC (x0:(List (ByteArray×Int))×List (ByteArray×(List (ByteArray×Int×Int×Int))×Bool)) (x1:ByteArray):Option Int:=ry lpK jnK x0 x1
abbrev t49:=((List (ByteArray×Int))×List (ByteArray×(List (ByteArray×Int×Int×Int))×Bool))->(ByteArray)->Option (Int)
def Cd (_:Lp) (_:Jn) (x0:Int):Option (Int×Int) :=
 some (x0,1)
def eK (x0:Int):Option (Int×Int):=Cd lpK jnK x0
abbrev t73:=(Int)->Option (Int×Int)
def yv (_:Lp) (_:Jn) (x0:Int×Int):Option (Int×Int) :=
 
 let v3:Int:=2 ^ 1;
 let v4:Bool:=decide ((0:Int)<=1);bif v4 then bif v4 then bif decide ((0:Int)<=63) then some (Int.fdiv x0.1 v3,IntKind.wrap .u64 (Int.fdiv x0.2 v3 + IntKind.wrap .u64 (x0.1*2 ^ 63))) else none else none else none
def jM (x0:Int×Int):Option (Int×Int):=yv lpK jnK x0
abbrev Ra:=(Int×Int)->Option (Int×Int)
def yp (_:Lp) (_:Jn) (x0:Int×Int) (x1:Int×Int):Option Bool :=
 
 let v4:Bool:=decide (x0.1=x1.1);
 let v5:Bool:=decide (x0.1<x1.1);
 let v6:Bool:=!v5;
 let v7:Bool:=!v6;
 let v8:Bool:=v6&&v4;
 let v9:Bool:=v7||v6;
 let v10:Bool:=!v8||v8;bif v9 then bif v9 then bif v9&&v9 then bif v9 then bif v10 then bif v10 then bif v10&&v10 then bif (v7||v9)&&(v7||(!v4||(v7||v8))) then bif v5 || v6 then some (bif v5 then true else bif v4 then decide (x0.2<x1.2) else false) else none else none else none else none else none else none else none else none else none
def eD (x0:Int×Int) (x1:Int×Int):Option Bool:=yp lpK jnK x0 x1
abbrev KI:=(Int×Int)->(Int×Int)->Option (Bool)
def wb (_:Lp) (_:Jn) (x0:Int×Int) (x1:Int×Int):Option (Int×Int) :=
 
 let v4:Int:=IntKind.wrap .u64 (x0.1 - x1.1);
 let v5:Int:=IntKind.wrap .u64 (x0.2 - x1.2);bif decide (x0.2<x1.2) then some (IntKind.wrap .u64 (v4 - 1),v5) else some (v4,v5)
def eg (x0:Int×Int) (x1:Int×Int):Option (Int×Int):=wb lpK jnK x0 x1
abbrev Nh:=(Int×Int)->(Int×Int)->Option (Int×Int)
def yg (_:Lp) (_:Jn) (x0:Int×Int) (x1:Int×Int):Option (Int×Int) :=
 
 let v4:Int:=IntKind.wrap .u64 (x0.1+x1.1);
 let v5:Int:=IntKind.wrap .u64 (x0.2+x1.2);bif decide (v5<x0.2) then some (IntKind.wrap .u64 (v4+1),v5) else some (v4,v5)
def jt (x0:Int×Int) (x1:Int×Int):Option (Int×Int):=yg lpK jnK x0 x1
abbrev P2:=(Int×Int)->(Int×Int)->Option (Int×Int)
def A7 (lp:Lp) (_:Jn) (jM:Ra) (eD:KI) (eg:Nh) (jt:P2) (x0:Int×Int) (x1:Int×Int):Option (Int×Int) :=
 bif decide (x0.1=0)&&(decide (x0.2=0)&&true) then some x1 else lp (Int×(Int×Int)×(Int×Int)×PUnit) (Int×Int) (fun (again:Int×(Int×Int)×(Int × Int)×PUnit->Option (Int×Int)) (x:Int×(Int×Int)×(Int×Int)×PUnit) =>
 let v6:Bool:=decide (IntKind.wrap .u64 (↑(Nat.land (Int.toNat (x.2.1.2 % Int.ofNat 18446744073709551616)) (Int.toNat (1 % Int.ofNat (18446744073709551616 : Nat)))):Int)=0);
 let v7:Bool:=!v6||v6;bif v7 then bif v7 then bif v7 then bif v7 then bif bif v6 then decide (IntKind.wrap .u64 (↑(Nat.land (Int.toNat (x.2.2.1.2 % Int.ofNat 18446744073709551616)) (Int.toNat (1 % Int.ofNat 18446744073709551616))):Int)=0) else false then af (jM x.2.1) fun (t:Int×Int) => af (jM x.2.2.1) fun (t_1:Int×Int)=>again (IntKind.wrap .i64 (x.1+1),t,t_1,PUnit.unit) else lp ((Int×Int)×(Int×Int)×PUnit) (Int × Int) (fun (again:(Int×Int)×(Int×Int)×PUnit->Option (Int×Int)) (x_1:(Int×Int)×(Int×Int)×PUnit) =>
 let v10:(Int×Int)×PUnit:=(x_1.2.1,PUnit.unit);bif !(decide (x_1.1.1=0)&&(decide (x_1.1.2=0)&&true)) then lp ((Int×Int)×PUnit) (Int×Int) (fun (again_1:(Int×Int)×PUnit->Option (Int×Int)) (x:(Int×Int)×PUnit)=>bif decide (IntKind.wrap .u64 (↑(Nat.land (Int.toNat (x.1.2 % Int.ofNat 18446744073709551616)) (Int.toNat (1 % Int.ofNat 18446744073709551616))):Int)=0) then af (jM x.1) fun (t:Int×Int)=>again_1 (t, PUnit.unit) else lp ((Int×Int)×PUnit) (Int×Int) (fun (again_2:(Int×Int)×PUnit->Option (Int×Int)) (x_2:(Int×Int)×PUnit)=>bif decide (IntKind.wrap .u64 (↑(Nat.land (Int.toNat (x_2.1.2 % Int.ofNat 18446744073709551616)) (Int.toNat (1 % Int.ofNat 18446744073709551616))):Int)=0) then af (jM x_2.1) fun (t:Int×Int)=>again_2 (t,PUnit.unit) else af (eD x.1 x_2.1) fun (t:Bool)=>bif t then af (eg x_2.1 x.1) fun (t:Int × Int)=>again (t,x.1,PUnit.unit) else af (eg x.1 x_2.1) fun (t:Int×Int)=>again (t,x_2.1,PUnit.unit)) v10) (x_1.1,PUnit.unit) else lp (Int×(Int×Int) × PUnit) (Int×Int) (fun (again:Int×(Int×Int)×PUnit->Option (Int×Int)) (x:Int×(Int×Int)×PUnit)=>bif decide (x.1>0) then af (jt x.2.1 x.2.1) fun (t:Int×Int)=>again (IntKind.wrap .i64 (x.1 - 1),t,PUnit.unit) else some x.2.1) (x.1,v10)) (x.2.1,x.2.2.1,PUnit.unit) else none else none else none else none) (0,x0,x1,PUnit.unit)
def kU (x0:Int×Int) (x1:Int×Int):Option (Int×Int):=A7 lpK jnK jM eD eg jt x0 x1
abbrev PB:=(Int×Int)->(Int×Int)->Option (Int×Int)
def zf (_:Lp) (_:Jn) (x0:Int):Option Int :=
 
 let v3:Int:=IntKind.wrap .u64 x0;bif decide (x0<0) then some (IntKind.wrap .u64 (0 - v3)) else some v3
def bw (x0:Int):Option Int:=zf lpK jnK x0
abbrev JE:=(Int)->Option (Int)
def wq (_:Lp) (_:Jn) (kU:PB) (bw:JE) (x0:Int×Int):Option Bool :=
 
 let v3:Bool:=decide (x0.2<1);
 let v4:Bool:=!v3;
 let v5:Bool:=bif v3 then true else decide (x0.2>1152921504606846976);
 let v6:Bool:=!v4||v4;
 let v7:Bool:=!v5;
 let v8:Bool:=bif v5 then true else decide (x0.1<(-1152921504606846976));
 let v9:Bool:=!v8;
 let v10:Bool:=!v7||v7;
 let v11:Bool:=!v9||v9;bif v6 then bif v6 then bif v3||v4 then bif v10 then bif v10 then bif v5||v7 then bif v11 then bif v11 then bif v8||v9 then bif bif v8 then true else decide (x0.1>1152921504606846976) then some false else af (bw x0.1) fun (t:Int)=>af (bw x0.2) fun (t_1:Int)=>af (kU (0, t) (0,t_1)) fun (t:Int×Int)=>some (decide (t.1=0)&&(decide (t.2=1)&&true)) else none else none else none else none else none else none else none else none else none
def iK (x0:Int×Int):Option Bool:=wq lpK jnK kU bw x0
abbrev t52:=(Int×Int)->Option (Bool)
def rc (_:Lp) (_:Jn) (iK:t52) (x0:Int×Int):Option Bool :=
 af (iK x0) fun (t:Bool) =>
 let v4:Bool:=!t||t;
 let v5:Bool:=bif t then decide (x0.1>=x0.2) else false;
 let v6:Bool:=!v5||v5;bif v4 then bif v4 then bif v4&&v4 then bif v4 then bif v6 then bif v6 then bif v6 then some (bif v5 then decide (x0.1<=100) else false) else none else none else none else none else none else none else none
def ku (x0:Int×Int):Option Bool:=rc lpK jnK iK x0
abbrev Rj:=(Int×Int)->Option (Bool)
def yI (_:Lp) (_:Jn) (eC:t49) (eK:t73) (ku:Rj) (x0:(List (ByteArray×Int))×List (ByteArray×(List (ByteArray×Int×Int×Int))×Bool)) (x1:ByteArray×Int×Int×Int) (x2:Bool):Option Bool :=
 
 let v5:Bool:=!x2||x2;
 let v6:Bool:=decide (x1.2.1=0);
 let v7:Bool:=decide (x1.2.1=1);
 let v8:Bool:=decide (x1.2.1=2);
 let v9:Bool:=!v7;
 let v10:Bool:=!v8;
 let v11:Bool:=bif v8 then true else v6;
 let v12:Bool:=!v9||v9;
 let v13:Bool:=!v10||v10;
 let v14:Bool:=!v11;
 let v15:Bool:=!v14||v14;bif v5 then af (bif x2 then eK 1 else some (0,0)) fun (t:Int×Int) =>
 let v17:Bool:=bif x2 then !(decide (x1.2.2.1=t.1)&&(decide (x1.2.2.2=t.2)&&true)) else false;
 let v18:Bool:=!v17;
 let v19:Bool:=!v18||v18;bif v5&&v5 then bif v5 then bif v19 then bif v19 then af (bif v18 then ku x1.2.2 else some false) fun (t:Bool)=>bif v19 then bif v17||v18 then bif bif v17 then true else !t then some false else bif List.beq (ByteArray.toList x1.1) (ByteArray.toList { data:=#[] }) then some v6 else af (eC x0 x1.1) fun (t:Int)=>bif decide (t<0) then some false else bif x2 then bif v12 then bif v12 then bif v7||v9 then some (bif v7 then true else decide (x1.2.1=(-1 : Int))) else none else none else none else bif v13 then bif v13 then bif v8||v10 then bif v15 then bif v15 then bif v11||v14 then some (bif v11 then true else decide (x1.2.1 = (-2))) else none else none else none else none else none else none else none else none else none else none else none else none else none
def qK (x0:(List (ByteArray×Int))×List (ByteArray×(List (ByteArray×Int×Int×Int))×Bool)) (x1:ByteArray×Int×Int×Int) (x2:Bool):Option Bool:=yI lpK jnK eC eK ku x0 x1 x2
abbrev QU:=((List (ByteArray×Int))×List (ByteArray×(List (ByteArray×Int×Int×Int))×Bool))->(ByteArray×Int×Int×Int)->(Bool)->Option (Bool)
def yG (lp:Lp) (_:Jn) (qK:QU) (x0:(List (ByteArray×Int))×List (ByteArray×(List (ByteArray×Int×Int×Int))×Bool)) (x1:ByteArray×(List (ByteArray×Int×Int×Int))×Bool):Option Bool :=
 
 let v4:Bool:=!x1.2.2;
 let v5:Bool:=!v4;
 let v6:Bool:=!v5;
 let v7:Int:=IntKind.wrap .i64 ((↑x1.2.1.length:Int) - 1);
 let v8:Bool:=v6||v5;
 let v9:Bool:=decide ((↑x1.2.1.length:Int)<2);
 let v10:Bool:=!v9;
 let v11:Bool:=!v10||v10;bif v11 then bif v11 then bif v11 then bif v9||v10 then bif bif v9 then true else decide ((↑x1.2.1.length:Int)>10) then some false else lp (Int×PUnit) Bool (fun (again:Int×PUnit->Option Bool) (x:Int×PUnit) =>
 let v14:Bool:=decide (x.1=0);
 let v15:Bool:=!v14;
 let v16:Bool:=!v15||v15;bif decide (x.1<(↑x1.2.1.length:Int)) then bif inB x.1 x1.2.1.length then bif v16 then bif v16 then bif v16 then bif v16 && v16 then bif v14||v15 then af (qK x0 (x1.2.1.getD x.1.toNat ({ data:={ toList:=[] } },0,0,0)) (bif v14 then true else decide (x.1=v7))) fun (t:Bool)=>bif !t then some false else again (IntKind.wrap .i64 (x.1+1),PUnit.unit) else none else none else none else none else none else none else bif v8 then bif v8 then bif v8 then bif v8 then bif v8&&(v8&&(v6||inB v7 x1.2.1.length)) then bif v8 then bif v8 then bif v8 then bif v4||v5 then some (bif v4 then true else List.beq (ByteArray.toList (x1.2.1.getD v7.toNat ({ data:={ toList:=[] } },0,0,0)).1) (ByteArray.toList { data:=#[] })) else none else none else none else none else none else none else none else none else none) (0,PUnit.unit) else none else none else none else none
def qd (x0:(List (ByteArray×Int))×List (ByteArray×(List (ByteArray×Int×Int×Int))×Bool)) (x1:ByteArray×(List (ByteArray×Int×Int×Int))×Bool):Option Bool:=yG lpK jnK qK x0 x1
abbrev t50:=((List (ByteArray×Int))×List (ByteArray×(List (ByteArray×Int×Int×Int))×Bool))->(ByteArray×(List (ByteArray×Int×Int×Int))×Bool)->Option (Bool)
def wl (lp:Lp) (_:Jn) (cP:t22) (kH:t48) (eC:t49) (qd:t50) (x0:(List (ByteArray×Int))×List (ByteArray×(List (ByteArray×Int×Int×Int))×Bool)):Option Bool :=
 
 let v3:Bool:=decide ((↑x0.1.length:Int)<1);
 let v4:Bool:=!v3;
 let v5:Bool:=bif v3 then true else decide ((↑x0.1.length:Int)>6);
 let v6:Bool:=!v4||v4;
 let v7:Bool:=!v5;
 let v8:Bool:=bif v5 then true else decide ((↑x0.2.length:Int)<1);
 let v9:Bool:=!v8;
 let v10:Bool:=!v7||v7;
 let v11:Bool:=!v9||v9;bif v6 then bif v6 then bif v6 then bif v3||v4 then bif v10 then bif v10 then bif v10 then bif v5||v7 then bif v11 then bif v11 then bif v11 then bif v8 || v9 then bif bif v8 then true else decide ((↑x0.2.length:Int)>6) then some false else lp (Int×PUnit) Bool (fun (again:Int×PUnit->Option Bool) (x:Int × PUnit)=>bif decide (x.1<(↑x0.1.length:Int)) then bif inB x.1 x0.1.length then af (kH (x0.1.getD x.1.toNat ({ data:={ toList := [] } },0)).1) fun (t:Bool) =>
 let v15:Bool:=!t;
 let v16:Bool:=!v15;
 let v17:Bool:=!v16||v16;
 let v18:Bool:=v17&&v17;bif v17 then bif v18 then af (bif v16 then eC x0 (x0.1.getD x.1.toNat ({ data:={ toList:=[] } },0)).1 else some 0) fun (t:Int) =>
 let v20:Bool:=bif v15 then true else !decide (t=x.1);
 let v21:Bool:=!v20;
 let v22:Bool:=!v21||v21;
 let v23:Bool:=bif v20 then true else decide ((x0.1.getD x.1.toNat ({ data:={ toList:=[] } },0)).2<0);
 let v24:Bool:=!v23;
 let v25:Bool:=!v24||v24;bif v18 then bif v15||v16 then bif v22 then bif v22 then bif v20||v21 then bif v25 then bif v25 then bif v23||v24 then bif bif v23 then true else decide ((x0.1.getD x.1.toNat ({ data:={ toList:=[] } },0)).2>16777216) then some false else again (IntKind.wrap .i64 (x.1+1), PUnit.unit) else none else none else none else none else none else none else none else none else none else none else none else lp (Int×Int×PUnit) Bool (fun (again:Int×Int × PUnit->Option Bool) (x:Int×Int×PUnit) =>
 let v16:Int×PUnit:=(IntKind.wrap .i64 (x.2.1+1),PUnit.unit);
 let v17:ByteArray×List (ByteArray×Int×Int×Int)×Bool:=x0.2.getD x.2.1.toNat ({ data:={ toList:=[] } },[],false);bif decide (x.2.1<(↑x0.2.length:Int)) then bif inB x.2.1 x0.2.length then af (kH v17.1) fun (t:Bool) =>
 let v19:Bool:=!t;
 let v20:Bool:=!v19;
 let v21:Bool:=!v20||v20;
 let v22:Bool:=v21&&v21;bif v21 then bif v22 then af (bif v20 then cP x0 v17.1 else some 0) fun (t:Int) =>
 let v24:Bool:=bif v19 then true else !decide (t=x.2.1);
 let v25:Bool:=!v24;
 let v26:Bool:=!v25||v25;bif v22 then bif v19||v20 then bif v26 then bif v26&&v26 then af (bif v25 then eC x0 v17.1 else some 0) fun (t:Int) =>
 let v28:Bool:=bif v24 then true else decide (t>=0);
 let v29:Bool:=!v28;
 let v30:Bool:=!v29||v29;bif v26 then bif v24||v25 then bif v30&&v30 then af (bif v29 then qd x0 v17 else some false) fun (t:Bool)=>bif v30 then bif v28||v29 then bif bif v28 then true else !t then some false else bif v17.2.2 then again (IntKind.wrap .i64 (x.1+1),v16) else again (x.1,v16) else none else none else none else none else none else none else none else none else none else none else none else none else some (decide (x.1<=1))) (0,0,PUnit.unit)) (0, PUnit.unit) else none else none else none else none else none else none else none else none else none else none else none else none
def cb (x0:(List (ByteArray×Int))×List (ByteArray×(List (ByteArray×Int×Int×Int))×Bool)):Option Bool:=wl lpK jnK cP kH eC qd x0
abbrev t13:=((List (ByteArray×Int))×List (ByteArray×(List (ByteArray×Int×Int×Int))×Bool))->Option (Bool)
def k13 (cb:t13):Ctr:=⟨[T25],[],[],.one .bool,fun x _ _=>cb x.1⟩
def yD (lp:Lp) (_:Jn) (x0:(List Int)×List ((List Int)×Int×Int)) (x1:(List Int)×List ((List Int)×Int×Int)):Option Bool :=
 
 let v4:Bool:=!decide ((↑x0.1.length:Int)=(↑x1.1.length:Int));
 let v5:Bool:=!v4;
 let v6:Bool:=!v5||v5;bif v6 then bif v6 then bif v6 then bif v6 then bif v6&&v6 then bif v4||v5 then bif bif v4 then true else !decide ((↑x0.2.length:Int) = (↑x1.2.length:Int)) then some false else lp (Int×PUnit) Bool (fun (again:Int×PUnit->Option Bool) (x:Int×PUnit)=>bif decide (x.1<(↑x0.1.length : Int)) then bif inB x.1 x0.1.length then bif inB x.1 x1.1.length then bif !decide (x0.1.getD x.1.toNat 0=x1.1.getD x.1.toNat 0) then some false else again (IntKind.wrap .i64 (x.1+1),PUnit.unit) else none else none else lp (Int×PUnit) Bool (fun (again:Int×PUnit->Option Bool) (x:Int×PUnit) =>
 let v11:Bool:=!decide ((x0.2.getD x.1.toNat ([],0,0)).2.1=(x1.2.getD x.1.toNat ([],0,0)).2.1);
 let v12:Bool:=!v11;
 let v13:Bool:=bif v11 then true else !decide ((x0.2.getD x.1.toNat ([],0,0)).2.2=(x1.2.getD x.1.toNat ([],0,(0 : Int))).2.2);
 let v14:Bool:=!v12||v12;
 let v15:Bool:=!v13;
 let v16:Bool:=!v15||v15;bif decide (x.1<(↑x0.2.length:Int)) then bif inB x.1 x0.2.length then bif inB x.1 x1.2.length then bif v14 then bif v14 then bif v14&&v14 then bif v11||v12 then bif v16 then bif v16 then bif v16 then bif v16 then bif v16&&v16 then bif v13||v15 then bif bif v13 then true else !decide ((↑(List.length (x0.2.getD x.1.toNat ([],0,0)).1):Int)=(↑(List.length (x1.2.getD x.1.toNat ([],0,0)).1):Int)) then some false else lp (Int×PUnit) Bool (fun (again_1:Int×PUnit->Option Bool) (x_1:Int×PUnit)=>bif decide (x_1.1<(↑(List.length (x0.2.getD x.1.toNat ([],0,0)).1):Int)) then bif inB x_1.1 (List.length (x0.2.getD x.1.toNat ([],0,0)).1) then bif inB x_1.1 (List.length (x1.2.getD x.1.toNat ([],0,0)).1) then bif !decide (List.getD (x0.2.getD x.1.toNat ([],0,0)).1 x_1.1.toNat 0=List.getD (x1.2.getD x.1.toNat ([],0,0)).1 x_1.1.toNat 0) then some false else again_1 (IntKind.wrap .i64 (x_1.1 + 1),PUnit.unit) else none else none else again (IntKind.wrap .i64 (x.1+1),PUnit.unit)) (0,PUnit.unit) else none else none else none else none else none else none else none else none else none else none else none else none else some true) (0,PUnit.unit)) (0,PUnit.unit) else none else none else none else none else none else none
def iA (x0:(List Int)×List ((List Int)×Int×Int)) (x1:(List Int)×List ((List Int)×Int×Int)):Option Bool:=yD lpK jnK x0 x1
abbrev t14:=((List Int)×List ((List Int)×Int×Int))->((List Int)×List ((List Int)×Int×Int))->Option (Bool)
def yd (lp:Lp) (_:Jn) (x0:ByteArray×(List (ByteArray×Int×Int×Int))×Bool) (x1:ByteArray):Option Int :=
 lp (Int×Int×PUnit) Int (fun (again:Int×Int×PUnit->Option Int) (x:Int×Int×PUnit) =>
 let v6:Int×PUnit:=(IntKind.wrap .i64 (x.2.1+1),PUnit.unit);
 let v7:Bool:=inB x.2.1 x0.2.1.length;
 let v8:ByteArray×Int×Int×Int:=x0.2.1.getD x.2.1.toNat ({ data:={ toList:=[] } },0,0,0);bif decide (x.2.1<(↑x0.2.1.length:Int)) then bif v7 then bif List.beq (ByteArray.toList v8.1) (ByteArray.toList x1) then bif v7 then again (IntKind.wrap .i64 (x.1+v8.2.1),v6) else none else again (x.1,v6) else none else some x.1) (0,0,PUnit.unit)
def qr (x0:ByteArray×(List (ByteArray×Int×Int×Int))×Bool) (x1:ByteArray):Option Int:=yd lpK jnK x0 x1
abbrev Rz:=(ByteArray×(List (ByteArray×Int×Int×Int))×Bool)->(ByteArray)->Option (Int)
def uD (lp:Lp) (_:Jn) (qr:Rz) (x0:(List (ByteArray×Int))×List (ByteArray×(List (ByteArray×Int×Int×Int))×Bool)):Option (List (List Int)) :=
 lp ((List Nat×List (Option (List Int)))×Int×PUnit) (List (List Int)) (fun (again:(List Nat×List (Option (List Int)))×Int×PUnit->Option (List (List Int))) (x:(List Nat × List (Option (List Int)))×Int×PUnit)=>bif decide (x.2.1<(↑x0.1.length:Int)) then lp (List Int×Int×PUnit) (List (List Int)) (fun (again_1:List Int×Int × PUnit->Option (List (List Int))) (x_1:List Int×Int×PUnit)=>bif decide (x_1.2.1<(↑x0.2.length:Int)) then bif inB x_1.2.1 x0.2.length then bif inB x.2.1 x0.1.length then af (qr (x0.2.getD x_1.2.1.toNat ({ data:={ toList:=[] } },[],false)) (x0.1.getD x.2.1.toNat ({ data:={ toList:=[] } },0)).1) fun (t:Int)=>bif dx (List.length x_1.1+1) 8 then again_1 (x_1.1++[t],IntKind.wrap .i64 (x_1.2.1 + 1),PUnit.unit) else none else none else none else bif dx (List.length x.1.1+1) 24 then again ((x.1.1++[List.length x.1.2+0], x.1.2++[some x_1.1]),IntKind.wrap .i64 (x.2.1+1),PUnit.unit) else none) ([],0,PUnit.unit) else bif List.all x.1.1 fun (x_1:Nat)=>eJ x.1.2 x_1 then some (List.map (fun (x_1:Nat)=>ah x.1.2 x_1) x.1.1) else none) (([],[]),0,PUnit.unit)
def mV (x0:(List (ByteArray×Int))×List (ByteArray×(List (ByteArray×Int×Int×Int))×Bool)):Option (List (List Int)):=uD lpK jnK qr x0
abbrev t51:=((List (ByteArray×Int))×List (ByteArray×(List (ByteArray×Int×Int×Int))×Bool))->Option (List (List Int))
def tP (lp:Lp) (_:Jn) (mV:t51) (x0:(List (ByteArray×Int))×List (ByteArray×(List (ByteArray×Int×Int×Int))×Bool)) (x1:List Int):Option ((List Int)×List ((List Int)×Int×Int)) :=
 af (mV x0) fun (t:List (List Int))=>lp (Int×List Int×List (List Int×Int×Int)×PUnit) (List Int×List (List Int×Int×Int)) (fun (again:Int×List Int×List (List Int×Int×Int)×PUnit->Option (List Int×List (List Int×Int×Int))) (x:Int×List Int×List (List Int×Int×Int)×PUnit)=>bif decide (x.1<(↑x0.1.length:Int)) then bif inB x.1 t.length then bif inB x.1 x0.1.length then bif dx (List.length x.2.2.1+1) 40 then again (IntKind.wrap IntKind.i64 (x.1+1),x.2.1,x.2.2.1++[(t.getD x.1.toNat [],3,(x0.1.getD x.1.toNat ({ data:={ toList:=[] } },(0 : Int))).2)],PUnit.unit) else none else none else none else some (x.2.1,x.2.2.1)) (0,x1,[],PUnit.unit)
def aM (x0:(List (ByteArray×Int))×List (ByteArray×(List (ByteArray×Int×Int×Int))×Bool)) (x1:List Int):Option ((List Int)×List ((List Int)×Int×Int)):=tP lpK jnK mV x0 x1
abbrev t15:=((List (ByteArray×Int))×List (ByteArray×(List (ByteArray×Int×Int×Int))×Bool))->(List Int)->Option ((List Int)×List ((List Int)×Int×Int))
def k15 (aM:t15):Ctr:=⟨[T25,(.sl i64)],[],[],.one T32,fun x _ _=>aM x.1 x.2.1⟩
def xR (lp:Lp) (_:Jn) (x0:(List (ByteArray×Int))×List (ByteArray×(List (ByteArray×Int×Int×Int))×Bool)):Option (List Int) :=
 lp (List Int×Int×PUnit) (List Int) (fun (again:List Int×Int×PUnit->Option (List Int)) (x:List Int×Int×PUnit)=>bif decide (x.2.1<(↑x0.2.length:Int)) then bif dx (List.length x.1+1) 8 then again (x.1++[1],IntKind.wrap .i64 (x.2.1+1),PUnit.unit) else none else some x.1) ([],(0 : Int),PUnit.unit)
def cn (x0:(List (ByteArray×Int))×List (ByteArray×(List (ByteArray×Int×Int×Int))×Bool)):Option (List Int):=xR lpK jnK x0
abbrev t16:=((List (ByteArray×Int))×List (ByteArray×(List (ByteArray×Int×Int×Int))×Bool))->Option (List Int)
def k16 (cn:t16):Ctr:=⟨[T25],[],[],.one (.sl i64),fun x _ _=>cn x.1⟩
def zJ (lp:Lp) (_:Jn) (iK:t52) (x0:List (Int×Int)):Option Bool :=
 lp (Int×PUnit) Bool (fun (again:Int×PUnit->Option Bool) (x:Int×PUnit)=>bif decide (x.1<(↑x0.length:Int)) then bif inB x.1 x0.length then af (iK (x0.getD x.1.toNat (0,0))) fun (t:Bool)=>bif !t then some false else again (IntKind.wrap .i64 (x.1+1),PUnit.unit) else none else some true) (0,PUnit.unit)
def ld (x0:List (Int×Int)):Option Bool:=zJ lpK jnK iK x0
abbrev t17:=(List (Int×Int))->Option (Bool)
def Bo (lp:Lp) (_:Jn) (eD:KI) (eg:Nh) (x0:Int×Int) (x1:Int×Int):Option ((Int×Int)×(Int×Int)×Unit) :=
 
 let v4:Bool:=nzB x1.2;
 let v5:Int:=2 ^ 63;
 let v6:Int:=2 ^ 1;
 let v7:Bool:=decide (x0.1=0);
 let v8:Bool:=decide ((0:Int)<=63);
 let v9:Bool:=decide ((0:Int)<=1);
 let v10:Bool:=!v7||v7;bif v10 then bif v10 then bif v10 then bif bif v7 then decide (x1.1=0) else false then bif v4 then bif v4 then some ((0,IntKind.wrap IntKind.u64 (Int.tdiv x0.2 x1.2)),(0,Int.tmod x0.2 x1.2),PUnit.unit) else none else none else lp (Int×(Int×Int)×(Int×Int)×(Int×Int)×PUnit) ((Int×Int) × (Int×Int)×PUnit) (fun (again:Int×(Int×Int)×(Int×Int)×(Int×Int)×PUnit->Option ((Int×Int)×(Int×Int)×PUnit)) (x:Int×(Int×Int)×(Int×Int)×(Int × Int)×PUnit) =>
 let v13:Int:=IntKind.wrap .i64 (x.1+1);
 let v14:Int:=IntKind.wrap .u64 (x.2.2.1.2*v6);
 let v15:Int:=IntKind.wrap .u64 (IntKind.wrap .u64 (x.2.2.1.1*v6)+Int.fdiv x.2.2.1.2 v5);
 let v16:Bool:=decide (Int.fdiv x.2.2.2.1.1 v5>0);
 let v17:Bool:=!v16;
 let v18:Int×Int:=(IntKind.wrap .u64 (IntKind.wrap .u64 (x.2.1.1*v6)+Int.fdiv x.2.1.2 v5),IntKind.wrap .u64 (x.2.1.2*v6));
 let v19:Int×Int:=(IntKind.wrap .u64 (IntKind.wrap .u64 (x.2.2.2.1.1*v6)+Int.fdiv x.2.2.2.1.2 v5),IntKind.wrap .u64 (IntKind.wrap IntKind.u64 (x.2.2.2.1.2*v6)+Int.fdiv x.2.1.1 v5));
 let v20:Bool:=!v17||v17;bif decide (x.1<128) then bif v8 then bif v9 then bif v8 then bif v9 then bif v8 then bif v9 then bif v8 then bif v9 then bif v9 then bif v8 then bif v9 then bif v20&&v20 then af (bif v17 then eD v19 x1 else some false) fun (t:Bool)=>bif v20 then bif v16||v17 then bif bif v16 then true else !t then af (eg v19 x1) fun (t:Int×Int)=>again (v13,v18,(v15,IntKind.wrap .u64 (v14+1)),t,PUnit.unit) else again (v13,v18,(v15,v14),v19,PUnit.unit) else none else none else none else none else none else none else none else none else none else none else none else none else none else none else some (x.2.2.1,x.2.2.2.1, PUnit.unit)) (0,x0,(0,0),(0,0),PUnit.unit) else none else none else none
def pE (x0:Int×Int) (x1:Int×Int):Option ((Int×Int)×(Int×Int)×Unit):=Bo lpK jnK eD eg x0 x1
abbrev Rr:=(Int×Int)->(Int×Int)->Option ((Int×Int)×(Int×Int)×Unit)
def zg (_:Lp) (_:Jn) (kU:PB) (pE:Rr) (x0:Int×Int) (x1:Bool) (x2:Int×Int):Option ((Int×Int)×Int×Unit) :=
 bif decide (x2.1=0)&&(decide (x2.2=0)&&true) then some ((0,0),16,PUnit.unit) else af (kU x0 x2) fun (t:Int×Int)=>af (pE x0 t) fun (t_1:(Int×Int)×(Int×Int)×PUnit) =>
 let v7:Int:=IntKind.wrap .i64 t_1.1.2;
 let v8:Bool:=decide (t_1.1.1>0);
 let v9:Bool:=!v8;
 let v10:Bool:=bif v8 then true else decide (t_1.1.2>1152921504606846976);
 let v11:Bool:=!v9||v9;
 let v12:Bool:=!v10;
 let v13:Bool:=!v12||v12;af (pE x2 t) fun (t:(Int×Int)×(Int×Int)×PUnit) =>
 let v15:Int:=IntKind.wrap .i64 t.1.2;
 let v16:Bool:=bif v10 then true else decide (t.1.1>0);
 let v17:Bool:=!v16;
 let v18:Bool:=!v17||v17;bif v11 then bif v11 then bif v8||v9 then bif v13 then bif v13 then bif v10||v12 then bif v18 then bif v18 then bif v16||v17 then bif bif v16 then true else decide (t.1.2>1152921504606846976) then some ((0,0),5,PUnit.unit) else bif x1 then some ((IntKind.wrap .i64 (0 - v7), v15),0,PUnit.unit) else some ((v7,v15),0,PUnit.unit) else none else none else none else none else none else none else none else none else none
def eW (x0:Int×Int) (x1:Bool) (x2:Int×Int):Option ((Int×Int)×Int×Unit):=zg lpK jnK kU pE x0 x1 x2
abbrev Nb:=(Int×Int)->(Bool)->(Int×Int)->Option ((Int×Int)×Int×Unit)
def AI (_:Lp) (_:Jn) (x0:Int) (x1:Int):Option (Int×Int) :=
 
 let v4:Int:=2 ^ 32;
 let v5:Int:=Int.fdiv x0 v4;
 let v6:Int:=Int.fdiv x1 v4;
 let v7:Bool:=decide ((0:Int)<=32);
 let v8:Int:=IntKind.wrap .u64 (↑(Nat.land (Int.toNat (x1 % Int.ofNat 18446744073709551616)) (Int.toNat (4294967295 % Int.ofNat 18446744073709551616))) : Int);
 let v9:Int:=IntKind.wrap .u64 (↑(Nat.land (Int.toNat (x0 % Int.ofNat 18446744073709551616)) (Int.toNat (4294967295 % Int.ofNat 18446744073709551616))) : Int);
 let v10:Int:=IntKind.wrap .u64 (v9*v8);
 let v11:Int:=IntKind.wrap .u64 (IntKind.wrap .u64 (v5*v8)+Int.fdiv v10 v4);
 let v12:Int:=IntKind.wrap .u64 (IntKind.wrap .u64 (v9*v6)+IntKind.wrap .u64 (↑(Nat.land (Int.toNat (v11 % Int.ofNat 18446744073709551616)) (Int.toNat (4294967295 % Int.ofNat 18446744073709551616))):Int));bif v7 then bif v7 then bif v7 then bif v7 then bif v7 then bif v7 then some (IntKind.wrap .u64 (IntKind.wrap .u64 (IntKind.wrap .u64 (v5*v6)+Int.fdiv v11 v4)+Int.fdiv v12 v4),IntKind.wrap .u64 (IntKind.wrap .u64 (v12*v4)+IntKind.wrap IntKind.u64 (↑(Nat.land (Int.toNat (v10 % Int.ofNat 18446744073709551616)) (Int.toNat (4294967295 % Int.ofNat 18446744073709551616))):Int))) else none else none else none else none else none else none
def eV (x0:Int) (x1:Int):Option (Int×Int):=AI lpK jnK x0 x1
abbrev MN:=(Int)->(Int)->Option (Int×Int)
def wk (_:Lp) (_:Jn) (bw:JE) (eW:Nb) (eV:MN) (x0:Int×Int) (x1:Int×Int):Option ((Int×Int)×Int×Unit) :=
 af (bw x0.1) fun (t:Int)=>af (bw x1.1) fun (t_1:Int)=>af (eV t t_1) fun (t:Int×Int)=>af (bw x0.2) fun (t_2:Int)=>af (bw x1.2) fun (t_3:Int)=>af (eV t_2 t_3) fun (t_4:Int×Int)=>af (eW t (!decide (decide (x0.1<0)=decide (x1.1<0))) t_4) fun (t:(Int×Int)×Int×PUnit)=>some (t.1,t.2.1,PUnit.unit)
def ov (x0:Int×Int) (x1:Int×Int):Option ((Int×Int)×Int×Unit):=wk lpK jnK bw eW eV x0 x1
abbrev Qb:=(Int×Int)->(Int×Int)->Option ((Int×Int)×Int×Unit)
def Bi (_:Lp) (_:Jn) (eD:KI) (eg:Nh) (jt:P2) (bw:JE) (eW:Nb) (eV:MN) (x0:Int×Int) (x1:Int×Int):Option ((Int×Int)×Int×Unit) :=
 
 let v4:Bool:=decide (x0.1<0);af (bw x0.1) fun (t:Int)=>af (bw x1.2) fun (t_1:Int)=>af (eV t t_1) fun (t:Int×Int)=>af (bw x1.1) fun (t_2:Int)=>af (bw x0.2) fun (t_3:Int)=>af (eV t_2 t_3) fun (t_4:Int×Int)=>af (bw x0.2) fun (t_5:Int)=>af (bw x1.2) fun (t_6:Int)=>af (eV t_5 t_6) fun (t_7:Int×Int)=>bif decide (v4=decide (x1.1<0)) then af (jt t t_4) fun (t:Int×Int) =>af (eW t v4 t_7) fun (t:(Int×Int)×Int×PUnit)=>some (t.1,t.2.1,PUnit.unit) else af (eD t t_4) fun (t_8:Bool)=>bif t_8 then af (eg t_4 t) fun (t:Int×Int)=>af (eW t (decide (x1.1<0)) t_7) fun (t:(Int×Int)×Int×PUnit)=>some (t.1,t.2.1,PUnit.unit) else af (eg t t_4) fun (t:Int×Int)=>af (eW t v4 t_7) fun (t:(Int×Int)×Int×PUnit)=>some (t.1,t.2.1,PUnit.unit)
def sH (x0:Int×Int) (x1:Int×Int):Option ((Int×Int)×Int×Unit):=Bi lpK jnK eD eg jt bw eW eV x0 x1
abbrev QX:=(Int×Int)->(Int×Int)->Option ((Int×Int)×Int×Unit)
def Av (lp:Lp) (_:Jn) (eK:t73) (ov:Qb) (sH:QX) (x0:List Int) (x1:List (Int×Int)):Option ((Int×Int)×Int×Unit) :=
 af (eK 0) fun (t:Int×Int)=>lp (Int×(Int×Int)×(Int×Int)×PUnit) ((Int×Int)×Int×PUnit) (fun (again:Int×(Int×Int)×(Int×Int)×PUnit->Option ((Int×Int)×Int×PUnit)) (x:Int×(Int×Int)×(Int×Int)×PUnit)=>bif decide (x.1<(↑x0.length:Int)) then bif inB x.1 x0.length then af (eK (x0.getD x.1.toNat 0)) fun (t:Int×Int)=>bif inB x.1 x1.length then af (ov t (x1.getD x.1.toNat (0,0))) fun (t:(Int×Int)×Int×PUnit)=>bif !decide (t.2.1=0) then some ((0,0),t.2.1,PUnit.unit) else af (sH x.2.2.1 t.1) fun (t:(Int × Int)×Int×PUnit)=>bif !decide (t.2.1=0) then some ((0,0),t.2.1,PUnit.unit) else again (IntKind.wrap .i64 (x.1+1), x.2.1,t.1,PUnit.unit) else none else none else some (x.2.2.1,0,PUnit.unit)) (0,(0,0),t,PUnit.unit)
def li (x0:List Int) (x1:List (Int×Int)):Option ((Int×Int)×Int×Unit):=Av lpK jnK eK ov sH x0 x1
abbrev t54:=(List Int)->(List (Int×Int))->Option ((Int×Int)×Int×Unit)
def uA (lp:Lp) (_:Jn) (x0:(List Int)×List ((List Int)×Int×Int)) (x1:Int):Option (List Int) :=
 lp (List Int×Int×PUnit) (List Int) (fun (again:List Int×Int×PUnit->Option (List Int)) (x:List Int×Int×PUnit)=>bif decide (x.2.1<(↑x0.2.length:Int)) then bif inB x.2.1 x0.2.length then bif inB x1 (List.length (x0.2.getD x.2.1.toNat ([],0,0)).1) then bif dx (List.length x.1+(1 : Nat)) 8 then again (x.1++[List.getD (x0.2.getD x.2.1.toNat ([],0,0)).1 x1.toNat 0],IntKind.wrap .i64 (x.2.1 + 1),PUnit.unit) else none else none else none else some x.1) ([],0,PUnit.unit)
def np (x0:(List Int)×List ((List Int)×Int×Int)) (x1:Int):Option (List Int):=uA lpK jnK x0 x1
abbrev Rn:=((List Int)×List ((List Int)×Int×Int))->(Int)->Option (List Int)
def zS (_:Lp) (_:Jn) (eD:KI) (bw:JE) (eV:MN) (x0:Int×Int) (x1:Int×Int):Option Int :=
 
 let v4:Bool:=decide (x0.1<0);
 let v5:Bool:=decide (x0.1>=0);
 let v6:Bool:=!v4||v4;
 let v7:Bool:=!v5||v5;af (bw x0.1) fun (t:Int)=>af (bw x1.2) fun (t_1:Int)=>af (eV t t_1) fun (t:Int×Int)=>af (bw x1.1) fun (t_2:Int)=>af (bw x0.2) fun (t_3:Int)=>af (eV t_2 t_3) fun (t_4:Int×Int)=>bif v6 then bif v6 then bif v6 then bif bif v4 then decide (x1.1>=0) else false then some (-1) else bif v7 then bif v7 then bif v7 then bif bif v5 then decide (x1.1<0) else false then some 1 else bif decide (t.1=t_4.1)&&(decide (t.2=t_4.2)&&true) then some 0 else af (eD t t_4) fun (t:Bool)=>bif decide (t=v5) then some (-1) else some 1 else none else none else none else none else none else none
def kZ (x0:Int×Int) (x1:Int×Int):Option Int:=zS lpK jnK eD bw eV x0 x1
abbrev PS:=(Int×Int)->(Int×Int)->Option (Int)
def wo (lp:Lp) (_:Jn) (eK:t73) (li:t54) (np:Rn) (kZ:PS) (x0:(List Int)×List ((List Int)×Int×Int)) (x1:List (Int×Int)) (x2:List Int):Option (Bool×Int×Unit) :=
 lp (Bool×Int×PUnit) (Bool×Int×PUnit) (fun (again:Bool×Int×PUnit->Option (Bool×Int×PUnit)) (x:Bool×Int×PUnit) =>
 let v7:Bool:=!x.1;
 let v8:Bool:=v7||x.1;bif decide (x.2.1<(↑x2.length:Int)) then af (np x0 x.2.1) fun (t:List Int)=>af (li t x1) fun (t:(Int×Int) × Int×PUnit)=>bif !decide (t.2.1=0) then some (false,t.2.1,PUnit.unit) else bif v8&&(v8&&(v7||inB x.2.1 x2.length)) then bif v8 then bif v8 then af (bif x.1 then eK (x2.getD x.2.1.toNat 0) else some (0,0)) fun (t_1:Int×Int)=>bif v8&&v8 then af (bif x.1 then kZ t.1 t_1 else some 0) fun (t:Int)=>bif v8 then bif v8 then again (bif x.1 then decide (t<=0) else false,IntKind.wrap .i64 (x.2.1+(1 : Int)),PUnit.unit) else none else none else none else none else none else none else some (x.1,0,PUnit.unit)) (true,0,PUnit.unit)
def ox (x0:(List Int)×List ((List Int)×Int×Int)) (x1:List (Int×Int)) (x2:List Int):Option (Bool×Int×Unit):=wo lpK jnK eK li np kZ x0 x1 x2
abbrev t53:=((List Int)×List ((List Int)×Int×Int))->(List (Int×Int))->(List Int)->Option (Bool×Int×Unit)
end
end Go.Proofs.YtfknoaclabfdlaaGreat
