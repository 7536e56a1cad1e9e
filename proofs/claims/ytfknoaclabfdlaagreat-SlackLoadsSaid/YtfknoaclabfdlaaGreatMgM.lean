/- r15: the shapes of its types, and the places of its loops. r15: what its functions answer (printed by a program), and that they do. r15: what its functions answer (printed by a program), and that they do; part 2. -/
import Derived.Test.YtfknoaclabfdlaaGreatProg
import Derived.KernelRfl
import Derived.Test.YtfknoaclabfdlaaGreatMgL

namespace Go.Proofs.YtfknoaclabfdlaaGreat
open Tryz Dn Dn.Sh
abbrev i64:Sh:=.int .i64
abbrev T66:Sh:=.agg (.pair .str i64)
abbrev T49:Sh:=.agg (.pair i64 i64)
abbrev L2:Sh:=.agg (.pair .str (.pair i64 T49))
abbrev T75:Sh:=.agg (.pair .str (.pair (.sl L2) .bool))
abbrev T25:Sh:=.agg (.pair (.sl T66) (.sl T75))
abbrev T86:Sh:=.agg (.pair (.sl i64) (.pair i64 i64))
abbrev T32:Sh:=.agg (.pair (.sl i64) (.sl T86))
abbrev T96:Sh:=.agg (.pair T49 (.pair (.sl T49) (.sl T49)))
abbrev mJ:Sh:=.agg (.pair (.int .u64) (.int .u64))
abbrev Pa:Sh:=.agg i64
abbrev kB:Sh:=.agg (.pair (.int .u64) (.int .u64))
abbrev FZ:Sh:=.agg (.pair (.sl (.sl i64)) (.pair i64 (.pair (.sl i64) (.pair (.sl i64) (.pair (.sl i64) (.pair i64 i64))))))
abbrev su:Sh:=.agg (.pair .bool (.pair (.int .u64) (.int .u64)))
def shs:TypeId->Option Sh
 | 3=>some i64
 | 4=>some .bool
 | 5=>some (.int .u8)
 | 9=>some .str
 | 29=>some (.sl i64)
 | 49=>some T49
 | 66=>some T66
 | 75=>some T75
 | 86=>some T86
 | 134=>some L2
 | _=>none
def Lh:Nat->Option Hd
 | 2=>some ⟨[(3,false,[.d i64])],[],[]⟩
 | _=>none
def Jh:Nat->Option Hd
 | 2=>some ⟨[(8,false,[.d i64])],[],[]⟩
 | _=>none
def NM:Nat->Option Hd
 | 1=>some ⟨[(0,false,[.d (.int .u64)]),(1,false,[.d (.int .u64)])],[],[]⟩
 | _=>none
def Ju:Nat->Option Hd
 | 5=>some ⟨[(17,false,[.d i64])],[],[]⟩
 | _=>none
def Nv:Nat->Option Hd
 | 6=>some ⟨[(27,false,[.d i64])],[],[(3,some 0,.x (.map 158 .str .bool))]⟩
 | 13=>some ⟨[(7,false,[.d i64]),(46,false,[.d i64])],[],[(3,some 0,.x (.map 158 .str .bool))]⟩
 | _=>none
def NN:Nat->Option Hd
 | 5=>some ⟨[(20,false,[.d i64])],[],[(4,none,.x (.tab 29 .ref 3 i64))]⟩
 | 10=>some ⟨[(34,false,[.d i64])],[],[(4,none,.x (.tab 29 .ref 3 i64))]⟩
 | 13=>some ⟨[(42,false,[.d i64])],[],[(4,none,.x (.tab 29 .ref 3 i64))]⟩
 | _=>none
def L5:Nat->Option Hd
 | 5=>some ⟨[(4,false,[.row 3 i64]),(13,false,[.d i64])],[],[]⟩
 | _=>none
def M8:Nat->Option Hd
 | 9=>some ⟨[(34,false,[.d i64])],[(9,[.d (.sl i64),.row 86 T86])],[]⟩
 | _=>none
def Mf:Nat->Option Hd
 | 8=>some ⟨[(8,false,[.d i64])],[],[(7,none,.row 3 i64)]⟩
 | _=>none
def M0:Nat->Option Hd
 | 1000002=>some ⟨[],[],[]⟩
 | 1000005=>some ⟨[],[],[]⟩
 | _=>none
def IR:Nat->Option Hd
 | 2=>some ⟨[(8,false,[.d i64])],[],[]⟩
 | _=>none
def Jb:Nat->Option Hd
 | 2=>some ⟨[(8,false,[.d i64])],[],[]⟩
 | _=>none
def Ma:Nat->Option Hd
 | 2=>some ⟨[(8,false,[.d i64])],[],[]⟩
 | _=>none
def J1:Nat->Option Hd
 | 1000002=>some ⟨[(0,false,[.d (.int .u64)]),(2,false,[.d i64])],[],[]⟩
 | 1000005=>some ⟨[(0,false,[.d (.int .u64)]),(2,false,[.d i64])],[],[]⟩
 | _=>none
def Iw:Nat->Option Hd
 | 17=>some ⟨[(15,false,[.d (.int .u64)]),(16,false,[.d (.int .u64)])],[],[]⟩
 | 24=>some ⟨[(16,false,[.d (.int .u64)]),(18,false,[.d (.int .u64)])],[],[]⟩
 | _=>none
def JV:Nat->Option Hd
 | 0=>some ⟨[(15,false,[.d (.int .u64)])],[],[]⟩
 | 2=>some ⟨[(18,false,[.d (.int .u64)])],[],[]⟩
 | 1000002=>some ⟨[],[],[]⟩
 | 1000004=>some ⟨[],[],[]⟩
 | _=>none
def NU:Nat->Option Hd
 | 1000008=>some ⟨[(9,false,[.d .bool])],[(10,[.d mJ])],[]⟩
 | 1000010=>some ⟨[(9,false,[.d .bool])],[(10,[.d mJ])],[]⟩
 | _=>none
def MZ:Nat->Option Hd
 | 3=>some ⟨[(15,false,[.d i64])],[(0,[.d Pa]),(6,[.d T49]),(7,[.d T49])],[]⟩
 | _=>none
def LY:Nat->Option Hd
 | 1000007=>some ⟨[(11,false,[.d i64])],[(10,[.d T49])],[]⟩
 | _=>none
def Mh:Nat->Option Hd
 | 1000009=>some ⟨[],[(6,[.d mJ]),(7,[.d mJ])],[]⟩
 | _=>none
def JM:Nat->Option Hd
 | 3=>some ⟨[(5,false,[.row 3 i64]),(11,false,[.d i64])],[],[]⟩
 | _=>none
def No:Nat->Option Hd
 | 3=>some ⟨[(9,false,[.d .bool]),(14,false,[.d i64])],[(0,[.d Pa])],[]⟩
 | _=>none
def Oa:Nat->Option Hd
 | 3=>some ⟨[(3,false,[.row 3 i64]),(9,false,[.d i64])],[],[]⟩
 | _=>none
def Me:Nat->Option Hd
 | 2=>some ⟨[(10,false,[.d i64])],[],[]⟩
 | _=>none
def Im:Nat->Option Hd
 | 3=>some ⟨[(5,false,[.d i64]),(14,false,[.d i64])],[],[]⟩
 | _=>none
def Ie:Nat->Option Hd
 | 5=>some ⟨[(3,false,[.d i64]),(4,false,[.d i64])],[],[]⟩
 | _=>none
def IQ:Nat->Option Hd
 | 1000002=>some ⟨[],[],[]⟩
 | _=>none
def HM:Nat->Option Hd
 | 4=>some ⟨[(4,false,[.row 3 i64]),(18,false,[.d i64])],[],[]⟩
 | 10=>some ⟨[(7,false,[.d i64]),(34,false,[.d i64])],[],[]⟩
 | _=>none
def Ll:Nat->Option Hd
 | 4=>some ⟨[(5,false,[.d i64]),(24,false,[.d i64])],[],[]⟩
 | 12=>some ⟨[(9,false,[.d i64]),(51,false,[.d i64])],[(46,[.x (.tab 29 .ref 3 i64),.d i64,.row 3 i64,.row 3 i64,.row 3 i64,.d i64,.d i64])],[]⟩
 | 28=>some ⟨[(95,false,[.d i64])],[],[(12,none,.row 3 i64)]⟩
 | _=>none
def Hy:Nat->Option Hd
 | 1000019=>some ⟨[(9,false,[.d i64])],[],[(12,none,.row 3 i64)]⟩
 | 1000022=>some ⟨[(9,false,[.d i64])],[],[(12,none,.row 3 i64)]⟩
 | 1000026=>some ⟨[(13,false,[.d i64])],[],[(12,none,.row 3 i64)]⟩
 | _=>none
def IV:Nat->Option Hd
 | 3=>some ⟨[(5,false,[.d i64]),(13,false,[.d i64])],[],[]⟩
 | _=>none
def JU:Nat->Option Hd
 | 1000008=>some ⟨[(10,false,[.d .bool])],[(2,[.d su]),(3,[.d su])],[]⟩
 | _=>none
def Lg:Nat->Option Hd
 | 2=>some ⟨[(29,false,[.d i64])],[],[(0,some 0,.x (.tab 29 .ref 3 i64))]⟩
 | 7=>some ⟨[(43,false,[.d i64])],[],[(0,some 0,.x (.tab 29 .ref 3 i64))]⟩
 | 17=>some ⟨[(98,false,[.d i64])],[],[(0,some 0,.x (.tab 29 .ref 3 i64))]⟩
 | 20=>some ⟨[(104,false,[.d i64])],[],[(0,some 0,.x (.tab 29 .ref 3 i64))]⟩
 | _=>none
def KR:Nat->Option Hd
 | 3=>some ⟨[(5,false,[.d i64]),(14,false,[.d i64])],[],[]⟩
 | _=>none
def Ii:Nat->Option Hd
 | 1=>some ⟨[],[(0,[.x (.tab 29 .ref 3 i64),.d i64,.row 3 i64,.row 3 i64,.row 3 i64,.d i64,.d i64])],[]⟩
 | 3=>some ⟨[(3,false,[.d i64]),(4,false,[.d i64])],[],[]⟩
 | 12=>some ⟨[(44,false,[.d i64])],[(0,[.x (.tab 29 .ref 3 i64),.d i64,.row 3 i64,.row 3 i64,.row 3 i64,.d i64,.d i64])],[]⟩
 | 15=>some ⟨[(6,false,[.d i64])],[(0,[.x (.tab 29 .ref 3 i64),.d i64,.row 3 i64,.row 3 i64,.row 3 i64,.d i64,.d i64])],[]⟩
 | _=>none
def JR:Nat->Option Hd
 | 3=>some ⟨[(5,false,[.d i64]),(21,false,[.d i64])],[],[]⟩
 | _=>none
def Jp:Nat->Option Hd
 | 1=>some ⟨[],[(0,[.x (.tab 29 .ref 3 i64),.d i64,.row 3 i64,.row 3 i64,.row 3 i64,.d i64,.d i64])],[]⟩
 | 3=>some ⟨[(3,false,[.d i64]),(4,false,[.d i64])],[],[]⟩
 | _=>none
def Ml:Nat->Option Hd
 | 14=>some ⟨[(6,false,[.d i64]),(43,false,[.d i64])],[],[(7,none,.row 3 i64)]⟩
 | 22=>some ⟨[(94,false,[.d i64])],[(5,[.d T49,.row 49 T49,.row 49 T49])],[]⟩
 | 27=>some ⟨[(110,false,[.d i64])],[(5,[.d T49,.row 49 T49,.row 49 T49])],[]⟩
 | 31=>some ⟨[(13,false,[.d i64]),(118,false,[.d i64])],[],[]⟩
 | _=>none
def ME:Nat->Option Hd
 | 2=>some ⟨[(8,false,[.d i64])],[],[]⟩
 | _=>none
def NI:Nat->Option Hd
 | 5=>some ⟨[(4,false,[.row 9 .str]),(16,false,[.d i64])],[],[]⟩
 | _=>none
def M3:Nat->Option Hd
 | 3=>some ⟨[(11,false,[.d i64])],[(3,[.d (.sl T66),.row 75 T75])],[]⟩
 | _=>none
def NY:Nat->Option Hd
 | 4=>some ⟨[(3,false,[.d i64])],[],[]⟩
 | 9=>some ⟨[(4,false,[.d i64])],[],[]⟩
 | 14=>some ⟨[(5,false,[.d i64])],[],[]⟩
 | _=>none
def Nz:Nat->Option Hd
 | 2=>some ⟨[(5,false,[.d i64])],[],[]⟩
 | _=>none
def MX:Nat->Option Hd
 | 1=>some ⟨[(1,false,[.d i64])],[],[]⟩
 | _=>none
def Np:Nat->Option Hd
 | 2=>some ⟨[(5,false,[.d i64])],[],[]⟩
 | _=>none
def Ln:Nat->Option Hd
 | 4=>some ⟨[(5,false,[.d i64])],[(2,[.d kB]),(3,[.d kB])],[]⟩
 | 6=>some ⟨[],[(2,[.d kB]),(3,[.d kB])],[]⟩
 | 7=>some ⟨[],[(2,[.d kB])],[]⟩
 | 9=>some ⟨[],[(3,[.d kB])],[]⟩
 | 14=>some ⟨[(5,false,[.d i64])],[(3,[.d kB])],[]⟩
 | _=>none
def NF:Nat->Option Hd
 | 4=>some ⟨[(5,false,[.d i64])],[],[]⟩
 | _=>none
def ND:Nat->Option Hd
 | 4=>some ⟨[(3,false,[.d i64])],[],[]⟩
 | 11=>some ⟨[(5,false,[.d i64]),(6,false,[.d i64])],[],[]⟩
 | _=>none
def L6:Nat->Option Hd
 | 4=>some ⟨[(5,false,[.d i64])],[],[]⟩
 | 9=>some ⟨[(6,false,[.d i64])],[],[]⟩
 | 15=>some ⟨[(9,false,[.d i64])],[],[]⟩
 | _=>none
def K2:Nat->Option Hd
 | 3=>some ⟨[(5,false,[.d i64]),(6,false,[.d i64])],[],[]⟩
 | _=>none
def LS:Nat->Option Hd
 | 3=>some ⟨[(3,false,[.x (.tab 29 .ref 3 i64)]),(4,false,[.d i64])],[],[]⟩
 | 7=>some ⟨[(5,false,[.row 3 i64]),(6,false,[.d i64])],[],[]⟩
 | _=>none
def NO:Nat->Option Hd
 | 4=>some ⟨[(7,false,[.d i64])],[(5,[.d (.sl i64),.row 86 T86])],[]⟩
 | _=>none
def M6:Nat->Option Hd
 | 3=>some ⟨[(3,false,[.row 3 i64]),(4,false,[.d i64])],[],[]⟩
 | _=>none
def NC:Nat->Option Hd
 | 2=>some ⟨[(3,false,[.d i64])],[],[]⟩
 | _=>none
def IW:Nat->Option Hd
 | 5=>some ⟨[(8,false,[.d i64])],[(2,[.d kB]),(6,[.d kB]),(7,[.d kB])],[]⟩
 | _=>none
def Oh:Nat->Option Hd
 | 3=>some ⟨[(7,false,[.d i64])],[(4,[.d T49]),(6,[.d T49])],[]⟩
 | _=>none
def H6:Nat->Option Hd
 | 3=>some ⟨[(5,false,[.row 3 i64]),(6,false,[.d i64])],[],[]⟩
 | _=>none
def Md:Nat->Option Hd
 | 3=>some ⟨[(8,false,[.d .bool]),(9,false,[.d i64])],[],[]⟩
 | _=>none
def Nl:Nat->Option Hd
 | 3=>some ⟨[(3,false,[.row 3 i64]),(4,false,[.d i64])],[],[]⟩
 | _=>none
def Oe:Nat->Option Hd
 | 2=>some ⟨[(5,false,[.d i64])],[],[]⟩
 | _=>none
def KE:Nat->Option Hd
 | 3=>some ⟨[(3,false,[.d i64]),(4,false,[.d i64])],[],[]⟩
 | 8=>some ⟨[(5,false,[.row 3 i64]),(6,false,[.d i64])],[],[]⟩
 | 12=>some ⟨[(7,false,[.d i64]),(8,false,[.d i64])],[],[]⟩
 | _=>none
def I9:Nat->Option Hd
 | 3=>some ⟨[(6,false,[.d i64]),(7,false,[.d i64])],[],[]⟩
 | _=>none
def Mr:Nat->Option Hd
 | 5=>some ⟨[(6,false,[.d i64]),(7,false,[.d i64])],[],[]⟩
 | _=>none
def KF:Nat->Option Hd
 | 3=>some ⟨[(8,false,[.d i64])],[],[(3,some 0,.x (.tab 29 .ref 3 i64))]⟩
 | 8=>some ⟨[(10,false,[.d i64])],[],[(3,some 0,.x (.tab 29 .ref 3 i64))]⟩
 | _=>none
def Mi:Nat->Option Hd
 | 2=>some ⟨[],[(1,[.x (.tab 29 .ref 3 i64),.row 3 i64,.d i64,.d i64]),(2,[.x (.tab 29 .ref 3 i64),.row 3 i64,.d i64,.d i64])],[]⟩
 | 3=>some ⟨[(5,false,[.d i64])],[],[]⟩
 | 9=>some ⟨[(6,false,[.d i64]),(8,false,[.d i64])],[],[]⟩
 | _=>none
def Od:Nat->Option Hd
 | 1=>some ⟨[(4,false,[.d i64])],[],[(0,none,.row 3 i64)]⟩
 | _=>none
def Ob:Nat->Option Hd
 | 5=>some ⟨[(7,false,[.d i64])],[(5,[.x (.tab 29 .ref 3 i64),.row 3 i64,.d i64,.d i64])],[(6,none,.row 3 i64)]⟩
 | 16=>some ⟨[(9,false,[.d i64])],[],[(8,none,.row 3 i64)]⟩
 | 20=>some ⟨[(10,false,[.d i64])],[],[(6,none,.row 3 i64)]⟩
 | _=>none
def Oi:Nat->Option Hd
 | 1000010=>some ⟨[],[],[(8,none,.row 3 i64)]⟩
 | 1000012=>some ⟨[],[],[(8,none,.row 3 i64)]⟩
 | 1000015=>some ⟨[],[],[(8,none,.row 3 i64)]⟩
 | _=>none
def MN:Nat->Option Hd
 | 2=>some ⟨[(3,false,[.d i64])],[(1,[.x (.tab 29 .ref 3 i64),.row 3 i64,.d i64,.d i64])],[]⟩
 | 6=>some ⟨[(4,false,[.d i64])],[],[]⟩
 | 11=>some ⟨[(5,false,[.d i64])],[],[(1,some 0,.x (.tab 29 .ref 3 i64))]⟩
 | _=>none
def NV:Nat->Option Hd
 | 9=>some ⟨[(9,false,[.d i64])],[],[(4,some 0,.x (.tab 29 .ref 3 i64))]⟩
 | 13=>some ⟨[(10,false,[.d i64]),(11,false,[.d i64])],[],[]⟩
 | _=>none
def Nj:Nat->Option Hd
 | 7=>some ⟨[(20,false,[.d i64])],[(2,[.d T49]),(4,[.d T49])],[]⟩
 | _=>none
def NT:Nat->Option Hd
 | 3=>some ⟨[(4,false,[.row 9 .str]),(5,false,[.d i64])],[],[]⟩
 | _=>none
def NH:Nat->Option Hd
 | 4=>some ⟨[(13,false,[.d i64])],[],[]⟩
 | _=>none
def Qe:Nat->Option Hd
 | 1000023=>some ⟨[],[],[]⟩
 | _=>none
def Nm:Nat->Option Hd
 | 3=>some ⟨[(4,false,[.d i64])],[(3,[.row 66 T66,.row 75 T75])],[]⟩
 | _=>none
def Pr:Nat->Option Hd
 | 7=>some ⟨[(39,false,[.d i64])],[],[]⟩
 | _=>none
def IA:Nat->Option Hd
 | 1000014=>some ⟨[],[],[]⟩
 | _=>none
def Nf:Nat->Option Hd
 | 10=>some ⟨[(5,false,[.row 49 T49]),(20,false,[.d i64])],[],[]⟩
 | _=>none
def Ni:Nat->Option Hd
 | 7=>some ⟨[(8,false,[.row 49 T49]),(9,false,[.d i64]),(25,false,[.d i64])],[],[]⟩
 | 11=>some ⟨[(31,false,[.d i64])],[(11,[.d T49])],[]⟩
 | _=>none
def L3:Nat->Option Hd
 | 2=>some ⟨[(3,false,[.d i64])],[],[]⟩
 | _=>none
def LQ:Nat->Option Hd
 | 2=>some ⟨[(8,false,[.d i64])],[],[]⟩
 | _=>none
def O3:Nat->Option Hd
 | 25=>some ⟨[(123,false,[.d i64])],[],[]⟩
 | _=>none
def Pz:Nat->Option Hd
 | 1000020=>some ⟨[],[],[]⟩
 | _=>none
def Ku:Nat->Option Hd
 | 2=>some ⟨[(8,false,[.d i64])],[],[]⟩
 | _=>none
def Ks:Nat->Option Hd
 | 1000007=>some ⟨[(12,false,[.d (.int .u64)]),(13,false,[.d (.int .u64)]),(18,false,[.d .bool])],[],[]⟩
 | 1000008=>some ⟨[(12,false,[.d (.int .u64)]),(13,false,[.d (.int .u64)]),(14,false,[.d (.int .u64)]),(15,false,[.d (.int .u64)]),(18,false,[.d .bool])],[],[]⟩
 | _=>none
def Lk:Nat->Option Hd
 | 3=>some ⟨[(20,false,[.d i64])],[(5,[.x (.tab 29 .ref 3 i64),.d i64,.row 3 i64,.row 3 i64,.d .bool])],[]⟩
 | 9=>some ⟨[(40,false,[.d i64])],[(5,[.x (.tab 29 .ref 3 i64),.d i64,.row 3 i64,.row 3 i64,.d .bool])],[]⟩
 | 14=>some ⟨[(10,false,[.d i64]),(11,false,[.d i64])],[],[]⟩
 | 19=>some ⟨[(10,false,[.d i64])],[(5,[.x (.tab 29 .ref 3 i64),.d i64,.row 3 i64,.row 3 i64,.d .bool])],[]⟩
 | 26=>some ⟨[(130,false,[.d i64])],[],[(5,some 0,.x (.tab 29 .ref 3 i64))]⟩
 | 31=>some ⟨[(144,false,[.d i64])],[],[(5,some 0,.x (.tab 29 .ref 3 i64))]⟩
 | _=>none
def M7:Nat->Option Hd
 | 10=>some ⟨[(7,false,[.x (.tab 29 .ref 3 i64)]),(37,false,[.d i64])],[],[]⟩
 | 16=>some ⟨[(64,false,[.d i64])],[],[]⟩
 | 25=>some ⟨[(13,false,[.row 49 T49]),(80,false,[.d i64])],[],[]⟩
 | _=>none
def LK:Nat->Option Hd
 | 4=>some ⟨[(13,false,[.d i64])],[],[]⟩
 | _=>none
def PS:Nat->Option Hd
 | 16=>some ⟨[(9,false,[.row 9 .str]),(59,false,[.d i64])],[],[]⟩
 | _=>none
def P0:Nat->Option Hd
 | 1000019=>some ⟨[(9,false,[.row 9 .str])],[],[]⟩
 | _=>none
def ao:FuncId->Hint
 | 161=>{loop:=Lh}
 | 167=>{loop:=Jh}
 | 75=>{loop:=NM}
 | 117=>{loop:=Ju}
 | 59=>{loop:=Nv}
 | 87=>{loop:=NN}
 | 88=>{loop:=L5}
 | 45=>{loop:=M8}
 | 46=>{loop:=Mf,join:=M0}
 | 173=>{loop:=IR}
 | 174=>{loop:=Jb}
 | 74=>{loop:=Ma}
 | 181=>{join:=J1}
 | 125=>{loop:=Iw,join:=JV}
 | 35=>{join:=NU}
 | 95=>{loop:=MZ,join:=LY}
 | 39=>{join:=Mh}
 | 145=>{loop:=JM}
 | 93=>{loop:=No}
 | 96=>{loop:=Oa}
 | 97=>{loop:=Me}
 | 154=>{loop:=Im}
 | 156=>{loop:=Ie,join:=IQ}
 | 108=>{loop:=HM}
 | 109=>{loop:=Ll,join:=Hy}
 | 126=>{loop:=IV}
 | 176=>{join:=JU}
 | 157=>{loop:=Lg}
 | 158=>{loop:=KR}
 | 110=>{loop:=Ii}
 | 159=>{loop:=JR}
 | 111=>{loop:=Jp}
 | 58=>{loop:=Ml}
 | 60=>{loop:=ME}
 | 21=>{loop:=NI}
 | 43=>{loop:=M3}
 | 44=>{loop:=NY}
 | 22=>{loop:=Nz}
 | 99=>{loop:=MX}
 | 49=>{loop:=Np}
 | 102=>{loop:=Ln}
 | 50=>{loop:=NF}
 | 13=>{loop:=ND}
 | 14=>{loop:=L6}
 | 101=>{loop:=K2}
 | 51=>{loop:=LS}
 | 15=>{loop:=NO}
 | 16=>{loop:=M6}
 | 17=>{loop:=NC}
 | 164=>{loop:=IW}
 | 54=>{loop:=Oh}
 | 104=>{loop:=H6}
 | 53=>{loop:=Md}
 | 55=>{loop:=Nl}
 | 57=>{loop:=Oe}
 | 118=>{loop:=KE}
 | 119=>{loop:=I9}
 | 63=>{loop:=Mr}
 | 120=>{loop:=KF}
 | 66=>{loop:=Mi}
 | 69=>{loop:=Od}
 | 67=>{loop:=Ob,join:=Oi}
 | 68=>{loop:=MN}
 | 26=>{loop:=NV}
 | 27=>{loop:=Nj}
 | 28=>{loop:=NT}
 | 29=>{loop:=NH}
 | 4=>{join:=Qe}
 | 31=>{loop:=Nm}
 | 5=>{loop:=Pr,join:=IA}
 | 83=>{loop:=Nf}
 | 84=>{loop:=Ni}
 | 38=>{loop:=L3}
 | 86=>{loop:=LQ}
 | 7=>{loop:=O3,join:=Pz}
 | 182=>{loop:=Ku}
 | 172=>{join:=Ks}
 | 135=>{loop:=Lk}
 | 89=>{loop:=M7}
 | 42=>{loop:=LK}
 | 8=>{loop:=PS,join:=P0}
 | _=>{}
def D3 (p : String) : Bool := p == "program.go:104" || p == "ref.go:45"
def Ez:TypeId->Option XP
 | 87=>some (.tab 29 .ref 3 i64)
 | 88=>some (.tab 29 .ref 3 i64)
 | _=>none
def xw:List Nat:=[115,174,141,142,93,109,157,110,111,120,66,69,67,68]
def its:List (Nat×ICtr):=[]
theorem Rn:Kl prog its:=GT
end Go.Proofs.YtfknoaclabfdlaaGreat

namespace Go.Proofs.YtfknoaclabfdlaaGreat
noncomputable section
open Tryz Dn Dn.Sh
set_option maxRecDepth 100000
theorem aW:prog.follows .mixedOrders=true:=by kernel_rfl
theorem Pt:Bu prog xw=true:=by kernel_rfl
theorem q0:(kP prog shs xw its [] []).ok:=He Pt Rn
abbrev cx (l) (r):=Co Ez D3 (kP prog shs xw its l r)
def iV (_:Lp) (_:Jn) (x0:List Int):Option (List Int) :=
 bif dR (0+List.length x0) 8 then some x0 else none
def b6 (x0:List Int):Option (List Int):=iV lpK jnK x0
abbrev LO:=(List Int)->Option (List Int)
def RN (b6:LO):RCtr:=⟨[(.sl i64)],3,i64,fun x=>b6 x.1⟩
def bF:RCtr:=RN b6
theorem Te (lp:Lp) (jn:Jn):∀x:TsS bF.as,iV lp jn x.1=GX lp jn (cx [] []) ao 4 134 f134 bF.t bF.e (A3 bF.as x true):=fun x=>by kernel_rfl
theorem PF:bF.ok prog 134:=RCtr.of_den_nil (c:=bF) (au (q0)) aW (hl:=ao) (d:=4) rfl func134 rfl (by decide) (Te lpK jnK) fun x h=>by
 obtain ⟨l,u⟩:=x
 simp only at h
 subst h
 kernel_rfl
theorem bQ:(kP prog shs xw its [] [(134,bF)]).ok:=Hx q0 (by kernel_rfl) PF
def jY (_:Lp) (_:Jn) (x0:Int) (x1:Int) (x2:Int):Option Bool :=
 
 let v5:Bool:=decide (x0>=x1);
 let v6:Bool:=!v5||v5;bif v6&&v6 then bif v6 then some (bif v5 then decide (x0<=x2) else false) else none else none
def br (x0:Int) (x1:Int) (x2:Int):Option Bool:=jY lpK jnK x0 x1 x2
abbrev Jy:=(Int)->(Int)->(Int)->Option (Bool)
def PM (br:Jy):Ctr:=⟨[i64,i64,i64],[],[],.one .bool,fun x _ _=>br x.1 x.2.1 x.2.2.1⟩
def HZ:Ctr:=PM br
theorem TS (lp:Lp) (jn:Jn):∀(x:TsS HZ.as) (F:TsF HZ.fs) (y:TsS HZ.cs),jY lp jn x.1 x.2.1 x.2.2.1=cb lp jn (cx [] [(134,bF)]) ao 4 114 f114 HZ x F y:=fun x F y=>by kernel_rfl
theorem Oz:HZ.ok prog 114:=Ctr.of_den (au (bQ)) aW (hl:=ao) (d:=4) func114 rfl (by decide) (TS lpK jnK)
def j9 (_:Lp) (_:Jn) (x0:Int):Option Bool :=
 
 let v3:Bool:=decide (x0>=97);
 let v4:Bool:=decide (x0>=65);
 let v5:Bool:=!v3||v3;
 let v6:Bool:=bif v3 then decide (x0<=122) else false;
 let v7:Bool:=!v6;
 let v8:Bool:=!v7;
 let v9:Bool:=v7&&v4;
 let v10:Bool:=v8||v7;bif v5 then bif v5 then bif v10 then bif v10 then bif !v9||v9 then bif (v8||v10)&&(v8||(!v4||(v8||v9))) then bif v6||v7 then some (bif v6 then true else bif v4 then decide (x0<=90) else false) else none else none else none else none else none else none else none
def bu (x0:Int):Option Bool:=j9 lpK jnK x0
abbrev J5:=(Int)->Option (Bool)
def Qo (bu:J5):Ctr:=⟨[(.int .u8)],[],[],.one .bool,fun x _ _=>bu x.1⟩
def J6:Ctr:=Qo bu
theorem Tw (lp:Lp) (jn:Jn):∀(x:TsS J6.as) (F:TsF J6.fs) (y:TsS J6.cs),j9 lp jn x.1=cb lp jn (cx [] [(134,bF)]) ao 4 160 f160 J6 x F y:=fun x F y=>by kernel_rfl
theorem OG:J6.ok prog 160:=Ctr.of_den (au (bQ)) aW (hl:=ao) (d:=4) func160 rfl (by decide) (Tw lpK jnK)
def kF (_:Lp) (_:Jn) (x0:Int):Option Bool :=
 
 let v3:Bool:=decide (x0>=48);
 let v4:Bool:=!v3||v3;bif v4 then bif v4 then some (bif v3 then decide (x0<=57) else false) else none else none
def dH (x0:Int):Option Bool:=kF lpK jnK x0
abbrev SF:=(Int)->Option (Bool)
def KU:Ctr:=⟨[(.int .u8)],[],[],.one .bool,fun x _ _=>dH x.1⟩
theorem T8 (lp:Lp) (jn:Jn):∀(x:TsS KU.as) (F:TsF KU.fs) (y:TsS KU.cs),kF lp jn x.1=cb lp jn (cx [] [(134,bF)]) ao 4 179 f179 KU x F y:=fun x F y=>by kernel_rfl
theorem SI:KU.ok prog 179:=Ctr.of_den (au (bQ)) aW (hl:=ao) (d:=4) func179 rfl (by decide) (T8 lpK jnK)
def jE (lp:Lp) (_:Jn) (bu:J5) (dH:SF) (x0:ByteArray):Option Int :=
 lp (Int×PUnit) Int (fun (again:Int×PUnit->Option Int) (x:Int×PUnit) =>
 let v5:Bool:=inB x.1 (ByteArray.size x0);
 let v6:Int:=eW x0 x.1.toNat;
 let v7:Bool:=decide (x.1<(↑(ByteArray.size x0):Int));
 let v8:Bool:=!v7;
 let v9:Bool:=v8||v7;
 let v10:Bool:=v8||v9;bif v9&&(v9&&(v8||v5)) then bif v9 then aa (bif v7 then bu v6 else some false) fun (t:Bool) =>
 let v12:Bool:=v7&&!t;
 let v13:Bool:=!v12;
 let v14:Bool:=v13||v12;bif v9 then bif v14&&(v14&&(v13||v5)) then bif v14 then aa (bif v12 then dH v6 else some false) fun (t_1:Bool) =>
 let v16:Bool:=bif t then true else t_1;
 let v17:Bool:=v7&&!v16;
 let v18:Bool:=!v17;
 let v19:Bool:=v18||v17;bif v10&&(v8||(t||(v8||v12))) then bif v9 then bif v19&&(v19&&(v18||v5)) then bif v19 then bif v10&&(v8||(v16||(v8||v17))) then bif v9 then bif bif v7 then bif v16 then true else decide (v6=95) else false then again (IntKind.wrap .i64 (x.1+1),PUnit.unit) else some x.1 else none else none else none else none else none else none else none else none else none else none else none) (0,PUnit.unit)
def dt (x0:ByteArray):Option Int:=jE lpK jnK bu dH x0
abbrev Q0:=(ByteArray)->Option (Int)
def HG:Ctr:=⟨[.str],[],[],.one i64,fun x _ _=>dt x.1⟩
theorem SN (lp:Lp) (jn:Jn) (bu:J5) (dH:SF):∀(x:TsS HG.as) (F:TsF HG.fs) (y:TsS HG.cs),jE lp jn bu dH x.1=cb lp jn (cx [(179,⟨[(.int .u8)],[],[],.one .bool,fun x _ _=>dH x.1⟩),(160,Qo bu)] [(134,bF)]) ao 4 161 f161 HG x F y:=fun x F y=>by kernel_rfl
theorem SB:HG.ok prog 161:=Ctr.of_den (au (ai (ai (bQ) (by kernel_rfl) OG) (by kernel_rfl) SI)) aW (hl:=ao) (d:=4) func161 rfl (by decide) (SN lpK jnK bu dH)
def jU (_:Lp) (_:Jn) (bu:J5) (dt:Q0) (x0:ByteArray):Option Bool :=
 
 let v3:Bool:=!List.beq (ByteArray.toList x0) (ByteArray.toList { data:=#[] });
 let v4:Bool:=!v3||v3;
 let v5:Bool:=bif v3 then decide ((↑(ByteArray.size x0):Int)<=20) else false;
 let v6:Bool:=!v5;
 let v7:Bool:=v6||v5;bif v4 then bif v4 then bif v4 then bif v7&&(v6||inB 0 (ByteArray.size x0)) then bif v7 then aa (bif v5 then bu (eW x0 0) else some false) fun (t:Bool) =>
 let v9:Bool:=bif v5 then t else false;
 let v10:Bool:=!v9||v9;bif v7 then bif v10 then aa (bif v9 then dt x0 else some 0) fun (t:Int)=>bif v10 then bif v10&&v10 then bif v10 then some (bif v9 then decide (t=(↑(ByteArray.size x0):Int)) else false) else none else none else none else none else none else none else none else none else none else none
def dl (x0:ByteArray):Option Bool:=jU lpK jnK bu dt x0
abbrev Q4:=(ByteArray)->Option (Bool)
def IM:Ctr:=⟨[.str],[],[],.one .bool,fun x _ _=>dl x.1⟩
theorem TV (lp:Lp) (jn:Jn) (bu:J5) (dt:Q0):∀(x:TsS IM.as) (F:TsF IM.fs) (y:TsS IM.cs),jU lp jn bu dt x.1=cb lp jn (cx [(161,⟨[.str],[],[],.one i64,fun x _ _=>dt x.1⟩),(160,Qo bu)] [(134,bF)]) ao 4 116 f116 IM x F y:=fun x F y=>by kernel_rfl
theorem RI:IM.ok prog 116:=Ctr.of_den (au (ai (ai (bQ) (by kernel_rfl) OG) (by kernel_rfl) SB)) aW (hl:=ao) (d:=4) func116 rfl (by decide) (TV lpK jnK bu dt)
def gy (lp:Lp) (_:Jn) (x0:List (ByteArray×Int)) (f0:(((ByteArray×Int)×Unit)->Option Bool)):Option Int :=
 lp (Int×PUnit) Int (fun (again:Int×PUnit->Option Int) (x:Int×PUnit)=>bif decide (x.1<(↑x0.length:Int)) then bif inB x.1 x0.length then aa (f0 (x0.getD x.1.toNat ({ data:={ toList:=[] } },0),PUnit.unit)) fun (t:Bool)=>bif t then some x.1 else again (IntKind.wrap .i64 (x.1+1), PUnit.unit) else none else some (-1)) (0,PUnit.unit)
def bR (x0:List (ByteArray×Int)) (f0:(((ByteArray×Int)×Unit)->Option Bool)):Option Int:=gy lpK jnK x0 f0
abbrev Pk:=(List (ByteArray×Int))->((((ByteArray×Int)×Unit)->Option Bool))->Option (Int)
def Sb (bR:Pk):Ctr:=⟨[(.sl T66)],[([T66],.bool)],[],.one i64,fun x F _=>bR x.1 F.1⟩
def I7:Ctr:=Sb bR
theorem Ua (lp:Lp) (jn:Jn):∀(x:TsS I7.as) (F:TsF I7.fs) (y:TsS I7.cs),gy lp jn x.1 F.1=cb lp jn (cx [] [(134,bF)]) ao 4 167 f167 I7 x F y:=fun x F y=>by kernel_rfl
theorem SH:I7.ok prog 167:=Ctr.of_den (au (bQ)) aW (hl:=ao) (d:=4) func167 rfl (by decide) (Ua lpK jnK)
def jT (_:Lp) (_:Jn) (x0:ByteArray×Int) (y0:ByteArray):Option Bool :=
 some (List.beq (ByteArray.toList x0.1) (ByteArray.toList y0))
def eg (x0:ByteArray×Int) (y0:ByteArray):Option Bool:=jT lpK jnK x0 y0
abbrev QW:=(ByteArray×Int)->(ByteArray)->Option (Bool)
def IU:Ctr:=⟨[T66],[],[.str],.one .bool,fun x _ y=>eg x.1 y.1⟩
theorem TL (lp:Lp) (jn:Jn):∀(x:TsS IU.as) (F:TsF IU.fs) (y:TsS IU.cs),jT lp jn x.1 y.1=cb lp jn (cx [] [(134,bF)]) ao 4 168 f168 IU x F y:=fun x F y=>by kernel_rfl
theorem Q1:IU.ok prog 168:=Ctr.of_den (au (bQ)) aW (hl:=ao) (d:=4) func168 rfl (by decide) (TL lpK jnK)
def lI (_:Lp) (_:Jn) (bR:Pk) (eg:QW) (x0:(List (ByteArray×Int))×List (ByteArray×(List (ByteArray×Int×Int×Int))×Bool)) (x1:ByteArray):Option Int :=
 aa (bR x0.1 fun (x:(ByteArray×Int)×PUnit)=>eg x.1 x1) fun (t:Int)=>some t
def bZ (x0:(List (ByteArray×Int))×List (ByteArray×(List (ByteArray×Int×Int×Int))×Bool)) (x1:ByteArray):Option Int:=lI lpK jnK bR eg x0 x1
abbrev HS:=((List (ByteArray×Int))×List (ByteArray×(List (ByteArray×Int×Int×Int))×Bool))->(ByteArray)->Option (Int)
def OU (bZ:HS):Ctr:=⟨[T25,.str],[],[],.one i64,fun x _ _=>bZ x.1 x.2.1⟩
def HT:Ctr:=OU bZ
theorem Ud (lp:Lp) (jn:Jn) (bR:Pk) (eg:QW):∀(x:TsS HT.as) (F:TsF HT.fs) (y:TsS HT.cs),lI lp jn bR eg x.1 x.2.1=cb lp jn (cx [(168,⟨[T66],[],[.str],.one .bool,fun x _ y=>eg x.1 y.1⟩),(167,Sb bR)] [(134,bF)]) ao 4 131 f131 HT x F y:=fun x F y=>by kernel_rfl
theorem OA:HT.ok prog 131:=Ctr.of_den (au (ai (ai (bQ) (by kernel_rfl) SH) (by kernel_rfl) Q1)) aW (hl:=ao) (d:=4) func131 rfl (by decide) (Ud lpK jnK bR eg)
def pc (lp:Lp) (_:Jn) (x0:Int) (x1:Int):Option Int :=
 lp (Int×Int×PUnit) Int (fun (again:Int×Int×PUnit->Option Int) (x:Int×Int×PUnit)=>bif !decide (x.2.1=0) then bif nzB x.2.1 then again (x.2.1, Int.tmod x.1 x.2.1,PUnit.unit) else none else some x.1) (x0,x1,PUnit.unit)
def bw (x0:Int) (x1:Int):Option Int:=pc lpK jnK x0 x1
abbrev t75:=(Int)->(Int)->Option (Int)
def k75 (bw:t75):Ctr:=⟨[(.int .u64),(.int .u64)],[],[],.one (.int .u64),fun x _ _=>bw x.1 x.2.1⟩
def c75:Ctr:=k75 bw
theorem e75 (lp:Lp) (jn:Jn):∀(x:TsS c75.as) (F:TsF c75.fs) (y:TsS c75.cs),pc lp jn x.1 x.2.1=cb lp jn (cx [] [(134,bF)]) ao 4 75 f75 c75 x F y:=fun x F y=>by kernel_rfl
theorem N0:c75.ok prog 75:=Ctr.of_den (au (bQ)) aW (hl:=ao) (d:=4) func75 rfl (by decide) (e75 lpK jnK)
def nJ (_:Lp) (_:Jn) (x0:Int):Option Int :=
 
 let v3:Int:=IntKind.wrap .u64 x0;bif decide (x0<0) then some (IntKind.wrap .u64 (0 - v3)) else some v3
def aL (x0:Int):Option Int:=nJ lpK jnK x0
abbrev t77:=(Int)->Option (Int)
def k77 (aL:t77):Ctr:=⟨[i64],[],[],.one (.int .u64),fun x _ _=>aL x.1⟩
def c77:Ctr:=k77 aL
theorem e77 (lp:Lp) (jn:Jn):∀(x:TsS c77.as) (F:TsF c77.fs) (y:TsS c77.cs),nJ lp jn x.1=cb lp jn (cx [] [(134,bF)]) ao 4 77 f77 c77 x F y:=fun x F y=>by kernel_rfl
theorem KS:c77.ok prog 77:=Ctr.of_den (au (bQ)) aW (hl:=ao) (d:=4) func77 rfl (by decide) (e77 lpK jnK)
def mu (_:Lp) (_:Jn) (bw:t75) (aL:t77) (x0:Int×Int):Option Bool :=
 
 let v3:Bool:=decide (x0.2>=1);
 let v4:Bool:=!v3||v3;
 let v5:Bool:=bif v3 then decide (x0.2<=1152921504606846976) else false;
 let v6:Bool:=bif v5 then decide (x0.1>=(-1152921504606846976)) else false;
 let v7:Bool:=!v5||v5;
 let v8:Bool:=bif v6 then decide (x0.1<=1152921504606846976) else false;
 let v9:Bool:=!v6||v6;
 let v10:Bool:=!v8||v8;bif v4 then bif v4 then bif v4 then bif v7 then bif v7 then bif v7 then bif v9 then bif v9 then bif v9 then bif v10 then bif v10 then aa (bif v8 then aL x0.1 else some 0) fun (t:Int)=>bif v10 then bif v10 then bif v10&&v10 then aa (bif v8 then bw t (IntKind.wrap .u64 x0.2) else some (0 : Int)) fun (t:Int)=>bif v10 then bif v10 then some (bif v8 then decide (t=1) else false) else none else none else none else none else none else none else none else none else none else none else none else none else none else none else none else none
def aw (x0:Int×Int):Option Bool:=mu lpK jnK bw aL x0
abbrev t72:=(Int×Int)->Option (Bool)
def k72 (aw:t72):Ctr:=⟨[T49],[],[],.one .bool,fun x _ _=>aw x.1⟩
def c72:Ctr:=k72 aw
theorem e72 (lp:Lp) (jn:Jn) (bw:t75) (aL:t77):∀(x:TsS c72.as) (F:TsF c72.fs) (y:TsS c72.cs),mu lp jn bw aL x.1=cb lp jn (cx [(77,k77 aL),(75,k75 bw)] [(134,bF)]) ao 4 72 f72 c72 x F y:=fun x F y=>by kernel_rfl
theorem Gy:c72.ok prog 72:=Ctr.of_den (au (ai (ai (bQ) (by kernel_rfl) N0) (by kernel_rfl) KS)) aW (hl:=ao) (d:=4) func72 rfl (by decide) (e72 lpK jnK bw aL)
def kJ (_:Lp) (_:Jn) (aw:t72) (x0:Int×Int):Option Bool :=
 aa (aw x0) fun (t:Bool) =>
 let v4:Bool:=!t||t;
 let v5:Bool:=bif t then decide (x0.1>=x0.2) else false;
 let v6:Bool:=!v5||v5;bif v4 then bif v4 then bif v4&&v4 then bif v4 then bif v6 then bif v6 then bif v6 then some (bif v5 then decide (x0.1<=100) else false) else none else none else none else none else none else none else none
def dX (x0:Int×Int):Option Bool:=kJ lpK jnK aw x0
abbrev Sf:=(Int×Int)->Option (Bool)
def Kw:Ctr:=⟨[T49],[],[],.one .bool,fun x _ _=>dX x.1⟩
theorem Ts (lp:Lp) (jn:Jn) (aw:t72):∀(x:TsS Kw.as) (F:TsF Kw.fs) (y:TsS Kw.cs),kJ lp jn aw x.1=cb lp jn (cx [(72,k72 aw)] [(134,bF)]) ao 4 180 f180 Kw x F y:=fun x F y=>by kernel_rfl
theorem Q7:Kw.ok prog 180:=Ctr.of_den (au (ai (bQ) (by kernel_rfl) Gy)) aW (hl:=ao) (d:=4) func180 rfl (by decide) (Ts lpK jnK aw)
def lH (_:Lp) (_:Jn) (bZ:HS) (dX:Sf) (x0:(List (ByteArray×Int))×List (ByteArray×(List (ByteArray×Int×Int×Int))×Bool)) (x1:ByteArray×Int×Int×Int) (x2:Bool):Option Bool :=
 
 let v5:Bool:=!x2;
 let v6:Bool:=v5||x2;
 let v7:Bool:=decide (x1.2.1=0);
 let v8:Bool:=decide (x1.2.1=1);
 let v9:Bool:=decide (x1.2.1=2);
 let v10:Bool:=!v8;
 let v11:Bool:=!v9;
 let v12:Bool:=bif v9 then true else v7;
 let v13:Bool:=!v10||v10;
 let v14:Bool:=!v11||v11;
 let v15:Bool:=!v12;
 let v16:Bool:=bif x2 then !(decide (x1.2.2.1=1)&&(decide (x1.2.2.2=1)&&true)) else false;
 let v17:Bool:=!v16;
 let v18:Bool:=!v17;
 let v19:Bool:=v17&&v5;
 let v20:Bool:=!v15||v15;
 let v21:Bool:=v18||v17;
 let v22:Bool:=!v19||v19;bif v6 then bif v6&&v6 then bif v6 then bif v21 then bif v21 then bif v22 then bif v22 then aa (bif v19 then dX x1.2.2 else some false) fun (t:Bool)=>bif v22 then bif (v18||v21)&&(v18||(!v5||(v18||v19))) then bif v16||v17 then bif bif v16 then true else bif v5 then !t else false then some false else bif List.beq (ByteArray.toList x1.1) (ByteArray.toList { data:=#[] }) then some v7 else aa (bZ x0 x1.1) fun (t:Int)=>bif decide (t<0) then some false else bif x2 then bif v13 then bif v13 then bif v8||v10 then some (bif v8 then true else decide (x1.2.1=(-1))) else none else none else none else bif v14 then bif v14 then bif v9||v11 then bif v20 then bif v20 then bif v12||v15 then some (bif v12 then true else decide (x1.2.1=(-2))) else none else none else none else none else none else none else none else none else none else none else none else none else none else none else none else none
def dN (x0:(List (ByteArray×Int))×List (ByteArray×(List (ByteArray×Int×Int×Int))×Bool)) (x1:ByteArray×Int×Int×Int) (x2:Bool):Option Bool:=lH lpK jnK bZ dX x0 x1 x2
abbrev PW:=((List (ByteArray×Int))×List (ByteArray×(List (ByteArray×Int×Int×Int))×Bool))->(ByteArray×Int×Int×Int)->(Bool)->Option (Bool)
def Su (dN:PW):Ctr:=⟨[T25,L2,.bool],[],[],.one .bool,fun x _ _=>dN x.1 x.2.1 x.2.2.1⟩
def HL:Ctr:=Su dN
theorem TU (lp:Lp) (jn:Jn) (bZ:HS) (dX:Sf):∀(x:TsS HL.as) (F:TsF HL.fs) (y:TsS HL.cs),lH lp jn bZ dX x.1 x.2.1 x.2.2.1=cb lp jn (cx [(180,⟨[T49],[],[],.one .bool,fun x _ _=>dX x.1⟩),(131,OU bZ)] [(134,bF)]) ao 4 162 f162 HL x F y:=fun x F y=>by kernel_rfl
theorem R5:HL.ok prog 162:=Ctr.of_den (au (ai (ai (bQ) (by kernel_rfl) OA) (by kernel_rfl) Q7)) aW (hl:=ao) (d:=4) func162 rfl (by decide) (TU lpK jnK bZ dX)
def lM (lp:Lp) (_:Jn) (br:Jy) (dN:PW) (x0:(List (ByteArray×Int))×List (ByteArray×(List (ByteArray×Int×Int×Int))×Bool)) (x1:ByteArray×(List (ByteArray×Int×Int×Int))×Bool):Option Bool :=
 
 let v4:Bool:=!x1.2.2;
 let v5:Bool:=!v4;
 let v6:Bool:=!v5;
 let v7:Int:=IntKind.wrap .i64 ((↑x1.2.1.length:Int) - 1);
 let v8:Bool:=v6||v5;aa (br (↑x1.2.1.length:Int) 2 10) fun (t:Bool)=>bif !t then some false else lp (Int×PUnit) Bool (fun (again : Int×PUnit->Option Bool) (x:Int×PUnit) =>
 let v12:Bool:=decide (x.1=0);
 let v13:Bool:=!v12;
 let v14:Bool:=!v13||v13;bif decide (x.1<(↑x1.2.1.length:Int)) then bif inB x.1 x1.2.1.length then bif v14 then bif v14&&v14 then bif v12||v13 then aa (dN x0 (x1.2.1.getD x.1.toNat ({ data:={ toList:=[] } },0,0,0)) (bif v12 then true else decide (x.1=v7))) fun (t : Bool)=>bif !t then some false else again (IntKind.wrap .i64 (x.1+1),PUnit.unit) else none else none else none else none else bif v8 then bif v8 then bif v8&&(v8 && (v6||inB v7 x1.2.1.length)) then bif v8 then bif v8 then bif v8 then bif v4||v5 then some (bif v4 then true else List.beq (ByteArray.toList (x1.2.1.getD v7.toNat ({ data:={ toList:=[] } },0,0,0)).1) (ByteArray.toList { data:=#[] })) else none else none else none else none else none else none else none) (0,PUnit.unit)
def eF (x0:(List (ByteArray×Int))×List (ByteArray×(List (ByteArray×Int×Int×Int))×Bool)) (x1:ByteArray×(List (ByteArray×Int×Int×Int))×Bool):Option Bool:=lM lpK jnK br dN x0 x1
abbrev Q5:=((List (ByteArray×Int))×List (ByteArray×(List (ByteArray×Int×Int×Int))×Bool))->(ByteArray×(List (ByteArray×Int×Int×Int))×Bool)->Option (Bool)
def I4:Ctr:=⟨[T25,T75],[],[],.one .bool,fun x _ _=>eF x.1 x.2.1⟩
theorem Ui (lp:Lp) (jn:Jn) (br:Jy) (dN:PW):∀(x:TsS I4.as) (F:TsF I4.fs) (y:TsS I4.cs),lM lp jn br dN x.1 x.2.1=cb lp jn (cx [(162,Su dN),(114,PM br)] [(134,bF)]) ao 4 117 f117 I4 x F y:=fun x F y=>by kernel_rfl
theorem Sk:I4.ok prog 117:=Ctr.of_den (au (ai (ai (bQ) (by kernel_rfl) Oz) (by kernel_rfl) R5)) aW (hl:=ao) (d:=4) func117 rfl (by decide) (Ui lpK jnK br dN)
def kD (lp:Lp) (_:Jn) (br:Jy) (dl:Q4) (eF:Q5) (x0:(List (ByteArray×Int))×List (ByteArray×(List (ByteArray×Int×Int×Int))×Bool)):Option Bool :=
 aa (br (↑x0.1.length:Int) 1 6) fun (t:Bool) =>
 let v4:Bool:=!t;
 let v5:Bool:=!v4;
 let v6:Bool:=!v5||v5;bif v6 then bif v6 then bif v6 then aa (bif v5 then br (↑x0.2.length:Int) 1 6 else some false) fun (t:Bool)=>bif v6 then bif v4||v5 then bif bif v4 then true else !t then some false else lp (Int×List (ByteArray×Bool)×PUnit) Bool (fun (again:Int×List (ByteArray×Bool)×PUnit->Option Bool) (x:Int×List (ByteArray×Bool)×PUnit) =>
 let v10:ByteArray×Int:=x0.1.getD x.1.toNat ({ data:={ toList:=[] } },0);bif decide (x.1<(↑x0.1.length:Int)) then bif inB x.1 x0.1.length then aa (dl v10.1) fun (t:Bool) =>
 let v12:Bool:=!t||t;bif v12&&v12 then bif v12 then bif v12 then bif (!!!bif t then !iq str Sh.bool v10.1 false x.2.1 else false)||!!bif t then !iq str Sh.bool v10.1 false x.2.1 else false then bif (!!!bif t then !iq str Sh.bool v10.1 false x.2.1 else false)||!!bif t then !iq str Sh.bool v10.1 false x.2.1 else false then aa (bif !!bif t then !iq str Sh.bool v10.1 false x.2.1 else false then br v10.2 0 16777216 else some false) fun (t_1:Bool)=>bif (!!!bif t then !iq str Sh.bool v10.1 false x.2.1 else false)||!!bif t then !iq str Sh.bool v10.1 false x.2.1 else false then bif (!bif t then !iq str Sh.bool v10.1 false x.2.1 else false)||!!bif t then !iq str Sh.bool v10.1 false x.2.1 else false then bif bif !bif t then !iq str Sh.bool v10.1 false x.2.1 else false then true else !t_1 then some false else again (IntKind.wrap .i64 (x.1+1),oP str Sh.bool v10.1 true x.2.1,PUnit.unit) else none else none else none else none else none else none else none else none else lp (Int×Int×List (ByteArray×Bool)×PUnit) Bool (fun (again:Int×Int×List (ByteArray×Bool)×PUnit->Option Bool) (x:Int×Int×List (ByteArray×Bool)×PUnit) =>
 let v13:ByteArray×List (ByteArray×Int×Int×Int)×Bool:=x0.2.getD x.2.1.toNat ({ data:={ toList:=[] } },[],false);bif decide (x.2.1<(↑x0.2.length:Int)) then bif inB x.2.1 x0.2.length then aa (dl v13.1) fun (t:Bool) =>
 let v15:Bool:=!t||t;bif v15&&v15 then bif v15 then bif v15 then bif ((!!!bif t then !iq str Sh.bool v13.1 false x.2.2.1 else false)||!!bif t then !iq str Sh.bool v13.1 false x.2.2.1 else false)&&((!!!bif t then !iq str Sh.bool v13.1 false x.2.2.1 else false)||!!bif t then !iq str Sh.bool v13.1 false x.2.2.1 else false) then aa (bif !!bif t then !iq str Sh.bool v13.1 false x.2.2.1 else false then eF x0 v13 else some false) fun (t_1:Bool)=>bif (!!!bif t then !iq str Sh.bool v13.1 false x.2.2.1 else false)||!!bif t then !iq str Sh.bool v13.1 false x.2.2.1 else false then bif (!bif t then !iq str Sh.bool v13.1 false x.2.2.1 else false)||!!bif t then !iq str Sh.bool v13.1 false x.2.2.1 else false then bif bif !bif t then !iq str Sh.bool v13.1 false x.2.2.1 else false then true else !t_1 then some false else bif v13.2.2 then again (IntKind.wrap .i64 (x.1+1),IntKind.wrap .i64 (x.2.1+1),oP str Sh.bool v13.1 true x.2.2.1,PUnit.unit) else again (x.1,IntKind.wrap .i64 (x.2.1+1),oP str Sh.bool v13.1 true x.2.2.1,PUnit.unit) else none else none else none else none else none else none else none else some (decide (x.1<=1))) (0,0,x.2.1,PUnit.unit)) (0,[],PUnit.unit) else none else none else none else none else none
def aI (x0:(List (ByteArray×Int))×List (ByteArray×(List (ByteArray×Int×Int×Int))×Bool)):Option Bool:=kD lpK jnK br dl eF x0
abbrev t59:=((List (ByteArray×Int))×List (ByteArray×(List (ByteArray×Int×Int×Int))×Bool))->Option (Bool)
def k59 (aI:t59):Ctr:=⟨[T25],[],[],.one .bool,fun x _ _=>aI x.1⟩
def c59:Ctr:=k59 aI
theorem e59 (lp:Lp) (jn:Jn) (br:Jy) (dl:Q4) (eF:Q5):∀(x:TsS c59.as) (F:TsF c59.fs) (y:TsS c59.cs),kD lp jn br dl eF x.1=cb lp jn (cx [(117,⟨[T25,T75],[],[],.one .bool,fun x _ _=>eF x.1 x.2.1⟩),(116,⟨[.str],[],[],.one .bool,fun x _ _=>dl x.1⟩),(114,PM br)] [(134,bF)]) ao 4 59 f59 c59 x F y:=fun x F y=>by kernel_rfl
theorem N3:c59.ok prog 59:=Ctr.of_den (au (ai (ai (ai (bQ) (by kernel_rfl) Oz) (by kernel_rfl) RI) (by kernel_rfl) Sk)) aW (hl:=ao) (d:=4) func59 rfl (by decide) (e59 lpK jnK br dl eF)
def nh (lp:Lp) (_:Jn) (bZ:HS) (aI:t59) (x0:(List (ByteArray×Int))×List (ByteArray×(List (ByteArray×Int×Int×Int))×Bool)):Option ((List (List Int))×Int×Unit) :=
 aa (aI x0) fun (t:Bool)=>bif !t then some ([],1,PUnit.unit) else bif decide (0<=(↑x0.1.length:Int))&&dR (Int.toNat (↑x0.1.length : Int)) 24 then lp (Int×(List Nat×List (Option (List Int)))×PUnit) (List (List Int)×Int×PUnit) (fun (again:Int×(List Nat×List (Option (List Int)))×PUnit -> Option (List (List Int)×Int×PUnit)) (x:Int×(List Nat×List (Option (List Int)))×PUnit)=>bif decide (x.1<(↑(List.length (Nat.brecOn (motive:=fun (x:Nat)=>Nat->List Nat) (Int.toNat (↑x0.1.length:Int)) (fun (x:Nat) (f:Nat.below (motive:=fun (x:Nat)=>Nat->List (T ref)) x) (x_1:Nat)=>(match (motive:=(x:Nat)->Nat->Nat.below (motive:=fun (x:Nat)=>Nat->List (T ref)) x->List Nat) x,x_1 with | 0,x=>fun (_:PUnit)=>[] | Nat.succ n,k=>fun (x:(Nat->List Nat) ×' Nat.rec PUnit (fun (n:Nat) (n_ih:Type)=>(fun (x:Nat)=>Nat->List (T ref)) n ×' n_ih) n)=>(k+0) ::x.1 (k+1)) f) 0)):Int)) then bif decide (0 <= (↑x0.2.length:Int))&&dR (Int.toNat (↑x0.2.length:Int)) 8 then bif inB x.1 x.2.1.1.length then bif Nat.ble (Nat.succ x.1.toNat) x.2.1.1.length then again (IntKind.wrap .i64 (x.1+1),(x.2.1.1.set x.1.toNat x.2.1.2.length,x.2.1.2++[some (List.replicate (Int.toNat (↑x0.2.length:Int)) 0)]),PUnit.unit) else none else none else none else lp (Int×(List Nat×List (Option (List Int)))×PUnit) (List (List Int)×Int×PUnit) (fun (again:Int×(List Nat×List (Option (List Int)))×PUnit->Option (List (List Int)×Int×PUnit)) (x:Int×(List Nat×List (Option (List Int))) × PUnit)=>bif decide (x.1<(↑x0.2.length:Int)) then bif inB x.1 x0.2.length then lp (Int×(List Nat×List (Option (List Int)))×PUnit) (List (List Int)×Int × PUnit) (fun (again_1:Int×(List Nat×List (Option (List Int)))×PUnit->Option (List (List Int)×Int×PUnit)) (x_1:Int×(List Nat×List (Option (List Int)))×PUnit) =>
 let v10:Int:=IntKind.wrap .i64 (x_1.1+1);
 let v11:(List Nat×List (Option (List Int)))×PUnit:=(x_1.2.1,PUnit.unit);
 let v12:ByteArray×Int×Int×Int:=List.getD (x0.2.getD x.1.toNat ({ data:={ toList:=[] } },[],false)).2.1 x_1.1.toNat ({ data:={ toList:=[] } },0,0,0);bif decide (x_1.1<(↑(List.length (x0.2.getD x.1.toNat ({ data:={ toList:=[] } },[],false)).2.1):Int)) then bif inB x_1.1 (List.length (x0.2.getD x.1.toNat ({ data:={ toList:=[] } },[],false)).2.1) then aa (bZ x0 v12.1) fun (t:Int)=>bif decide (t>=(0 : Int)) then bif inB t x_1.2.1.1.length then bif Nat.ble (Nat.succ t.toNat) x_1.2.1.1.length then bif inB x.1 (List.length (ah x_1.2.1.2 (x_1.2.1.1.getD t.toNat 0))) then bif Nat.ble (Nat.succ x.1.toNat) (List.length (ah x_1.2.1.2 (x_1.2.1.1.getD t.toNat (0 : Nat)))) then bif inB x.1 (List.length (ah x_1.2.1.2 (x_1.2.1.1.getD t.toNat 0))) then bif Nat.ble (Nat.succ x.1.toNat) (List.length (ah x_1.2.1.2 (x_1.2.1.1.getD t.toNat 0))) then again_1 (v10,(x_1.2.1.1,x_1.2.1.2.set (x_1.2.1.1.getD t.toNat 0) (some (List.set (ah x_1.2.1.2 (x_1.2.1.1.getD t.toNat 0)) x.1.toNat (IntKind.wrap .i64 (List.getD (ah x_1.2.1.2 (x_1.2.1.1.getD t.toNat 0)) x.1.toNat 0+v12.2.1))))),PUnit.unit) else none else none else none else none else none else none else again_1 (v10,v11) else none else again (IntKind.wrap .i64 (x.1+1),v11)) (0,x.2.1,PUnit.unit) else none else bif List.all x.2.1.1 fun (x_1:Nat)=>eD x.2.1.2 x_1 then some (List.map (fun (x_1:Nat)=>ah x.2.1.2 x_1) x.2.1.1,0,PUnit.unit) else none) (0,x.2.1,PUnit.unit)) (0, (Nat.brecOn (motive:=fun (x:Nat)=>Nat->List Nat) (Int.toNat (↑x0.1.length:Int)) (fun (x:Nat) (f:Nat.below (motive:=fun (x:Nat)=>Nat->List (T ref)) x) (x_1:Nat)=>(match (motive:=(x:Nat)->Nat->Nat.below (motive:=fun (x:Nat)=>Nat->List (T ref)) x->List Nat) x,x_1 with | 0,x=>fun (_:PUnit)=>[] | Nat.succ n,k=>fun (x:(Nat->List Nat) ×' Nat.rec PUnit (fun (n:Nat) (n_ih:Type)=>(fun (x:Nat)=>Nat->List (T ref)) n ×' n_ih) n)=>(k+0) ::x.1 (k+1)) f) 0,List.replicate (Int.toNat (↑x0.1.length:Int)) (some [])),PUnit.unit) else none
def ce (x0:(List (ByteArray×Int))×List (ByteArray×(List (ByteArray×Int×Int×Int))×Bool)):Option ((List (List Int))×Int×Unit):=nh lpK jnK bZ aI x0
abbrev t87:=((List (ByteArray×Int))×List (ByteArray×(List (ByteArray×Int×Int×Int))×Bool))->Option ((List (List Int))×Int×Unit)
def k87 (ce:t87):Ctr:=⟨[T25],[],[],.tup [(.sl (.sl i64)),i64],fun x _ _=>ce x.1⟩
def c87:Ctr:=k87 ce
theorem e87 (lp:Lp) (jn:Jn) (bZ:HS) (aI:t59):∀(x:TsS c87.as) (F:TsF c87.fs) (y:TsS c87.cs),nh lp jn bZ aI x.1=cb lp jn (cx [(59,k59 aI),(131,OU bZ)] [(134,bF)]) ao 4 87 f87 c87 x F y:=fun x F y=>by kernel_rfl
theorem Tc:c87.ok prog 87:=Ctr.of_den (au (ai (ai (bQ) (by kernel_rfl) OA) (by kernel_rfl) N3)) aW (hl:=ao) (d:=4) func87 rfl (by decide) (e87 lpK jnK bZ aI)
def jv (lp:Lp) (_:Jn) (aI:t59) (x0:(List (ByteArray×Int))×List (ByteArray×(List (ByteArray×Int×Int×Int))×Bool)):Option ((List Int)×Int×Unit) :=
 aa (aI x0) fun (t:Bool)=>bif !t then some ([],1,PUnit.unit) else lp (List Int×Int×PUnit) (List Int×Int×PUnit) (fun (again:List Int×Int×PUnit -> Option (List Int×Int×PUnit)) (x:List Int×Int×PUnit)=>bif decide (x.2.1<(↑x0.1.length:Int)) then bif inB x.2.1 x0.1.length then bif dR (List.length x.1+1) 8 then again (x.1++[(x0.1.getD x.2.1.toNat ({ data:={ toList:=[] } },0)).2],IntKind.wrap .i64 (x.2.1+1),PUnit.unit) else none else none else some (x.1,0,PUnit.unit)) ([],0,PUnit.unit)
def cD (x0:(List (ByteArray×Int))×List (ByteArray×(List (ByteArray×Int×Int×Int))×Bool)):Option ((List Int)×Int×Unit):=jv lpK jnK aI x0
abbrev t88:=((List (ByteArray×Int))×List (ByteArray×(List (ByteArray×Int×Int×Int))×Bool))->Option ((List Int)×Int×Unit)
def k88 (cD:t88):Ctr:=⟨[T25],[],[],.tup [(.sl i64),i64],fun x _ _=>cD x.1⟩
def c88:Ctr:=k88 cD
theorem e88 (lp:Lp) (jn:Jn) (aI:t59):∀(x:TsS c88.as) (F:TsF c88.fs) (y:TsS c88.cs),jv lp jn aI x.1=cb lp jn (cx [(59,k59 aI)] [(134,bF)]) ao 4 88 f88 c88 x F y:=fun x F y=>by kernel_rfl
theorem TK:c88.ok prog 88:=Ctr.of_den (au (ai (bQ) (by kernel_rfl) N3)) aW (hl:=ao) (d:=4) func88 rfl (by decide) (e88 lpK jnK aI)
def li (lp:Lp) (_:Jn) (ce:t87) (cD:t88) (x0:(List (ByteArray×Int))×List (ByteArray×(List (ByteArray×Int×Int×Int))×Bool)) (x1:List Int):Option (((List Int)×List ((List Int)×Int×Int))×Int×Unit) :=
 aa (ce x0) fun (t:List (List Int)×Int×PUnit)=>bif !decide (t.2.1=0) then some (([],[]),t.2.1,PUnit.unit) else aa (cD x0) fun (t_1 : List Int×Int×PUnit)=>bif !decide (t_1.2.1=0) then some (([],[]),t_1.2.1,PUnit.unit) else lp (Int×List Int×List (List Int×Int×Int)×PUnit) ((List Int×List (List Int×Int×Int))×Int×PUnit) (fun (again:Int×List Int×List (List Int×Int×Int)×PUnit->Option ((List Int×List (List Int×Int×Int))×Int×PUnit)) (x:Int×List Int×List (List Int×Int×Int)×PUnit)=>bif decide (x.1<(↑t.1.length:Int)) then bif inB x.1 t.1.length then bif inB x.1 t_1.1.length then bif dR (List.length x.2.2.1+1) 40 then again (IntKind.wrap .i64 (x.1+1),x.2.1,x.2.2.1++[(t.1.getD x.1.toNat [],3,t_1.1.getD x.1.toNat 0)],PUnit.unit) else none else none else none else some ((x.2.1,x.2.2.1),0, PUnit.unit)) (0,x1,[],PUnit.unit)
def cA (x0:(List (ByteArray×Int))×List (ByteArray×(List (ByteArray×Int×Int×Int))×Bool)) (x1:List Int):Option (((List Int)×List ((List Int)×Int×Int))×Int×Unit):=li lpK jnK ce cD x0 x1
abbrev t45:=((List (ByteArray×Int))×List (ByteArray×(List (ByteArray×Int×Int×Int))×Bool))->(List Int)->Option (((List Int)×List ((List Int)×Int×Int))×Int×Unit)
def k45 (cA:t45):Ctr:=⟨[T25,(.sl i64)],[],[],.tup [T32,i64],fun x _ _=>cA x.1 x.2.1⟩
def c45:Ctr:=k45 cA
theorem e45 (lp:Lp) (jn:Jn) (ce:t87) (cD:t88):∀(x:TsS c45.as) (F:TsF c45.fs) (y:TsS c45.cs),li lp jn ce cD x.1 x.2.1=cb lp jn (cx [(88,k88 cD),(87,k87 ce)] [(134,bF)]) ao 4 45 f45 c45 x F y:=fun x F y=>by kernel_rfl
theorem QY:c45.ok prog 45:=Ctr.of_den (au (ai (ai (bQ) (by kernel_rfl) Tc) (by kernel_rfl) TK)) aW (hl:=ao) (d:=4) func45 rfl (by decide) (e45 lpK jnK ce cD)
def nq (_:Lp) (_:Jn) (x0:Int) (x1:Int):Option (Int×Int×Unit) :=
 
 let v4:Int:=2 ^ 32;
 let v5:Int:=Int.fdiv x0 v4;
 let v6:Int:=Int.fdiv x1 v4;
 let v7:Bool:=decide ((0:Int)<=32);
 let v8:Int:=IntKind.wrap .u64 (↑(Nat.land (Int.toNat (x1 % Int.ofNat 18446744073709551616)) (Int.toNat (4294967295 % Int.ofNat 18446744073709551616))) : Int);
 let v9:Int:=IntKind.wrap .u64 (↑(Nat.land (Int.toNat (x0 % Int.ofNat 18446744073709551616)) (Int.toNat (4294967295 % Int.ofNat 18446744073709551616))) : Int);
 let v10:Int:=IntKind.wrap .u64 (IntKind.wrap .u64 (v5*v8)+Int.fdiv (IntKind.wrap .u64 (v9*v8)) v4);bif v7 then bif v7 then bif v7 then bif v7 then bif v7 then some (IntKind.wrap .u64 (IntKind.wrap .u64 (IntKind.wrap .u64 (v5*v6)+Int.fdiv v10 v4)+Int.fdiv (IntKind.wrap .u64 (IntKind.wrap .u64 (↑(Nat.land (Int.toNat (v10 % Int.ofNat 18446744073709551616)) (Int.toNat (4294967295 % Int.ofNat 18446744073709551616))):Int)+IntKind.wrap .u64 (v9 * v6))) v4),IntKind.wrap .u64 (x0*x1),PUnit.unit) else none else none else none else none else none
def bU (x0:Int) (x1:Int):Option (Int×Int×Unit):=nq lpK jnK x0 x1
abbrev EC:=(Int)->(Int)->Option (Int×Int×Unit)
def NZ (bU:EC):Ctr:=⟨[(.int .u64),(.int .u64)],[],[],.tup [(.int .u64),(.int .u64)],fun x _ _=>bU x.1 x.2.1⟩
def JH:Ctr:=NZ bU
theorem TB (lp:Lp) (jn:Jn):∀(x:TsS JH.as) (F:TsF JH.fs) (y:TsS JH.cs),nq lp jn x.1 x.2.1=cb lp jn (cx [] [(134,bF)]) ao 4 122 f122 JH x F y:=fun x F y=>by kernel_rfl
theorem KL:JH.ok prog 122:=Ctr.of_den (au (bQ)) aW (hl:=ao) (d:=4) func122 rfl (by decide) (TB lpK jnK)
def sy (_:Lp) (_:Jn) (x0:Int) (x1:Int):Option (Int×Int×Unit) :=
 
 let v4:Int:=IntKind.wrap .u64 (IntKind.wrap .u64 x0*IntKind.wrap .u64 x1);bif decide ((0:Int)<=32) then some (IntKind.wrap IntKind.u32 (Int.fdiv v4 (2 ^ 32)),IntKind.wrap IntKind.u32 v4,PUnit.unit) else none
def ic (x0:Int) (x1:Int):Option (Int×Int×Unit):=sy lpK jnK x0 x1
def RR (ic:(Int)->(Int)->Option (Int×Int×Unit)):Ctr:=⟨[(.int .u32),(.int .u32)],[],[],.tup [(.int .u32),(.int .u32)],fun x _ _=>ic x.1 x.2.1⟩
def Lb:Ctr:=RR ic
theorem Tp (lp:Lp) (jn:Jn):∀(x:TsS Lb.as) (F:TsF Lb.fs) (y:TsS Lb.cs),sy lp jn x.1 x.2.1=cb lp jn (cx [] [(134,bF)]) ao 4 137 f137 Lb x F y:=fun x F y=>by kernel_rfl
theorem R3:Lb.ok prog 137:=Ctr.of_den (au (bQ)) aW (hl:=ao) (d:=4) func137 rfl (by decide) (Tp lpK jnK)
def rI (_:Lp) (_:Jn) (bU:EC) (_:(Int)->(Int)->Option (Int×Int×Unit)) (x0:Int) (x1:Int):Option (Int×Int×Unit) :=
 aa (bU x0 x1) fun (t:Int×Int×PUnit)=>some (t.1,t.2.1,PUnit.unit)
def gD (x0:Int) (x1:Int):Option (Int×Int×Unit):=rI lpK jnK bU ic x0 x1
abbrev t90:=(Int)->(Int)->Option (Int×Int×Unit)
def k90 (gD:t90):Ctr:=⟨[(.int .u64),(.int .u64)],[],[],.tup [(.int .u64),(.int .u64)],fun x _ _=>gD x.1 x.2.1⟩
def c90:Ctr:=k90 gD
theorem e90 (lp:Lp) (jn:Jn) (bU:EC) (ic:(Int)->(Int)->Option (Int×Int×Unit)):∀(x:TsS c90.as) (F:TsF c90.fs) (y:TsS c90.cs),rI lp jn bU ic x.1 x.2.1=cb lp jn (cx [(137,RR ic),(122,NZ bU)] [(134,bF)]) ao 4 90 f90 c90 x F y:=fun x F y=>by kernel_rfl
theorem T7:c90.ok prog 90:=Ctr.of_den (au (ai (ai (bQ) (by kernel_rfl) KL) (by kernel_rfl) R3)) aW (hl:=ao) (d:=4) func90 rfl (by decide) (e90 lpK jnK bU ic)
def iW (lp:Lp) (jn:Jn) (gD:t90) (x0:List Int) (x1:Int):Option (List Int) :=
 jn PUnit (List Int) (fun (_:PUnit)=>aa (gD (IntKind.wrap .u64 (↑x0.length:Int)) (IntKind.wrap .u64 x1)) fun (t:Int×Int×PUnit) =>
 let v6:List Int:=List.take (Int.toNat (IntKind.wrap .i64 t.2.1)) x0;
 let v7:List Int:=List.replicate (Int.toNat (IntKind.wrap .i64 t.2.1)) 0;
 let v8:Bool:=decide (t.1>0);
 let v9:Bool:=!v8;bif !v9||v9 then bif v8||v9 then jn PUnit (List Int) (fun (_:PUnit)=>bif decide (0<=IntKind.wrap .i64 t.2.1)&&dR (Int.toNat (IntKind.wrap .i64 t.2.1)) 8 then lp (Int×List Int×PUnit) (List Int) (fun (again:Int×List Int×PUnit->Option (List Int)) (x:Int×List Int×PUnit) =>
 let v13:List Int:=List.take x.1.toNat x.2.1;
 let v14:List Int:=List.take (Int.toNat (↑x.2.1.length:Int) - Int.toNat x.1) (List.drop 0 v13);bif decide (x.1<(↑x.2.1.length:Int)) then bif slB x.1 (↑x.2.1.length:Int) x.2.1.length then bif slB 0 x.1 x.2.1.length then bif Nat.ble x.1.toNat (Int.toNat (↑x.2.1.length:Int))&&(Nat.ble (Int.toNat (↑x.2.1.length:Int)) x.2.1.length&&Nat.ble x.1.toNat x.2.1.length) then again (IntKind.wrap IntKind.i64 (x.1+(↑v14.length:Int)),v13++v14++List.drop (Int.toNat x.1+List.length v14) x.2.1,PUnit.unit) else none else none else none else some x.2.1) ((↑v6.length:Int),List.take 0 v7++v6++List.drop (0+List.length v6) v7,PUnit.unit) else none) fun (j:PUnit->Option (List Int))=>bif bif v8 then true else decide (t.2.1>9223372036854775807) then none else j PUnit.unit else none else none) fun (j:PUnit->Option (List Int))=>bif decide (x1<0) then none else j PUnit.unit
def cv (x0:List Int) (x1:Int):Option (List Int):=iW lpK jnK gD x0 x1
abbrev t46:=(List Int)->(Int)->Option (List Int)
def k46 (cv:t46):Ctr:=⟨[(.sl i64),i64],[],[],.one (.sl i64),fun x _ _=>cv x.1 x.2.1⟩
def c46:Ctr:=k46 cv
theorem e46 (lp:Lp) (jn:Jn) (gD:t90):∀(x:TsS c46.as) (F:TsF c46.fs) (y:TsS c46.cs),iW lp jn gD x.1 x.2.1=cb lp jn (cx [(90,k90 gD)] [(134,bF)]) ao 4 46 f46 c46 x F y:=fun x F y=>by kernel_rfl
theorem TO:c46.ok prog 46:=Ctr.of_den (au (ai (bQ) (by kernel_rfl) T7)) aW (hl:=ao) (d:=4) func46 rfl (by decide) (e46 lpK jnK gD)
def iR (_:Lp) (_:Jn) (cA:t45) (cv:t46) (x0:(List (ByteArray×Int))×List (ByteArray×(List (ByteArray×Int×Int×Int))×Bool)):Option (((List Int)×List ((List Int)×Int×Int))×Int×Unit) :=
 aa (cv [1] (↑x0.2.length:Int)) fun (t:List Int)=>aa (cA x0 t) fun (t:(List Int×List (List Int×Int×Int))×Int×PUnit)=>some (t.1,t.2.1,PUnit.unit)
def aU (x0:(List (ByteArray×Int))×List (ByteArray×(List (ByteArray×Int×Int×Int))×Bool)):Option (((List Int)×List ((List Int)×Int×Int))×Int×Unit):=iR lpK jnK cA cv x0
abbrev t11:=((List (ByteArray×Int))×List (ByteArray×(List (ByteArray×Int×Int×Int))×Bool))->Option (((List Int)×List ((List Int)×Int×Int))×Int×Unit)
def k11 (aU:t11):Ctr:=⟨[T25],[],[],.tup [T32,i64],fun x _ _=>aU x.1⟩
def c11:Ctr:=k11 aU
theorem e11 (lp:Lp) (jn:Jn) (cA:t45) (cv:t46):∀(x:TsS c11.as) (F:TsF c11.fs) (y:TsS c11.cs),iR lp jn cA cv x.1=cb lp jn (cx [(46,k46 cv),(45,k45 cA)] [(134,bF)]) ao 4 11 f11 c11 x F y:=fun x F y=>by kernel_rfl
theorem QN:c11.ok prog 11:=Ctr.of_den (au (ai (ai (bQ) (by kernel_rfl) QY) (by kernel_rfl) TO)) aW (hl:=ao) (d:=4) func11 rfl (by decide) (e11 lpK jnK cA cv)
def iC (_:Lp) (_:Jn) (x0:Int) (y0:Int):Option Bool :=
 
 let v4:Bool:=decide (x0<IntKind.wrap .i64 (0 - y0));
 let v5:Bool:=!v4;
 let v6:Bool:=!v5||v5;bif v6&&v6 then bif v4||v5 then some (bif v4 then true else decide (x0>y0)) else none else none
def b8 (x0:Int) (y0:Int):Option Bool:=iC lpK jnK x0 y0
abbrev Rr:=(Int)->(Int)->Option (Bool)
def KC:Ctr:=⟨[i64],[],[i64],.one .bool,fun x _ y=>b8 x.1 y.1⟩
theorem T9 (lp:Lp) (jn:Jn):∀(x:TsS KC.as) (F:TsF KC.fs) (y:TsS KC.cs),iC lp jn x.1 y.1=cb lp jn (cx [] [(134,bF)]) ao 4 139 f139 KC x F y:=fun x F y=>by kernel_rfl
theorem QO:KC.ok prog 139:=Ctr.of_den (au (bQ)) aW (hl:=ao) (d:=4) func139 rfl (by decide) (T9 lpK jnK)
def jq (_:Lp) (_:Jn) (b8:Rr) (x0:Int):Option ((Int×Unit)->Option Bool) :=
 some fun (x:Int×PUnit)=>b8 x.1 x0
def cS (x0:Int):Option ((Int×Unit)->Option Bool):=jq lpK jnK b8 x0
abbrev Re:=(Int)->Option ((Int×Unit)->Option Bool)
def PP:FCtr:=⟨[i64],[i64],.bool,fun x=>cS x.1⟩
theorem TT (lp:Lp) (jn:Jn) (b8:Rr):∀x:TsS PP.as,jq lp jn b8 x.1=Pv lp jn (cx [(139,⟨[i64],[],[i64],.one .bool,fun x _ y=>b8 x.1 y.1⟩)] [(134,bF)]) ao 4 138 f138 PP x:=fun x=>by kernel_rfl
theorem OY:PP.ok prog 138:=FCtr.of_den (au (ai (bQ) (by kernel_rfl) QO)) aW (hl:=ao) (d:=4) func138 rfl (by decide) (TT lpK jnK b8)
def gu (lp:Lp) (_:Jn) (x0:List Int) (f0:((Int×Unit)->Option Bool)):Option Int :=
 lp (Int×PUnit) Int (fun (again:Int×PUnit->Option Int) (x:Int×PUnit)=>bif decide (x.1<(↑x0.length:Int)) then bif inB x.1 x0.length then aa (f0 (x0.getD x.1.toNat 0,PUnit.unit)) fun (t:Bool)=>bif t then some x.1 else again (IntKind.wrap .i64 (x.1+1),PUnit.unit) else none else some (-1)) (0,PUnit.unit)
def bH (x0:List Int) (f0:((Int×Unit)->Option Bool)):Option Int:=gu lpK jnK x0 f0
abbrev Pn:=(List Int)->(((Int×Unit)->Option Bool))->Option (Int)
def Qw (bH:Pn):Ctr:=⟨[(.sl i64)],[([i64],.bool)],[],.one i64,fun x F _=>bH x.1 F.1⟩
def H4:Ctr:=Qw bH
theorem TZ (lp:Lp) (jn:Jn):∀(x:TsS H4.as) (F:TsF H4.fs) (y:TsS H4.cs),gu lp jn x.1 F.1=cb lp jn (cx [] [(134,bF)]) ao 4 173 f173 H4 x F y:=fun x F y=>by kernel_rfl
theorem Rt:H4.ok prog 173:=Ctr.of_den (au (bQ)) aW (hl:=ao) (d:=4) func173 rfl (by decide) (TZ lpK jnK)
def fA (_:Lp) (_:Jn) (bH:Pn) (x0:List Int) (f0:((Int×Unit)->Option Bool)):Option Bool :=
 aa (bH x0 f0) fun (t:Int)=>some (decide (t>=0))
def aY (x0:List Int) (f0:((Int×Unit)->Option Bool)):Option Bool:=fA lpK jnK bH x0 f0
abbrev P6:=(List Int)->(((Int×Unit)->Option Bool))->Option (Bool)
def QC (aY:P6):Ctr:=⟨[(.sl i64)],[([i64],.bool)],[],.one .bool,fun x F _=>aY x.1 F.1⟩
def Lz:Ctr:=QC aY
theorem Tu (lp:Lp) (jn:Jn) (bH:Pn):∀(x:TsS Lz.as) (F:TsF Lz.fs) (y:TsS Lz.cs),fA lp jn bH x.1 F.1=cb lp jn (cx [(173,Qw bH)] [(134,bF)]) ao 4 140 f140 Lz x F y:=fun x F y=>by kernel_rfl
theorem Qv:Lz.ok prog 140:=Ctr.of_den (au (ai (bQ) (by kernel_rfl) Rt)) aW (hl:=ao) (d:=4) func140 rfl (by decide) (Tu lpK jnK bH)
def jp (lp:Lp) (_:Jn) (x0:List ((List Int)×Int×Int)) (f0:((((List Int)×Int×Int)×Unit)->Option Bool)):Option Int :=
 lp (Int×PUnit) Int (fun (again:Int×PUnit->Option Int) (x:Int×PUnit)=>bif decide (x.1<(↑x0.length:Int)) then bif inB x.1 x0.length then aa (f0 (x0.getD x.1.toNat ([],0,0),PUnit.unit)) fun (t:Bool)=>bif t then some x.1 else again (IntKind.wrap .i64 (x.1+1),PUnit.unit) else none else some (-1)) (0,PUnit.unit)
def ci (x0:List ((List Int)×Int×Int)) (f0:((((List Int)×Int×Int)×Unit)->Option Bool)):Option Int:=jp lpK jnK x0 f0
abbrev Qf:=(List ((List Int)×Int×Int))->(((((List Int)×Int×Int)×Unit)->Option Bool))->Option (Int)
def Ru (ci:Qf):Ctr:=⟨[(.sl T86)],[([T86],.bool)],[],.one i64,fun x F _=>ci x.1 F.1⟩
def Il:Ctr:=Ru ci
theorem T0 (lp:Lp) (jn:Jn):∀(x:TsS Il.as) (F:TsF Il.fs) (y:TsS Il.cs),jp lp jn x.1 F.1=cb lp jn (cx [] [(134,bF)]) ao 4 174 f174 Il x F y:=fun x F y=>by kernel_rfl
theorem R1:Il.ok prog 174:=Ctr.of_den (au (bQ)) aW (hl:=ao) (d:=4) func174 rfl (by decide) (T0 lpK jnK)
def iz (_:Lp) (_:Jn) (ci:Qf) (x0:List ((List Int)×Int×Int)) (f0:((((List Int)×Int×Int)×Unit)->Option Bool)):Option Bool :=
 aa (ci x0 f0) fun (t:Int)=>some (decide (t>=0))
def cn (x0:List ((List Int)×Int×Int)) (f0:((((List Int)×Int×Int)×Unit)->Option Bool)):Option Bool:=iz lpK jnK ci x0 f0
def R9 (cn:(List ((List Int)×Int×Int))->(((((List Int)×Int×Int)×Unit)->Option Bool))->Option (Bool)):Ctr:=⟨[(.sl T86)],[([T86],.bool)],[],.one .bool,fun x F _=>cn x.1 F.1⟩
def IP:Ctr:=R9 cn
theorem S8 (lp:Lp) (jn:Jn) (ci:Qf):∀(x:TsS IP.as) (F:TsF IP.fs) (y:TsS IP.cs),iz lp jn ci x.1 F.1=cb lp jn (cx [(174,Ru ci)] [(134,bF)]) ao 4 141 f141 IP x F y:=fun x F y=>by kernel_rfl
theorem QS:IP.ok prog 141:=Ctr.of_den (au (ai (bQ) (by kernel_rfl) R1)) aW (hl:=ao) (d:=4) func141 rfl (by decide) (S8 lpK jnK ci)
def kG (lp:Lp) (_:Jn) (aY:P6) (_:(List ((List Int)×Int×Int))->(((((List Int)×Int×Int)×Unit)->Option Bool))->Option (Bool)) (cS:Re) (x0:(List Int)×List ((List Int)×Int×Int)):Option Bool :=
 
 let v3:Bool:=decide ((↑x0.1.length:Int)<1);
 let v4:Bool:=!v3;
 let v5:Bool:=bif v3 then true else decide ((↑x0.1.length:Int)>12);
 let v6:Bool:=!v4||v4;
 let v7:Bool:=!v5;
 let v8:Bool:=bif v5 then true else decide ((↑x0.2.length:Int)>6);
 let v9:Bool:=!v8;
 let v10:Bool:=!v7||v7;
 let v11:Bool:=!v9||v9;bif v6 then bif v6 then bif v6 then bif v3||v4 then bif v10 then bif v10 then bif v10 then bif v5||v7 then bif v11 then bif v11 then aa (bif v9 then cS 1048576 else some fun (_:Int×PUnit)=>none) fun (t:Int×PUnit->Option Bool)=>bif v11&&v11 then aa (bif v9 then aY x0.1 t else some false) fun (t:Bool)=>bif v8||v9 then bif bif v8 then true else t then some false else lp (Int×PUnit) Bool (fun (again:Int×PUnit->Option Bool) (x:Int×PUnit) =>
 let v16:List Int×Int×Int:=x0.2.getD x.1.toNat ([],0,0);
 let v17:Bool:=decide (v16.2.1<1);
 let v18:Bool:=decide (v16.2.1>3);
 let v19:Bool:=!decide ((↑v16.1.length:Int)=(↑x0.1.length:Int));
 let v20:Bool:=!v19;
 let v21:Bool:=!v20||v20;bif decide (x.1<(↑x0.2.length:Int)) then bif inB x.1 x0.2.length then bif v21 then bif v21 then aa (bif v20 then cS 1048576 else some fun (_:Int×PUnit)=>none) fun (t:Int×PUnit->Option Bool)=>bif v21&&v21 then aa (bif v20 then aY v16.1 t else some false) fun (t:Bool) =>
 let v24:Bool:=bif v19 then true else t;
 let v25:Bool:=!v24;
 let v26:Bool:=bif v24 then true else v17;
 let v27:Bool:=!v26;
 let v28:Bool:=bif v26 then true else v18;
 let v29:Bool:=!v25||v25;
 let v30:Bool:=!v28;
 let v31:Bool:=!v27||v27;
 let v32:Bool:=!v30||v30;bif v19||v20 then bif v29 then bif v29 then bif v24||v25 then bif v31 then bif v31 then bif v26||v27 then bif v32 then aa (bif v30 then cS 1073741824 else some fun (_:Int×PUnit)=>none) fun (t:Int×PUnit->Option Bool)=>bif v32 then bif v32&&v32 then aa (bif v30 then t (v16.2.2, PUnit.unit) else some false) fun (t:Bool)=>bif v28||v30 then bif bif v28 then true else t then some !decide (x.1>=0) else again (IntKind.wrap .i64 (x.1+(1 : Int)),PUnit.unit) else none else none else none else none else none else none else none else none else none else none else none else none else none else none else none else some !decide ((-1:Int)>=0)) (0,PUnit.unit) else none else none else none else none else none else none else none else none else none else none else none else none
def bz (x0:(List Int)×List ((List Int)×Int×Int)):Option Bool:=kG lpK jnK aY cn cS x0
abbrev t91:=((List Int)×List ((List Int)×Int×Int))->Option (Bool)
def k91 (bz:t91):Ctr:=⟨[T32],[],[],.one .bool,fun x _ _=>bz x.1⟩
def c91:Ctr:=k91 bz
theorem e91 (lp:Lp) (jn:Jn) (aY:P6) (cn:(List ((List Int)×Int×Int))->(((((List Int)×Int×Int)×Unit)->Option Bool))->Option (Bool)) (cS:Re):∀(x:TsS c91.as) (F:TsF c91.fs) (y:TsS c91.cs),kG lp jn aY cn cS x.1=cb lp jn (Co Ez D3 (QD [(138,⟨[i64],[i64],.bool,fun x=>cS x.1⟩)] (kP prog shs xw its [(141,R9 cn),(140,QC aY)] [(134,bF)]))) ao 4 91 f91 c91 x F y:=fun x F y=>by kernel_rfl
theorem SD:c91.ok prog 91:=Ctr.of_den (au (Mo (ai (ai (bQ) (by kernel_rfl) Qv) (by kernel_rfl) QS) (Gl (by kernel_rfl) OY (J8)))) aW (hl:=ao) (d:=4) func91 rfl (by decide) (e91 lpK jnK aY cn cS)
def gV (lp:Lp) (_:Jn) (x0:List (Int×Int)) (f0:(((Int×Int)×Unit)->Option Bool)):Option Int :=
 lp (Int×PUnit) Int (fun (again:Int×PUnit->Option Int) (x:Int×PUnit)=>bif decide (x.1<(↑x0.length:Int)) then bif inB x.1 x0.length then aa (f0 (x0.getD x.1.toNat (0,0),PUnit.unit)) fun (t:Bool)=>bif t then some x.1 else again (IntKind.wrap .i64 (x.1+1),PUnit.unit) else none else some (-1)) (0,PUnit.unit)
def bO (x0:List (Int×Int)) (f0:(((Int×Int)×Unit)->Option Bool)):Option Int:=gV lpK jnK x0 f0
abbrev t74:=(List (Int×Int))->((((Int×Int)×Unit)->Option Bool))->Option (Int)
def k74 (bO:t74):Ctr:=⟨[(.sl T49)],[([T49],.bool)],[],.one i64,fun x F _=>bO x.1 F.1⟩
def c74:Ctr:=k74 bO
theorem e74 (lp:Lp) (jn:Jn):∀(x:TsS c74.as) (F:TsF c74.fs) (y:TsS c74.cs),gV lp jn x.1 F.1=cb lp jn (cx [] [(134,bF)]) ao 4 74 f74 c74 x F y:=fun x F y=>by kernel_rfl
theorem Ux:c74.ok prog 74:=Ctr.of_den (au (bQ)) aW (hl:=ao) (d:=4) func74 rfl (by decide) (e74 lpK jnK)
def fR (_:Lp) (_:Jn) (bO:t74) (x0:List (Int×Int)) (f0:(((Int×Int)×Unit)->Option Bool)):Option Bool :=
 aa (bO x0 f0) fun (t:Int)=>some (decide (t>=0))
def aj (x0:List (Int×Int)) (f0:(((Int×Int)×Unit)->Option Bool)):Option Bool:=fR lpK jnK bO x0 f0
abbrev t32:=(List (Int×Int))->((((Int×Int)×Unit)->Option Bool))->Option (Bool)
def k32 (aj:t32):Ctr:=⟨[(.sl T49)],[([T49],.bool)],[],.one .bool,fun x F _=>aj x.1 F.1⟩
def c32:Ctr:=k32 aj
theorem e32 (lp:Lp) (jn:Jn) (bO:t74):∀(x:TsS c32.as) (F:TsF c32.fs) (y:TsS c32.cs),fR lp jn bO x.1 F.1=cb lp jn (cx [(74,k74 bO)] [(134,bF)]) ao 4 32 f32 c32 x F y:=fun x F y=>by kernel_rfl
theorem O0:c32.ok prog 32:=Ctr.of_den (au (ai (bQ) (by kernel_rfl) Ux)) aW (hl:=ao) (d:=4) func32 rfl (by decide) (e32 lpK jnK bO)
def mn (_:Lp) (_:Jn) (aw:t72) (x0:Int×Int):Option Bool :=
 aa (aw x0) fun (t:Bool)=>some !t
def ep (x0:Int×Int):Option Bool:=mn lpK jnK aw x0
abbrev RZ:=(Int×Int)->Option (Bool)
def Ix:Ctr:=⟨[T49],[],[],.one .bool,fun x _ _=>ep x.1⟩
theorem S9 (lp:Lp) (jn:Jn) (aw:t72):∀(x:TsS Ix.as) (F:TsF Ix.fs) (y:TsS Ix.cs),mn lp jn aw x.1=cb lp jn (cx [(72,k72 aw)] [(134,bF)]) ao 4 143 f143 Ix x F y:=fun x F y=>by kernel_rfl
theorem RY:Ix.ok prog 143:=Ctr.of_den (au (ai (bQ) (by kernel_rfl) Gy)) aW (hl:=ao) (d:=4) func143 rfl (by decide) (S9 lpK jnK aw)
def oJ (_:Lp) (_:Jn) (aj:t32) (ep:RZ) (x0:List (Int×Int)):Option Bool :=
 aa (aj x0 fun (x:(Int×Int)×PUnit)=>ep x.1) fun (t:Bool)=>some !t
def fj (x0:List (Int×Int)):Option Bool:=oJ lpK jnK aj ep x0
abbrev t92:=(List (Int×Int))->Option (Bool)
def c92:Ctr:=⟨[(.sl T49)],[],[],.one .bool,fun x _ _=>fj x.1⟩
theorem e92 (lp:Lp) (jn:Jn) (aj:t32) (ep:RZ):∀(x:TsS c92.as) (F:TsF c92.fs) (y:TsS c92.cs),oJ lp jn aj ep x.1=cb lp jn (cx [(143,⟨[T49],[],[],.one .bool,fun x _ _=>ep x.1⟩),(32,k32 aj)] [(134,bF)]) ao 4 92 f92 c92 x F y:=fun x F y=>by kernel_rfl
theorem S7:c92.ok prog 92:=Ctr.of_den (au (ai (ai (bQ) (by kernel_rfl) O0) (by kernel_rfl) RY)) aW (hl:=ao) (d:=4) func92 rfl (by decide) (e92 lpK jnK aj ep)
def kE (_:Lp) (_:Jn) (bU:EC) (x0:Int) (x1:Int):Option (Int×Int) :=
 aa (bU x0 x1) fun (t:Int×Int×PUnit)=>some (t.1,t.2.1)
def aO (x0:Int) (x1:Int):Option (Int×Int):=kE lpK jnK bU x0 x1
abbrev t76:=(Int)->(Int)->Option (Int×Int)
def k76 (aO:t76):Ctr:=⟨[(.int .u64),(.int .u64)],[],[],.one mJ,fun x _ _=>aO x.1 x.2.1⟩
def c76:Ctr:=k76 aO
theorem e76 (lp:Lp) (jn:Jn) (bU:EC):∀(x:TsS c76.as) (F:TsF c76.fs) (y:TsS c76.cs),kE lp jn bU x.1 x.2.1=cb lp jn (cx [(122,NZ bU)] [(134,bF)]) ao 4 76 f76 c76 x F y:=fun x F y=>by kernel_rfl
theorem PU:c76.ok prog 76:=Ctr.of_den (au (ai (bQ) (by kernel_rfl) KL)) aW (hl:=ao) (d:=4) func76 rfl (by decide) (e76 lpK jnK bU)
def kZ (_:Lp) (_:Jn) (x0:Int×Int) (x1:Int×Int):Option (Int×Int) :=
 bif decide ((0:Int)<=0)&&decide ((0:Int)<=1) then bif decide (0<=oQ x0.2 x1.2 0)&&decide (oQ x0.2 x1.2 0<=1) then some (xr x0.1 x1.1 (oQ x0.2 x1.2 0),xr x0.2 x1.2 0) else none else none
def fu (x0:Int×Int) (x1:Int×Int):Option (Int×Int):=kZ lpK jnK x0 x1
abbrev t78:=(Int×Int)->(Int×Int)->Option (Int×Int)
def c78:Ctr:=⟨[mJ,mJ],[],[],.one mJ,fun x _ _=>fu x.1 x.2.1⟩
theorem e78 (lp:Lp) (jn:Jn):∀(x:TsS c78.as) (F:TsF c78.fs) (y:TsS c78.cs),kZ lp jn x.1 x.2.1=cb lp jn (cx [] [(134,bF)]) ao 4 78 f78 c78 x F y:=fun x F y=>by kernel_rfl
theorem SP:c78.ok prog 78:=Ctr.of_den (au (bQ)) aW (hl:=ao) (d:=4) func78 rfl (by decide) (e78 lpK jnK)
def oz (_:Lp) (_:Jn) (x0:Int×Int) (x1:Int×Int):Option Bool :=
 
 let v4:Bool:=decide (x0.1=x1.1);
 let v5:Bool:=decide (x0.1<x1.1);
 let v6:Bool:=!v5;
 let v7:Bool:=!v6;
 let v8:Bool:=v6&&v4;
 let v9:Bool:=v7||v6;
 let v10:Bool:=!v8||v8;bif v9 then bif v9 then bif v9&&v9 then bif v9 then bif v10 then bif v10 then bif v10&&v10 then bif (v7||v9)&&(v7||(!v4||(v7||v8))) then bif v5 || v6 then some (bif v5 then true else bif v4 then decide (x0.2<x1.2) else false) else none else none else none else none else none else none else none else none else none
def cJ (x0:Int×Int) (x1:Int×Int):Option Bool:=oz lpK jnK x0 x1
abbrev t79:=(Int×Int)->(Int×Int)->Option (Bool)
def k79 (cJ:t79):Ctr:=⟨[mJ,mJ],[],[],.one .bool,fun x _ _=>cJ x.1 x.2.1⟩
def c79:Ctr:=k79 cJ
theorem e79 (lp:Lp) (jn:Jn):∀(x:TsS c79.as) (F:TsF c79.fs) (y:TsS c79.cs),oz lp jn x.1 x.2.1=cb lp jn (cx [] [(134,bF)]) ao 4 79 f79 c79 x F y:=fun x F y=>by kernel_rfl
theorem Sw:c79.ok prog 79:=Ctr.of_den (au (bQ)) aW (hl:=ao) (d:=4) func79 rfl (by decide) (e79 lpK jnK)
def kf (_:Lp) (_:Jn) (x0:Int×Int) (x1:Int×Int):Option (Int×Int) :=
 bif decide ((0:Int)<=0)&&decide ((0:Int)<=1) then bif decide (0<=nl x0.2 x1.2 0)&&decide (nl x0.2 x1.2 0<=1) then some (tj x0.1 x1.1 (nl x0.2 x1.2 0),tj x0.2 x1.2 0) else none else none
def eo (x0:Int×Int) (x1:Int×Int):Option (Int×Int):=kf lpK jnK x0 x1
abbrev t80:=(Int×Int)->(Int×Int)->Option (Int×Int)
def c80:Ctr:=⟨[mJ,mJ],[],[],.one mJ,fun x _ _=>eo x.1 x.2.1⟩
theorem e80 (lp:Lp) (jn:Jn):∀(x:TsS c80.as) (F:TsF c80.fs) (y:TsS c80.cs),kf lp jn x.1 x.2.1=cb lp jn (cx [] [(134,bF)]) ao 4 80 f80 c80 x F y:=fun x F y=>by kernel_rfl
theorem TI:c80.ok prog 80:=Ctr.of_den (au (bQ)) aW (hl:=ao) (d:=4) func80 rfl (by decide) (e80 lpK jnK)
def sD (_:Lp) (jn:Jn) (x0:Int):Option Int :=
 jn (Int×Int×PUnit) Int (fun (x:Int×Int×PUnit)=>jn (Int×Int×PUnit) Int (fun (x:Int×Int×PUnit) =>
 let v5:Int:=IntKind.wrap IntKind.u8 x.1;
 let v6:Int:=IntKind.wrap IntKind.u8 (Int.fdiv x.1 (2 ^ 8));bif decide (x.1>=256) then bif decide ((0:Int)<=8) then bif inB v6 256 then some (IntKind.wrap .i64 (IntKind.wrap .i64 (x.2.1+8)+IntKind.wrap .i64 (eW { data:=List.toArray (List.append (List.append [(0:UInt8),(1 : UInt8),(2:UInt8),(2:UInt8),(3:UInt8),(3:UInt8),(3:UInt8),(3:UInt8),(4:UInt8),(4:UInt8),(4:UInt8),(4:UInt8),(4:UInt8),(4:UInt8),(4:UInt8),(4 : UInt8),(5:UInt8),(5:UInt8),(5:UInt8),(5:UInt8),(5:UInt8),(5:UInt8),(5:UInt8),(5:UInt8),(5:UInt8),(5:UInt8),(5:UInt8),(5:UInt8),(5:UInt8),(5 : UInt8),(5:UInt8),(5:UInt8),(6:UInt8),(6:UInt8),(6:UInt8),(6:UInt8),(6:UInt8),(6:UInt8),(6:UInt8),(6:UInt8),(6:UInt8),(6:UInt8),(6:UInt8),(6 : UInt8),(6:UInt8),(6:UInt8),(6:UInt8),(6:UInt8),(6:UInt8),(6:UInt8),(6:UInt8),(6:UInt8),(6:UInt8),(6:UInt8),(6:UInt8),(6:UInt8),(6:UInt8),(6 : UInt8),(6:UInt8),(6:UInt8),(6:UInt8),(6:UInt8),(6:UInt8),(6:UInt8)] [(7:UInt8),(7:UInt8),(7:UInt8),(7:UInt8),(7:UInt8),(7:UInt8),(7:UInt8),(7 : UInt8),(7:UInt8),(7:UInt8),(7:UInt8),(7:UInt8),(7:UInt8),(7:UInt8),(7:UInt8),(7:UInt8),(7:UInt8),(7:UInt8),(7:UInt8),(7:UInt8),(7:UInt8),(7 : UInt8),(7:UInt8),(7:UInt8),(7:UInt8),(7:UInt8),(7:UInt8),(7:UInt8),(7:UInt8),(7:UInt8),(7:UInt8),(7:UInt8),(7:UInt8),(7:UInt8),(7:UInt8),(7 : UInt8),(7:UInt8),(7:UInt8),(7:UInt8),(7:UInt8),(7:UInt8),(7:UInt8),(7:UInt8),(7:UInt8),(7:UInt8),(7:UInt8),(7:UInt8),(7:UInt8),(7:UInt8),(7 : UInt8),(7:UInt8),(7:UInt8),(7:UInt8),(7:UInt8),(7:UInt8),(7:UInt8),(7:UInt8),(7:UInt8),(7:UInt8),(7:UInt8),(7:UInt8),(7:UInt8),(7:UInt8),(7 : UInt8)]) (List.append [(8:UInt8),(8:UInt8),(8:UInt8),(8:UInt8),(8:UInt8),(8:UInt8),(8:UInt8),(8:UInt8),(8:UInt8),(8:UInt8),(8:UInt8),(8:UInt8),(8 : UInt8),(8:UInt8),(8:UInt8),(8:UInt8),(8:UInt8),(8:UInt8),(8:UInt8),(8:UInt8),(8:UInt8),(8:UInt8),(8:UInt8),(8:UInt8),(8:UInt8),(8:UInt8),(8 : UInt8),(8:UInt8),(8:UInt8),(8:UInt8),(8:UInt8),(8:UInt8),(8:UInt8),(8:UInt8),(8:UInt8),(8:UInt8),(8:UInt8),(8:UInt8),(8:UInt8),(8:UInt8),(8 : UInt8),(8:UInt8),(8:UInt8),(8:UInt8),(8:UInt8),(8:UInt8),(8:UInt8),(8:UInt8),(8:UInt8),(8:UInt8),(8:UInt8),(8:UInt8),(8:UInt8),(8:UInt8),(8 : UInt8),(8:UInt8),(8:UInt8),(8:UInt8),(8:UInt8),(8:UInt8),(8:UInt8),(8:UInt8),(8:UInt8),(8:UInt8)] [(8:UInt8),(8:UInt8),(8:UInt8),(8:UInt8),(8 : UInt8),(8:UInt8),(8:UInt8),(8:UInt8),(8:UInt8),(8:UInt8),(8:UInt8),(8:UInt8),(8:UInt8),(8:UInt8),(8:UInt8),(8:UInt8),(8:UInt8),(8:UInt8),(8 : UInt8),(8:UInt8),(8:UInt8),(8:UInt8),(8:UInt8),(8:UInt8),(8:UInt8),(8:UInt8),(8:UInt8),(8:UInt8),(8:UInt8),(8:UInt8),(8:UInt8),(8:UInt8),(8 : UInt8),(8:UInt8),(8:UInt8),(8:UInt8),(8:UInt8),(8:UInt8),(8:UInt8),(8:UInt8),(8:UInt8),(8:UInt8),(8:UInt8),(8:UInt8),(8:UInt8),(8:UInt8),(8 : UInt8),(8:UInt8),(8:UInt8),(8:UInt8),(8:UInt8),(8:UInt8),(8:UInt8),(8:UInt8),(8:UInt8),(8:UInt8),(8:UInt8),(8:UInt8),(8:UInt8),(8:UInt8),(8 : UInt8),(8:UInt8),(8:UInt8),(8:UInt8)])) } v6.toNat))) else none else none else bif inB v5 256 then some (IntKind.wrap .i64 (x.2.1+IntKind.wrap IntKind.i64 (eW { data:=List.toArray (List.append (List.append [(0:UInt8),(1:UInt8),(2:UInt8),(2:UInt8),(3:UInt8),(3:UInt8),(3:UInt8),(3:UInt8),(4 : UInt8),(4:UInt8),(4:UInt8),(4:UInt8),(4:UInt8),(4:UInt8),(4:UInt8),(4:UInt8),(5:UInt8),(5:UInt8),(5:UInt8),(5:UInt8),(5:UInt8),(5:UInt8),(5 : UInt8),(5:UInt8),(5:UInt8),(5:UInt8),(5:UInt8),(5:UInt8),(5:UInt8),(5:UInt8),(5:UInt8),(5:UInt8),(6:UInt8),(6:UInt8),(6:UInt8),(6:UInt8),(6 : UInt8),(6:UInt8),(6:UInt8),(6:UInt8),(6:UInt8),(6:UInt8),(6:UInt8),(6:UInt8),(6:UInt8),(6:UInt8),(6:UInt8),(6:UInt8),(6:UInt8),(6:UInt8),(6 : UInt8),(6:UInt8),(6:UInt8),(6:UInt8),(6:UInt8),(6:UInt8),(6:UInt8),(6:UInt8),(6:UInt8),(6:UInt8),(6:UInt8),(6:UInt8),(6:UInt8),(6:UInt8)] [(7 : UInt8),(7:UInt8),(7:UInt8),(7:UInt8),(7:UInt8),(7:UInt8),(7:UInt8),(7:UInt8),(7:UInt8),(7:UInt8),(7:UInt8),(7:UInt8),(7:UInt8),(7:UInt8),(7 : UInt8),(7:UInt8),(7:UInt8),(7:UInt8),(7:UInt8),(7:UInt8),(7:UInt8),(7:UInt8),(7:UInt8),(7:UInt8),(7:UInt8),(7:UInt8),(7:UInt8),(7:UInt8),(7 : UInt8),(7:UInt8),(7:UInt8),(7:UInt8),(7:UInt8),(7:UInt8),(7:UInt8),(7:UInt8),(7:UInt8),(7:UInt8),(7:UInt8),(7:UInt8),(7:UInt8),(7:UInt8),(7 : UInt8),(7:UInt8),(7:UInt8),(7:UInt8),(7:UInt8),(7:UInt8),(7:UInt8),(7:UInt8),(7:UInt8),(7:UInt8),(7:UInt8),(7:UInt8),(7:UInt8),(7:UInt8),(7 : UInt8),(7:UInt8),(7:UInt8),(7:UInt8),(7:UInt8),(7:UInt8),(7:UInt8),(7:UInt8)]) (List.append [(8:UInt8),(8:UInt8),(8:UInt8),(8:UInt8),(8:UInt8),(8 : UInt8),(8:UInt8),(8:UInt8),(8:UInt8),(8:UInt8),(8:UInt8),(8:UInt8),(8:UInt8),(8:UInt8),(8:UInt8),(8:UInt8),(8:UInt8),(8:UInt8),(8:UInt8),(8 : UInt8),(8:UInt8),(8:UInt8),(8:UInt8),(8:UInt8),(8:UInt8),(8:UInt8),(8:UInt8),(8:UInt8),(8:UInt8),(8:UInt8),(8:UInt8),(8:UInt8),(8:UInt8),(8 : UInt8),(8:UInt8),(8:UInt8),(8:UInt8),(8:UInt8),(8:UInt8),(8:UInt8),(8:UInt8),(8:UInt8),(8:UInt8),(8:UInt8),(8:UInt8),(8:UInt8),(8:UInt8),(8 : UInt8),(8:UInt8),(8:UInt8),(8:UInt8),(8:UInt8),(8:UInt8),(8:UInt8),(8:UInt8),(8:UInt8),(8:UInt8),(8:UInt8),(8:UInt8),(8:UInt8),(8:UInt8),(8 : UInt8),(8:UInt8),(8:UInt8)] [(8:UInt8),(8:UInt8),(8:UInt8),(8:UInt8),(8:UInt8),(8:UInt8),(8:UInt8),(8:UInt8),(8:UInt8),(8:UInt8),(8:UInt8),(8 : UInt8),(8:UInt8),(8:UInt8),(8:UInt8),(8:UInt8),(8:UInt8),(8:UInt8),(8:UInt8),(8:UInt8),(8:UInt8),(8:UInt8),(8:UInt8),(8:UInt8),(8:UInt8),(8 : UInt8),(8:UInt8),(8:UInt8),(8:UInt8),(8:UInt8),(8:UInt8),(8:UInt8),(8:UInt8),(8:UInt8),(8:UInt8),(8:UInt8),(8:UInt8),(8:UInt8),(8:UInt8),(8 : UInt8),(8:UInt8),(8:UInt8),(8:UInt8),(8:UInt8),(8:UInt8),(8:UInt8),(8:UInt8),(8:UInt8),(8:UInt8),(8:UInt8),(8:UInt8),(8:UInt8),(8:UInt8),(8 : UInt8),(8:UInt8),(8:UInt8),(8:UInt8),(8:UInt8),(8:UInt8),(8:UInt8),(8:UInt8),(8:UInt8),(8:UInt8),(8:UInt8)])) } v5.toNat))) else none) fun (j:Int × Int×PUnit->Option Int)=>bif decide (x.1>=65536) then bif decide ((0:Int)<=16) then j (Int.fdiv x.1 (2 ^ 16),IntKind.wrap .i64 (x.2.1+16),PUnit.unit) else none else j (x.1,x.2.1,PUnit.unit)) fun (j:Int×Int×PUnit->Option Int)=>bif decide (x0>=4294967296) then bif decide (0<=32) then j (Int.fdiv x0 (2 ^ 32),32,PUnit.unit) else none else j (x0,0,PUnit.unit)
def fX (x0:Int):Option Int:=sD lpK jnK x0
abbrev Se:=(Int)->Option (Int)
def IT:Ctr:=⟨[(.int .u64)],[],[],.one i64,fun x _ _=>fX x.1⟩
theorem Uo (lp:Lp) (jn:Jn):∀(x:TsS IT.as) (F:TsF IT.fs) (y:TsS IT.cs),sD lp jn x.1=cb lp jn (cx [] [(134,bF)]) ao 4 181 f181 IT x F y:=fun x F y=>by kernel_rfl
theorem Sv:IT.ok prog 181:=Ctr.of_den (au (bQ)) aW (hl:=ao) (d:=4) func181 rfl (by decide) (Uo lpK jnK)
def gQ (_:Lp) (_:Jn) (fX:Se) (x0:Int):Option Int :=
 aa (fX x0) fun (t:Int)=>some (IntKind.wrap .i64 (64 - t))
def cC (x0:Int):Option Int:=gQ lpK jnK fX x0
abbrev RS:=(Int)->Option (Int)
def KH:Ctr:=⟨[(.int .u64)],[],[],.one i64,fun x _ _=>cC x.1⟩
theorem T5 (lp:Lp) (jn:Jn) (fX:Se):∀(x:TsS KH.as) (F:TsF KH.fs) (y:TsS KH.cs),gQ lp jn fX x.1=cb lp jn (cx [(181,⟨[(.int .u64)],[],[],.one i64,fun x _ _=>fX x.1⟩)] [(134,bF)]) ao 4 165 f165 KH x F y:=fun x F y=>by kernel_rfl
theorem Ri:KH.ok prog 165:=Ctr.of_den (au (ai (bQ) (by kernel_rfl) Sv)) aW (hl:=ao) (d:=4) func165 rfl (by decide) (T5 lpK jnK fX)
def oh (lp:Lp) (jn:Jn) (cC:RS) (x0:Int) (x1:Int) (x2:Int):Option (Int×Int×Unit) :=
 
 let v5:Bool:=nzB x2;
 let v6:Int:=2 ^ 32;
 let v7:Bool:=decide ((0:Int)<=32);jn PUnit (Int×Int×PUnit) (fun (_:PUnit)=>jn PUnit (Int×Int×PUnit) (fun (_:PUnit)=>bif decide (x0=0) then bif v5 then bif v5 then some (IntKind.wrap .u64 (Int.tdiv x1 x2),Int.tmod x1 x2,PUnit.unit) else none else none else aa (cC x2) fun (t:Int) =>
 let v11:Int:=IntKind.wrap .u64 t;
 let v12:Bool:=decide (0<=v11);
 let v13:Int:=2 ^ min v11.toNat 64;
 let v14:Int:=IntKind.wrap .u64 (x2*v13);
 let v15:Int:=IntKind.wrap .u64 (x1*v13);
 let v16:Int:=Int.fdiv v14 v6;
 let v17:Int:=Int.fdiv v15 v6;
 let v18:Bool:=nzB v16;
 let v19:Int:=IntKind.wrap .u64 (↑(Nat.land (Int.toNat (v15 % Int.ofNat 18446744073709551616)) (Int.toNat (4294967295 % Int.ofNat 18446744073709551616))) : Int);
 let v20:Int:=IntKind.wrap .u64 (↑(Nat.land (Int.toNat (v14 % Int.ofNat 18446744073709551616)) (Int.toNat (4294967295 % Int.ofNat 18446744073709551616))) : Int);
 let v21:Int:=IntKind.wrap .u64 (↑(Nat.lor (Int.toNat (IntKind.wrap .u64 (x0*v13) % Int.ofNat 18446744073709551616)) (Int.toNat (Int.fdiv x1 (2 ^ min (Int.toNat (IntKind.wrap .u64 (64 - v11))) 64) % Int.ofNat 18446744073709551616))):Int);
 let v22:Int:=IntKind.wrap .u64 (Int.tdiv v21 v16);bif v12 then bif v7 then bif v12 then bif decide (0<=IntKind.wrap .u64 (64 - v11)) then bif v12 then bif v7 then bif v18 then jn (Int×PUnit) (Int×Int×PUnit) (fun (x:Int×PUnit) =>
 let v24:Int:=IntKind.wrap .u64 (IntKind.wrap .u64 (IntKind.wrap .u64 (v21*4294967296)+v17) - IntKind.wrap .u64 (x.1*v14));
 let v25:Int:=IntKind.wrap .u64 (Int.tdiv v24 v16);bif v18 then jn (Int×PUnit) (Int×Int×PUnit) (fun (x_1:Int×PUnit)=>bif v12 then some (IntKind.wrap .u64 (IntKind.wrap .u64 (x.1*4294967296)+x_1.1),Int.fdiv (IntKind.wrap .u64 (IntKind.wrap .u64 (IntKind.wrap .u64 (v24*4294967296) + v19) - IntKind.wrap .u64 (x_1.1*v14))) v13,PUnit.unit) else none) fun (j:Int×PUnit->Option (Int×Int×PUnit))=>lp (Int×Int×PUnit) (Int×Int×PUnit) (fun (again:Int×Int×PUnit->Option (Int×Int×PUnit)) (x:Int×Int×PUnit) =>
 let v29:Int×PUnit:=(IntKind.wrap .u64 (x.2.1 - 1),PUnit.unit);
 let v30:Bool:=decide (x.2.1>=4294967296);
 let v31:Bool:=!v30;
 let v32:Bool:=!v31||v31;
 let v33:Bool:=v32&&v32;bif v33 then bif v32 then bif v33 then bif v33 then bif v30||v31 then bif bif v30 then true else decide (IntKind.wrap .u64 (x.2.1*v20) > IntKind.wrap .u64 (IntKind.wrap .u64 (4294967296*x.1)+v19)) then bif decide (IntKind.wrap .u64 (x.1+v16)>=4294967296) then j v29 else again (IntKind.wrap .u64 (x.1+v16),v29) else j (x.2.1,PUnit.unit) else none else none else none else none else none) (IntKind.wrap .u64 (v24 - IntKind.wrap IntKind.u64 (v25*v16)),v25,PUnit.unit) else none) fun (j:Int×PUnit->Option (Int×Int×PUnit))=>lp (Int×Int×PUnit) (Int×Int×PUnit) (fun (again:Int×Int×PUnit -> Option (Int×Int×PUnit)) (x:Int×Int×PUnit) =>
 let v26:Int:=IntKind.wrap .u64 (x.1 - 1);
 let v27:Bool:=decide (x.1>=4294967296);
 let v28:Bool:=!v27;
 let v29:Bool:=!v28||v28;
 let v30:Bool:=v29&&v29;bif v30 then bif v29 then bif v30 then bif v30 then bif v27||v28 then bif bif v27 then true else decide (IntKind.wrap .u64 (x.1*v20) > IntKind.wrap .u64 (IntKind.wrap .u64 (4294967296*x.2.1)+v17)) then bif decide (IntKind.wrap .u64 (x.2.1+v16)>=4294967296) then j (v26,PUnit.unit) else again (v26,IntKind.wrap .u64 (x.2.1+v16),PUnit.unit) else j (x.1,PUnit.unit) else none else none else none else none else none) (v22, IntKind.wrap .u64 (v21 - IntKind.wrap .u64 (v22*v16)),PUnit.unit) else none else none else none else none else none else none else none) fun (j:PUnit->Option (Int × Int×PUnit))=>bif decide (x2<=x0) then none else j PUnit.unit) fun (j:PUnit->Option (Int×Int×PUnit))=>bif decide (x2=0) then none else j PUnit.unit
def cP (x0:Int) (x1:Int) (x2:Int):Option (Int×Int×Unit):=oh lpK jnK cC x0 x1 x2
abbrev H0:=(Int)->(Int)->(Int)->Option (Int×Int×Unit)
def Pq (cP:H0):Ctr:=⟨[(.int .u64),(.int .u64),(.int .u64)],[],[],.tup [(.int .u64),(.int .u64)],fun x _ _=>cP x.1 x.2.1 x.2.2.1⟩
def Ja:Ctr:=Pq cP
theorem Ug (lp:Lp) (jn:Jn) (cC:RS):∀(x:TsS Ja.as) (F:TsF Ja.fs) (y:TsS Ja.cs),oh lp jn cC x.1 x.2.1 x.2.2.1=cb lp jn (cx [(165,⟨[(.int .u64)],[],[],.one i64,fun x _ _=>cC x.1⟩)] [(134,bF)]) ao 4 125 f125 Ja x F y:=fun x F y=>by kernel_rfl
theorem OC:Ja.ok prog 125:=Ctr.of_den (au (ai (bQ) (by kernel_rfl) Ri)) aW (hl:=ao) (d:=4) func125 rfl (by decide) (Ug lpK jnK cC)
def nW (_:Lp) (_:Jn) (cP:H0) (x0:Int×Int) (x1:Int):Option ((Int×Int)×Int×Unit) :=
 
 let v4:Bool:=nzB x1;bif v4 then aa (cP (Int.tmod x0.1 x1) x0.2 x1) fun (t:Int×Int×PUnit)=>bif v4 then some ((IntKind.wrap .u64 (Int.tdiv x0.1 x1), t.1),t.2.1,PUnit.unit) else none else none
def dP (x0:Int×Int) (x1:Int):Option ((Int×Int)×Int×Unit):=nW lpK jnK cP x0 x1
abbrev t81:=(Int×Int)->(Int)->Option ((Int×Int)×Int×Unit)
def k81 (dP:t81):Ctr:=⟨[mJ,(.int .u64)],[],[],.tup [mJ,(.int .u64)],fun x _ _=>dP x.1 x.2.1⟩
def c81:Ctr:=k81 dP
theorem e81 (lp:Lp) (jn:Jn) (cP:H0):∀(x:TsS c81.as) (F:TsF c81.fs) (y:TsS c81.cs),nW lp jn cP x.1 x.2.1=cb lp jn (cx [(125,Pq cP)] [(134,bF)]) ao 4 81 f81 c81 x F y:=fun x F y=>by kernel_rfl
theorem S3:c81.ok prog 81:=Ctr.of_den (au (ai (bQ) (by kernel_rfl) OC)) aW (hl:=ao) (d:=4) func81 rfl (by decide) (e81 lpK jnK cP)
def lO (_:Lp) (_:Jn) (x0:Bool) (x1:Int) (x2:Int):Option ((Int×Int)×Int×Unit) :=
 
 let v5:Int:=IntKind.wrap .i64 x1;
 let v6:Int:=IntKind.wrap .i64 x2;
 let v7:Bool:=decide (x1>1152921504606846976);
 let v8:Bool:=!v7;bif !v8||v8 then bif v7||v8 then bif bif v7 then true else decide (x2>1152921504606846976) then some ((0,0),5,PUnit.unit) else bif x0 then some ((IntKind.wrap .i64 (0 - v5),v6),0,PUnit.unit) else some ((v5,v6),0,PUnit.unit) else none else none
def bg (x0:Bool) (x1:Int) (x2:Int):Option ((Int×Int)×Int×Unit):=lO lpK jnK x0 x1 x2
abbrev t82:=(Bool)->(Int)->(Int)->Option ((Int×Int)×Int×Unit)
def k82 (bg:t82):Ctr:=⟨[.bool,(.int .u64),(.int .u64)],[],[],.tup [T49,i64],fun x _ _=>bg x.1 x.2.1 x.2.2.1⟩
def c82:Ctr:=k82 bg
theorem e82 (lp:Lp) (jn:Jn):∀(x:TsS c82.as) (F:TsF c82.fs) (y:TsS c82.cs),lO lp jn x.1 x.2.1 x.2.2.1=cb lp jn (cx [] [(134,bF)]) ao 4 82 f82 c82 x F y:=fun x F y=>by kernel_rfl
theorem Py:c82.ok prog 82:=Ctr.of_den (au (bQ)) aW (hl:=ao) (d:=4) func82 rfl (by decide) (e82 lpK jnK)
def pb (_:Lp) (jn:Jn) (bw:t75) (aL:t77) (aw:t72) (aO:t76) (fu:t78) (cJ:t79) (eo:t80) (dP:t81) (bg:t82) (x0:Int×Int) (x1:Int×Int):Option ((Int×Int)×Int×Unit) :=
 
 let v4:Int:=IntKind.wrap .u64 x0.2;
 let v5:Int:=IntKind.wrap .u64 x1.2;
 let v6:Bool:=decide (x0.1<0);aa (aw x0) fun (t:Bool) =>
 let v8:Bool:=!t;
 let v9:Bool:=!v8;
 let v10:Bool:=!v9||v9;bif v10 then aa (bif v9 then aw x1 else some false) fun (t:Bool)=>bif v10 then bif v8||v9 then bif bif v8 then true else !t then some (((0 : Int),0),1,PUnit.unit) else aa (bw v4 v5) fun (t:Int) =>
 let v13:Bool:=nzB t;
 let v14:Int:=IntKind.wrap .u64 (Int.tdiv v4 t);aa (aL x0.1) fun (t_1:Int)=>bif v13 then aa (aO t_1 (IntKind.wrap .u64 (Int.tdiv v5 t))) fun (t_2:Int×Int)=>aa (aL x1.1) fun (t_3:Int)=>bif v13 then aa (aO t_3 v14) fun (t_4:Int×Int)=>jn (Bool×(Int×Int)×PUnit) ((Int×Int) × Int×PUnit) (fun (x:Bool×(Int×Int)×PUnit)=>bif decide (x.2.1.1=0)&&(decide (x.2.1.2=0)&&true) then some ((0,1),(0 : Int),PUnit.unit) else aa (dP x.2.1 t) fun (t_5:(Int×Int)×Int×PUnit)=>aa (bw t t_5.2.1) fun (t:Int)=>aa (dP x.2.1 t) fun (t_6 : (Int×Int)×Int×PUnit) =>
 let v23:Bool:=decide (t_6.1.1>0);
 let v24:Bool:=!v23;
 let v25:Bool:=!v24||v24;bif v13 then bif nzB t then aa (aO v14 (IntKind.wrap .u64 (Int.tdiv v5 t))) fun (t:Int×Int)=>bif v25 then bif v25 then bif v23 || v24 then bif bif v23 then true else decide (t.1>0) then some ((0,0),5,PUnit.unit) else aa (bg x.1 t_6.1.2 t.2) fun (t:(Int × Int)×Int×PUnit)=>some (t.1,t.2.1,PUnit.unit) else none else none else none else none else none) fun (j:Bool×(Int×Int)×PUnit->Option ((Int×Int)×Int×PUnit)) =>bif decide (v6=decide (x1.1<0)) then aa (fu t_2 t_4) fun (t:Int×Int)=>j (v6,t,PUnit.unit) else aa (cJ t_2 t_4) fun (t:Bool)=>jn (Bool × (Int×Int)×PUnit) ((Int×Int)×Int×PUnit) (fun (x:Bool×(Int×Int)×PUnit)=>j (x.1,x.2.1,PUnit.unit)) fun (j:Bool×(Int×Int)×PUnit->Option ((Int×Int) × Int×PUnit))=>bif t then aa (eo t_4 t_2) fun (t:Int×Int)=>j (!v6,t,PUnit.unit) else aa (eo t_2 t_4) fun (t:Int×Int)=>j (v6,t,PUnit.unit) else none else none else none else none else none
def ba (x0:Int×Int) (x1:Int×Int):Option ((Int×Int)×Int×Unit):=pb lpK jnK bw aL aw aO fu cJ eo dP bg x0 x1
abbrev t35:=(Int×Int)->(Int×Int)->Option ((Int×Int)×Int×Unit)
def k35 (ba:t35):Ctr:=⟨[T49,T49],[],[],.tup [T49,i64],fun x _ _=>ba x.1 x.2.1⟩
def c35:Ctr:=k35 ba
theorem e35 (lp:Lp) (jn:Jn) (bw:t75) (aL:t77) (aw:t72) (aO:t76) (fu:t78) (cJ:t79) (eo:t80) (dP:t81) (bg:t82):∀(x:TsS c35.as) (F:TsF c35.fs) (y:TsS c35.cs),pb lp jn bw aL aw aO fu cJ eo dP bg x.1 x.2.1=cb lp jn (cx [(82,k82 bg),(81,k81 dP),(80,⟨[mJ,mJ],[],[],.one mJ,fun x _ _=>eo x.1 x.2.1⟩),(79,k79 cJ),(78,⟨[mJ,mJ],[],[],.one mJ,fun x _ _=>fu x.1 x.2.1⟩),(76,k76 aO),(72,k72 aw),(77,k77 aL),(75,k75 bw)] [(134,bF)]) ao 4 35 f35 c35 x F y:=fun x F y=>by kernel_rfl
theorem PV:c35.ok prog 35:=Ctr.of_den (au (ai (ai (ai (ai (ai (ai (ai (ai (ai (bQ) (by kernel_rfl) N0) (by kernel_rfl) KS) (by kernel_rfl) Gy) (by kernel_rfl) PU) (by kernel_rfl) SP) (by kernel_rfl) Sw) (by kernel_rfl) TI) (by kernel_rfl) S3) (by kernel_rfl) Py)) aW (hl:=ao) (d:=4) func35 rfl (by decide) (e35 lpK jnK bw aL aw aO fu cJ eo dP bg)
def t8 (_:Lp) (_:Jn) (bw:t75) (aL:t77) (aw:t72) (aO:t76) (bg:t82) (x0:Int×Int) (x1:Int×Int):Option ((Int×Int)×Int×Unit) :=
 
 let v4:Int:=IntKind.wrap .u64 x1.2;
 let v5:Int:=IntKind.wrap .u64 x0.2;aa (aw x0) fun (t:Bool) =>
 let v7:Bool:=!t;
 let v8:Bool:=!v7;
 let v9:Bool:=!v8||v8;bif v9 then aa (bif v8 then aw x1 else some false) fun (t:Bool)=>bif v9 then bif v7||v8 then bif bif v7 then true else !t then some (((0 : Int),0),1,PUnit.unit) else aa (aL x0.1) fun (t:Int)=>aa (bw t v4) fun (t:Int) =>
 let v13:Bool:=nzB t;aa (aL x1.1) fun (t_1:Int)=>aa (bw t_1 v5) fun (t_2:Int) =>
 let v16:Bool:=nzB t_2;aa (aL x0.1) fun (t_3:Int)=>bif v13 then aa (aL x1.1) fun (t_4:Int)=>bif v16 then aa (aO (IntKind.wrap IntKind.u64 (Int.tdiv t_3 t)) (IntKind.wrap .u64 (Int.tdiv t_4 t_2))) fun (t_5:Int×Int) =>
 let v20:Bool:=decide (t_5.1>0);
 let v21:Bool:=decide (t_5.2>0);
 let v22:Bool:=!v20;
 let v23:Bool:=!v21||v21;
 let v24:Bool:=!v22||v22;bif v16 then bif v13 then aa (aO (IntKind.wrap .u64 (Int.tdiv v5 t_2)) (IntKind.wrap .u64 (Int.tdiv v4 t))) fun (t:Int×Int) =>bif v24 then bif v24 then bif v20||v22 then bif bif v20 then true else decide (t.1>0) then some ((0,0),5,PUnit.unit) else bif v23 then bif v23 then bif v23 then bif v23 then bif v23&&v23 then bif v23 then aa (bg (bif v21 then !decide (decide (x0.1<0)=decide (x1.1<0)) else false) t_5.2 t.2) fun (t:(Int×Int)×Int×PUnit)=>some (t.1,t.2.1,PUnit.unit) else none else none else none else none else none else none else none else none else none else none else none else none else none else none else none else none
def fp (x0:Int×Int) (x1:Int×Int):Option ((Int×Int)×Int×Unit):=t8 lpK jnK bw aL aw aO bg x0 x1
abbrev LL:=(Int×Int)->(Int×Int)->Option ((Int×Int)×Int×Unit)
def Sg (fp:LL):Ctr:=⟨[T49,T49],[],[],.tup [T49,i64],fun x _ _=>fp x.1 x.2.1⟩
def Ke:Ctr:=Sg fp
theorem TG (lp:Lp) (jn:Jn) (bw:t75) (aL:t77) (aw:t72) (aO:t76) (bg:t82):∀(x:TsS Ke.as) (F:TsF Ke.fs) (y:TsS Ke.cs),t8 lp jn bw aL aw aO bg x.1 x.2.1=cb lp jn (cx [(82,k82 bg),(76,k76 aO),(72,k72 aw),(77,k77 aL),(75,k75 bw)] [(134,bF)]) ao 4 146 f146 Ke x F y:=fun x F y=>by kernel_rfl
theorem R4:Ke.ok prog 146:=Ctr.of_den (au (ai (ai (ai (ai (ai (bQ) (by kernel_rfl) N0) (by kernel_rfl) KS) (by kernel_rfl) Gy) (by kernel_rfl) PU) (by kernel_rfl) Py)) aW (hl:=ao) (d:=4) func146 rfl (by decide) (TG lpK jnK bw aL aw aO bg)
def mq (lp:Lp) (jn:Jn) (ba:t35) (fp:LL) (x0:Int) (x1:List Int) (x2:List (Int×Int)):Option (Int×(Int×Int)) :=
 lp (Int×Int×(Int×Int)×(Int×Int)×PUnit) (Int×Int×Int) (fun (again:Int×Int×(Int×Int)×(Int×Int)×PUnit->Option (Int×Int×Int)) (x:Int×Int×(Int×Int) × (Int×Int)×PUnit)=>bif decide (x.1<(↑x1.length:Int)) then bif inB x.1 x1.length then bif inB x.1 x2.length then aa (fp (x1.getD x.1.toNat 0,1) (x2.getD x.1.toNat (0,0))) fun (t:(Int×Int)×Int×PUnit)=>jn (Int×(Int×Int)×PUnit) (Int×Int×Int) (fun (x_1:Int×(Int×Int)×PUnit)=>bif !decide (x_1.1=0) then some (x_1.1,0,1) else again (IntKind.wrap .i64 (x.1+1), x.2.1,x.2.2.1,x_1.2.1,PUnit.unit)) fun (j:Int×(Int×Int)×PUnit->Option (Int×Int×Int))=>bif decide (t.2.1=0) then aa (ba x.2.2.2.1 t.1) fun (t:(Int×Int)×Int×PUnit)=>j (t.2.1,t.1,PUnit.unit) else j (t.2.1,t.1,PUnit.unit) else none else none else some (x.2.1, x.2.2.2.1)) (0,x0,(0,0),(0,1),PUnit.unit)
def cV (x0:Int) (x1:List Int) (x2:List (Int×Int)):Option (Int×(Int×Int)):=mq lpK jnK ba fp x0 x1 x2
abbrev t95:=(Int)->(List Int)->(List (Int×Int))->Option (Int×(Int×Int))
def k95 (cV:t95):MCtr:=⟨Pa,[(.sl i64),(.sl T49)],.one T49,fun x y=>cV x y.1 y.2.1⟩
def m95:MCtr:=k95 cV
theorem e95 (lp:Lp) (jn:Jn) (ba:t35) (fp:LL):∀(x:m95.s.T) (y:TsS m95.as),mq lp jn ba fp x y.1 y.2.1=O8 lp jn (cx [(146,Sg fp),(35,k35 ba)] [(134,bF)]) ao 4 95 f95 m95 x y:=fun x y=>by kernel_rfl
theorem SS:m95.ok prog 95:=MCtr.of_den (au (ai (ai (bQ) (by kernel_rfl) PV) (by kernel_rfl) R4)) aW (hl:=ao) (d:=4) func95 rfl (by decide) rfl (e95 lpK jnK ba fp)
def uh (_:Lp) (jn:Jn) (aL:t77) (aw:t72) (aO:t76) (cJ:t79) (x0:Int×Int) (x1:Int×Int):Option (Int×Int×Unit) :=
 
 let v4:Bool:=decide (x0.1<0);aa (aw x0) fun (t:Bool) =>
 let v6:Bool:=!t;
 let v7:Bool:=!v6;
 let v8:Bool:=!v7||v7;bif v8 then aa (bif v7 then aw x1 else some false) fun (t:Bool)=>bif v8 then bif v6||v7 then bif bif v6 then true else !t then some ((0 : Int),1,PUnit.unit) else aa (aL x0.1) fun (t:Int)=>aa (aO t (IntKind.wrap .u64 x1.2)) fun (t:Int×Int)=>aa (aL x1.1) fun (t_1:Int)=>aa (aO t_1 (IntKind.wrap .u64 x0.2)) fun (t_2:Int×Int)=>bif !decide (v4=decide (x1.1<0)) then bif v4 then some ((-1), 0,PUnit.unit) else some (1,0,PUnit.unit) else jn ((Int×Int)×(Int×Int)×PUnit) (Int×Int×PUnit) (fun (x:(Int×Int)×(Int×Int)×PUnit)=>aa (cJ x.1 x.2.1) fun (t:Bool)=>bif t then some ((-1),0,PUnit.unit) else aa (cJ x.2.1 x.1) fun (t:Bool)=>bif t then some (1, 0,PUnit.unit) else some (0,0,PUnit.unit)) fun (j:(Int×Int)×(Int×Int)×PUnit->Option (Int×Int×PUnit))=>bif v4 then j (t_2,t,PUnit.unit) else j (t,t_2,PUnit.unit) else none else none else none
def dS (x0:Int×Int) (x1:Int×Int):Option (Int×Int×Unit):=uh lpK jnK aL aw aO cJ x0 x1
abbrev t39:=(Int×Int)->(Int×Int)->Option (Int×Int×Unit)
def k39 (dS:t39):Ctr:=⟨[T49,T49],[],[],.tup [i64,i64],fun x _ _=>dS x.1 x.2.1⟩
def c39:Ctr:=k39 dS
theorem e39 (lp:Lp) (jn:Jn) (aL:t77) (aw:t72) (aO:t76) (cJ:t79):∀(x:TsS c39.as) (F:TsF c39.fs) (y:TsS c39.cs),uh lp jn aL aw aO cJ x.1 x.2.1=cb lp jn (cx [(79,k79 cJ),(76,k76 aO),(72,k72 aw),(77,k77 aL)] [(134,bF)]) ao 4 39 f39 c39 x F y:=fun x F y=>by kernel_rfl
theorem Uw:c39.ok prog 39:=Ctr.of_den (au (ai (ai (ai (ai (bQ) (by kernel_rfl) KS) (by kernel_rfl) Gy) (by kernel_rfl) PU) (by kernel_rfl) Sw)) aW (hl:=ao) (d:=4) func39 rfl (by decide) (e39 lpK jnK aL aw aO cJ)
def qP (_:Lp) (_:Jn) (dS:t39) (x0:Int×Int) (x1:Int):Option Int :=
 aa (dS x0 (x1,1)) fun (t:Int×Int×PUnit)=>some t.1
def gn (x0:Int×Int) (x1:Int):Option Int:=qP lpK jnK dS x0 x1
abbrev QK:=(Int×Int)->(Int)->Option (Int)
def HO:Ctr:=⟨[T49,i64],[],[],.one i64,fun x _ _=>gn x.1 x.2.1⟩
theorem Ub (lp:Lp) (jn:Jn) (dS:t39):∀(x:TsS HO.as) (F:TsF HO.fs) (y:TsS HO.cs),qP lp jn dS x.1 x.2.1=cb lp jn (cx [(39,k39 dS)] [(134,bF)]) ao 4 144 f144 HO x F y:=fun x F y=>by kernel_rfl
theorem QP:HO.ok prog 144:=Ctr.of_den (au (ai (bQ) (by kernel_rfl) Uw)) aW (hl:=ao) (d:=4) func144 rfl (by decide) (Ub lpK jnK dS)
def mQ (lp:Lp) (_:Jn) (x0:(List Int)×List ((List Int)×Int×Int)) (x1:Int):Option (List Int) :=
 lp (List Int×Int×PUnit) (List Int) (fun (again:List Int×Int×PUnit->Option (List Int)) (x:List Int×Int×PUnit)=>bif decide (x.2.1<(↑x0.2.length:Int)) then bif inB x.2.1 x0.2.length then bif inB x1 (List.length (x0.2.getD x.2.1.toNat ([],0,0)).1) then bif dR (List.length x.1+(1 : Nat)) 8 then again (x.1++[List.getD (x0.2.getD x.2.1.toNat ([],0,0)).1 x1.toNat 0],IntKind.wrap .i64 (x.2.1 + 1),PUnit.unit) else none else none else none else some x.1) ([],0,PUnit.unit)
def eK (x0:(List Int)×List ((List Int)×Int×Int)) (x1:Int):Option (List Int):=mQ lpK jnK x0 x1
abbrev Rv:=((List Int)×List ((List Int)×Int×Int))->(Int)->Option (List Int)
def IH:Ctr:=⟨[T32,i64],[],[],.one (.sl i64),fun x _ _=>eK x.1 x.2.1⟩
theorem TW (lp:Lp) (jn:Jn):∀(x:TsS IH.as) (F:TsF IH.fs) (y:TsS IH.cs),mQ lp jn x.1 x.2.1=cb lp jn (cx [] [(134,bF)]) ao 4 145 f145 IH x F y:=fun x F y=>by kernel_rfl
theorem QJ:IH.ok prog 145:=Ctr.of_den (au (bQ)) aW (hl:=ao) (d:=4) func145 rfl (by decide) (TW lpK jnK)
def kO (_:Lp) (_:Jn) (_:Int):Option Int :=
 some 0
def dE (x0:Int):Option Int:=kO lpK jnK x0
abbrev t94:=(Int)->Option (Int)
def c94:Ctr:=⟨[i64],[],[],.one i64,fun x _ _=>dE x.1⟩
theorem e94 (lp:Lp) (jn:Jn):∀(x:TsS c94.as) (F:TsF c94.fs) (y:TsS c94.cs),kO lp jn x.1=cb lp jn (cx [] [(134,bF)]) ao 4 94 f94 c94 x F y:=fun x F y=>by kernel_rfl
theorem TP:c94.ok prog 94:=Ctr.of_den (au (bQ)) aW (hl:=ao) (d:=4) func94 rfl (by decide) (e94 lpK jnK)
def np (lp:Lp) (_:Jn) (x0:(List Int)×List ((List Int)×Int×Int)):Option (List Int) :=
 lp (List Int×Int×PUnit) (List Int) (fun (again:List Int×Int×PUnit->Option (List Int)) (x:List Int×Int×PUnit)=>bif decide (x.2.1<(↑x0.2.length:Int)) then bif inB x.2.1 x0.2.length then bif dR (List.length x.1+1) 8 then again (x.1++[(x0.2.getD x.2.1.toNat ([],0,(0 : Int))).2.2],IntKind.wrap .i64 (x.2.1+1),PUnit.unit) else none else none else some x.1) ([],0,PUnit.unit)
def eJ (x0:(List Int)×List ((List Int)×Int×Int)):Option (List Int):=np lpK jnK x0
abbrev t96:=((List Int)×List ((List Int)×Int×Int))->Option (List Int)
def c96:Ctr:=⟨[T32],[],[],.one (.sl i64),fun x _ _=>eJ x.1⟩
theorem e96 (lp:Lp) (jn:Jn):∀(x:TsS c96.as) (F:TsF c96.fs) (y:TsS c96.cs),np lp jn x.1=cb lp jn (cx [] [(134,bF)]) ao 4 96 f96 c96 x F y:=fun x F y=>by kernel_rfl
theorem T4:c96.ok prog 96:=Ctr.of_den (au (bQ)) aW (hl:=ao) (d:=4) func96 rfl (by decide) (e96 lpK jnK)
def m8 (lp:Lp) (_:Jn) (x0:(List Int)×List ((List Int)×Int×Int)) (x1:List (Int×Int)):Option Bool :=
 lp (Int×PUnit) Bool (fun (again:Int×PUnit->Option Bool) (x:Int×PUnit) =>
 let v6:Bool:=inB x.1 x1.length;
 let v7:Bool:=decide ((x0.2.getD x.1.toNat ([],0,0)).2.1=1);
 let v8:Bool:=decide ((x0.2.getD x.1.toNat ([],0,0)).2.1=2);
 let v9:Bool:=!v7;
 let v10:Bool:=bif v7 then decide ((x1.getD x.1.toNat (0,0)).1>0) else false;
 let v11:Bool:=!v10;
 let v12:Bool:=!v11;
 let v13:Bool:=v9||v7;
 let v14:Bool:=v11&&v8;
 let v15:Bool:=!v14;
 let v16:Bool:=v12||v11;
 let v17:Bool:=v15||v14;bif decide (x.1<(↑x0.2.length:Int)) then bif inB x.1 x0.2.length then bif v13&&(v13&&(v9||v6)) then bif v13 then bif v13 then bif v13 then bif v13 then bif v16 then bif v16 then bif v16 then bif v17&&(v17&&(v15||v6)) then bif v17 then bif v17 then bif v17 then bif (v12||v16)&&(v12||(!v8||(v12 || v14))) then bif v10||v11 then bif bif v10 then true else bif v8 then decide ((x1.getD x.1.toNat (0,0)).1<0) else false then some false else again (IntKind.wrap .i64 (x.1+1),PUnit.unit) else none else none else none else none else none else none else none else none else none else none else none else none else none else none else none else some true) (0,PUnit.unit)
def eH (x0:(List Int)×List ((List Int)×Int×Int)) (x1:List (Int×Int)):Option Bool:=m8 lpK jnK x0 x1
abbrev t97:=((List Int)×List ((List Int)×Int×Int))->(List (Int×Int))->Option (Bool)
def c97:Ctr:=⟨[T32,(.sl T49)],[],[],.one .bool,fun x _ _=>eH x.1 x.2.1⟩
theorem e97 (lp:Lp) (jn:Jn):∀(x:TsS c97.as) (F:TsF c97.fs) (y:TsS c97.cs),m8 lp jn x.1 x.2.1=cb lp jn (cx [] [(134,bF)]) ao 4 97 f97 c97 x F y:=fun x F y=>by kernel_rfl
theorem Tl:c97.ok prog 97:=Ctr.of_den (au (bQ)) aW (hl:=ao) (d:=4) func97 rfl (by decide) (e97 lpK jnK)
def mh (lp:Lp) (_:Jn) (bz:t91) (fj:t92) (gn:QK) (eK:Rv) (dE:t94) (eJ:t96) (eH:t97) (cV:t95) (x0:(List Int)×List ((List Int)×Int×Int)) (x1:List (Int×Int)):Option (Bool×Int×Unit) :=
 aa (bz x0) fun (t:Bool) =>
 let v5:Bool:=!t;
 let v6:Bool:=!v5;
 let v7:Bool:=!v6||v6;bif v7 then aa (bif v6 then fj x1 else some false) fun (t:Bool)=>bif v7 then bif v5||v6 then bif bif v5 then true else !t then some (false, 1,PUnit.unit) else bif !decide ((↑x1.length:Int)=(↑x0.2.length:Int)) then some (false,3,PUnit.unit) else lp (Bool×Int×Int×PUnit) (Bool × Int×PUnit) (fun (again:Bool×Int×Int×PUnit->Option (Bool×Int×PUnit)) (x:Bool×Int×Int×PUnit)=>bif decide (x.2.1<(↑x0.1.length:Int)) then aa (eK x0 x.2.1) fun (t:List Int)=>aa (cV x.2.2.1 t x1) fun (t:Int×Int×Int)=>aa (dE x.2.1) fun (t_1:Int)=>aa (gn t.2 t_1) fun (t_2:Int) =>
 let v15:Bool:=decide (t_2<=0);bif !v15||v15 then again (bif v15 then x.1 else false,IntKind.wrap .i64 (x.2.1+1),t.1,PUnit.unit) else none else aa (eJ x0) fun (t:List Int)=>aa (cV x.2.2.1 t x1) fun (t:Int×Int×Int) =>
 let v13:Bool:=decide (t.2.1>0);
 let v14:Bool:=!v13||v13;bif v14&&v14 then aa (bif v13 then eH x0 x1 else some false) fun (t_1:Bool) =>
 let v16:Bool:=bif v13 then t_1 else false;
 let v17:Bool:=bif v16 then x.1 else false;
 let v18:Bool:=!v17||v17;bif v14 then bif !v16||v16 then bif v18 then bif v18 then bif v18 then some (bif v17 then decide (t.1=0) else false,t.1,PUnit.unit) else none else none else none else none else none else none) (true,0,0,PUnit.unit) else none else none else none
def dq (x0:(List Int)×List ((List Int)×Int×Int)) (x1:List (Int×Int)):Option (Bool×Int×Unit):=mh lpK jnK bz fj gn eK dE eJ eH cV x0 x1
abbrev t47:=((List Int)×List ((List Int)×Int×Int))->(List (Int×Int))->Option (Bool×Int×Unit)
def k47 (dq:t47):Ctr:=⟨[T32,(.sl T49)],[],[],.tup [.bool,i64],fun x _ _=>dq x.1 x.2.1⟩
def c47:Ctr:=k47 dq
theorem e47 (lp:Lp) (jn:Jn) (bz:t91) (fj:t92) (gn:QK) (eK:Rv) (dE:t94) (eJ:t96) (eH:t97) (cV:t95):∀(x:TsS c47.as) (F:TsF c47.fs) (y:TsS c47.cs),mh lp jn bz fj gn eK dE eJ eH cV x.1 x.2.1=cb lp jn (Co Ez D3 (GU [] [(95,k95 cV)] (kP prog shs xw its [(97,⟨[T32,(.sl T49)],[],[],.one .bool,fun x _ _=>eH x.1 x.2.1⟩),(96,⟨[T32],[],[],.one (.sl i64),fun x _ _=>eJ x.1⟩),(94,⟨[i64],[],[],.one i64,fun x _ _=>dE x.1⟩),(145,⟨[T32,i64],[],[],.one (.sl i64),fun x _ _=>eK x.1 x.2.1⟩),(144,⟨[T49,i64],[],[],.one i64,fun x _ _=>gn x.1 x.2.1⟩),(92,⟨[(.sl T49)],[],[],.one .bool,fun x _ _=>fj x.1⟩),(91,k91 bz)] [(134,bF)]))) ao 4 47 f47 c47 x F y:=fun x F y=>by kernel_rfl
theorem Un:c47.ok prog 47:=Ctr.of_den (au (sb (ai (ai (ai (ai (ai (ai (ai (bQ) (by kernel_rfl) SD) (by kernel_rfl) S7) (by kernel_rfl) QP) (by kernel_rfl) QJ) (by kernel_rfl) TP) (by kernel_rfl) T4) (by kernel_rfl) Tl) (pU) (GG (by kernel_rfl) SS (pS)))) aW (hl:=ao) (d:=4) func47 rfl (by decide) (e47 lpK jnK bz fj gn eK dE eJ eH cV)
def pC (_:Lp) (_:Jn) (aU:t11) (dq:t47) (x0:(List (ByteArray×Int))×List (ByteArray×(List (ByteArray×Int×Int×Int))×Bool)) (x1:List (Int×Int)):Option (Bool×Int×Unit) :=
 aa (aU x0) fun (t:(List Int×List (List Int×Int×Int))×Int×PUnit)=>bif !decide (t.2.1=0) then some (false,t.2.1,PUnit.unit) else aa (dq t.1 x1) fun (t:Bool×Int×PUnit)=>some (t.1,t.2.1,PUnit.unit)
def a8 (x0:(List (ByteArray×Int))×List (ByteArray×(List (ByteArray×Int×Int×Int))×Bool)) (x1:List (Int×Int)):Option (Bool×Int×Unit):=pC lpK jnK aU dq x0 x1
abbrev t12:=((List (ByteArray×Int))×List (ByteArray×(List (ByteArray×Int×Int×Int))×Bool))->(List (Int×Int))->Option (Bool×Int×Unit)
def k12 (a8:t12):Ctr:=⟨[T25,(.sl T49)],[],[],.tup [.bool,i64],fun x _ _=>a8 x.1 x.2.1⟩
def c12:Ctr:=k12 a8
theorem e12 (lp:Lp) (jn:Jn) (aU:t11) (dq:t47):∀(x:TsS c12.as) (F:TsF c12.fs) (y:TsS c12.cs),pC lp jn aU dq x.1 x.2.1=cb lp jn (cx [(47,k47 dq),(11,k11 aU)] [(134,bF)]) ao 4 12 f12 c12 x F y:=fun x F y=>by kernel_rfl
theorem Tz:c12.ok prog 12:=Ctr.of_den (au (ai (ai (bQ) (by kernel_rfl) QN) (by kernel_rfl) Un)) aW (hl:=ao) (d:=4) func12 rfl (by decide) (e12 lpK jnK aU dq)
def pW (_:Lp) (_:Jn) (x0:Int):Option Int :=
 
 let v3:Int:=IntKind.wrap .u64 x0;bif decide (x0<0) then some (IntKind.wrap .u64 (0 - v3)) else some v3
def b7 (x0:Int):Option Int:=pW lpK jnK x0
abbrev JB:=(Int)->Option (Int)
def Qb (b7:JB):Ctr:=⟨[i64],[],[],.one (.int .u64),fun x _ _=>b7 x.1⟩
def Kt:Ctr:=Qb b7
theorem Tf (lp:Lp) (jn:Jn):∀(x:TsS Kt.as) (F:TsF Kt.fs) (y:TsS Kt.cs),pW lp jn x.1=cb lp jn (cx [] [(134,bF)]) ao 4 155 f155 Kt x F y:=fun x F y=>by kernel_rfl
theorem OL:Kt.ok prog 155:=Ctr.of_den (au (bQ)) aW (hl:=ao) (d:=4) func155 rfl (by decide) (Tf lpK jnK)
def jS (lp:Lp) (_:Jn) (b7:JB) (x0:List Int) (x1:Int):Option Int :=
 aa (b7 x1) fun (t:Int)=>lp (Int×Int×PUnit) Int (fun (again:Int×Int×PUnit->Option Int) (x:Int×Int×PUnit)=>bif decide (x.2.1<(↑x0.length : Int)) then bif inB x.2.1 x0.length then aa (b7 (x0.getD x.2.1.toNat 0)) fun (t:Int)=>again (IntKind.wrap .i64 (x.1 + IntKind.wrap .i64 t),IntKind.wrap .i64 (x.2.1+1),PUnit.unit) else none else some x.1) (IntKind.wrap .i64 (1+IntKind.wrap .i64 t), 0,PUnit.unit)
def dh (x0:List Int) (x1:Int):Option Int:=jS lpK jnK b7 x0 x1
abbrev Sp:=(List Int)->(Int)->Option (Int)
def JE:Ctr:=⟨[(.sl i64),i64],[],[],.one i64,fun x _ _=>dh x.1 x.2.1⟩
theorem Ul (lp:Lp) (jn:Jn) (b7:JB):∀(x:TsS JE.as) (F:TsF JE.fs) (y:TsS JE.cs),jS lp jn b7 x.1 x.2.1=cb lp jn (cx [(155,Qb b7)] [(134,bF)]) ao 4 154 f154 JE x F y:=fun x F y=>by kernel_rfl
theorem Sn:JE.ok prog 154:=Ctr.of_den (au (ai (bQ) (by kernel_rfl) OL)) aW (hl:=ao) (d:=4) func154 rfl (by decide) (Ul lpK jnK b7)
def jQ (lp:Lp) (jn:Jn) (x0:List Int):Option Int :=
 jn PUnit Int (fun (_:PUnit)=>bif inB 0 x0.length then lp (Int×Int×PUnit) Int (fun (again:Int×Int×PUnit->Option Int) (x:Int×Int×PUnit)=>bif decide (x.2.1<(↑x0.length:Int)) then bif inB x.2.1 x0.length then again (if x0.getD x.2.1.toNat 0>x.1 then x0.getD x.2.1.toNat 0 else x.1,IntKind.wrap .i64 (x.2.1+1),PUnit.unit) else none else some x.1) (x0.getD 0 0,1,PUnit.unit) else none) fun (j:PUnit->Option Int)=>bif decide ((↑x0.length:Int)<1) then none else j PUnit.unit
def dI (x0:List Int):Option Int:=jQ lpK jnK x0
abbrev SE:=(List Int)->Option (Int)
def It:Ctr:=⟨[(.sl i64)],[],[],.one i64,fun x _ _=>dI x.1⟩
theorem S6 (lp:Lp) (jn:Jn):∀(x:TsS It.as) (F:TsF It.fs) (y:TsS It.cs),jQ lp jn x.1=cb lp jn (cx [] [(134,bF)]) ao 4 156 f156 It x F y:=fun x F y=>by kernel_rfl
theorem QG:It.ok prog 156:=Ctr.of_den (au (bQ)) aW (hl:=ao) (d:=4) func156 rfl (by decide) (S6 lpK jnK)
def lP (lp:Lp) (_:Jn) (dh:Sp) (dI:SE) (x0:(List Int)×List ((List Int)×Int×Int)):Option Bool :=
 aa (dh x0.1 0) fun (t:Int)=>lp (List Int×Int×PUnit) Bool (fun (again:List Int×Int×PUnit->Option Bool) (x:List Int×Int×PUnit) =>
 let v6:List Int×Int×Int:=x0.2.getD x.2.1.toNat ([],0,0);bif decide (x.2.1<(↑x0.2.length:Int)) then bif inB x.2.1 x0.2.length then aa (dh v6.1 v6.2.2) fun (t:Int)=>bif dR (List.length x.1+1) 8 then again (x.1++[t],IntKind.wrap .i64 (x.2.1+1),PUnit.unit) else none else none else lp (Int×Int×PUnit) Bool (fun (again:Int×Int×PUnit->Option Bool) (x_1:Int×Int×PUnit) =>
 let v9:Int:=x.1.getD x_1.2.1.toNat 0;bif decide (x_1.2.1<(↑x.1.length:Int)) then bif inB x_1.2.1 x.1.length then bif Nat.ble (Nat.succ x_1.2.1.toNat) x.1.length then bif nzB v9 then bif decide (x_1.1>IntKind.wrap .i64 (Int.tdiv 17592186044416 v9)) then some false else again (IntKind.wrap .i64 (x_1.1*v9),IntKind.wrap .i64 (x_1.2.1+1),PUnit.unit) else none else none else none else aa (dI x.1) fun (t : Int)=>bif nzB t then some (decide (x_1.1<=IntKind.wrap .i64 (Int.tdiv 144115188075855872 t))) else none) (1,0,PUnit.unit)) ([t],0, PUnit.unit)
def cO (x0:(List Int)×List ((List Int)×Int×Int)):Option Bool:=lP lpK jnK dh dI x0
abbrev LM:=((List Int)×List ((List Int)×Int×Int))->Option (Bool)
def QZ (cO:LM):Ctr:=⟨[T32],[],[],.one .bool,fun x _ _=>cO x.1⟩
def KY:Ctr:=QZ cO
theorem T1 (lp:Lp) (jn:Jn) (dh:Sp) (dI:SE):∀(x:TsS KY.as) (F:TsF KY.fs) (y:TsS KY.cs),lP lp jn dh dI x.1=cb lp jn (cx [(156,⟨[(.sl i64)],[],[],.one i64,fun x _ _=>dI x.1⟩),(154,⟨[(.sl i64),i64],[],[],.one i64,fun x _ _=>dh x.1 x.2.1⟩)] [(134,bF)]) ao 4 108 f108 KY x F y:=fun x F y=>by kernel_rfl
theorem RB:KY.ok prog 108:=Ctr.of_den (au (ai (ai (bQ) (by kernel_rfl) Sn) (by kernel_rfl) QG)) aW (hl:=ao) (d:=4) func108 rfl (by decide) (T1 lpK jnK dh dI)
def fw (lp:Lp) (_:Jn) (x0:(List (List Int))×Int×(List Int)×(List Int)×(List Int)×Int×Int) (x1:Int):Option Int :=
 lp (Int×Int×PUnit) Int (fun (again:Int×Int×PUnit->Option Int) (x:Int×Int×PUnit) =>
 let v6:Int×PUnit:=(IntKind.wrap .i64 (x.2.1+1),PUnit.unit);
 let v7:List Int:=x0.1.getD x.2.1.toNat [];bif decide (x.2.1<(↑x0.1.length:Int)) then bif inB x.2.1 x0.1.length then bif inB x.2.1 x0.2.2.1.length then bif decide (x0.2.2.1.getD x.2.1.toNat 0>=x0.2.2.2.2.2.1) then bif inB x1 v7.length then again (IntKind.wrap .i64 (x.1+v7.getD x1.toNat 0),v6) else none else again (x.1,v6) else none else none else some x.1) (0,0,PUnit.unit)
def aH (x0:(List (List Int))×Int×(List Int)×(List Int)×(List Int)×Int×Int) (x1:Int):Option Int:=fw lpK jnK x0 x1
abbrev LV:=((List (List Int))×Int×(List Int)×(List Int)×(List Int)×Int×Int)->(Int)->Option (Int)
def R2 (aH:LV):PCtr:=⟨FZ,[i64],.one i64,fun x y=>aH x y.1⟩
def NW:PCtr:=R2 aH
theorem Tr (lp:Lp) (jn:Jn):∀(x:NW.s.T) (y:TsS NW.as),fw lp jn x y.1=Ei lp jn (cx [] [(134,bF)]) ao 4 126 f126 NW x y:=fun x y=>by kernel_rfl
theorem Rq:NW.ok prog 126:=PCtr.of_den (au (bQ)) aW (hl:=ao) (d:=4) func126 rfl (by decide) (Tr lpK jnK)
def kK (_:Lp) (_:Jn) (bU:EC) (b7:JB) (x0:Int) (x1:Int):Option (Bool×Int×Int) :=
 
 let v4:Bool:=!decide (decide (x0<0)=decide (x1<0));
 let v5:Bool:=!v4;
 let v6:Bool:=v5||v4;aa (b7 x0) fun (t:Int)=>aa (b7 x1) fun (t_1:Int)=>aa (bU t t_1) fun (t:Int×Int×PUnit) =>
 let v10:Bool:=!decide (t.1=0);
 let v11:Bool:=v4&&!v10;bif v6 then bif v6 then bif !v11||v11 then bif (v5||v6)&&(v5||(v10||(v5||v11))) then bif v6 then some (bif v4 then bif v10 then true else !decide (t.2.1=0) else false,t.1,t.2.1) else none else none else none else none else none
def bE (x0:Int) (x1:Int):Option (Bool×Int×Int):=kK lpK jnK bU b7 x0 x1
abbrev JN:=(Int)->(Int)->Option (Bool×Int×Int)
def PZ (bE:JN):Ctr:=⟨[i64,i64],[],[],.one su,fun x _ _=>bE x.1 x.2.1⟩
def Lx:Ctr:=PZ bE
theorem Tt (lp:Lp) (jn:Jn) (bU:EC) (b7:JB):∀(x:TsS Lx.as) (F:TsF Lx.fs) (y:TsS Lx.cs),kK lp jn bU b7 x.1 x.2.1=cb lp jn (cx [(155,Qb b7),(122,NZ bU)] [(134,bF)]) ao 4 175 f175 Lx x F y:=fun x F y=>by kernel_rfl
theorem OE:Lx.ok prog 175:=Ctr.of_den (au (ai (ai (bQ) (by kernel_rfl) KL) (by kernel_rfl) OL)) aW (hl:=ao) (d:=4) func175 rfl (by decide) (Tt lpK jnK bU b7)
def fB (_:Lp) (_:Jn) (x0:Bool×Int×Int) (x1:Bool×Int×Int):Option Int :=
 
 let v4:Bool:=decide (x0.2.1=x1.2.1);
 let v5:Bool:=!v4;
 let v6:Bool:=v5||v4;
 let v7:Bool:=!v5||v5;
 let v8:Bool:=bif v5 then decide (x0.2.1<x1.2.1) else false;
 let v9:Bool:=!v8;
 let v10:Bool:=!v9;
 let v11:Bool:=v9&&v4;
 let v12:Bool:=v10||v9;
 let v13:Bool:=!v11||v11;bif v7 then bif v7 then bif v7&&v7 then bif v7 then bif v12 then bif v12 then bif v12&&v12 then bif v12 then bif v13 then bif v13 then bif v13&&v13 then bif (v10||v12)&&(v10||(v5||(v10||v11))) then bif v8||v9 then bif bif v8 then true else bif v4 then decide (x0.2.2<x1.2.2) else false then some (-1) else bif v6 then bif v6 then bif v6&&v6 then bif v6 then bif bif v4 then decide (x0.2.2=x1.2.2) else false then some 0 else some 1 else none else none else none else none else none else none else none else none else none else none else none else none else none else none else none else none else none
def aB (x0:Bool×Int×Int) (x1:Bool×Int×Int):Option Int:=fB lpK jnK x0 x1
abbrev IE:=(Bool×Int×Int)->(Bool×Int×Int)->Option (Int)
def P1 (aB:IE):Ctr:=⟨[su,su],[],[],.one i64,fun x _ _=>aB x.1 x.2.1⟩
def Ig:Ctr:=P1 aB
theorem TN (lp:Lp) (jn:Jn):∀(x:TsS Ig.as) (F:TsF Ig.fs) (y:TsS Ig.cs),fB lp jn x.1 x.2.1=cb lp jn (cx [] [(134,bF)]) ao 4 184 f184 Ig x F y:=fun x F y=>by kernel_rfl
theorem OP:Ig.ok prog 184:=Ctr.of_den (au (bQ)) aW (hl:=ao) (d:=4) func184 rfl (by decide) (TN lpK jnK)
def gg (_:Lp) (jn:Jn) (aB:IE) (x0:Bool×Int×Int) (x1:Bool×Int×Int):Option (Bool×Int×Int) :=
 
 let v4:Bool:=!x0.1;
 let v5:Bool:=!x1.1;
 let v6:Bool:=!v4;
 let v7:Bool:=v4&&v5;
 let v8:Bool:=v6||v4;
 let v9:Bool:=!v7;
 let v10:Bool:=v9||v7;
 let v11:Bool:=!decide (x1.2.1=0);
 let v12:Bool:=v7&&!v11;
 let v13:Bool:=decide ((0:Int)<=0)&&decide ((0:Int)<=1);
 let v14:Bool:=!v12||v12;bif !decide (x0.1=x1.1) then bif v13 then bif decide (0<=oQ x0.2.2 x1.2.2 0)&&decide (oQ x0.2.2 x1.2.2 (0 : Int)<=1) then bif v8 then bif v8 then bif v8 then bif v10 then bif v10 then bif v10 then bif v14 then bif v14 then bif (v9||v10)&&(v9||(v11||(v9||v12))) then bif (v6 || v8)&&(v6||(!v5||(v6||v7))) then bif x0.1||v4 then some (bif x0.1 then true else bif v5 then bif v11 then true else !decide (x1.2.2=0) else false,xr x0.2.1 x1.2.1 (oQ x0.2.2 x1.2.2 0),xr x0.2.2 x1.2.2 0) else none else none else none else none else none else none else none else none else none else none else none else none else none else aa (aB x0 x1) fun (t:Int)=>jn (Bool×(Bool×Int×Int)×(Bool×Int×Int)×PUnit) (Bool×Int×Int) (fun (x:Bool×(Bool×Int×Int)×(Bool×Int×Int)×PUnit) =>
 let v17:Bool:=!x.1;
 let v18:Bool:=v17||x.1;
 let v19:Bool:=!decide (tj x.2.1.2.1 x.2.2.1.2.1 (nl x.2.1.2.2 x.2.2.1.2.2 0)=0);
 let v20:Bool:=x.1&&!v19;bif v13 then bif decide (0<=nl x.2.1.2.2 x.2.2.1.2.2 0)&&decide (nl x.2.1.2.2 x.2.2.1.2.2 (0 : Int)<=1) then bif v18 then bif v18 then bif !v20||v20 then bif (v17||v18)&&(v17||(v19||(v17||v20))) then bif v18 then some (bif x.1 then bif v19 then true else !decide (tj x.2.1.2.2 x.2.2.1.2.2 0=0) else false,tj x.2.1.2.1 x.2.2.1.2.1 (nl x.2.1.2.2 x.2.2.1.2.2 (0 : Int)),tj x.2.1.2.2 x.2.2.1.2.2 0) else none else none else none else none else none else none else none) fun (j:Bool×(Bool×Int×Int)×(Bool×Int × Int)×PUnit->Option (Bool×Int×Int))=>bif decide (t<0) then j (v4,x1,x0,PUnit.unit) else j (x0.1,x0,x1,PUnit.unit)
def bD (x0:Bool×Int×Int) (x1:Bool×Int×Int):Option (Bool×Int×Int):=gg lpK jnK aB x0 x1
abbrev O7:=(Bool×Int×Int)->(Bool×Int×Int)->Option (Bool×Int×Int)
def Sq (bD:O7):Ctr:=⟨[su,su],[],[],.one su,fun x _ _=>bD x.1 x.2.1⟩
def Ka:Ctr:=Sq bD
theorem Ta (lp:Lp) (jn:Jn) (aB:IE):∀(x:TsS Ka.as) (F:TsF Ka.fs) (y:TsS Ka.cs),gg lp jn aB x.1 x.2.1=cb lp jn (cx [(184,P1 aB)] [(134,bF)]) ao 4 176 f176 Ka x F y:=fun x F y=>by kernel_rfl
theorem RU:Ka.ok prog 176:=Ctr.of_den (au (ai (bQ) (by kernel_rfl) OP)) aW (hl:=ao) (d:=4) func176 rfl (by decide) (Ta lpK jnK aB)
def gx (_:Lp) (_:Jn) (cP:H0) (x0:Bool×Int×Int) (x1:Int):Option Int :=
 aa (cP x0.2.1 x0.2.2 (IntKind.wrap .u64 x1)) fun (t:Int×Int×PUnit) =>
 let v5:Int:=IntKind.wrap .i64 t.1;bif x0.1 then some (IntKind.wrap .i64 (0 - v5)) else some v5
def bS (x0:Bool×Int×Int) (x1:Int):Option Int:=gx lpK jnK cP x0 x1
abbrev Sc:=(Bool×Int×Int)->(Int)->Option (Int)
def KW:Ctr:=⟨[su,i64],[],[],.one i64,fun x _ _=>bS x.1 x.2.1⟩
theorem SQ (lp:Lp) (jn:Jn) (cP:H0):∀(x:TsS KW.as) (F:TsF KW.fs) (y:TsS KW.cs),gx lp jn cP x.1 x.2.1=cb lp jn (cx [(125,Pq cP)] [(134,bF)]) ao 4 177 f177 KW x F y:=fun x F y=>by kernel_rfl
theorem QT:KW.ok prog 177:=Ctr.of_den (au (ai (bQ) (by kernel_rfl) OC)) aW (hl:=ao) (d:=4) func177 rfl (by decide) (SQ lpK jnK cP)
def gT (lp:Lp) (_:Jn) (bE:JN) (bD:O7) (bS:Sc) (x0:List Nat×List (Option (List Int))) (x1:Int) (x2:List Int) (x3:List Int) (x4:List Int) (x5:Int) (x6:Int) (x7:Int) (x8:Int):Option ((List Nat×List (Option (List Int)))×Int×(List Int)×(List Int)×(List Int)×Int×Int×Unit) :=
 
 let v11:List Int×List Int×List Int×Int×Int×PUnit:=(x2.set x7.toNat x8,x3,x4,x5,x6,PUnit.unit);bif inB x7 x0.1.length then bif Nat.ble (Nat.succ x7.toNat) x0.1.length then bif inB x8 (List.length (ah x0.2 (x0.1.getD x7.toNat 0))) then bif Nat.ble (Nat.succ x8.toNat) (List.length (ah x0.2 (x0.1.getD x7.toNat 0))) then lp (Int×(List Nat×List (Option (List Int)))×PUnit) ((List Nat×List (Option (List Int)))×Int×List Int×List Int×List Int×Int×Int×PUnit) (fun (again:Int×(List Nat×List (Option (List Int)))×PUnit->Option ((List Nat×List (Option (List Int)))×Int×List Int×List Int×List Int×Int×Int×PUnit)) (x:Int×(List Nat×List (Option (List Int)))×PUnit) =>
 let v14:Int:=IntKind.wrap .i64 (x.1+1);
 let v15:(List Nat×List (Option (List Int)))×PUnit:=(x.2.1,PUnit.unit);
 let v16:Int×(List Nat×List (Option (List Int)))×PUnit:=(0,v15);bif decide (x.1<(↑x0.1.length:Int)) then bif inB x.1 x.2.1.1.length then bif Nat.ble (Nat.succ x.1.toNat) x.2.1.1.length then bif decide (x.1=x7) then again (v14,v15) else bif inB x8 (List.length (ah x.2.1.2 (x.2.1.1.getD x.1.toNat 0))) then bif Nat.ble (Nat.succ x8.toNat) (List.length (ah x.2.1.2 (x.2.1.1.getD x.1.toNat 0))) then bif eD x.2.1.2 (x.2.1.1.getD x.1.toNat 0) then lp (Int×(List Nat×List (Option (List Int)))×PUnit) ((List Nat×List (Option (List Int)))×Int × List Int×List Int×List Int×Int×Int×PUnit) (fun (again_1:Int×(List Nat×List (Option (List Int)))×PUnit->Option ((List Nat×List (Option (List Int)))×Int×List Int × List Int×List Int×Int×Int×PUnit)) (x_1:Int×(List Nat×List (Option (List Int)))×PUnit)=>bif decide (x_1.1<(↑(List.length (ah x.2.1.2 (x.2.1.1.getD x.1.toNat 0))):Int)) then bif inB x_1.1 (List.length (ah x_1.2.1.2 (x.2.1.1.getD x.1.toNat 0))) then bif Nat.ble (Nat.succ x_1.1.toNat) (List.length (ah x_1.2.1.2 (x.2.1.1.getD x.1.toNat 0))) then aa (bE (List.getD (ah x_1.2.1.2 (x.2.1.1.getD x.1.toNat 0)) x_1.1.toNat 0) (List.getD (ah x0.2 (x0.1.getD x7.toNat 0)) x8.toNat 0)) fun (t:Bool×Int×Int)=>bif inB x7 x_1.2.1.1.length then bif Nat.ble (Nat.succ x7.toNat) x_1.2.1.1.length then bif inB x_1.1 (List.length (ah x_1.2.1.2 (x_1.2.1.1.getD x7.toNat 0))) then bif Nat.ble (Nat.succ x_1.1.toNat) (List.length (ah x_1.2.1.2 (x_1.2.1.1.getD x7.toNat 0))) then aa (bE (List.getD (ah x.2.1.2 (x.2.1.1.getD x.1.toNat 0)) x8.toNat 0) (List.getD (ah x_1.2.1.2 (x_1.2.1.1.getD x7.toNat 0)) x_1.1.toNat 0)) fun (t_1:Bool×Int×Int)=>aa (bD t t_1) fun (t:Bool × Int×Int)=>aa (bS t x1) fun (t:Int)=>bif inB x_1.1 (List.length (ah x_1.2.1.2 (x.2.1.1.getD x.1.toNat 0))) then bif Nat.ble (Nat.succ x_1.1.toNat) (List.length (ah x_1.2.1.2 (x.2.1.1.getD x.1.toNat 0))) then again_1 (IntKind.wrap .i64 (x_1.1+(1 : Int)),(x_1.2.1.1,x_1.2.1.2.set (x.2.1.1.getD x.1.toNat 0) (some (List.set (ah x_1.2.1.2 (x.2.1.1.getD x.1.toNat 0)) x_1.1.toNat t))),PUnit.unit) else none else none else none else none else none else none else none else none else again (v14,x_1.2.1,PUnit.unit)) v16 else none else none else none else none else none else bif inB x7 x2.length then bif Nat.ble (Nat.succ x7.toNat) x2.length then bif decide (List.getD (ah x0.2 (x0.1.getD x7.toNat 0)) x8.toNat 0<0) then lp (Int×(List Nat×List (Option (List Int)))×PUnit) ((List Nat×List (Option (List Int))) × Int×List Int×List Int×List Int×Int×Int×PUnit) (fun (again:Int×(List Nat×List (Option (List Int)))×PUnit->Option ((List Nat×List (Option (List Int)))×Int×List Int×List Int×List Int×Int×Int×PUnit)) (x_1:Int×(List Nat×List (Option (List Int)))×PUnit)=>bif decide (x_1.1<(↑x.2.1.1.length:Int)) then bif inB x_1.1 x_1.2.1.1.length then bif Nat.ble (Nat.succ x_1.1.toNat) x_1.2.1.1.length then bif eD x_1.2.1.2 (x_1.2.1.1.getD x_1.1.toNat 0) then lp (Int×(List Nat×List (Option (List Int)))×PUnit) ((List Nat×List (Option (List Int)))×Int×List Int×List Int×List Int×Int×Int×PUnit) (fun (again_1:Int×(List Nat×List (Option (List Int)))×PUnit->Option ((List Nat×List (Option (List Int)))×Int×List Int×List Int×List Int×Int×Int×PUnit)) (x:Int × (List Nat×List (Option (List Int)))×PUnit)=>bif decide (x.1<(↑(List.length (ah x_1.2.1.2 (x_1.2.1.1.getD x_1.1.toNat 0))):Int)) then bif inB x.1 (List.length (ah x.2.1.2 (x_1.2.1.1.getD x_1.1.toNat 0))) then bif Nat.ble (Nat.succ x.1.toNat) (List.length (ah x.2.1.2 (x_1.2.1.1.getD x_1.1.toNat 0))) then bif inB x.1 (List.length (ah x.2.1.2 (x_1.2.1.1.getD x_1.1.toNat 0))) then bif Nat.ble (Nat.succ x.1.toNat) (List.length (ah x.2.1.2 (x_1.2.1.1.getD x_1.1.toNat 0))) then again_1 (IntKind.wrap .i64 (x.1+(1 : Int)),(x.2.1.1,x.2.1.2.set (x_1.2.1.1.getD x_1.1.toNat 0) (some (List.set (ah x.2.1.2 (x_1.2.1.1.getD x_1.1.toNat 0)) x.1.toNat (IntKind.wrap .i64 (0 - List.getD (ah x.2.1.2 (x_1.2.1.1.getD x_1.1.toNat 0)) x.1.toNat 0))))),PUnit.unit) else none else none else none else none else again (IntKind.wrap .i64 (x_1.1+1),x.2.1,PUnit.unit)) (0,x_1.2.1, PUnit.unit) else none else none else none else some (x_1.2.1,IntKind.wrap .i64 (0 - List.getD (ah x0.2 (x0.1.getD x7.toNat 0)) x8.toNat 0),v11)) v16 else some (x.2.1,List.getD (ah x0.2 (x0.1.getD x7.toNat 0)) x8.toNat 0,v11) else none else none) (0,x0, PUnit.unit) else none else none else none else none
def aN (x0:List Nat×List (Option (List Int))) (x1:Int) (x2:List Int) (x3:List Int) (x4:List Int) (x5:Int) (x6:Int) (x7:Int) (x8:Int):Option ((List Nat×List (Option (List Int)))×Int×(List Int)×(List Int)×(List Int)×Int×Int×Unit):=gT lpK jnK bE bD bS x0 x1 x2 x3 x4 x5 x6 x7 x8
abbrev LF:=(List Nat×List (Option (List Int)))->(Int)->(List Int)->(List Int)->(List Int)->(Int)->(Int)->(Int)->(Int)->Option ((List Nat×List (Option (List Int)))×Int×(List Int)×(List Int)×(List Int)×Int×Int×Unit)
def Pu (aN:LF):SCtr:=⟨[.b [.x (.tab 29 .ref 3 i64),.d i64,.row 3 i64,.row 3 i64,.row 3 i64,.d i64,.d i64],.d i64,.d i64],[],fun x=>aN x.1 x.2.1 x.2.2.1 x.2.2.2.1 x.2.2.2.2.1 x.2.2.2.2.2.1 x.2.2.2.2.2.2.1 x.2.2.2.2.2.2.2.1 x.2.2.2.2.2.2.2.2.1⟩
def OV:SCtr:=Pu aN
theorem Uj (lp:Lp) (jn:Jn) (bE:JN) (bD:O7) (bS:Sc):∀x:TsR (rhI 0 OV.ks),gT lp jn bE bD bS x.1 x.2.1 x.2.2.1 x.2.2.2.1 x.2.2.2.2.1 x.2.2.2.2.2.1 x.2.2.2.2.2.2.1 x.2.2.2.2.2.2.2.1 x.2.2.2.2.2.2.2.2.1=I5 lp jn (Dn.look []) (cx [(177,⟨[su,i64],[],[],.one i64,fun x _ _=>bS x.1 x.2.1⟩),(176,Sq bD),(175,PZ bE)] [(134,bF)]) ao 4 157 f157 OV x:=fun x=>by kernel_rfl
theorem OB:OV.ok prog 157:=SCtr.of_den (au (ai (ai (ai (bQ) (by kernel_rfl) OE) (by kernel_rfl) RU) (by kernel_rfl) QT)) aW (rX) (hl:=ao) (d:=4) func157 rfl (by decide) (Uj lpK jnK bE bD bS)
set_option maxRecDepth 100000
def gU (_:Lp) (_:Jn) (aB:IE) (x0:Bool×Int×Int) (x1:Bool×Int×Int):Option Int :=
 
 let v4:Bool:=!decide (x0.1=x1.1);
 let v5:Bool:=!v4||v4;bif v5 then bif v5 then bif bif v4 then x0.1 else false then some (-1) else bif v4 then some 1 else bif x0.1 then aa (aB x1 x0) fun (t:Int)=>some t else aa (aB x0 x1) fun (t:Int)=>some t else none else none
def ct (x0:Bool×Int×Int) (x1:Bool×Int×Int):Option Int:=gU lpK jnK aB x0 x1
abbrev Sd:=(Bool×Int×Int)->(Bool×Int×Int)->Option (Int)
def H9:Ctr:=⟨[su,su],[],[],.one i64,fun x _ _=>ct x.1 x.2.1⟩
theorem SJ (lp:Lp) (jn:Jn) (aB:IE):∀(x:TsS H9.as) (F:TsF H9.fs) (y:TsS H9.cs),gU lp jn aB x.1 x.2.1=cb lp jn (cx [(184,P1 aB)] [(134,bF)]) ao 4 178 f178 H9 x F y:=fun x F y=>by kernel_rfl
theorem RE:H9.ok prog 178:=Ctr.of_den (au (ai (bQ) (by kernel_rfl) OP)) aW (hl:=ao) (d:=4) func178 rfl (by decide) (SJ lpK jnK aB)
def gd (lp:Lp) (_:Jn) (bE:JN) (ct:Sd) (x0:(List (List Int))×Int×(List Int)×(List Int)×(List Int)×Int×Int) (x1:Int):Option Int :=
 lp (Int×Int×PUnit) Int (fun (again:Int×Int×PUnit->Option Int) (x:Int×Int×PUnit) =>
 let v6:Int×PUnit:=(IntKind.wrap .i64 (x.2.1+1),PUnit.unit);
 let v7:Bool:=inB x.1 x0.1.length;
 let v8:List Int:=x0.1.getD x.1.toNat [];
 let v9:List Int:=x0.1.getD x.2.1.toNat [];
 let v10:Bool:=inB x1 v9.length;bif decide (x.2.1<(↑x0.1.length:Int)) then bif inB x.2.1 x0.1.length then bif v10 then bif decide (v9.getD x1.toNat 0<=0) then again (x.1,v6) else bif decide (x.1<0) then again (x.2.1,v6) else bif inB x0.2.2.2.2.2.2 v9.length then bif v7 then bif inB x1 v8.length then aa (bE (v9.getD x0.2.2.2.2.2.2.toNat 0) (v8.getD x1.toNat 0)) fun (t:Bool × Int×Int)=>bif v7 then bif inB x0.2.2.2.2.2.2 v8.length then bif v10 then aa (bE (v8.getD x0.2.2.2.2.2.2.toNat 0) (v9.getD x1.toNat 0)) fun (t_1:Bool×Int×Int)=>aa (ct t t_1) fun (t:Int) =>
 let v14:Bool:=decide (t=0);
 let v15:Bool:=decide (t<0);
 let v16:Bool:=!v15;
 let v17:Bool:=!v16;
 let v18:Bool:=v16&&v14;
 let v19:Bool:=!v18;
 let v20:Bool:=v17||v16;
 let v21:Bool:=v19||v18;bif v20 then bif v20 then bif v21 then bif v21 then bif v21 then bif v21&&(v21&&(v19||inB x.2.1 x0.2.2.1.length)) then bif v21 then bif v21 then bif v21 then bif v21 then bif v21&&(v21&&(v19||inB x.1 x0.2.2.1.length)) then bif v21 then bif v21&&v21 then bif (v17||v20)&&(v17||(!v14 || (v17||v18))) then bif v15||v16 then bif bif v15 then true else bif v14 then decide (x0.2.2.1.getD x.2.1.toNat 0<x0.2.2.1.getD x.1.toNat 0) else false then again (x.2.1,v6) else again (x.1,v6) else none else none else none else none else none else none else none else none else none else none else none else none else none else none else none else none else none else none else none else none else none else none else none else some x.1) ((-1),0,PUnit.unit)
def aJ (x0:(List (List Int))×Int×(List Int)×(List Int)×(List Int)×Int×Int) (x1:Int):Option Int:=gd lpK jnK bE ct x0 x1
abbrev Ky:=((List (List Int))×Int×(List Int)×(List Int)×(List Int)×Int×Int)->(Int)->Option (Int)
def PR (aJ:Ky):PCtr:=⟨FZ,[i64],.one i64,fun x y=>aJ x y.1⟩
def N2:PCtr:=PR aJ
theorem Ue (lp:Lp) (jn:Jn) (bE:JN) (ct:Sd):∀(x:N2.s.T) (y:TsS N2.as),gd lp jn bE ct x y.1=Ei lp jn (cx [(178,⟨[su,su],[],[],.one i64,fun x _ _=>ct x.1 x.2.1⟩),(175,PZ bE)] [(134,bF)]) ao 4 158 f158 N2 x y:=fun x y=>by kernel_rfl
theorem Ot:N2.ok prog 158:=PCtr.of_den (au (ai (ai (bQ) (by kernel_rfl) OE) (by kernel_rfl) RE)) aW (hl:=ao) (d:=4) func158 rfl (by decide) (Ue lpK jnK bE ct)
def gS (lp:Lp) (_:Jn) (aN:LF) (aH:LV) (aJ:Ky) (x0:List Nat×List (Option (List Int))) (x1:Int) (x2:List Int) (x3:List Int) (x4:List Int) (x5:Int) (x6:Int):Option ((List Nat×List (Option (List Int)))×Int×(List Int)×(List Int)×(List Int)×Int×Int×Bool×Unit) :=
 lp ((List Nat×List (Option (List Int)))×Int×List Int×List Int×List Int×Int×Int×PUnit) ((List Nat×List (Option (List Int)))×Int×List Int×List Int×List Int×Int × Int×Bool×PUnit) (fun (again:(List Nat×List (Option (List Int)))×Int×List Int×List Int×List Int×Int×Int×PUnit->Option ((List Nat×List (Option (List Int)))×Int × List Int×List Int×List Int×Int×Int×Bool×PUnit)) (x:(List Nat×List (Option (List Int)))×Int×List Int×List Int×List Int×Int×Int×PUnit)=>lp (Int×Int × PUnit) ((List Nat×List (Option (List Int)))×Int×List Int×List Int×List Int×Int×Int×Bool×PUnit) (fun (again_1:Int×Int×PUnit->Option ((List Nat×List (Option (List Int)))×Int×List Int×List Int×List Int×Int×Int×Bool×PUnit)) (x_1:Int×Int×PUnit) =>
 let v13:Bool:=decide (x_1.1<0);
 let v14:Int×PUnit:=(IntKind.wrap .i64 (x_1.2.1+1),PUnit.unit);
 let v15:Bool:=decide (x_1.2.1<x.2.2.2.2.2.1);
 let v16:Bool:=!v15||v15;bif v16 then bif v16 then bif bif v15 then v13 else false then aa (bif List.all x.1.1 fun (x_2:Nat)=>eD x.1.2 x_2 then aH (List.map (fun (x_2:Nat)=>ah x.1.2 x_2) x.1.1,x.2.1,x.2.2.1,x.2.2.2.1,x.2.2.2.2.1,x.2.2.2.2.2.1, x.2.2.2.2.2.2.1) x_1.2.1 else none) fun (t:Int)=>bif decide (t>0) then again_1 (x_1.2.1,v14) else again_1 (x_1.1,v14) else bif v13 then aa (bif List.all x.1.1 fun (x_2:Nat)=>eD x.1.2 x_2 then aH (List.map (fun (x_2:Nat)=>ah x.1.2 x_2) x.1.1,x.2.1,x.2.2.1, x.2.2.2.1,x.2.2.2.2.1,x.2.2.2.2.2.1,x.2.2.2.2.2.2.1) x.2.2.2.2.2.2.1 else none) fun (t:Int)=>bif decide (t>0) then some (x.1,x.2.1,x.2.2.1,x.2.2.2.1,x.2.2.2.2.1,x.2.2.2.2.2.1,x.2.2.2.2.2.2.1,false,PUnit.unit) else lp (Int×(List Nat×List (Option (List Int)))×Int×List Int×List Int×List Int×Int×Int×PUnit) ((List Nat×List (Option (List Int)))×Int×List Int×List Int×List Int×Int×Int × Bool×PUnit) (fun (again:Int×(List Nat×List (Option (List Int)))×Int×List Int×List Int×List Int×Int×Int×PUnit->Option ((List Nat×List (Option (List Int)))×Int × List Int×List Int×List Int×Int×Int×Bool×PUnit)) (x_2:Int×(List Nat×List (Option (List Int)))×Int×List Int×List Int×List Int×Int×Int×PUnit)=>bif decide (x_2.1<(↑x.1.1.length:Int)) then lp (Int×(List Nat×List (Option (List Int)))×Int×List Int×List Int×List Int×Int×Int×PUnit) ((List Nat×List (Option (List Int)))×Int×List Int×List Int×List Int×Int×Int×Bool×PUnit) (fun (again_2:Int×(List Nat×List (Option (List Int)))×Int×List Int×List Int×List Int×Int×Int×PUnit->Option ((List Nat×List (Option (List Int)))×Int×List Int×List Int×List Int×Int×Int×Bool×PUnit)) (x:Int×(List Nat×List (Option (List Int)))×Int×List Int×List Int×List Int×Int×Int×PUnit) =>
 let v22:Int:=IntKind.wrap .i64 (x.1+1);
 let v23:Bool:=decide (x.1<x.2.2.2.2.2.2.1);
 let v24:Bool:=!v23;
 let v25:Bool:=v24||v23;
 let v26:(List Nat×List (Option (List Int)))×Int×List Int×List Int×List Int×Int×Int×PUnit:=(x.2.1,x.2.2.1,x.2.2.2.1,x.2.2.2.2.1, x.2.2.2.2.2.1,x.2.2.2.2.2.2.1,x.2.2.2.2.2.2.2.1,PUnit.unit);bif v25 then bif v25 then bif v25 then bif v25&&(v25&&(v24||inB x_2.1 x.2.2.2.1.length)) then bif v25&&(v24||Nat.ble (Nat.succ x_2.1.toNat) x.2.2.2.1.length) then bif v25 then bif v25 then bif v25 then bif v25 && v25 then bif v25 then bif bif v23 then decide (x.2.2.2.1.getD x_2.1.toNat 0>=x.2.2.2.2.2.2.1) else false then bif inB x_2.1 x.2.1.1.length then bif Nat.ble (Nat.succ x_2.1.toNat) x.2.1.1.length then bif inB x.1 (List.length (ah x.2.1.2 (x.2.1.1.getD x_2.1.toNat 0))) then bif Nat.ble (Nat.succ x.1.toNat) (List.length (ah x.2.1.2 (x.2.1.1.getD x_2.1.toNat 0))) then bif !decide (List.getD (ah x.2.1.2 (x.2.1.1.getD x_2.1.toNat 0)) x.1.toNat 0=0) then aa (aN x.2.1 x.2.2.1 x.2.2.2.1 x.2.2.2.2.1 x.2.2.2.2.2.1 x.2.2.2.2.2.2.1 x.2.2.2.2.2.2.2.1 x_2.1 x.1) fun (y:(List Nat×List (Option (List Int)))×Int×List Int×List Int×List Int×Int×Int×PUnit)=>again_2 (v22,y.1,y.2.1,y.2.2.1,y.2.2.2.1,y.2.2.2.2.1,y.2.2.2.2.2.1, y.2.2.2.2.2.2.1,PUnit.unit) else again_2 (v22,v26) else none else none else none else none else again (IntKind.wrap .i64 (x_2.1+1),v26) else none else none else none else none else none else none else none else none else none else none) (0,x_2.2.1,x_2.2.2.1,x_2.2.2.2.1,x_2.2.2.2.2.1, x_2.2.2.2.2.2.1,x_2.2.2.2.2.2.2.1,x_2.2.2.2.2.2.2.2.1,PUnit.unit) else some (x_2.2.1,x_2.2.2.1,x_2.2.2.2.1, x_2.2.2.2.2.1,x_2.2.2.2.2.2.1,x_2.2.2.2.2.2.2.1,x_2.2.2.2.2.2.2.2.1,true,PUnit.unit)) (0,x.1,x.2.1, x.2.2.1,x.2.2.2.1,x.2.2.2.2.1,x.2.2.2.2.2.1,x.2.2.2.2.2.2.1,PUnit.unit) else aa (bif List.all x.1.1 fun (x_2:Nat) => eD x.1.2 x_2 then aJ (List.map (fun (x_2:Nat)=>ah x.1.2 x_2) x.1.1,x.2.1,x.2.2.1,x.2.2.2.1,x.2.2.2.2.1, x.2.2.2.2.2.1,x.2.2.2.2.2.2.1) x_1.1 else none) fun (t:Int)=>aa (aN x.1 x.2.1 x.2.2.1 x.2.2.2.1 x.2.2.2.2.1 x.2.2.2.2.2.1 x.2.2.2.2.2.2.1 t x_1.1) fun (y:(List Nat×List (Option (List Int)))×Int×List Int×List Int×List Int×Int × Int×PUnit)=>again (y.1,y.2.1,y.2.2.1,y.2.2.2.1,y.2.2.2.2.1,y.2.2.2.2.2.1,y.2.2.2.2.2.2.1,PUnit.unit) else none else none) ((-1),0,PUnit.unit)) (x0,x1,x2,x3,x4,x5,x6,PUnit.unit)
def bn (x0:List Nat×List (Option (List Int))) (x1:Int) (x2:List Int) (x3:List Int) (x4:List Int) (x5:Int) (x6:Int):Option ((List Nat×List (Option (List Int)))×Int×(List Int)×(List Int)×(List Int)×Int×Int×Bool×Unit):=gS lpK jnK aN aH aJ x0 x1 x2 x3 x4 x5 x6
abbrev LN:=(List Nat×List (Option (List Int)))->(Int)->(List Int)->(List Int)->(List Int)->(Int)->(Int)->Option ((List Nat×List (Option (List Int)))×Int×(List Int)×(List Int)×(List Int)×Int×Int×Bool×Unit)
def Rs (bn:LN):SCtr:=⟨[.b [.x (.tab 29 .ref 3 i64),.d i64,.row 3 i64,.row 3 i64,.row 3 i64,.d i64,.d i64]],[(false,[.d .bool])],fun x=>bn x.1 x.2.1 x.2.2.1 x.2.2.2.1 x.2.2.2.2.1 x.2.2.2.2.2.1 x.2.2.2.2.2.2.1⟩
def Px:SCtr:=Rs bn
theorem Tv (lp:Lp) (jn:Jn) (aN:LF) (aH:LV) (aJ:Ky):∀x:TsR (rhI 0 Px.ks),gS lp jn aN aH aJ x.1 x.2.1 x.2.2.1 x.2.2.2.1 x.2.2.2.2.1 x.2.2.2.2.2.1 x.2.2.2.2.2.2.1=I5 lp jn (Dn.look [(157,Pu aN)]) (Co Ez D3 (GU [(158,PR aJ),(126,R2 aH)] [] (kP prog shs xw its [] [(134,bF)]))) ao 4 110 f110 Px x:=fun x=>by kernel_rfl
theorem Rc:Px.ok prog 110:=SCtr.of_den (au (sb (bQ) (j7 (by kernel_rfl) Ot (j7 (by kernel_rfl) Rq (pU))) (pS))) aW (qi OB (rX)) (hl:=ao) (d:=4) func110 rfl (by decide) (Tv lpK jnK aN aH aJ)
def ii (_:Lp) (_:Jn) (x0:(List (List Int))×Int×(List Int)×(List Int)×(List Int)×Int×Int) (x1:Int):Option Int :=
 bif decide (x1<(↑x0.2.2.2.2.1.length:Int)) then bif inB x1 x0.2.2.2.2.1.length then some (x0.2.2.2.2.1.getD x1.toNat 0) else none else some 0
def aP (x0:(List (List Int))×Int×(List Int)×(List Int)×(List Int)×Int×Int) (x1:Int):Option Int:=ii lpK jnK x0 x1
abbrev Hz:=((List (List Int))×Int×(List Int)×(List Int)×(List Int)×Int×Int)->(Int)->Option (Int)
def Ps (aP:Hz):PCtr:=⟨FZ,[i64],.one i64,fun x y=>aP x y.1⟩
def NX:PCtr:=Ps aP
theorem Tn (lp:Lp) (jn:Jn):∀(x:NX.s.T) (y:TsS NX.as),ii lp jn x y.1=Ei lp jn (cx [] [(134,bF)]) ao 4 112 f112 NX x y:=fun x y=>by kernel_rfl
theorem OD:NX.ok prog 112:=PCtr.of_den (au (bQ)) aW (hl:=ao) (d:=4) func112 rfl (by decide) (Tn lpK jnK)
def gl (lp:Lp) (_:Jn) (aP:Hz) (x0:(List (List Int))×Int×(List Int)×(List Int)×(List Int)×Int×Int) (x1:Int):Option Int :=
 aa (aP x0 x1) fun (t:Int)=>lp (Int×Int×PUnit) Int (fun (again:Int×Int×PUnit->Option Int) (x:Int×Int×PUnit) =>
 let v7:List Int:=x0.1.getD x.2.1.toNat [];bif decide (x.2.1<(↑x0.1.length:Int)) then bif inB x.2.1 x0.1.length then bif inB x.2.1 x0.2.2.1.length then aa (aP x0 (x0.2.2.1.getD x.2.1.toNat 0)) fun (t:Int)=>bif inB x1 v7.length then again (IntKind.wrap .i64 (x.1 - IntKind.wrap .i64 (t*v7.getD x1.toNat 0)),IntKind.wrap .i64 (x.2.1+1),PUnit.unit) else none else none else none else some x.1) (IntKind.wrap .i64 (t*x0.2.1),0,PUnit.unit)
def bJ (x0:(List (List Int))×Int×(List Int)×(List Int)×(List Int)×Int×Int) (x1:Int):Option Int:=gl lpK jnK aP x0 x1
abbrev Q9:=((List (List Int))×Int×(List Int)×(List Int)×(List Int)×Int×Int)->(Int)->Option (Int)
def MR:PCtr:=⟨FZ,[i64],.one i64,fun x y=>bJ x y.1⟩
theorem Uf (lp:Lp) (jn:Jn) (aP:Hz):∀(x:MR.s.T) (y:TsS MR.as),gl lp jn aP x y.1=Ei lp jn (Co Ez D3 (GU [(112,Ps aP)] [] (kP prog shs xw its [] [(134,bF)]))) ao 4 159 f159 MR x y:=fun x y=>by kernel_rfl
theorem Qz:MR.ok prog 159:=PCtr.of_den (au (sb (bQ) (j7 (by kernel_rfl) OD (pU)) (pS))) aW (hl:=ao) (d:=4) func159 rfl (by decide) (Uf lpK jnK aP)
def gi (lp:Lp) (_:Jn) (aN:LF) (aJ:Ky) (bJ:Q9) (x0:List Nat×List (Option (List Int))) (x1:Int) (x2:List Int) (x3:List Int) (x4:List Int) (x5:Int) (x6:Int):Option ((List Nat×List (Option (List Int)))×Int×(List Int)×(List Int)×(List Int)×Int×Int×Bool×Unit) :=
 lp ((List Nat×List (Option (List Int)))×Int×List Int×List Int×List Int×Int×Int×PUnit) ((List Nat×List (Option (List Int)))×Int×List Int×List Int×List Int×Int × Int×Bool×PUnit) (fun (again:(List Nat×List (Option (List Int)))×Int×List Int×List Int×List Int×Int×Int×PUnit->Option ((List Nat×List (Option (List Int)))×Int × List Int×List Int×List Int×Int×Int×Bool×PUnit)) (x:(List Nat×List (Option (List Int)))×Int×List Int×List Int×List Int×Int×Int×PUnit)=>lp (Int×Int × PUnit) ((List Nat×List (Option (List Int)))×Int×List Int×List Int×List Int×Int×Int×Bool×PUnit) (fun (again_1:Int×Int×PUnit->Option ((List Nat×List (Option (List Int)))×Int×List Int×List Int×List Int×Int×Int×Bool×PUnit)) (x_1:Int×Int×PUnit) =>
 let v13:Bool:=decide (x_1.1<0);
 let v14:Int×PUnit:=(IntKind.wrap .i64 (x_1.2.1+1),PUnit.unit);
 let v15:Bool:=decide (x_1.2.1<x.2.2.2.2.2.1);
 let v16:Bool:=!v15||v15;bif v16 then bif v16 then bif bif v15 then v13 else false then aa (bif List.all x.1.1 fun (x_2:Nat)=>eD x.1.2 x_2 then bJ (List.map (fun (x_2:Nat)=>ah x.1.2 x_2) x.1.1,x.2.1,x.2.2.1,x.2.2.2.1,x.2.2.2.2.1,x.2.2.2.2.2.1, x.2.2.2.2.2.2.1) x_1.2.1 else none) fun (t:Int)=>bif decide (t<0) then again_1 (x_1.2.1,v14) else again_1 (x_1.1,v14) else bif v13 then some (x.1,x.2.1,x.2.2.1,x.2.2.2.1,x.2.2.2.2.1,x.2.2.2.2.2.1,x.2.2.2.2.2.2.1,true,PUnit.unit) else aa (bif List.all x.1.1 fun (x_2:Nat)=>eD x.1.2 x_2 then aJ (List.map (fun (x_2:Nat)=>ah x.1.2 x_2) x.1.1,x.2.1,x.2.2.1,x.2.2.2.1, x.2.2.2.2.1,x.2.2.2.2.2.1,x.2.2.2.2.2.2.1) x_1.1 else none) fun (t:Int)=>bif decide (t<0) then some (x.1,x.2.1, x.2.2.1,x.2.2.2.1,x.2.2.2.2.1,x.2.2.2.2.2.1,x.2.2.2.2.2.2.1,false,PUnit.unit) else aa (aN x.1 x.2.1 x.2.2.1 x.2.2.2.1 x.2.2.2.2.1 x.2.2.2.2.2.1 x.2.2.2.2.2.2.1 t x_1.1) fun (y:(List Nat×List (Option (List Int)))×Int×List Int × List Int×List Int×Int×Int×PUnit)=>again (y.1,y.2.1,y.2.2.1,y.2.2.2.1,y.2.2.2.2.1,y.2.2.2.2.2.1,y.2.2.2.2.2.2.1, PUnit.unit) else none else none) ((-1),0,PUnit.unit)) (x0,x1,x2,x3,x4,x5,x6,PUnit.unit)
def bC (x0:List Nat×List (Option (List Int))) (x1:Int) (x2:List Int) (x3:List Int) (x4:List Int) (x5:Int) (x6:Int):Option ((List Nat×List (Option (List Int)))×Int×(List Int)×(List Int)×(List Int)×Int×Int×Bool×Unit):=gi lpK jnK aN aJ bJ x0 x1 x2 x3 x4 x5 x6
abbrev PG:=(List Nat×List (Option (List Int)))->(Int)->(List Int)->(List Int)->(List Int)->(Int)->(Int)->Option ((List Nat×List (Option (List Int)))×Int×(List Int)×(List Int)×(List Int)×Int×Int×Bool×Unit)
def So (bC:PG):SCtr:=⟨[.b [.x (.tab 29 .ref 3 i64),.d i64,.row 3 i64,.row 3 i64,.row 3 i64,.d i64,.d i64]],[(false,[.d .bool])],fun x=>bC x.1 x.2.1 x.2.2.1 x.2.2.2.1 x.2.2.2.2.1 x.2.2.2.2.2.1 x.2.2.2.2.2.2.1⟩
def P5:SCtr:=So bC
theorem Uy (lp:Lp) (jn:Jn) (aN:LF) (aJ:Ky) (bJ:Q9):∀x:TsR (rhI 0 P5.ks),gi lp jn aN aJ bJ x.1 x.2.1 x.2.2.1 x.2.2.2.1 x.2.2.2.2.1 x.2.2.2.2.2.1 x.2.2.2.2.2.2.1=I5 lp jn (Dn.look [(157,Pu aN)]) (Co Ez D3 (GU [(159,⟨FZ,[i64],.one i64,fun x y=>bJ x y.1⟩),(158,PR aJ)] [] (kP prog shs xw its [] [(134,bF)]))) ao 4 111 f111 P5 x:=fun x=>by kernel_rfl
theorem RV:P5.ok prog 111:=SCtr.of_den (au (sb (bQ) (j7 (by kernel_rfl) Qz (j7 (by kernel_rfl) Ot (pU))) (pS))) aW (qi OB (rX)) (hl:=ao) (d:=4) func111 rfl (by decide) (Uy lpK jnK aN aJ bJ)
def od (_:Lp) (_:Jn) (bw:t75) (aL:t77) (bg:t82) (x0:Int) (x1:Int):Option ((Int×Int)×Int×Unit) :=
 
 let v4:Bool:=!decide (x0=0);
 let v5:Bool:=!v4||v4;bif decide (x1=0) then some ((0,0),16,PUnit.unit) else aa (aL x0) fun (t:Int)=>aa (aL x1) fun (t_1:Int)=>aa (bw t t_1) fun (t_2:Int) =>
 let v9:Bool:=nzB t_2;bif v5 then bif v5 then bif v5&&v5 then bif v5 then bif v9 then bif v9 then aa (bg (bif v4 then !decide (decide (x0<0)=decide (x1<(0 : Int))) else false) (IntKind.wrap .u64 (Int.tdiv t t_2)) (IntKind.wrap .u64 (Int.tdiv t_1 t_2))) fun (t:(Int×Int)×Int×PUnit)=>some (t.1,t.2.1, PUnit.unit) else none else none else none else none else none else none
def fa (x0:Int) (x1:Int):Option ((Int×Int)×Int×Unit):=od lpK jnK bw aL bg x0 x1
abbrev PN:=(Int)->(Int)->Option ((Int×Int)×Int×Unit)
def Sj (fa:PN):Ctr:=⟨[i64,i64],[],[],.tup [T49,i64],fun x _ _=>fa x.1 x.2.1⟩
def HK:Ctr:=Sj fa
theorem Tk (lp:Lp) (jn:Jn) (bw:t75) (aL:t77) (bg:t82):∀(x:TsS HK.as) (F:TsF HK.fs) (y:TsS HK.cs),od lp jn bw aL bg x.1 x.2.1=cb lp jn (cx [(82,k82 bg),(77,k77 aL),(75,k75 bw)] [(134,bF)]) ao 4 136 f136 HK x F y:=fun x F y=>by kernel_rfl
theorem QV:HK.ok prog 136:=Ctr.of_den (au (ai (ai (ai (bQ) (by kernel_rfl) N0) (by kernel_rfl) KS) (by kernel_rfl) Py)) aW (hl:=ao) (d:=4) func136 rfl (by decide) (Tk lpK jnK bw aL bg)
def ik (_:Lp) (_:Jn) (fa:PN) (x0:(List (List Int))×Int×(List Int)×(List Int)×(List Int)×Int×Int) (x1:Int):Option (Int×Int) :=
 aa (fa x1 x0.2.1) fun (t:(Int×Int)×Int×PUnit)=>some t.1
def a9 (x0:(List (List Int))×Int×(List Int)×(List Int)×(List Int)×Int×Int) (x1:Int):Option (Int×Int):=ik lpK jnK fa x0 x1
abbrev L8:=((List (List Int))×Int×(List Int)×(List Int)×(List Int)×Int×Int)->(Int)->Option (Int×Int)
def RA (a9:L8):PCtr:=⟨FZ,[i64],.one T49,fun x y=>a9 x y.1⟩
def LX:PCtr:=RA a9
theorem S2 (lp:Lp) (jn:Jn) (fa:PN):∀(x:LX.s.T) (y:TsS LX.as),ik lp jn fa x y.1=Ei lp jn (cx [(136,Sj fa)] [(134,bF)]) ao 4 113 f113 LX x y:=fun x y=>by kernel_rfl
theorem RQ:LX.ok prog 113:=PCtr.of_den (au (ai (bQ) (by kernel_rfl) QV)) aW (hl:=ao) (d:=4) func113 rfl (by decide) (S2 lpK jnK fa)
def iQ (lp:Lp) (jn:Jn) (bz:t91) (cO:LM) (b6:LO) (bn:LN) (bC:PG) (aP:Hz) (a9:L8) (x0:(List Int)×List ((List Int)×Int×Int)):Option (((Int×Int)×(List (Int×Int))×List (Int×Int))×Int×Unit) :=
 aa (bz x0) fun (t:Bool)=>bif !t then some (((0,0),[],[]),1,PUnit.unit) else aa (cO x0) fun (t:Bool)=>bif !t then some ((((0 : Int),0),[],[]),5,PUnit.unit) else lp (Int×Int×PUnit) (((Int×Int)×List (Int×Int)×List (Int×Int))×Int×PUnit) (fun (again:Int×Int×PUnit -> Option (((Int×Int)×List (Int×Int)×List (Int×Int))×Int×PUnit)) (x:Int×Int×PUnit) =>
 let v7:Int×PUnit:=(IntKind.wrap .i64 (x.2.1+1),PUnit.unit);
 let v8:Int:=IntKind.wrap .i64 ((↑x0.1.length:Int)+x.1);bif decide (x.2.1<(↑x0.2.length:Int)) then bif inB x.2.1 x0.2.length then bif !decide ((x0.2.getD x.2.1.toNat ([],0,0)).2.1=3) then again (IntKind.wrap .i64 (x.1+1),v7) else again (x.1, v7) else none else aa (b6 x0.1) fun (t:List Int)=>lp (Int×Int×(List Nat×List (Option (List Int)))×Int×List Int×List Int×List Int×Int×Int × PUnit) (((Int×Int)×List (Int×Int)×List (Int×Int))×Int×PUnit) (fun (again:Int×Int×(List Nat×List (Option (List Int)))×Int×List Int×List Int×List Int×Int × Int×PUnit->Option (((Int×Int)×List (Int×Int)×List (Int×Int))×Int×PUnit)) (x:Int×Int×(List Nat×List (Option (List Int)))×Int×List Int×List Int×List Int × Int×Int×PUnit) =>
 let v12:Int:=IntKind.wrap .i64 (x.1+1);
 let v13:List Int×Int×Int:=x0.2.getD x.2.1.toNat ([],0,0);
 let v14:List Int:=List.replicate (Int.toNat (IntKind.wrap .i64 (x.2.2.2.2.2.2.2.2.1+1))) 0;
 let v15:Bool:=inB x.1 (Int.toNat (IntKind.wrap .i64 (x.2.2.2.2.2.2.2.2.1+1)));
 let v16:Bool:=Nat.ble (Nat.succ x.1.toNat) (Int.toNat (IntKind.wrap .i64 (x.2.2.2.2.2.2.2.2.1+1)));
 let v17:Int:=IntKind.wrap .i64 (x.2.2.2.2.2.2.2.1+x.2.1);
 let v18:List Int:=List.take (Int.toNat (IntKind.wrap .i64 (x.2.2.2.2.2.2.2.2.1+1))) v13.1;
 let v19:List Int:=List.set (List.take 0 v14++v18++List.drop (0+List.length v18) v14) x.2.2.2.2.2.2.2.2.1.toNat v13.2.2;bif decide (x.2.1<(↑x0.2.length:Int)) then bif inB x.2.1 x0.2.length then bif decide (0<=IntKind.wrap .i64 (x.2.2.2.2.2.2.2.2.1+(1 : Int)))&&dR (Int.toNat (IntKind.wrap .i64 (x.2.2.2.2.2.2.2.2.1+1))) 8 then bif inB x.2.2.2.2.2.2.2.2.1 (Int.toNat (IntKind.wrap .i64 (x.2.2.2.2.2.2.2.2.1+1))) then bif Nat.ble (Nat.succ x.2.2.2.2.2.2.2.2.1.toNat) (Int.toNat (IntKind.wrap IntKind.i64 (x.2.2.2.2.2.2.2.2.1+1))) then jn (Int×List Int×PUnit) (((Int×Int)×List (Int×Int)×List (Int×Int))×Int×PUnit) (fun (x_1:Int × List Int×PUnit) =>
 let v21:List Int×PUnit:=(x_1.2.1,PUnit.unit);jn (Int×List Int×PUnit) (((Int×Int)×List (Int×Int)×List (Int×Int))×Int×PUnit) (fun (x_2:Int×List Int × PUnit)=>bif inB v17 x_2.2.1.length then bif Nat.ble (Nat.succ v17.toNat) x_2.2.1.length then bif dR (List.length x.2.2.1.1+1) (24 : Nat) then bif dR (List.length x.2.2.2.2.2.1+1) 8 then bif dR (List.length x.2.2.2.2.1+1) 8 then again (x_1.1, IntKind.wrap .i64 (x.2.1+1),(x.2.2.1.1++[List.length x.2.2.1.2+0],x.2.2.1.2++[some (x_2.2.1.set v17.toNat (1 : Int))]),x.2.2.2.1,x.2.2.2.2.1++[v17],x.2.2.2.2.2.1++[x_2.1],x.2.2.2.2.2.2.1,x.2.2.2.2.2.2.2.1, x.2.2.2.2.2.2.2.2.1,PUnit.unit) else none else none else none else none else none) fun (j:Int×List Int×PUnit->Option (((Int×Int)×List (Int×Int)×List (Int×Int))×Int×PUnit))=>bif decide (v13.2.2<0) then lp (Int×List Int×PUnit) (((Int×Int)×List (Int×Int)×List (Int×Int))×Int×PUnit) (fun (again : Int×List Int×PUnit->Option (((Int×Int)×List (Int×Int)×List (Int×Int))×Int×PUnit)) (x:Int×List Int×PUnit) =>
 let v25:Bool:=inB x.1 x.2.1.length;
 let v26:Bool:=Nat.ble (Nat.succ x.1.toNat) x.2.1.length;bif decide (x.1<(↑x_1.2.1.length:Int)) then bif v25 then bif v26 then bif v25 then bif v26 then again (IntKind.wrap .i64 (x.1+1),x.2.1.set x.1.toNat (IntKind.wrap .i64 (0 - x.2.1.getD x.1.toNat 0)), PUnit.unit) else none else none else none else none else j ((-1),x.2.1,PUnit.unit)) (0,v21) else j (1,v21)) fun (j:Int×List Int×PUnit->Option (((Int × Int)×List (Int×Int)×List (Int×Int))×Int×PUnit))=>bif decide (v13.2.1=1) then bif v15 then bif v16 then j (v12,v19.set x.1.toNat 1, PUnit.unit) else none else none else jn (Int×List Int×PUnit) (((Int×Int)×List (Int×Int)×List (Int×Int))×Int×PUnit) (fun (x:Int×List Int×PUnit)=>j (x.1, x.2.1,PUnit.unit)) fun (j:Int×List Int×PUnit->Option (((Int×Int)×List (Int×Int)×List (Int×Int))×Int×PUnit))=>bif decide (v13.2.1=2) then bif v15 then bif v16 then j (v12,v19.set x.1.toNat (-1),PUnit.unit) else none else none else j (x.1,v19,PUnit.unit) else none else none else none else none else aa (bn x.2.2.1 x.2.2.2.1 x.2.2.2.2.1 x.2.2.2.2.2.1 x.2.2.2.2.2.2.1 x.2.2.2.2.2.2.2.1 x.2.2.2.2.2.2.2.2.1) fun (y:(List Nat×List (Option (List Int)))×Int×List Int×List Int×List Int×Int×Int×Bool×PUnit)=>bif !y.2.2.2.2.2.2.2.1 then some (((0,0),[],[]),22,PUnit.unit) else aa (bC y.1 y.2.1 y.2.2.1 y.2.2.2.1 y.2.2.2.2.1 y.2.2.2.2.2.1 y.2.2.2.2.2.2.1) fun (y:(List Nat×List (Option (List Int)))×Int×List Int×List Int×List Int×Int×Int×Bool × PUnit)=>bif !y.2.2.2.2.2.2.2.1 then some (((0,0),[],[]),21,PUnit.unit) else bif decide (0<=(↑x0.1.length:Int))&&dR (Int.toNat (↑x0.1.length:Int)) 8 then lp (Int×Int×List Int×PUnit) (((Int×Int)×List (Int×Int)×List (Int×Int))×Int×PUnit) (fun (again:Int×Int × List Int×PUnit->Option (((Int×Int)×List (Int×Int)×List (Int×Int))×Int×PUnit)) (x:Int×Int×List Int×PUnit) =>
 let v24:Int:=IntKind.wrap .i64 (x.2.1+1);
 let v25:Bool:=inB x.2.1 y.1.1.length;
 let v26:Bool:=Nat.ble (Nat.succ x.2.1.toNat) y.1.1.length;
 let v27:Int:=y.2.2.1.getD x.2.1.toNat 0;bif decide (x.2.1<(↑y.2.2.1.length:Int)) then bif inB x.2.1 y.2.2.1.length then bif Nat.ble (Nat.succ x.2.1.toNat) y.2.2.1.length then aa (bif List.all y.1.1 fun (x:Nat)=>eD y.1.2 x then aP (List.map (fun (x:Nat)=>ah y.1.2 x) y.1.1,y.2.1,y.2.2.1,y.2.2.2.1,y.2.2.2.2.1,y.2.2.2.2.2.1,y.2.2.2.2.2.2.1) v27 else none) fun (t:Int)=>bif v25 then bif v26 then bif inB y.2.2.2.2.2.2.1 (List.length (ah y.1.2 (y.1.1.getD x.2.1.toNat 0))) then bif Nat.ble (Nat.succ y.2.2.2.2.2.2.1.toNat) (List.length (ah y.1.2 (y.1.1.getD x.2.1.toNat 0))) then bif decide (v27<(↑x.2.2.1.length:Int)) then bif v25 then bif v26 then bif inB y.2.2.2.2.2.2.1 (List.length (ah y.1.2 (y.1.1.getD x.2.1.toNat 0))) then bif Nat.ble (Nat.succ y.2.2.2.2.2.2.1.toNat) (List.length (ah y.1.2 (y.1.1.getD x.2.1.toNat 0))) then bif inB v27 x.2.2.1.length then bif Nat.ble (Nat.succ v27.toNat) x.2.2.1.length then again (IntKind.wrap .i64 (x.1+IntKind.wrap .i64 (t*List.getD (ah y.1.2 (y.1.1.getD x.2.1.toNat 0)) y.2.2.2.2.2.2.1.toNat 0)),v24,x.2.2.1.set v27.toNat (List.getD (ah y.1.2 (y.1.1.getD x.2.1.toNat 0)) y.2.2.2.2.2.2.1.toNat 0),PUnit.unit) else none else none else none else none else none else none else again (IntKind.wrap .i64 (x.1+IntKind.wrap .i64 (t*List.getD (ah y.1.2 (y.1.1.getD x.2.1.toNat 0)) y.2.2.2.2.2.2.1.toNat 0)),v24,x.2.2.1,PUnit.unit) else none else none else none else none else none else none else aa (bif List.all y.1.1 fun (x:Nat) =>eD y.1.2 x then a9 (List.map (fun (x:Nat)=>ah y.1.2 x) y.1.1,y.2.1,y.2.2.1,y.2.2.2.1,y.2.2.2.2.1, y.2.2.2.2.2.1,y.2.2.2.2.2.2.1) x.1 else none) fun (t:Int×Int)=>lp (Int×(Int×Int)×List (Int×Int)×List (Int×Int)×PUnit) (((Int×Int) × List (Int×Int)×List (Int×Int))×Int×PUnit) (fun (again:Int×(Int×Int)×List (Int×Int)×List (Int×Int)×PUnit->Option (((Int×Int)×List (Int×Int)×List (Int × Int))×Int×PUnit)) (x_1:Int×(Int×Int)×List (Int×Int)×List (Int×Int)×PUnit) =>
 let v31:List (Int×Int)×PUnit:=(x_1.2.2.2.1,PUnit.unit);bif decide (x_1.1<(↑x.2.2.1.length:Int)) then bif inB x_1.1 x.2.2.1.length then bif Nat.ble (Nat.succ x_1.1.toNat) x.2.2.1.length then aa (bif List.all y.1.1 fun (x:Nat)=>eD y.1.2 x then a9 (List.map (fun (x : Nat)=>ah y.1.2 x) y.1.1,y.2.1,y.2.2.1,y.2.2.2.1,y.2.2.2.2.1,y.2.2.2.2.2.1,y.2.2.2.2.2.2.1) (x.2.2.1.getD x_1.1.toNat 0) else none) fun (t:Int×Int)=>bif dR (List.length x_1.2.2.1+1) 16 then again (IntKind.wrap .i64 (x_1.1+1),x_1.2.1,x_1.2.2.1++[t],v31) else none else none else none else lp (Int×(Int×Int)×List (Int×Int)×List (Int×Int)×PUnit) (((Int×Int) × List (Int×Int)×List (Int×Int))×Int×PUnit) (fun (again:Int×(Int×Int)×List (Int×Int)×List (Int×Int)×PUnit->Option (((Int×Int)×List (Int×Int)×List (Int × Int))×Int×PUnit)) (x:Int×(Int×Int)×List (Int×Int)×List (Int×Int)×PUnit) =>
 let v34:Int:=IntKind.wrap .i64 (y.2.2.2.2.2.1+x.1);bif decide (x.1<(↑x0.2.length:Int)) then lp (Int×Int×PUnit) (((Int×Int)×List (Int × Int)×List (Int×Int))×Int×PUnit) (fun (again_1:Int×Int×PUnit->Option (((Int×Int)×List (Int×Int)×List (Int×Int))×Int×PUnit)) (x_2:Int×Int×PUnit)=>bif decide (x_2.2.1<(↑y.2.2.1.length:Int)) then bif inB x_2.2.1 y.2.2.1.length then bif Nat.ble (Nat.succ x_2.2.1.toNat) y.2.2.1.length then aa (bif List.all y.1.1 fun (x:Nat)=>eD y.1.2 x then aP (List.map (fun (x:Nat)=>ah y.1.2 x) y.1.1,y.2.1, y.2.2.1,y.2.2.2.1,y.2.2.2.2.1,y.2.2.2.2.2.1,y.2.2.2.2.2.2.1) (y.2.2.1.getD x_2.2.1.toNat 0) else none) fun (t:Int)=>bif inB x_2.2.1 y.1.1.length then bif Nat.ble (Nat.succ x_2.2.1.toNat) y.1.1.length then bif inB v34 (List.length (ah y.1.2 (y.1.1.getD x_2.2.1.toNat 0))) then bif Nat.ble (Nat.succ v34.toNat) (List.length (ah y.1.2 (y.1.1.getD x_2.2.1.toNat (0 : Nat)))) then again_1 (IntKind.wrap .i64 (x_2.1+IntKind.wrap .i64 (t*List.getD (ah y.1.2 (y.1.1.getD x_2.2.1.toNat 0)) v34.toNat 0)),IntKind.wrap .i64 (x_2.2.1+1),PUnit.unit) else none else none else none else none else none else none else bif inB x.1 y.2.2.2.1.length then bif Nat.ble (Nat.succ x.1.toNat) y.2.2.2.1.length then aa (bif List.all y.1.1 fun (x:Nat)=>eD y.1.2 x then a9 (List.map (fun (x:Nat)=>ah y.1.2 x) y.1.1,y.2.1,y.2.2.1,y.2.2.2.1,y.2.2.2.2.1,y.2.2.2.2.2.1, y.2.2.2.2.2.2.1) (IntKind.wrap .i64 (y.2.2.2.1.getD x.1.toNat 0*x_2.1)) else none) fun (t:Int×Int)=>bif dR (List.length x.2.2.2.1+1) 16 then again (IntKind.wrap .i64 (x.1+1),x.2.1,x.2.2.1,x.2.2.2.1++[t],PUnit.unit) else none else none else none) (0,0,PUnit.unit) else some ((x.2.1,x.2.2.1,x.2.2.2.1),0,PUnit.unit)) (0,x_1.2.1,x_1.2.2.1,v31)) ((0 : Int),t,[],[],PUnit.unit)) (0,0,List.replicate (Int.toNat (↑x0.1.length:Int)) 0,PUnit.unit) else none) ((↑x0.1.length:Int),(0 : Int),([],[]),1,[],[],t,v8,IntKind.wrap .i64 (v8+(↑x0.2.length:Int)),PUnit.unit)) (0,0,PUnit.unit)
def aA (x0:(List Int)×List ((List Int)×Int×Int)):Option (((Int×Int)×(List (Int×Int))×List (Int×Int))×Int×Unit):=iQ lpK jnK bz cO b6 bn bC aP a9 x0
abbrev t58:=((List Int)×List ((List Int)×Int×Int))->Option (((Int×Int)×(List (Int×Int))×List (Int×Int))×Int×Unit)
def k58 (aA:t58):Ctr:=⟨[T32],[],[],.tup [T96,i64],fun x _ _=>aA x.1⟩
def c58:Ctr:=k58 aA
theorem e58 (lp:Lp) (jn:Jn) (bz:t91) (cO:LM) (b6:LO) (bn:LN) (bC:PG) (aP:Hz) (a9:L8):∀(x:TsS c58.as) (F:TsF c58.fs) (y:TsS c58.cs),iQ lp jn bz cO b6 bn bC aP a9 x.1=OT lp jn (Dn.look [(111,So bC),(110,Rs bn)]) (Co Ez D3 (GU [(113,RA a9),(112,Ps aP)] [] (kP prog shs xw its [(108,QZ cO),(91,k91 bz)] [(134,RN b6)]))) ao 4 58 f58 c58 x F y:=fun x F y=>by kernel_rfl
theorem PD:c58.ok prog 58:=Ctr.of_denS (au (sb (ai (ai (bQ) (by kernel_rfl) SD) (by kernel_rfl) RB) (j7 (by kernel_rfl) RQ (j7 (by kernel_rfl) OD (pU))) (pS))) aW (qi RV (qi Rc (rX))) (hl:=ao) (d:=4) func58 rfl (by decide) (e58 lpK jnK bz cO b6 bn bC aP a9)
def kX (_:Lp) (_:Jn) (aU:t11) (aA:t58) (x0:(List (ByteArray×Int))×List (ByteArray×(List (ByteArray×Int×Int×Int))×Bool)):Option ((List (Int×Int))×Int×Unit) :=
 aa (aU x0) fun (t:(List Int×List (List Int×Int×Int))×Int×PUnit)=>bif !decide (t.2.1=0) then some ([],t.2.1,PUnit.unit) else aa (aA t.1) fun (t:((Int×Int)×List (Int×Int)×List (Int×Int))×Int×PUnit)=>bif !decide (t.2.1=0) then some ([],t.2.1,PUnit.unit) else some (t.1.2.1,0,PUnit.unit)
def aE (x0:(List (ByteArray×Int))×List (ByteArray×(List (ByteArray×Int×Int×Int))×Bool)):Option ((List (Int×Int))×Int×Unit):=kX lpK jnK aU aA x0
abbrev t19:=((List (ByteArray×Int))×List (ByteArray×(List (ByteArray×Int×Int×Int))×Bool))->Option ((List (Int×Int))×Int×Unit)
def k19 (aE:t19):Ctr:=⟨[T25],[],[],.tup [(.sl T49),i64],fun x _ _=>aE x.1⟩
def c19:Ctr:=k19 aE
theorem e19 (lp:Lp) (jn:Jn) (aU:t11) (aA:t58):∀(x:TsS c19.as) (F:TsF c19.fs) (y:TsS c19.cs),kX lp jn aU aA x.1=cb lp jn (cx [(58,k58 aA),(11,k11 aU)] [(134,bF)]) ao 4 19 f19 c19 x F y:=fun x F y=>by kernel_rfl
theorem Q6:c19.ok prog 19:=Ctr.of_den (au (ai (ai (bQ) (by kernel_rfl) QN) (by kernel_rfl) PD)) aW (hl:=ao) (d:=4) func19 rfl (by decide) (e19 lpK jnK aU aA)
def jK (lp:Lp) (_:Jn) (x0:List (ByteArray×(List (ByteArray×Int×Int×Int))×Bool)) (f0:(((ByteArray×(List (ByteArray×Int×Int×Int))×Bool)×Unit)->Option Bool)):Option Int :=
 lp (Int×PUnit) Int (fun (again:Int×PUnit->Option Int) (x:Int×PUnit)=>bif decide (x.1<(↑x0.length:Int)) then bif inB x.1 x0.length then aa (f0 (x0.getD x.1.toNat ({ data:={ toList:=[] } },[],false),PUnit.unit)) fun (t:Bool)=>bif t then some x.1 else again (IntKind.wrap .i64 (x.1+1), PUnit.unit) else none else some (-1)) (0,PUnit.unit)
def cu (x0:List (ByteArray×(List (ByteArray×Int×Int×Int))×Bool)) (f0:(((ByteArray×(List (ByteArray×Int×Int×Int))×Bool)×Unit)->Option Bool)):Option Int:=jK lpK jnK x0 f0
abbrev t60:=(List (ByteArray×(List (ByteArray×Int×Int×Int))×Bool))->((((ByteArray×(List (ByteArray×Int×Int×Int))×Bool)×Unit)->Option Bool))->Option (Int)
def k60 (cu:t60):Ctr:=⟨[(.sl T75)],[([T75],.bool)],[],.one i64,fun x F _=>cu x.1 F.1⟩
def c60:Ctr:=k60 cu
theorem e60 (lp:Lp) (jn:Jn):∀(x:TsS c60.as) (F:TsF c60.fs) (y:TsS c60.cs),jK lp jn x.1 F.1=cb lp jn (cx [] [(134,bF)]) ao 4 60 f60 c60 x F y:=fun x F y=>by kernel_rfl
theorem Td:c60.ok prog 60:=Ctr.of_den (au (bQ)) aW (hl:=ao) (d:=4) func60 rfl (by decide) (e60 lpK jnK)
def oE (_:Lp) (_:Jn) (x0:ByteArray×(List (ByteArray×Int×Int×Int))×Bool) (y0:ByteArray):Option Bool :=
 some (List.beq (ByteArray.toList x0.1) (ByteArray.toList y0))
def fi (x0:ByteArray×(List (ByteArray×Int×Int×Int))×Bool) (y0:ByteArray):Option Bool:=oE lpK jnK x0 y0
abbrev t61:=(ByteArray×(List (ByteArray×Int×Int×Int))×Bool)->(ByteArray)->Option (Bool)
def c61:Ctr:=⟨[T75],[],[.str],.one .bool,fun x _ y=>fi x.1 y.1⟩
theorem e61 (lp:Lp) (jn:Jn):∀(x:TsS c61.as) (F:TsF c61.fs) (y:TsS c61.cs),oE lp jn x.1 y.1=cb lp jn (cx [] [(134,bF)]) ao 4 61 f61 c61 x F y:=fun x F y=>by kernel_rfl
theorem TJ:c61.ok prog 61:=Ctr.of_den (au (bQ)) aW (hl:=ao) (d:=4) func61 rfl (by decide) (e61 lpK jnK)
def pB (_:Lp) (_:Jn) (cA:t45) (x0:(List (ByteArray×Int))×List (ByteArray×(List (ByteArray×Int×Int×Int))×Bool)) (x1:Int) (x2:Int):Option (((List Int)×List ((List Int)×Int×Int))×Int×Unit) :=
 bif decide (0<=(↑x0.2.length:Int))&&dR (Int.toNat (↑x0.2.length:Int)) 8 then bif inB x1 (Int.toNat (↑x0.2.length:Int)) then bif Nat.ble (Nat.succ x1.toNat) (Int.toNat (↑x0.2.length:Int)) then aa (cA x0 (List.set (List.replicate (Int.toNat (↑x0.2.length:Int)) 0) x1.toNat x2)) fun (t:(List Int×List (List Int×Int×Int))×Int×PUnit)=>some (t.1,t.2.1,PUnit.unit) else none else none else none
def du (x0:(List (ByteArray×Int))×List (ByteArray×(List (ByteArray×Int×Int×Int))×Bool)) (x1:Int) (x2:Int):Option (((List Int)×List ((List Int)×Int×Int))×Int×Unit):=pB lpK jnK cA x0 x1 x2
abbrev t62:=((List (ByteArray×Int))×List (ByteArray×(List (ByteArray×Int×Int×Int))×Bool))->(Int)->(Int)->Option (((List Int)×List ((List Int)×Int×Int))×Int×Unit)
def k62 (du:t62):Ctr:=⟨[T25,i64,i64],[],[],.tup [T32,i64],fun x _ _=>du x.1 x.2.1 x.2.2.1⟩
def c62:Ctr:=k62 du
theorem e62 (lp:Lp) (jn:Jn) (cA:t45):∀(x:TsS c62.as) (F:TsF c62.fs) (y:TsS c62.cs),pB lp jn cA x.1 x.2.1 x.2.2.1=cb lp jn (cx [(45,k45 cA)] [(134,bF)]) ao 4 62 f62 c62 x F y:=fun x F y=>by kernel_rfl
theorem Rj:c62.ok prog 62:=Ctr.of_den (au (ai (bQ) (by kernel_rfl) QY)) aW (hl:=ao) (d:=4) func62 rfl (by decide) (e62 lpK jnK cA)
def qI (_:Lp) (_:Jn) (aI:t59) (aA:t58) (cu:t60) (fi:t61) (du:t62) (x0:(List (ByteArray×Int))×List (ByteArray×(List (ByteArray×Int×Int×Int))×Bool)) (x1:ByteArray):Option ((Int×Int)×Int×Unit) :=
 aa (aI x0) fun (t:Bool)=>bif !t then some ((0,0),1,PUnit.unit) else aa (cu x0.2 fun (x:(ByteArray×List (ByteArray × Int×Int×Int)×Bool)×PUnit)=>fi x.1 x1) fun (t:Int)=>bif decide (t<0) then some ((0,0),9,PUnit.unit) else aa (du x0 t 1) fun (t:(List Int×List (List Int×Int×Int))×Int×PUnit)=>bif !decide (t.2.1=0) then some ((0,0),t.2.1,PUnit.unit) else aa (aA t.1) fun (t:((Int×Int)×List (Int×Int)×List (Int×Int))×Int×PUnit)=>bif !decide (t.2.1=0) then some ((0,0), t.2.1,PUnit.unit) else some (t.1.1,0,PUnit.unit)
def b9 (x0:(List (ByteArray×Int))×List (ByteArray×(List (ByteArray×Int×Int×Int))×Bool)) (x1:ByteArray):Option ((Int×Int)×Int×Unit):=qI lpK jnK aI aA cu fi du x0 x1
abbrev t20:=((List (ByteArray×Int))×List (ByteArray×(List (ByteArray×Int×Int×Int))×Bool))->(ByteArray)->Option ((Int×Int)×Int×Unit)
def k20 (b9:t20):Ctr:=⟨[T25,.str],[],[],.tup [T49,i64],fun x _ _=>b9 x.1 x.2.1⟩
def c20:Ctr:=k20 b9
theorem e20 (lp:Lp) (jn:Jn) (aI:t59) (aA:t58) (cu:t60) (fi:t61) (du:t62):∀(x:TsS c20.as) (F:TsF c20.fs) (y:TsS c20.cs),qI lp jn aI aA cu fi du x.1 x.2.1=cb lp jn (cx [(62,k62 du),(61,⟨[T75],[],[.str],.one .bool,fun x _ y=>fi x.1 y.1⟩),(60,k60 cu),(58,k58 aA),(59,k59 aI)] [(134,bF)]) ao 4 20 f20 c20 x F y:=fun x F y=>by kernel_rfl
theorem Uh:c20.ok prog 20:=Ctr.of_den (au (ai (ai (ai (ai (ai (bQ) (by kernel_rfl) N3) (by kernel_rfl) PD) (by kernel_rfl) Td) (by kernel_rfl) TJ) (by kernel_rfl) Rj)) aW (hl:=ao) (d:=4) func20 rfl (by decide) (e20 lpK jnK aI aA cu fi du)
def ke (lp:Lp) (_:Jn) (aI:t59) (aA:t58) (du:t62) (x0:(List (ByteArray×Int))×List (ByteArray×(List (ByteArray×Int×Int×Int))×Bool)):Option ((List ByteArray)×Int×Unit) :=
 aa (aI x0) fun (t:Bool)=>bif !t then some ([],1,PUnit.unit) else lp (List ByteArray×Int×PUnit) (List ByteArray×Int×PUnit) (fun (again:List ByteArray × Int×PUnit->Option (List ByteArray×Int×PUnit)) (x:List ByteArray×Int×PUnit) =>
 let v6:Int×PUnit:=(IntKind.wrap .i64 (x.2.1+1),PUnit.unit);bif decide (x.2.1<(↑x0.2.length:Int)) then bif inB x.2.1 x0.2.length then aa (du x0 x.2.1 (-1)) fun (t:(List Int×List (List Int×Int×Int))×Int×PUnit)=>bif !decide (t.2.1=0) then some ([],t.2.1, PUnit.unit) else aa (aA t.1) fun (t:((Int×Int)×List (Int×Int)×List (Int×Int))×Int×PUnit)=>bif decide (t.2.1=21) then again (x.1,v6) else bif !decide (t.2.1=0) then some ([],t.2.1,PUnit.unit) else bif decide (t.1.1.1=0) then bif dR (List.length x.1+1) 16 then again (x.1++[(x0.2.getD x.2.1.toNat ({ data:={ toList:=[] } },[],false)).1],v6) else none else again (x.1,v6) else none else some (x.1,0, PUnit.unit)) ([],0,PUnit.unit)
def aF (x0:(List (ByteArray×Int))×List (ByteArray×(List (ByteArray×Int×Int×Int))×Bool)):Option ((List ByteArray)×Int×Unit):=ke lpK jnK aI aA du x0
abbrev t21:=((List (ByteArray×Int))×List (ByteArray×(List (ByteArray×Int×Int×Int))×Bool))->Option ((List ByteArray)×Int×Unit)
def k21 (aF:t21):Ctr:=⟨[T25],[],[],.tup [(.sl .str),i64],fun x _ _=>aF x.1⟩
def c21:Ctr:=k21 aF
theorem e21 (lp:Lp) (jn:Jn) (aI:t59) (aA:t58) (du:t62):∀(x:TsS c21.as) (F:TsF c21.fs) (y:TsS c21.cs),ke lp jn aI aA du x.1=cb lp jn (cx [(62,k62 du),(58,k58 aA),(59,k59 aI)] [(134,bF)]) ao 4 21 f21 c21 x F y:=fun x F y=>by kernel_rfl
theorem R7:c21.ok prog 21:=Ctr.of_den (au (ai (ai (ai (bQ) (by kernel_rfl) N3) (by kernel_rfl) PD) (by kernel_rfl) Rj)) aW (hl:=ao) (d:=4) func21 rfl (by decide) (e21 lpK jnK aI aA du)
def qV (_:Lp) (_:Jn) (x0:Int):Option (Int×Int) :=
 some (x0,1)
def bB (x0:Int):Option (Int×Int):=qV lpK jnK x0
abbrev t34:=(Int)->Option (Int×Int)
def k34 (bB:t34):Ctr:=⟨[i64],[],[],.one T49,fun x _ _=>bB x.1⟩
def c34:Ctr:=k34 bB
theorem e34 (lp:Lp) (jn:Jn):∀(x:TsS c34.as) (F:TsF c34.fs) (y:TsS c34.cs),qV lp jn x.1=cb lp jn (cx [] [(134,bF)]) ao 4 34 f34 c34 x F y:=fun x F y=>by kernel_rfl
theorem PQ:c34.ok prog 34:=Ctr.of_den (au (bQ)) aW (hl:=ao) (d:=4) func34 rfl (by decide) (e34 lpK jnK)
def qK (lp:Lp) (_:Jn) (bB:t34) (x0:List Int):Option ((List (ByteArray×Int))×List (ByteArray×(List (ByteArray×Int×Int×Int))×Bool)) :=
 lp (Int×List (ByteArray×Int)×List (ByteArray×List (ByteArray×Int×Int×Int)×Bool)×PUnit) (List (ByteArray×Int)×List (ByteArray×List (ByteArray×Int×Int×Int)×Bool)) (fun (again:Int×List (ByteArray×Int)×List (ByteArray×List (ByteArray×Int×Int×Int)×Bool)×PUnit->Option (List (ByteArray×Int)×List (ByteArray×List (ByteArray×Int×Int×Int)×Bool))) (x:Int×List (ByteArray×Int)×List (ByteArray×List (ByteArray×Int×Int×Int)×Bool)×PUnit) => bif decide (x.1<(↑x0.length:Int)) then bif inB x.1 x0.length then aa (bB 1) fun (t:Int×Int)=>aa (bB 1) fun (t_1:Int×Int)=>bif dR (List.length x.2.2.1+1) 48 then again (IntKind.wrap .i64 (x.1+1),x.2.1,x.2.2.1++[({ data:=#[114] }++u9 [IntKind.wrap IntKind.u8 (IntKind.wrap .i64 (49+x.1))],[({ data:=#[98] },x0.getD x.1.toNat 0,t),({ data:={ toList:=[] } },0,t_1)],false)],PUnit.unit) else none else none else some (x.2.1,x.2.2.1)) (0,[({ data:=#[98] },10)],[],PUnit.unit)
def eh (x0:List Int):Option ((List (ByteArray×Int))×List (ByteArray×(List (ByteArray×Int×Int×Int))×Bool)):=qK lpK jnK bB x0
abbrev t43:=(List Int)->Option ((List (ByteArray×Int))×List (ByteArray×(List (ByteArray×Int×Int×Int))×Bool))
def c43:Ctr:=⟨[(.sl i64)],[],[],.one T25,fun x _ _=>eh x.1⟩
theorem e43 (lp:Lp) (jn:Jn) (bB:t34):∀(x:TsS c43.as) (F:TsF c43.fs) (y:TsS c43.cs),qK lp jn bB x.1=cb lp jn (cx [(34,k34 bB)] [(134,bF)]) ao 4 43 f43 c43 x F y:=fun x F y=>by kernel_rfl
theorem Uq:c43.ok prog 43:=Ctr.of_den (au (ai (bQ) (by kernel_rfl) PQ)) aW (hl:=ao) (d:=4) func43 rfl (by decide) (e43 lpK jnK bB)
def qM (_:Lp) (_:Jn) (a8:t12) (aE:t19) (b9:t20) (aF:t21) (bB:t34) (eh:t43):Option Bool :=
 aa (eh [1,1,(-1)]) fun (t:List (ByteArray×Int)×List (ByteArray×List (ByteArray×Int×Int×Int)×Bool))=>aa (aE t) fun (t:List (Int×Int)×Int×PUnit) =>
 let v4:Bool:=decide (t.2.1=0);
 let v5:Bool:=!v4||v4;
 let v6:Bool:=bif v4 then decide ((↑t.1.length:Int)=3) else false;
 let v7:Bool:=!v6||v6;aa (eh [1,1,(-1)]) fun (t:List (ByteArray×Int)×List (ByteArray×List (ByteArray×Int×Int×Int)×Bool))=>aa (aF t) fun (t:List ByteArray×Int×PUnit) =>
 let v10:Bool:=bif v6 then decide (t.2.1=0) else false;
 let v11:Bool:=!v10||v10;
 let v12:Bool:=bif v10 then decide ((↑t.1.length:Int)=0) else false;
 let v13:Bool:=!v12||v12;aa (eh [1,1,(-1)]) fun (t:List (ByteArray×Int)×List (ByteArray×List (ByteArray×Int×Int×Int)×Bool)) => aa (b9 t { data:={ toList:=[{ toBitVec:={ toFin:=⟨114,Nat.mod_lt 114 (BitVec.ofNat._proof_1 8)⟩ } },{ toBitVec:={ toFin:=⟨49, Nat.mod_lt 49 (BitVec.ofNat._proof_1 8)⟩ } }] } }) fun (t:(Int×Int)×Int×PUnit) =>
 let v16:Bool:=bif v12 then decide (t.2.1=0) else false;
 let v17:Bool:=!v16||v16;aa (eh [(-1)]) fun (t_1:List (ByteArray×Int)×List (ByteArray×List (ByteArray×Int×Int×Int)×Bool))=>aa (bB (1 : Int)) fun (t_2:Int×Int)=>aa (a8 t_1 [t_2]) fun (t_3:Bool×Int×PUnit)=>aa (eh [(-1)]) fun (t_4:List (ByteArray×Int)×List (ByteArray × List (ByteArray×Int×Int×Int)×Bool))=>aa (aE t_4) fun (t_5:List (Int×Int)×Int×PUnit)=>bif v5 then bif v5 then bif v5 then bif v7 then bif v7 then bif v11 then bif v11 then bif v11 then bif v13 then bif v13 then aa (bif v16 then bB 0 else some (0,0)) fun (t_6:Int×Int) =>
 let v24:Bool:=bif v16 then decide (t.1.1=t_6.1)&&(decide (t.1.2=t_6.2)&&true) else false;
 let v25:Bool:=bif v24 then decide (t_3.2.1=0) else false;
 let v26:Bool:=bif v25 then t_3.1 else false;
 let v27:Bool:=!v24||v24;
 let v28:Bool:=!v26||v26;bif v17&&v17 then bif v17 then bif v27 then bif v27 then bif !v25||v25 then bif v28 then bif v28 then some (bif v26 then decide (t_5.2.1=(22 : Int)) else false) else none else none else none else none else none else none else none else none else none else none else none else none else none else none else none else none else none
def aK:Option Bool:=qM lpK jnK a8 aE b9 aF bB eh
abbrev t9:=Option (Bool)
def k9 (aK:t9):Ctr:=⟨[],[],[],.one .bool,fun _ _ _=>aK⟩
def c9:Ctr:=k9 aK
theorem e9 (lp:Lp) (jn:Jn) (a8:t12) (aE:t19) (b9:t20) (aF:t21) (bB:t34) (eh:t43):∀(x:TsS c9.as) (F:TsF c9.fs) (y:TsS c9.cs),qM lp jn a8 aE b9 aF bB eh=cb lp jn (cx [(43,⟨[(.sl i64)],[],[],.one T25,fun x _ _=>eh x.1⟩),(34,k34 bB),(21,k21 aF),(20,k20 b9),(19,k19 aE),(12,k12 a8)] [(134,bF)]) ao 4 9 f9 c9 x F y:=fun x F y=>by kernel_rfl
theorem ok9:c9.ok prog 9:=Ctr.of_den (au (ai (ai (ai (ai (ai (ai (bQ) (by kernel_rfl) Tz) (by kernel_rfl) Q6) (by kernel_rfl) Uh) (by kernel_rfl) R7) (by kernel_rfl) PQ) (by kernel_rfl) Uq)) aW (hl:=ao) (d:=4) func9 rfl (by decide) (e9 lpK jnK a8 aE b9 aF bB eh)
def mw (lp:Lp) (_:Jn) (x0:(List (ByteArray×Int))×List (ByteArray×(List (ByteArray×Int×Int×Int))×Bool)):Option Bool :=
 
 let v3:Bool:=decide ((↑x0.1.length:Int)>9);
 let v4:Bool:=!v3;
 let v5:Bool:=!v4||v4;bif v5 then bif v5 then bif v5 then bif v3||v4 then bif bif v3 then true else decide ((↑x0.2.length:Int)>9) then some false else lp (Int × PUnit) Bool (fun (again:Int×PUnit->Option Bool) (x:Int×PUnit)=>bif decide (x.1<(↑x0.1.length:Int)) then bif inB x.1 x0.1.length then bif decide ((↑(ByteArray.size (x0.1.getD x.1.toNat ({ data:={ toList:=[] } },0)).1):Int)>60) then some false else again (IntKind.wrap .i64 (x.1 + 1),PUnit.unit) else none else lp (Int×PUnit) Bool (fun (again:Int×PUnit->Option Bool) (x:Int×PUnit) =>
 let v10:Bool:=inB x.1 x0.2.length;
 let v11:Bool:=decide ((↑(ByteArray.size (x0.2.getD x.1.toNat ({ data:={ toList:=[] } },[],false)).1):Int)>60);
 let v12:Bool:=!v11;
 let v13:Bool:=!v12;
 let v14:Bool:=v13||v12;bif decide (x.1<(↑x0.2.length:Int)) then bif v10 then bif v14 then bif v14&&(v14&&(v13||v10)) then bif v14 then bif v14 then bif v14 then bif v14 then bif v11||v12 then bif bif v11 then true else decide ((↑(List.length (x0.2.getD x.1.toNat ({ data:={ toList:=[] } },[],false)).2.1):Int) > 13) then some false else lp (Int×PUnit) Bool (fun (again_1:Int×PUnit->Option Bool) (x_1:Int×PUnit)=>bif v10 then bif decide (x_1.1<(↑(List.length (x0.2.getD x.1.toNat ({ data:={ toList:=[] } },[],false)).2.1):Int)) then bif v10 then bif inB x_1.1 (List.length (x0.2.getD x.1.toNat ({ data:={ toList:=[] } },[],false)).2.1) then bif decide ((↑(ByteArray.size (List.getD (x0.2.getD x.1.toNat ({ data:={ toList:=[] } },[],false)).2.1 x_1.1.toNat ({ data:={ toList:=[] } },0,0,0)).1):Int)>60) then some false else again_1 (IntKind.wrap .i64 (x_1.1+1), PUnit.unit) else none else none else again (IntKind.wrap .i64 (x.1+1),PUnit.unit) else none) (0,PUnit.unit) else none else none else none else none else none else none else none else none else some true) (0,PUnit.unit)) (0,PUnit.unit) else none else none else none else none
def fk (x0:(List (ByteArray×Int))×List (ByteArray×(List (ByteArray×Int×Int×Int))×Bool)):Option Bool:=mw lpK jnK x0
abbrev t44:=((List (ByteArray×Int))×List (ByteArray×(List (ByteArray×Int×Int×Int))×Bool))->Option (Bool)
def c44:Ctr:=⟨[T25],[],[],.one .bool,fun x _ _=>fk x.1⟩
theorem e44 (lp:Lp) (jn:Jn):∀(x:TsS c44.as) (F:TsF c44.fs) (y:TsS c44.cs),mw lp jn x.1=cb lp jn (cx [] [(134,bF)]) ao 4 44 f44 c44 x F y:=fun x F y=>by kernel_rfl
theorem SK:c44.ok prog 44:=Ctr.of_den (au (bQ)) aW (hl:=ao) (d:=4) func44 rfl (by decide) (e44 lpK jnK)
def o6 (_:Lp) (_:Jn) (fk:t44) (x0:(List (ByteArray×Int))×List (ByteArray×(List (ByteArray×Int×Int×Int))×Bool)) (x1:List (Int×Int)):Option Bool :=
 aa (fk x0) fun (t:Bool) =>
 let v5:Bool:=!t||t;bif v5 then bif v5 then bif v5 then some (bif t then decide ((↑x1.length:Int)<=10) else false) else none else none else none
def a7 (x0:(List (ByteArray×Int))×List (ByteArray×(List (ByteArray×Int×Int×Int))×Bool)) (x1:List (Int×Int)):Option Bool:=o6 lpK jnK fk x0 x1
abbrev t10:=((List (ByteArray×Int))×List (ByteArray×(List (ByteArray×Int×Int×Int))×Bool))->(List (Int×Int))->Option (Bool)
def k10 (a7:t10):Ctr:=⟨[T25,(.sl T49)],[],[],.one .bool,fun x _ _=>a7 x.1 x.2.1⟩
def c10:Ctr:=k10 a7
theorem e10 (lp:Lp) (jn:Jn) (fk:t44):∀(x:TsS c10.as) (F:TsF c10.fs) (y:TsS c10.cs),o6 lp jn fk x.1 x.2.1=cb lp jn (cx [(44,⟨[T25],[],[],.one .bool,fun x _ _=>fk x.1⟩)] [(134,bF)]) ao 4 10 f10 c10 x F y:=fun x F y=>by kernel_rfl
theorem SY:c10.ok prog 10:=Ctr.of_den (au (ai (bQ) (by kernel_rfl) SK)) aW (hl:=ao) (d:=4) func10 rfl (by decide) (e10 lpK jnK fk)
def j6 (lp:Lp) (_:Jn) (x0:(List (ByteArray×Int))×List (ByteArray×(List (ByteArray×Int×Int×Int))×Bool)) (x1:ByteArray):Option Int :=
 lp (Int×PUnit) Int (fun (again:Int×PUnit->Option Int) (x:Int×PUnit)=>bif decide (x.1<(↑x0.2.length:Int)) then bif inB x.1 x0.2.length then bif List.beq (ByteArray.toList (x0.2.getD x.1.toNat ({ data:={ toList:=[] } },[],false)).1) (ByteArray.toList x1) then some x.1 else again (IntKind.wrap .i64 (x.1+1),PUnit.unit) else none else some (-1)) (0,PUnit.unit)
def bK (x0:(List (ByteArray×Int))×List (ByteArray×(List (ByteArray×Int×Int×Int))×Bool)) (x1:ByteArray):Option Int:=j6 lpK jnK x0 x1
abbrev t22:=((List (ByteArray×Int))×List (ByteArray×(List (ByteArray×Int×Int×Int))×Bool))->(ByteArray)->Option (Int)
def k22 (bK:t22):Ctr:=⟨[T25,.str],[],[],.one i64,fun x _ _=>bK x.1 x.2.1⟩
def c22:Ctr:=k22 bK
theorem e22 (lp:Lp) (jn:Jn):∀(x:TsS c22.as) (F:TsF c22.fs) (y:TsS c22.cs),j6 lp jn x.1 x.2.1=cb lp jn (cx [] [(134,bF)]) ao 4 22 f22 c22 x F y:=fun x F y=>by kernel_rfl
theorem T3:c22.ok prog 22:=Ctr.of_den (au (bQ)) aW (hl:=ao) (d:=4) func22 rfl (by decide) (e22 lpK jnK)
def pn (_:Lp) (_:Jn) (x0:Int):Option Bool :=
 
 let v3:Bool:=decide (x0>=97);
 let v4:Bool:=decide (x0>=65);
 let v5:Bool:=!v3||v3;
 let v6:Bool:=bif v3 then decide (x0<=122) else false;
 let v7:Bool:=!v6;
 let v8:Bool:=!v7;
 let v9:Bool:=v7&&v4;
 let v10:Bool:=v8||v7;bif v5 then bif v5 then bif v10 then bif v10 then bif !v9||v9 then bif (v8||v10)&&(v8||(!v4||(v8||v9))) then bif v6||v7 then some (bif v6 then true else bif v4 then decide (x0<=90) else false) else none else none else none else none else none else none else none
def cm (x0:Int):Option Bool:=pn lpK jnK x0
abbrev t98:=(Int)->Option (Bool)
def k98 (cm:t98):Ctr:=⟨[(.int .u8)],[],[],.one .bool,fun x _ _=>cm x.1⟩
def c98:Ctr:=k98 cm
theorem e98 (lp:Lp) (jn:Jn):∀(x:TsS c98.as) (F:TsF c98.fs) (y:TsS c98.cs),pn lp jn x.1=cb lp jn (cx [] [(134,bF)]) ao 4 98 f98 c98 x F y:=fun x F y=>by kernel_rfl
theorem Rb:c98.ok prog 98:=Ctr.of_den (au (bQ)) aW (hl:=ao) (d:=4) func98 rfl (by decide) (e98 lpK jnK)
def qO (_:Lp) (_:Jn) (x0:Int):Option Bool :=
 
 let v3:Bool:=decide (x0>=48);
 let v4:Bool:=!v3||v3;bif v4 then bif v4 then some (bif v3 then decide (x0<=57) else false) else none else none
def fO (x0:Int):Option Bool:=qO lpK jnK x0
abbrev QB:=(Int)->Option (Bool)
def Lf:Ctr:=⟨[(.int .u8)],[],[],.one .bool,fun x _ _=>fO x.1⟩
theorem Tj (lp:Lp) (jn:Jn):∀(x:TsS Lf.as) (F:TsF Lf.fs) (y:TsS Lf.cs),qO lp jn x.1=cb lp jn (cx [] [(134,bF)]) ao 4 147 f147 Lf x F y:=fun x F y=>by kernel_rfl
theorem Ra:Lf.ok prog 147:=Ctr.of_den (au (bQ)) aW (hl:=ao) (d:=4) func147 rfl (by decide) (Tj lpK jnK)
def nA (lp:Lp) (_:Jn) (cm:t98) (fO:QB) (x0:ByteArray) (x1:Int):Option Int :=
 lp (Int×PUnit) Int (fun (again:Int×PUnit->Option Int) (x:Int×PUnit) =>
 let v6:Bool:=inB x.1 (ByteArray.size x0);
 let v7:Int:=eW x0 x.1.toNat;
 let v8:Bool:=decide (x.1<(↑(ByteArray.size x0):Int));
 let v9:Bool:=!v8;
 let v10:Bool:=v9||v8;
 let v11:Bool:=v9||v10;bif v10&&(v10&&(v9||v6)) then bif v10 then aa (bif v8 then cm v7 else some false) fun (t:Bool) =>
 let v13:Bool:=v8&&!t;
 let v14:Bool:=!v13;
 let v15:Bool:=v14||v13;bif v10 then bif v15&&(v15&&(v14||v6)) then bif v15 then aa (bif v13 then fO v7 else some false) fun (t_1:Bool) =>
 let v17:Bool:=bif t then true else t_1;
 let v18:Bool:=v8&&!v17;
 let v19:Bool:=!v18;
 let v20:Bool:=v19||v18;bif v11&&(v9||(t||(v9||v13))) then bif v10 then bif v20&&(v20&&(v19||v6)) then bif v20 then bif v11&&(v9||(v17||(v9||v18))) then bif v10 then bif bif v8 then bif v17 then true else decide (v7=95) else false then again (IntKind.wrap .i64 (x.1+1),PUnit.unit) else some x.1 else none else none else none else none else none else none else none else none else none else none else none) (x1,PUnit.unit)
def fU (x0:ByteArray) (x1:Int):Option Int:=nA lpK jnK cm fO x0 x1
abbrev t99:=(ByteArray)->(Int)->Option (Int)
def c99:Ctr:=⟨[.str,i64],[],[],.one i64,fun x _ _=>fU x.1 x.2.1⟩
theorem e99 (lp:Lp) (jn:Jn) (cm:t98) (fO:QB):∀(x:TsS c99.as) (F:TsF c99.fs) (y:TsS c99.cs),nA lp jn cm fO x.1 x.2.1=cb lp jn (cx [(147,⟨[(.int .u8)],[],[],.one .bool,fun x _ _=>fO x.1⟩),(98,k98 cm)] [(134,bF)]) ao 4 99 f99 c99 x F y:=fun x F y=>by kernel_rfl
theorem Ty:c99.ok prog 99:=Ctr.of_den (au (ai (ai (bQ) (by kernel_rfl) Rb) (by kernel_rfl) Ra)) aW (hl:=ao) (d:=4) func99 rfl (by decide) (e99 lpK jnK cm fO)
def lR (_:Lp) (_:Jn) (cm:t98) (fU:t99) (x0:ByteArray):Option Bool :=
 
 let v3:Bool:=decide ((↑(ByteArray.size x0):Int)=0);
 let v4:Bool:=!v3;
 let v5:Bool:=!v4||v4;
 let v6:Bool:=bif v3 then true else decide ((↑(ByteArray.size x0):Int)>20);
 let v7:Bool:=!v6;
 let v8:Bool:=!v7;
 let v9:Bool:=v8||v7;bif v5 then bif v5 then bif v3||v4 then bif v9&&(v8||inB 0 (ByteArray.size x0)) then bif v9 then aa (bif v7 then cm (eW x0 (0 : Nat)) else some false) fun (t:Bool)=>bif v9 then bif v6||v7 then bif bif v6 then true else !t then some false else aa (fU x0 0) fun (t:Int)=>some (decide (t = (↑(ByteArray.size x0):Int))) else none else none else none else none else none else none else none
def dY (x0:ByteArray):Option Bool:=lR lpK jnK cm fU x0
abbrev t48:=(ByteArray)->Option (Bool)
def c48:Ctr:=⟨[.str],[],[],.one .bool,fun x _ _=>dY x.1⟩
theorem e48 (lp:Lp) (jn:Jn) (cm:t98) (fU:t99):∀(x:TsS c48.as) (F:TsF c48.fs) (y:TsS c48.cs),lR lp jn cm fU x.1=cb lp jn (cx [(99,⟨[.str,i64],[],[],.one i64,fun x _ _=>fU x.1 x.2.1⟩),(98,k98 cm)] [(134,bF)]) ao 4 48 f48 c48 x F y:=fun x F y=>by kernel_rfl
theorem TR:c48.ok prog 48:=Ctr.of_den (au (ai (ai (bQ) (by kernel_rfl) Rb) (by kernel_rfl) Ty)) aW (hl:=ao) (d:=4) func48 rfl (by decide) (e48 lpK jnK cm fU)
def jF (lp:Lp) (_:Jn) (x0:(List (ByteArray×Int))×List (ByteArray×(List (ByteArray×Int×Int×Int))×Bool)) (x1:ByteArray):Option Int :=
 lp (Int×PUnit) Int (fun (again:Int×PUnit->Option Int) (x:Int×PUnit)=>bif decide (x.1<(↑x0.1.length:Int)) then bif inB x.1 x0.1.length then bif List.beq (ByteArray.toList (x0.1.getD x.1.toNat ({ data:={ toList:=[] } },0)).1) (ByteArray.toList x1) then some x.1 else again (IntKind.wrap .i64 (x.1+1),PUnit.unit) else none else some (-1)) (0,PUnit.unit)
def bj (x0:(List (ByteArray×Int))×List (ByteArray×(List (ByteArray×Int×Int×Int))×Bool)) (x1:ByteArray):Option Int:=jF lpK jnK x0 x1
abbrev t49:=((List (ByteArray×Int))×List (ByteArray×(List (ByteArray×Int×Int×Int))×Bool))->(ByteArray)->Option (Int)
def k49 (bj:t49):Ctr:=⟨[T25,.str],[],[],.one i64,fun x _ _=>bj x.1 x.2.1⟩
def c49:Ctr:=k49 bj
theorem e49 (lp:Lp) (jn:Jn):∀(x:TsS c49.as) (F:TsF c49.fs) (y:TsS c49.cs),jF lp jn x.1 x.2.1=cb lp jn (cx [] [(134,bF)]) ao 4 49 f49 c49 x F y:=fun x F y=>by kernel_rfl
theorem Rz:c49.ok prog 49:=Ctr.of_den (au (bQ)) aW (hl:=ao) (d:=4) func49 rfl (by decide) (e49 lpK jnK)
def wN (_:Lp) (_:Jn) (x0:Int):Option (Int×Int) :=
 some (x0,1)
def cZ (x0:Int):Option (Int×Int):=wN lpK jnK x0
abbrev t73:=(Int)->Option (Int×Int)
def k73 (cZ:t73):Ctr:=⟨[i64],[],[],.one T49,fun x _ _=>cZ x.1⟩
def c73:Ctr:=k73 cZ
theorem e73 (lp:Lp) (jn:Jn):∀(x:TsS c73.as) (F:TsF c73.fs) (y:TsS c73.cs),wN lp jn x.1=cb lp jn (cx [] [(134,bF)]) ao 4 73 f73 c73 x F y:=fun x F y=>by kernel_rfl
theorem Uv:c73.ok prog 73:=Ctr.of_den (au (bQ)) aW (hl:=ao) (d:=4) func73 rfl (by decide) (e73 lpK jnK)
def oq (_:Lp) (_:Jn) (x0:Int×Int):Option (Int×Int) :=
 
 let v3:Int:=2 ^ 1;
 let v4:Bool:=decide ((0:Int)<=1);bif v4 then bif v4 then bif decide ((0:Int)<=63) then some (Int.fdiv x0.1 v3,IntKind.wrap .u64 (Int.fdiv x0.2 v3 + IntKind.wrap .u64 (x0.1*2 ^ 63))) else none else none else none
def eC (x0:Int×Int):Option (Int×Int):=oq lpK jnK x0
abbrev Sr:=(Int×Int)->Option (Int×Int)
def Lv:Ctr:=⟨[kB],[],[],.one kB,fun x _ _=>eC x.1⟩
theorem Ti (lp:Lp) (jn:Jn):∀(x:TsS Lv.as) (F:TsF Lv.fs) (y:TsS Lv.cs),oq lp jn x.1=cb lp jn (cx [] [(134,bF)]) ao 4 149 f149 Lv x F y:=fun x F y=>by kernel_rfl
theorem Rf:Lv.ok prog 149:=Ctr.of_den (au (bQ)) aW (hl:=ao) (d:=4) func149 rfl (by decide) (Ti lpK jnK)
def nS (_:Lp) (_:Jn) (x0:Int×Int) (x1:Int×Int):Option Bool :=
 
 let v4:Bool:=decide (x0.1=x1.1);
 let v5:Bool:=decide (x0.1<x1.1);
 let v6:Bool:=!v5;
 let v7:Bool:=!v6;
 let v8:Bool:=v6&&v4;
 let v9:Bool:=v7||v6;
 let v10:Bool:=!v8||v8;bif v9 then bif v9 then bif v9&&v9 then bif v9 then bif v10 then bif v10 then bif v10&&v10 then bif (v7||v9)&&(v7||(!v4||(v7||v8))) then bif v5 || v6 then some (bif v5 then true else bif v4 then decide (x0.2<x1.2) else false) else none else none else none else none else none else none else none else none else none
def cB (x0:Int×Int) (x1:Int×Int):Option Bool:=nS lpK jnK x0 x1
abbrev G9:=(Int×Int)->(Int×Int)->Option (Bool)
def QF (cB:G9):Ctr:=⟨[kB,kB],[],[],.one .bool,fun x _ _=>cB x.1 x.2.1⟩
def H3:Ctr:=QF cB
theorem T2 (lp:Lp) (jn:Jn):∀(x:TsS H3.as) (F:TsF H3.fs) (y:TsS H3.cs),nS lp jn x.1 x.2.1=cb lp jn (cx [] [(134,bF)]) ao 4 150 f150 H3 x F y:=fun x F y=>by kernel_rfl
theorem RJ:H3.ok prog 150:=Ctr.of_den (au (bQ)) aW (hl:=ao) (d:=4) func150 rfl (by decide) (T2 lpK jnK)
def mB (_:Lp) (_:Jn) (x0:Int×Int) (x1:Int×Int):Option (Int×Int) :=
 
 let v4:Int:=IntKind.wrap .u64 (x0.1 - x1.1);
 let v5:Int:=IntKind.wrap .u64 (x0.2 - x1.2);bif decide (x0.2<x1.2) then some (IntKind.wrap .u64 (v4 - 1),v5) else some (v4,v5)
def cq (x0:Int×Int) (x1:Int×Int):Option (Int×Int):=mB lpK jnK x0 x1
abbrev K3:=(Int×Int)->(Int×Int)->Option (Int×Int)
def R0 (cq:K3):Ctr:=⟨[kB,kB],[],[],.one kB,fun x _ _=>cq x.1 x.2.1⟩
def HC:Ctr:=R0 cq
theorem To (lp:Lp) (jn:Jn):∀(x:TsS HC.as) (F:TsF HC.fs) (y:TsS HC.cs),mB lp jn x.1 x.2.1=cb lp jn (cx [] [(134,bF)]) ao 4 151 f151 HC x F y:=fun x F y=>by kernel_rfl
theorem Q2:HC.ok prog 151:=Ctr.of_den (au (bQ)) aW (hl:=ao) (d:=4) func151 rfl (by decide) (To lpK jnK)
def oe (_:Lp) (_:Jn) (x0:Int×Int) (x1:Int×Int):Option (Int×Int) :=
 
 let v4:Int:=IntKind.wrap .u64 (x0.1+x1.1);
 let v5:Int:=IntKind.wrap .u64 (x0.2+x1.2);bif decide (v5<x0.2) then some (IntKind.wrap .u64 (v4+1),v5) else some (v4,v5)
def dQ (x0:Int×Int) (x1:Int×Int):Option (Int×Int):=oe lpK jnK x0 x1
abbrev MD:=(Int×Int)->(Int×Int)->Option (Int×Int)
def QI (dQ:MD):Ctr:=⟨[kB,kB],[],[],.one kB,fun x _ _=>dQ x.1 x.2.1⟩
def Kp:Ctr:=QI dQ
theorem TX (lp:Lp) (jn:Jn):∀(x:TsS Kp.as) (F:TsF Kp.fs) (y:TsS Kp.cs),oe lp jn x.1 x.2.1=cb lp jn (cx [] [(134,bF)]) ao 4 152 f152 Kp x F y:=fun x F y=>by kernel_rfl
theorem QX:Kp.ok prog 152:=Ctr.of_den (au (bQ)) aW (hl:=ao) (d:=4) func152 rfl (by decide) (TX lpK jnK)
def po (lp:Lp) (_:Jn) (eC:Sr) (cB:G9) (cq:K3) (dQ:MD) (x0:Int×Int) (x1:Int×Int):Option (Int×Int) :=
 bif decide (x0.1=0)&&(decide (x0.2=0)&&true) then some x1 else lp (Int×(Int×Int)×(Int×Int)×PUnit) (Int×Int) (fun (again:Int×(Int×Int)×(Int × Int)×PUnit->Option (Int×Int)) (x:Int×(Int×Int)×(Int×Int)×PUnit) =>
 let v6:Bool:=decide (IntKind.wrap .u64 (↑(Nat.land (Int.toNat (x.2.1.2 % Int.ofNat 18446744073709551616)) (Int.toNat (1 % Int.ofNat (18446744073709551616 : Nat)))):Int)=0);
 let v7:Bool:=!v6||v6;bif v7 then bif v7 then bif v7 then bif v7 then bif bif v6 then decide (IntKind.wrap .u64 (↑(Nat.land (Int.toNat (x.2.2.1.2 % Int.ofNat 18446744073709551616)) (Int.toNat (1 % Int.ofNat 18446744073709551616))):Int)=0) else false then aa (eC x.2.1) fun (t:Int×Int) => aa (eC x.2.2.1) fun (t_1:Int×Int)=>again (IntKind.wrap .i64 (x.1+1),t,t_1,PUnit.unit) else lp ((Int×Int)×(Int×Int)×PUnit) (Int × Int) (fun (again:(Int×Int)×(Int×Int)×PUnit->Option (Int×Int)) (x_1:(Int×Int)×(Int×Int)×PUnit) =>
 let v10:(Int×Int)×PUnit:=(x_1.2.1,PUnit.unit);bif !(decide (x_1.1.1=0)&&(decide (x_1.1.2=0)&&true)) then lp ((Int×Int)×PUnit) (Int×Int) (fun (again_1:(Int×Int)×PUnit->Option (Int×Int)) (x:(Int×Int)×PUnit)=>bif decide (IntKind.wrap .u64 (↑(Nat.land (Int.toNat (x.1.2 % Int.ofNat 18446744073709551616)) (Int.toNat (1 % Int.ofNat 18446744073709551616))):Int)=0) then aa (eC x.1) fun (t:Int×Int)=>again_1 (t, PUnit.unit) else lp ((Int×Int)×PUnit) (Int×Int) (fun (again_2:(Int×Int)×PUnit->Option (Int×Int)) (x_2:(Int×Int)×PUnit)=>bif decide (IntKind.wrap .u64 (↑(Nat.land (Int.toNat (x_2.1.2 % Int.ofNat 18446744073709551616)) (Int.toNat (1 % Int.ofNat 18446744073709551616))):Int)=0) then aa (eC x_2.1) fun (t:Int×Int)=>again_2 (t,PUnit.unit) else aa (cB x.1 x_2.1) fun (t:Bool)=>bif t then aa (cq x_2.1 x.1) fun (t:Int × Int)=>again (t,x.1,PUnit.unit) else aa (cq x.1 x_2.1) fun (t:Int×Int)=>again (t,x_2.1,PUnit.unit)) v10) (x_1.1,PUnit.unit) else lp (Int×(Int×Int) × PUnit) (Int×Int) (fun (again:Int×(Int×Int)×PUnit->Option (Int×Int)) (x:Int×(Int×Int)×PUnit)=>bif decide (x.1>0) then aa (dQ x.2.1 x.2.1) fun (t:Int×Int)=>again (IntKind.wrap .i64 (x.1 - 1),t,PUnit.unit) else some x.2.1) (x.1,v10)) (x.2.1,x.2.2.1,PUnit.unit) else none else none else none else none) (0,x0,x1,PUnit.unit)
def eA (x0:Int×Int) (x1:Int×Int):Option (Int×Int):=po lpK jnK eC cB cq dQ x0 x1
abbrev MH:=(Int×Int)->(Int×Int)->Option (Int×Int)
def QH (eA:MH):Ctr:=⟨[kB,kB],[],[],.one kB,fun x _ _=>eA x.1 x.2.1⟩
def Lu:Ctr:=QH eA
theorem TM (lp:Lp) (jn:Jn) (eC:Sr) (cB:G9) (cq:K3) (dQ:MD):∀(x:TsS Lu.as) (F:TsF Lu.fs) (y:TsS Lu.cs),po lp jn eC cB cq dQ x.1 x.2.1=cb lp jn (cx [(152,QI dQ),(151,R0 cq),(150,QF cB),(149,⟨[kB],[],[],.one kB,fun x _ _=>eC x.1⟩)] [(134,bF)]) ao 4 102 f102 Lu x F y:=fun x F y=>by kernel_rfl
theorem R6:Lu.ok prog 102:=Ctr.of_den (au (ai (ai (ai (ai (bQ) (by kernel_rfl) Rf) (by kernel_rfl) RJ) (by kernel_rfl) Q2) (by kernel_rfl) QX)) aW (hl:=ao) (d:=4) func102 rfl (by decide) (TM lpK jnK eC cB cq dQ)
def nC (_:Lp) (_:Jn) (x0:Int):Option Int :=
 
 let v3:Int:=IntKind.wrap .u64 x0;bif decide (x0<0) then some (IntKind.wrap .u64 (0 - v3)) else some v3
def a6 (x0:Int):Option Int:=nC lpK jnK x0
abbrev DU:=(Int)->Option (Int)
def Rh (a6:DU):Ctr:=⟨[i64],[],[],.one (.int .u64),fun x _ _=>a6 x.1⟩
def KJ:Ctr:=Rh a6
theorem Uu (lp:Lp) (jn:Jn):∀(x:TsS KJ.as) (F:TsF KJ.fs) (y:TsS KJ.cs),nC lp jn x.1=cb lp jn (cx [] [(134,bF)]) ao 4 103 f103 KJ x F y:=fun x F y=>by kernel_rfl
theorem Q8:KJ.ok prog 103:=Ctr.of_den (au (bQ)) aW (hl:=ao) (d:=4) func103 rfl (by decide) (Uu lpK jnK)
def mL (_:Lp) (_:Jn) (eA:MH) (a6:DU) (x0:Int×Int):Option Bool :=
 
 let v3:Bool:=decide (x0.2<1);
 let v4:Bool:=!v3;
 let v5:Bool:=bif v3 then true else decide (x0.2>1152921504606846976);
 let v6:Bool:=!v4||v4;
 let v7:Bool:=!v5;
 let v8:Bool:=bif v5 then true else decide (x0.1<(-1152921504606846976));
 let v9:Bool:=!v8;
 let v10:Bool:=!v7||v7;
 let v11:Bool:=!v9||v9;bif v6 then bif v6 then bif v3||v4 then bif v10 then bif v10 then bif v5||v7 then bif v11 then bif v11 then bif v8||v9 then bif bif v8 then true else decide (x0.1>1152921504606846976) then some false else aa (a6 x0.1) fun (t:Int)=>aa (a6 x0.2) fun (t_1:Int)=>aa (eA (0, t) (0,t_1)) fun (t:Int×Int)=>some (decide (t.1=0)&&(decide (t.2=1)&&true)) else none else none else none else none else none else none else none else none else none
def df (x0:Int×Int):Option Bool:=mL lpK jnK eA a6 x0
abbrev t52:=(Int×Int)->Option (Bool)
def k52 (df:t52):Ctr:=⟨[T49],[],[],.one .bool,fun x _ _=>df x.1⟩
def c52:Ctr:=k52 df
theorem e52 (lp:Lp) (jn:Jn) (eA:MH) (a6:DU):∀(x:TsS c52.as) (F:TsF c52.fs) (y:TsS c52.cs),mL lp jn eA a6 x.1=cb lp jn (cx [(103,Rh a6),(102,QH eA)] [(134,bF)]) ao 4 52 f52 c52 x F y:=fun x F y=>by kernel_rfl
theorem Tx:c52.ok prog 52:=Ctr.of_den (au (ai (ai (bQ) (by kernel_rfl) R6) (by kernel_rfl) Q8)) aW (hl:=ao) (d:=4) func52 rfl (by decide) (e52 lpK jnK eA a6)
def jl (_:Lp) (_:Jn) (df:t52) (x0:Int×Int):Option Bool :=
 aa (df x0) fun (t:Bool) =>
 let v4:Bool:=!t||t;
 let v5:Bool:=bif t then decide (x0.1>=x0.2) else false;
 let v6:Bool:=!v5||v5;bif v4 then bif v4 then bif v4&&v4 then bif v4 then bif v6 then bif v6 then bif v6 then some (bif v5 then decide (x0.1<=100) else false) else none else none else none else none else none else none else none
def dn (x0:Int×Int):Option Bool:=jl lpK jnK df x0
abbrev Rl:=(Int×Int)->Option (Bool)
def Kd:Ctr:=⟨[T49],[],[],.one .bool,fun x _ _=>dn x.1⟩
theorem SR (lp:Lp) (jn:Jn) (df:t52):∀(x:TsS Kd.as) (F:TsF Kd.fs) (y:TsS Kd.cs),jl lp jn df x.1=cb lp jn (cx [(52,k52 df)] [(134,bF)]) ao 4 148 f148 Kd x F y:=fun x F y=>by kernel_rfl
theorem Sl:Kd.ok prog 148:=Ctr.of_den (au (ai (bQ) (by kernel_rfl) Tx)) aW (hl:=ao) (d:=4) func148 rfl (by decide) (SR lpK jnK df)
def ow (_:Lp) (_:Jn) (bj:t49) (cZ:t73) (dn:Rl) (x0:(List (ByteArray×Int))×List (ByteArray×(List (ByteArray×Int×Int×Int))×Bool)) (x1:ByteArray×Int×Int×Int) (x2:Bool):Option Bool :=
 
 let v5:Bool:=!x2||x2;
 let v6:Bool:=decide (x1.2.1=0);
 let v7:Bool:=decide (x1.2.1=1);
 let v8:Bool:=decide (x1.2.1=2);
 let v9:Bool:=!v7;
 let v10:Bool:=!v8;
 let v11:Bool:=bif v8 then true else v6;
 let v12:Bool:=!v9||v9;
 let v13:Bool:=!v10||v10;
 let v14:Bool:=!v11;
 let v15:Bool:=!v14||v14;bif v5 then aa (bif x2 then cZ 1 else some (0,0)) fun (t:Int×Int) =>
 let v17:Bool:=bif x2 then !(decide (x1.2.2.1=t.1)&&(decide (x1.2.2.2=t.2)&&true)) else false;
 let v18:Bool:=!v17;
 let v19:Bool:=!v18||v18;bif v5&&v5 then bif v5 then bif v19 then bif v19 then aa (bif v18 then dn x1.2.2 else some false) fun (t:Bool)=>bif v19 then bif v17||v18 then bif bif v17 then true else !t then some false else bif List.beq (ByteArray.toList x1.1) (ByteArray.toList { data:=#[] }) then some v6 else aa (bj x0 x1.1) fun (t:Int)=>bif decide (t<0) then some false else bif x2 then bif v12 then bif v12 then bif v7||v9 then some (bif v7 then true else decide (x1.2.1=(-1 : Int))) else none else none else none else bif v13 then bif v13 then bif v8||v10 then bif v15 then bif v15 then bif v11||v14 then some (bif v11 then true else decide (x1.2.1 = (-2))) else none else none else none else none else none else none else none else none else none else none else none else none else none
def fc (x0:(List (ByteArray×Int))×List (ByteArray×(List (ByteArray×Int×Int×Int))×Bool)) (x1:ByteArray×Int×Int×Int) (x2:Bool):Option Bool:=ow lpK jnK bj cZ dn x0 x1 x2
abbrev Pb:=((List (ByteArray×Int))×List (ByteArray×(List (ByteArray×Int×Int×Int))×Bool))->(ByteArray×Int×Int×Int)->(Bool)->Option (Bool)
def QU (fc:Pb):Ctr:=⟨[T25,L2,.bool],[],[],.one .bool,fun x _ _=>fc x.1 x.2.1 x.2.2.1⟩
def KB:Ctr:=QU fc
theorem Tg (lp:Lp) (jn:Jn) (bj:t49) (cZ:t73) (dn:Rl):∀(x:TsS KB.as) (F:TsF KB.fs) (y:TsS KB.cs),ow lp jn bj cZ dn x.1 x.2.1 x.2.2.1=cb lp jn (cx [(148,⟨[T49],[],[],.one .bool,fun x _ _=>dn x.1⟩),(73,k73 cZ),(49,k49 bj)] [(134,bF)]) ao 4 100 f100 KB x F y:=fun x F y=>by kernel_rfl
theorem QQ:KB.ok prog 100:=Ctr.of_den (au (ai (ai (ai (bQ) (by kernel_rfl) Rz) (by kernel_rfl) Uv) (by kernel_rfl) Sl)) aW (hl:=ao) (d:=4) func100 rfl (by decide) (Tg lpK jnK bj cZ dn)
def oj (lp:Lp) (_:Jn) (fc:Pb) (x0:(List (ByteArray×Int))×List (ByteArray×(List (ByteArray×Int×Int×Int))×Bool)) (x1:ByteArray×(List (ByteArray×Int×Int×Int))×Bool):Option Bool :=
 
 let v4:Bool:=!x1.2.2;
 let v5:Bool:=!v4;
 let v6:Bool:=!v5;
 let v7:Int:=IntKind.wrap .i64 ((↑x1.2.1.length:Int) - 1);
 let v8:Bool:=v6||v5;
 let v9:Bool:=decide ((↑x1.2.1.length:Int)<2);
 let v10:Bool:=!v9;
 let v11:Bool:=!v10||v10;bif v11 then bif v11 then bif v11 then bif v9||v10 then bif bif v9 then true else decide ((↑x1.2.1.length:Int)>10) then some false else lp (Int×PUnit) Bool (fun (again:Int×PUnit->Option Bool) (x:Int×PUnit) =>
 let v14:Bool:=decide (x.1=0);
 let v15:Bool:=!v14;
 let v16:Bool:=!v15||v15;bif decide (x.1<(↑x1.2.1.length:Int)) then bif inB x.1 x1.2.1.length then bif v16 then bif v16 then bif v16 then bif v16 && v16 then bif v14||v15 then aa (fc x0 (x1.2.1.getD x.1.toNat ({ data:={ toList:=[] } },0,0,0)) (bif v14 then true else decide (x.1=v7))) fun (t:Bool)=>bif !t then some false else again (IntKind.wrap .i64 (x.1+1),PUnit.unit) else none else none else none else none else none else none else bif v8 then bif v8 then bif v8 then bif v8 then bif v8&&(v8&&(v6||inB v7 x1.2.1.length)) then bif v8 then bif v8 then bif v8 then bif v4||v5 then some (bif v4 then true else List.beq (ByteArray.toList (x1.2.1.getD v7.toNat ({ data:={ toList:=[] } },0,0,0)).1) (ByteArray.toList { data:=#[] })) else none else none else none else none else none else none else none else none else none) (0,PUnit.unit) else none else none else none else none
def fT (x0:(List (ByteArray×Int))×List (ByteArray×(List (ByteArray×Int×Int×Int))×Bool)) (x1:ByteArray×(List (ByteArray×Int×Int×Int))×Bool):Option Bool:=oj lpK jnK fc x0 x1
abbrev t50:=((List (ByteArray×Int))×List (ByteArray×(List (ByteArray×Int×Int×Int))×Bool))->(ByteArray×(List (ByteArray×Int×Int×Int))×Bool)->Option (Bool)
def c50:Ctr:=⟨[T25,T75],[],[],.one .bool,fun x _ _=>fT x.1 x.2.1⟩
theorem e50 (lp:Lp) (jn:Jn) (fc:Pb):∀(x:TsS c50.as) (F:TsF c50.fs) (y:TsS c50.cs),oj lp jn fc x.1 x.2.1=cb lp jn (cx [(100,QU fc)] [(134,bF)]) ao 4 50 f50 c50 x F y:=fun x F y=>by kernel_rfl
theorem TA:c50.ok prog 50:=Ctr.of_den (au (ai (bQ) (by kernel_rfl) QQ)) aW (hl:=ao) (d:=4) func50 rfl (by decide) (e50 lpK jnK fc)
def mI (lp:Lp) (_:Jn) (bK:t22) (dY:t48) (bj:t49) (fT:t50) (x0:(List (ByteArray×Int))×List (ByteArray×(List (ByteArray×Int×Int×Int))×Bool)):Option Bool :=
 
 let v3:Bool:=decide ((↑x0.1.length:Int)<1);
 let v4:Bool:=!v3;
 let v5:Bool:=bif v3 then true else decide ((↑x0.1.length:Int)>6);
 let v6:Bool:=!v4||v4;
 let v7:Bool:=!v5;
 let v8:Bool:=bif v5 then true else decide ((↑x0.2.length:Int)<1);
 let v9:Bool:=!v8;
 let v10:Bool:=!v7||v7;
 let v11:Bool:=!v9||v9;bif v6 then bif v6 then bif v6 then bif v3||v4 then bif v10 then bif v10 then bif v10 then bif v5||v7 then bif v11 then bif v11 then bif v11 then bif v8 || v9 then bif bif v8 then true else decide ((↑x0.2.length:Int)>6) then some false else lp (Int×PUnit) Bool (fun (again:Int×PUnit->Option Bool) (x:Int × PUnit)=>bif decide (x.1<(↑x0.1.length:Int)) then bif inB x.1 x0.1.length then aa (dY (x0.1.getD x.1.toNat ({ data:={ toList := [] } },0)).1) fun (t:Bool) =>
 let v15:Bool:=!t;
 let v16:Bool:=!v15;
 let v17:Bool:=!v16||v16;
 let v18:Bool:=v17&&v17;bif v17 then bif v18 then aa (bif v16 then bj x0 (x0.1.getD x.1.toNat ({ data:={ toList:=[] } },0)).1 else some 0) fun (t:Int) =>
 let v20:Bool:=bif v15 then true else !decide (t=x.1);
 let v21:Bool:=!v20;
 let v22:Bool:=!v21||v21;
 let v23:Bool:=bif v20 then true else decide ((x0.1.getD x.1.toNat ({ data:={ toList:=[] } },0)).2<0);
 let v24:Bool:=!v23;
 let v25:Bool:=!v24||v24;bif v18 then bif v15||v16 then bif v22 then bif v22 then bif v20||v21 then bif v25 then bif v25 then bif v23||v24 then bif bif v23 then true else decide ((x0.1.getD x.1.toNat ({ data:={ toList:=[] } },0)).2>16777216) then some false else again (IntKind.wrap .i64 (x.1+1), PUnit.unit) else none else none else none else none else none else none else none else none else none else none else none else lp (Int×Int×PUnit) Bool (fun (again:Int×Int × PUnit->Option Bool) (x:Int×Int×PUnit) =>
 let v16:Int×PUnit:=(IntKind.wrap .i64 (x.2.1+1),PUnit.unit);
 let v17:ByteArray×List (ByteArray×Int×Int×Int)×Bool:=x0.2.getD x.2.1.toNat ({ data:={ toList:=[] } },[],false);bif decide (x.2.1<(↑x0.2.length:Int)) then bif inB x.2.1 x0.2.length then aa (dY v17.1) fun (t:Bool) =>
 let v19:Bool:=!t;
 let v20:Bool:=!v19;
 let v21:Bool:=!v20||v20;
 let v22:Bool:=v21&&v21;bif v21 then bif v22 then aa (bif v20 then bK x0 v17.1 else some 0) fun (t:Int) =>
 let v24:Bool:=bif v19 then true else !decide (t=x.2.1);
 let v25:Bool:=!v24;
 let v26:Bool:=!v25||v25;bif v22 then bif v19||v20 then bif v26 then bif v26&&v26 then aa (bif v25 then bj x0 v17.1 else some 0) fun (t:Int) =>
 let v28:Bool:=bif v24 then true else decide (t>=0);
 let v29:Bool:=!v28;
 let v30:Bool:=!v29||v29;bif v26 then bif v24||v25 then bif v30&&v30 then aa (bif v29 then fT x0 v17 else some false) fun (t:Bool)=>bif v30 then bif v28||v29 then bif bif v28 then true else !t then some false else bif v17.2.2 then again (IntKind.wrap .i64 (x.1+1),v16) else again (x.1,v16) else none else none else none else none else none else none else none else none else none else none else none else none else some (decide (x.1<=1))) (0,0,PUnit.unit)) (0, PUnit.unit) else none else none else none else none else none else none else none else none else none else none else none else none
def bh (x0:(List (ByteArray×Int))×List (ByteArray×(List (ByteArray×Int×Int×Int))×Bool)):Option Bool:=mI lpK jnK bK dY bj fT x0
abbrev t13:=((List (ByteArray×Int))×List (ByteArray×(List (ByteArray×Int×Int×Int))×Bool))->Option (Bool)
def k13 (bh:t13):Ctr:=⟨[T25],[],[],.one .bool,fun x _ _=>bh x.1⟩
def c13:Ctr:=k13 bh
theorem e13 (lp:Lp) (jn:Jn) (bK:t22) (dY:t48) (bj:t49) (fT:t50):∀(x:TsS c13.as) (F:TsF c13.fs) (y:TsS c13.cs),mI lp jn bK dY bj fT x.1=cb lp jn (cx [(50,⟨[T25,T75],[],[],.one .bool,fun x _ _=>fT x.1 x.2.1⟩),(49,k49 bj),(48,⟨[.str],[],[],.one .bool,fun x _ _=>dY x.1⟩),(22,k22 bK)] [(134,bF)]) ao 4 13 f13 c13 x F y:=fun x F y=>by kernel_rfl
theorem SX:c13.ok prog 13:=Ctr.of_den (au (ai (ai (ai (ai (bQ) (by kernel_rfl) T3) (by kernel_rfl) TR) (by kernel_rfl) Rz) (by kernel_rfl) TA)) aW (hl:=ao) (d:=4) func13 rfl (by decide) (e13 lpK jnK bK dY bj fT)
def Av (lp:Lp) (_:Jn) (x0:(List Int)×List ((List Int)×Int×Int)) (x1:(List Int)×List ((List Int)×Int×Int)):Option Bool :=
 
 let v4:Bool:=!decide ((↑x0.1.length:Int)=(↑x1.1.length:Int));
 let v5:Bool:=!v4;
 let v6:Bool:=!v5||v5;bif v6 then bif v6 then bif v6 then bif v6 then bif v6&&v6 then bif v4||v5 then bif bif v4 then true else !decide ((↑x0.2.length:Int) = (↑x1.2.length:Int)) then some false else lp (Int×PUnit) Bool (fun (again:Int×PUnit->Option Bool) (x:Int×PUnit)=>bif decide (x.1<(↑x0.1.length : Int)) then bif inB x.1 x0.1.length then bif inB x.1 x1.1.length then bif !decide (x0.1.getD x.1.toNat 0=x1.1.getD x.1.toNat 0) then some false else again (IntKind.wrap .i64 (x.1+1),PUnit.unit) else none else none else lp (Int×PUnit) Bool (fun (again:Int×PUnit->Option Bool) (x:Int×PUnit) =>
 let v11:Bool:=!decide ((x0.2.getD x.1.toNat ([],0,0)).2.1=(x1.2.getD x.1.toNat ([],0,0)).2.1);
 let v12:Bool:=!v11;
 let v13:Bool:=bif v11 then true else !decide ((x0.2.getD x.1.toNat ([],0,0)).2.2=(x1.2.getD x.1.toNat ([],0,(0 : Int))).2.2);
 let v14:Bool:=!v12||v12;
 let v15:Bool:=!v13;
 let v16:Bool:=!v15||v15;bif decide (x.1<(↑x0.2.length:Int)) then bif inB x.1 x0.2.length then bif inB x.1 x1.2.length then bif v14 then bif v14 then bif v14&&v14 then bif v11||v12 then bif v16 then bif v16 then bif v16 then bif v16 then bif v16&&v16 then bif v13||v15 then bif bif v13 then true else !decide ((↑(List.length (x0.2.getD x.1.toNat ([],0,0)).1):Int)=(↑(List.length (x1.2.getD x.1.toNat ([],0,0)).1):Int)) then some false else lp (Int×PUnit) Bool (fun (again_1:Int×PUnit->Option Bool) (x_1:Int×PUnit)=>bif decide (x_1.1<(↑(List.length (x0.2.getD x.1.toNat ([],0,0)).1):Int)) then bif inB x_1.1 (List.length (x0.2.getD x.1.toNat ([],0,0)).1) then bif inB x_1.1 (List.length (x1.2.getD x.1.toNat ([],0,0)).1) then bif !decide (List.getD (x0.2.getD x.1.toNat ([],0,0)).1 x_1.1.toNat 0=List.getD (x1.2.getD x.1.toNat ([],0,0)).1 x_1.1.toNat 0) then some false else again_1 (IntKind.wrap .i64 (x_1.1 + 1),PUnit.unit) else none else none else again (IntKind.wrap .i64 (x.1+1),PUnit.unit)) (0,PUnit.unit) else none else none else none else none else none else none else none else none else none else none else none else none else some true) (0,PUnit.unit)) (0,PUnit.unit) else none else none else none else none else none else none
def iT (x0:(List Int)×List ((List Int)×Int×Int)) (x1:(List Int)×List ((List Int)×Int×Int)):Option Bool:=Av lpK jnK x0 x1
abbrev t14:=((List Int)×List ((List Int)×Int×Int))->((List Int)×List ((List Int)×Int×Int))->Option (Bool)
def zQ (lp:Lp) (_:Jn) (x0:ByteArray×(List (ByteArray×Int×Int×Int))×Bool) (x1:ByteArray):Option Int :=
 lp (Int×Int×PUnit) Int (fun (again:Int×Int×PUnit->Option Int) (x:Int×Int×PUnit) =>
 let v6:Int×PUnit:=(IntKind.wrap .i64 (x.2.1+1),PUnit.unit);
 let v7:Bool:=inB x.2.1 x0.2.1.length;
 let v8:ByteArray×Int×Int×Int:=x0.2.1.getD x.2.1.toNat ({ data:={ toList:=[] } },0,0,0);bif decide (x.2.1<(↑x0.2.1.length:Int)) then bif v7 then bif List.beq (ByteArray.toList v8.1) (ByteArray.toList x1) then bif v7 then again (IntKind.wrap .i64 (x.1+v8.2.1),v6) else none else again (x.1,v6) else none else some x.1) (0,0,PUnit.unit)
def rb (x0:ByteArray×(List (ByteArray×Int×Int×Int))×Bool) (x1:ByteArray):Option Int:=zQ lpK jnK x0 x1
abbrev TY:=(ByteArray×(List (ByteArray×Int×Int×Int))×Bool)->(ByteArray)->Option (Int)
def wZ (lp:Lp) (_:Jn) (rb:TY) (x0:(List (ByteArray×Int))×List (ByteArray×(List (ByteArray×Int×Int×Int))×Bool)):Option (List (List Int)) :=
 lp ((List Nat×List (Option (List Int)))×Int×PUnit) (List (List Int)) (fun (again:(List Nat×List (Option (List Int)))×Int×PUnit->Option (List (List Int))) (x:(List Nat × List (Option (List Int)))×Int×PUnit)=>bif decide (x.2.1<(↑x0.1.length:Int)) then lp (List Int×Int×PUnit) (List (List Int)) (fun (again_1:List Int×Int × PUnit->Option (List (List Int))) (x_1:List Int×Int×PUnit)=>bif decide (x_1.2.1<(↑x0.2.length:Int)) then bif inB x_1.2.1 x0.2.length then bif inB x.2.1 x0.1.length then aa (rb (x0.2.getD x_1.2.1.toNat ({ data:={ toList:=[] } },[],false)) (x0.1.getD x.2.1.toNat ({ data:={ toList:=[] } },0)).1) fun (t:Int)=>bif dR (List.length x_1.1+1) 8 then again_1 (x_1.1++[t],IntKind.wrap .i64 (x_1.2.1 + 1),PUnit.unit) else none else none else none else bif dR (List.length x.1.1+1) 24 then again ((x.1.1++[List.length x.1.2+0], x.1.2++[some x_1.1]),IntKind.wrap .i64 (x.2.1+1),PUnit.unit) else none) ([],0,PUnit.unit) else bif List.all x.1.1 fun (x_1:Nat)=>eD x.1.2 x_1 then some (List.map (fun (x_1:Nat)=>ah x.1.2 x_1) x.1.1) else none) (([],[]),0,PUnit.unit)
def nL (x0:(List (ByteArray×Int))×List (ByteArray×(List (ByteArray×Int×Int×Int))×Bool)):Option (List (List Int)):=wZ lpK jnK rb x0
abbrev t51:=((List (ByteArray×Int))×List (ByteArray×(List (ByteArray×Int×Int×Int))×Bool))->Option (List (List Int))
def uG (lp:Lp) (_:Jn) (nL:t51) (x0:(List (ByteArray×Int))×List (ByteArray×(List (ByteArray×Int×Int×Int))×Bool)) (x1:List Int):Option ((List Int)×List ((List Int)×Int×Int)) :=
 aa (nL x0) fun (t:List (List Int))=>lp (Int×List Int×List (List Int×Int×Int)×PUnit) (List Int×List (List Int×Int×Int)) (fun (again:Int×List Int×List (List Int×Int×Int)×PUnit->Option (List Int×List (List Int×Int×Int))) (x:Int×List Int×List (List Int×Int×Int)×PUnit)=>bif decide (x.1<(↑x0.1.length:Int)) then bif inB x.1 t.length then bif inB x.1 x0.1.length then bif dR (List.length x.2.2.1+1) 40 then again (IntKind.wrap IntKind.i64 (x.1+1),x.2.1,x.2.2.1++[(t.getD x.1.toNat [],3,(x0.1.getD x.1.toNat ({ data:={ toList:=[] } },(0 : Int))).2)],PUnit.unit) else none else none else none else some (x.2.1,x.2.2.1)) (0,x1,[],PUnit.unit)
def aV (x0:(List (ByteArray×Int))×List (ByteArray×(List (ByteArray×Int×Int×Int))×Bool)) (x1:List Int):Option ((List Int)×List ((List Int)×Int×Int)):=uG lpK jnK nL x0 x1
abbrev t15:=((List (ByteArray×Int))×List (ByteArray×(List (ByteArray×Int×Int×Int))×Bool))->(List Int)->Option ((List Int)×List ((List Int)×Int×Int))
def k15 (aV:t15):Ctr:=⟨[T25,(.sl i64)],[],[],.one T32,fun x _ _=>aV x.1 x.2.1⟩
def AA (lp:Lp) (_:Jn) (x0:(List (ByteArray×Int))×List (ByteArray×(List (ByteArray×Int×Int×Int))×Bool)):Option (List Int) :=
 lp (List Int×Int×PUnit) (List Int) (fun (again:List Int×Int×PUnit->Option (List Int)) (x:List Int×Int×PUnit)=>bif decide (x.2.1<(↑x0.2.length:Int)) then bif dR (List.length x.1+1) 8 then again (x.1++[1],IntKind.wrap .i64 (x.2.1+1),PUnit.unit) else none else some x.1) ([],(0 : Int),PUnit.unit)
def cE (x0:(List (ByteArray×Int))×List (ByteArray×(List (ByteArray×Int×Int×Int))×Bool)):Option (List Int):=AA lpK jnK x0
abbrev t16:=((List (ByteArray×Int))×List (ByteArray×(List (ByteArray×Int×Int×Int))×Bool))->Option (List Int)
def k16 (cE:t16):Ctr:=⟨[T25],[],[],.one (.sl i64),fun x _ _=>cE x.1⟩
def BR (lp:Lp) (_:Jn) (df:t52) (x0:List (Int×Int)):Option Bool :=
 lp (Int×PUnit) Bool (fun (again:Int×PUnit->Option Bool) (x:Int×PUnit)=>bif decide (x.1<(↑x0.length:Int)) then bif inB x.1 x0.length then aa (df (x0.getD x.1.toNat (0,0))) fun (t:Bool)=>bif !t then some false else again (IntKind.wrap .i64 (x.1+1),PUnit.unit) else none else some true) (0,PUnit.unit)
def lk (x0:List (Int×Int)):Option Bool:=BR lpK jnK df x0
abbrev t17:=(List (Int×Int))->Option (Bool)
def Bj (lp:Lp) (_:Jn) (cB:G9) (cq:K3) (x0:Int×Int) (x1:Int×Int):Option ((Int×Int)×(Int×Int)×Unit) :=
 
 let v4:Bool:=nzB x1.2;
 let v5:Int:=2 ^ 63;
 let v6:Int:=2 ^ 1;
 let v7:Bool:=decide (x0.1=0);
 let v8:Bool:=decide ((0:Int)<=63);
 let v9:Bool:=decide ((0:Int)<=1);
 let v10:Bool:=!v7||v7;bif v10 then bif v10 then bif v10 then bif bif v7 then decide (x1.1=0) else false then bif v4 then bif v4 then some ((0,IntKind.wrap IntKind.u64 (Int.tdiv x0.2 x1.2)),(0,Int.tmod x0.2 x1.2),PUnit.unit) else none else none else lp (Int×(Int×Int)×(Int×Int)×(Int×Int)×PUnit) ((Int×Int) × (Int×Int)×PUnit) (fun (again:Int×(Int×Int)×(Int×Int)×(Int×Int)×PUnit->Option ((Int×Int)×(Int×Int)×PUnit)) (x:Int×(Int×Int)×(Int×Int)×(Int × Int)×PUnit) =>
 let v13:Int:=IntKind.wrap .i64 (x.1+1);
 let v14:Int:=IntKind.wrap .u64 (x.2.2.1.2*v6);
 let v15:Int:=IntKind.wrap .u64 (IntKind.wrap .u64 (x.2.2.1.1*v6)+Int.fdiv x.2.2.1.2 v5);
 let v16:Bool:=decide (Int.fdiv x.2.2.2.1.1 v5>0);
 let v17:Bool:=!v16;
 let v18:Int×Int:=(IntKind.wrap .u64 (IntKind.wrap .u64 (x.2.1.1*v6)+Int.fdiv x.2.1.2 v5),IntKind.wrap .u64 (x.2.1.2*v6));
 let v19:Int×Int:=(IntKind.wrap .u64 (IntKind.wrap .u64 (x.2.2.2.1.1*v6)+Int.fdiv x.2.2.2.1.2 v5),IntKind.wrap .u64 (IntKind.wrap IntKind.u64 (x.2.2.2.1.2*v6)+Int.fdiv x.2.1.1 v5));
 let v20:Bool:=!v17||v17;bif decide (x.1<128) then bif v8 then bif v9 then bif v8 then bif v9 then bif v8 then bif v9 then bif v8 then bif v9 then bif v9 then bif v8 then bif v9 then bif v20&&v20 then aa (bif v17 then cB v19 x1 else some false) fun (t:Bool)=>bif v20 then bif v16||v17 then bif bif v16 then true else !t then aa (cq v19 x1) fun (t:Int×Int)=>again (v13,v18,(v15,IntKind.wrap .u64 (v14+1)),t,PUnit.unit) else again (v13,v18,(v15,v14),v19,PUnit.unit) else none else none else none else none else none else none else none else none else none else none else none else none else none else none else some (x.2.2.1,x.2.2.2.1, PUnit.unit)) (0,x0,(0,0),(0,0),PUnit.unit) else none else none else none
def qp (x0:Int×Int) (x1:Int×Int):Option ((Int×Int)×(Int×Int)×Unit):=Bj lpK jnK cB cq x0 x1
abbrev TE:=(Int×Int)->(Int×Int)->Option ((Int×Int)×(Int×Int)×Unit)
def yY (_:Lp) (_:Jn) (eA:MH) (qp:TE) (x0:Int×Int) (x1:Bool) (x2:Int×Int):Option ((Int×Int)×Int×Unit) :=
 bif decide (x2.1=0)&&(decide (x2.2=0)&&true) then some ((0,0),16,PUnit.unit) else aa (eA x0 x2) fun (t:Int×Int)=>aa (qp x0 t) fun (t_1:(Int×Int)×(Int×Int)×PUnit) =>
 let v7:Int:=IntKind.wrap .i64 t_1.1.2;
 let v8:Bool:=decide (t_1.1.1>0);
 let v9:Bool:=!v8;
 let v10:Bool:=bif v8 then true else decide (t_1.1.2>1152921504606846976);
 let v11:Bool:=!v9||v9;
 let v12:Bool:=!v10;
 let v13:Bool:=!v12||v12;aa (qp x2 t) fun (t:(Int×Int)×(Int×Int)×PUnit) =>
 let v15:Int:=IntKind.wrap .i64 t.1.2;
 let v16:Bool:=bif v10 then true else decide (t.1.1>0);
 let v17:Bool:=!v16;
 let v18:Bool:=!v17||v17;bif v11 then bif v11 then bif v8||v9 then bif v13 then bif v13 then bif v10||v12 then bif v18 then bif v18 then bif v16||v17 then bif bif v16 then true else decide (t.1.2>1152921504606846976) then some ((0,0),5,PUnit.unit) else bif x1 then some ((IntKind.wrap .i64 (0 - v7), v15),0,PUnit.unit) else some ((v7,v15),0,PUnit.unit) else none else none else none else none else none else none else none else none else none
def fq (x0:Int×Int) (x1:Bool) (x2:Int×Int):Option ((Int×Int)×Int×Unit):=yY lpK jnK eA qp x0 x1 x2
abbrev P9:=(Int×Int)->(Bool)->(Int×Int)->Option ((Int×Int)×Int×Unit)
def A9 (_:Lp) (_:Jn) (x0:Int) (x1:Int):Option (Int×Int) :=
 
 let v4:Int:=2 ^ 32;
 let v5:Int:=Int.fdiv x0 v4;
 let v6:Int:=Int.fdiv x1 v4;
 let v7:Bool:=decide ((0:Int)<=32);
 let v8:Int:=IntKind.wrap .u64 (↑(Nat.land (Int.toNat (x1 % Int.ofNat 18446744073709551616)) (Int.toNat (4294967295 % Int.ofNat 18446744073709551616))) : Int);
 let v9:Int:=IntKind.wrap .u64 (↑(Nat.land (Int.toNat (x0 % Int.ofNat 18446744073709551616)) (Int.toNat (4294967295 % Int.ofNat 18446744073709551616))) : Int);
 let v10:Int:=IntKind.wrap .u64 (v9*v8);
 let v11:Int:=IntKind.wrap .u64 (IntKind.wrap .u64 (v5*v8)+Int.fdiv v10 v4);
 let v12:Int:=IntKind.wrap .u64 (IntKind.wrap .u64 (v9*v6)+IntKind.wrap .u64 (↑(Nat.land (Int.toNat (v11 % Int.ofNat 18446744073709551616)) (Int.toNat (4294967295 % Int.ofNat 18446744073709551616))):Int));bif v7 then bif v7 then bif v7 then bif v7 then bif v7 then bif v7 then some (IntKind.wrap .u64 (IntKind.wrap .u64 (IntKind.wrap .u64 (v5*v6)+Int.fdiv v11 v4)+Int.fdiv v12 v4),IntKind.wrap .u64 (IntKind.wrap .u64 (v12*v4)+IntKind.wrap IntKind.u64 (↑(Nat.land (Int.toNat (v10 % Int.ofNat 18446744073709551616)) (Int.toNat (4294967295 % Int.ofNat 18446744073709551616))):Int))) else none else none else none else none else none else none
def fo (x0:Int) (x1:Int):Option (Int×Int):=A9 lpK jnK x0 x1
abbrev O1:=(Int)->(Int)->Option (Int×Int)
def xh (_:Lp) (_:Jn) (a6:DU) (fq:P9) (fo:O1) (x0:Int×Int) (x1:Int×Int):Option ((Int×Int)×Int×Unit) :=
 aa (a6 x0.1) fun (t:Int)=>aa (a6 x1.1) fun (t_1:Int)=>aa (fo t t_1) fun (t:Int×Int)=>aa (a6 x0.2) fun (t_2:Int)=>aa (a6 x1.2) fun (t_3:Int)=>aa (fo t_2 t_3) fun (t_4:Int×Int)=>aa (fq t (!decide (decide (x0.1<0)=decide (x1.1<0))) t_4) fun (t:(Int×Int)×Int×PUnit)=>some (t.1,t.2.1,PUnit.unit)
def pa (x0:Int×Int) (x1:Int×Int):Option ((Int×Int)×Int×Unit):=xh lpK jnK a6 fq fo x0 x1
abbrev Tm:=(Int×Int)->(Int×Int)->Option ((Int×Int)×Int×Unit)
def BA (_:Lp) (_:Jn) (cB:G9) (cq:K3) (dQ:MD) (a6:DU) (fq:P9) (fo:O1) (x0:Int×Int) (x1:Int×Int):Option ((Int×Int)×Int×Unit) :=
 
 let v4:Bool:=decide (x0.1<0);aa (a6 x0.1) fun (t:Int)=>aa (a6 x1.2) fun (t_1:Int)=>aa (fo t t_1) fun (t:Int×Int)=>aa (a6 x1.1) fun (t_2:Int)=>aa (a6 x0.2) fun (t_3:Int)=>aa (fo t_2 t_3) fun (t_4:Int×Int)=>aa (a6 x0.2) fun (t_5:Int)=>aa (a6 x1.2) fun (t_6:Int)=>aa (fo t_5 t_6) fun (t_7:Int×Int)=>bif decide (v4=decide (x1.1<0)) then aa (dQ t t_4) fun (t:Int×Int) =>aa (fq t v4 t_7) fun (t:(Int×Int)×Int×PUnit)=>some (t.1,t.2.1,PUnit.unit) else aa (cB t t_4) fun (t_8:Bool)=>bif t_8 then aa (cq t_4 t) fun (t:Int×Int)=>aa (fq t (decide (x1.1<0)) t_7) fun (t:(Int×Int)×Int×PUnit)=>some (t.1,t.2.1,PUnit.unit) else aa (cq t t_4) fun (t:Int×Int)=>aa (fq t v4 t_7) fun (t:(Int×Int)×Int×PUnit)=>some (t.1,t.2.1,PUnit.unit)
def tO (x0:Int×Int) (x1:Int×Int):Option ((Int×Int)×Int×Unit):=BA lpK jnK cB cq dQ a6 fq fo x0 x1
abbrev S4:=(Int×Int)->(Int×Int)->Option ((Int×Int)×Int×Unit)
def CH (lp:Lp) (_:Jn) (cZ:t73) (pa:Tm) (tO:S4) (x0:List Int) (x1:List (Int×Int)):Option ((Int×Int)×Int×Unit) :=
 aa (cZ 0) fun (t:Int×Int)=>lp (Int×(Int×Int)×(Int×Int)×PUnit) ((Int×Int)×Int×PUnit) (fun (again:Int×(Int×Int)×(Int×Int)×PUnit->Option ((Int×Int)×Int×PUnit)) (x:Int×(Int×Int)×(Int×Int)×PUnit)=>bif decide (x.1<(↑x0.length:Int)) then bif inB x.1 x0.length then aa (cZ (x0.getD x.1.toNat 0)) fun (t:Int×Int)=>bif inB x.1 x1.length then aa (pa t (x1.getD x.1.toNat (0,0))) fun (t:(Int×Int)×Int×PUnit)=>bif !decide (t.2.1=0) then some ((0,0),t.2.1,PUnit.unit) else aa (tO x.2.2.1 t.1) fun (t:(Int × Int)×Int×PUnit)=>bif !decide (t.2.1=0) then some ((0,0),t.2.1,PUnit.unit) else again (IntKind.wrap .i64 (x.1+1), x.2.1,t.1,PUnit.unit) else none else none else some (x.2.2.1,0,PUnit.unit)) (0,(0,0),t,PUnit.unit)
def lj (x0:List Int) (x1:List (Int×Int)):Option ((Int×Int)×Int×Unit):=CH lpK jnK cZ pa tO x0 x1
abbrev t54:=(List Int)->(List (Int×Int))->Option ((Int×Int)×Int×Unit)
def wG (lp:Lp) (_:Jn) (x0:(List Int)×List ((List Int)×Int×Int)) (x1:Int):Option (List Int) :=
 lp (List Int×Int×PUnit) (List Int) (fun (again:List Int×Int×PUnit->Option (List Int)) (x:List Int×Int×PUnit)=>bif decide (x.2.1<(↑x0.2.length:Int)) then bif inB x.2.1 x0.2.length then bif inB x1 (List.length (x0.2.getD x.2.1.toNat ([],0,0)).1) then bif dR (List.length x.1+(1 : Nat)) 8 then again (x.1++[List.getD (x0.2.getD x.2.1.toNat ([],0,0)).1 x1.toNat 0],IntKind.wrap .i64 (x.2.1 + 1),PUnit.unit) else none else none else none else some x.1) ([],0,PUnit.unit)
def nt (x0:(List Int)×List ((List Int)×Int×Int)) (x1:Int):Option (List Int):=wG lpK jnK x0 x1
abbrev Tq:=((List Int)×List ((List Int)×Int×Int))->(Int)->Option (List Int)
def AG (_:Lp) (_:Jn) (cB:G9) (a6:DU) (fo:O1) (x0:Int×Int) (x1:Int×Int):Option Int :=
 
 let v4:Bool:=decide (x0.1<0);
 let v5:Bool:=decide (x0.1>=0);
 let v6:Bool:=!v4||v4;
 let v7:Bool:=!v5||v5;aa (a6 x0.1) fun (t:Int)=>aa (a6 x1.2) fun (t_1:Int)=>aa (fo t t_1) fun (t:Int×Int)=>aa (a6 x1.1) fun (t_2:Int)=>aa (a6 x0.2) fun (t_3:Int)=>aa (fo t_2 t_3) fun (t_4:Int×Int)=>bif v6 then bif v6 then bif v6 then bif bif v4 then decide (x1.1>=0) else false then some (-1) else bif v7 then bif v7 then bif v7 then bif bif v5 then decide (x1.1<0) else false then some 1 else bif decide (t.1=t_4.1)&&(decide (t.2=t_4.2)&&true) then some 0 else aa (cB t t_4) fun (t:Bool)=>bif decide (t=v5) then some (-1) else some 1 else none else none else none else none else none else none
def lv (x0:Int×Int) (x1:Int×Int):Option Int:=AG lpK jnK cB a6 fo x0 x1
abbrev RP:=(Int×Int)->(Int×Int)->Option (Int)
def xp (lp:Lp) (_:Jn) (cZ:t73) (lj:t54) (nt:Tq) (lv:RP) (x0:(List Int)×List ((List Int)×Int×Int)) (x1:List (Int×Int)) (x2:List Int):Option (Bool×Int×Unit) :=
 lp (Bool×Int×PUnit) (Bool×Int×PUnit) (fun (again:Bool×Int×PUnit->Option (Bool×Int×PUnit)) (x:Bool×Int×PUnit) =>
 let v7:Bool:=!x.1;
 let v8:Bool:=v7||x.1;bif decide (x.2.1<(↑x2.length:Int)) then aa (nt x0 x.2.1) fun (t:List Int)=>aa (lj t x1) fun (t:(Int×Int) × Int×PUnit)=>bif !decide (t.2.1=0) then some (false,t.2.1,PUnit.unit) else bif v8&&(v8&&(v7||inB x.2.1 x2.length)) then bif v8 then bif v8 then aa (bif x.1 then cZ (x2.getD x.2.1.toNat 0) else some (0,0)) fun (t_1:Int×Int)=>bif v8&&v8 then aa (bif x.1 then lv t.1 t_1 else some 0) fun (t:Int)=>bif v8 then bif v8 then again (bif x.1 then decide (t<=0) else false,IntKind.wrap .i64 (x.2.1+(1 : Int)),PUnit.unit) else none else none else none else none else none else none else some (x.1,0,PUnit.unit)) (true,0,PUnit.unit)
def pf (x0:(List Int)×List ((List Int)×Int×Int)) (x1:List (Int×Int)) (x2:List Int):Option (Bool×Int×Unit):=xp lpK jnK cZ lj nt lv x0 x1 x2
abbrev t53:=((List Int)×List ((List Int)×Int×Int))->(List (Int×Int))->(List Int)->Option (Bool×Int×Unit)
end
end Go.Proofs.YtfknoaclabfdlaaGreat
