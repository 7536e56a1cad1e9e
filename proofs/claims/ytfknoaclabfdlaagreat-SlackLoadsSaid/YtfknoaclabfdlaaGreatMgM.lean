/- r15: the shapes of its types, and the places of its loops. r15: what its functions answer (printed by a program), and that they do. r15: what its functions answer (printed by a program), and that they do; part 2. -/
import Derived.Test.YtfknoaclabfdlaaGreatProg
import Derived.KernelRfl
import Derived.Test.YtfknoaclabfdlaaGreatMgL

namespace Go.Proofs.YtfknoaclabfdlaaGreat
open Tryz Dn Dn.Sh
abbrev i64:Sh:=.int .i64
abbrev T66:Sh:=.agg (.pair .str i64)
abbrev T49:Sh:=.agg (.pair i64 i64)
abbrev Pa:Sh:=.agg (.pair .str (.pair i64 T49))
abbrev T75:Sh:=.agg (.pair .str (.pair (.sl Pa) .bool))
abbrev T25:Sh:=.agg (.pair (.sl T66) (.sl T75))
abbrev T86:Sh:=.agg (.pair (.sl i64) (.pair i64 i64))
abbrev T32:Sh:=.agg (.pair (.sl i64) (.sl T86))
abbrev T96:Sh:=.agg (.pair T49 (.pair (.sl T49) (.sl T49)))
abbrev nq:Sh:=.agg (.pair (.int .u64) (.int .u64))
abbrev RE:Sh:=.agg i64
abbrev lg:Sh:=.agg (.pair (.int .u64) (.int .u64))
abbrev HL:Sh:=.agg (.pair (.sl (.sl i64)) (.pair i64 (.pair (.sl i64) (.pair (.sl i64) (.pair (.sl i64) (.pair i64 i64))))))
abbrev uw:Sh:=.agg (.pair .bool (.pair (.int .u64) (.int .u64)))
def shs:TypeId->Option Sh
 | 3=>some i64
 | 4=>some .bool
 | 5=>some (.int .u8)
 | 9=>some .str
 | 29=>some (.sl i64)
 | 49=>some T49
 | 66=>some T66
 | 75=>some T75
 | 86=>some T86
 | 134=>some Pa
 | _=>none
def Lg:Nat->Option Hd
 | 2=>some ⟨[(3,false,[.d i64])],[],[]⟩
 | _=>none
def LU:Nat->Option Hd
 | 2=>some ⟨[(8,false,[.d i64])],[],[]⟩
 | _=>none
def Om:Nat->Option Hd
 | 1=>some ⟨[(0,false,[.d (.int .u64)]),(1,false,[.d (.int .u64)])],[],[]⟩
 | _=>none
def JF:Nat->Option Hd
 | 5=>some ⟨[(17,false,[.d i64])],[],[]⟩
 | _=>none
def Py:Nat->Option Hd
 | 6=>some ⟨[(27,false,[.d i64])],[],[(3,some 0,.x (.map 158 .str .bool))]⟩
 | 13=>some ⟨[(7,false,[.d i64]),(46,false,[.d i64])],[],[(3,some 0,.x (.map 158 .str .bool))]⟩
 | _=>none
def OO:Nat->Option Hd
 | 5=>some ⟨[(20,false,[.d i64])],[],[(4,none,.x (.tab 29 .ref 3 i64))]⟩
 | 10=>some ⟨[(34,false,[.d i64])],[],[(4,none,.x (.tab 29 .ref 3 i64))]⟩
 | 13=>some ⟨[(42,false,[.d i64])],[],[(4,none,.x (.tab 29 .ref 3 i64))]⟩
 | _=>none
def Nc:Nat->Option Hd
 | 5=>some ⟨[(4,false,[.row 3 i64]),(13,false,[.d i64])],[],[]⟩
 | _=>none
def Pp:Nat->Option Hd
 | 9=>some ⟨[(34,false,[.d i64])],[(9,[.d (.sl i64),.row 86 T86])],[]⟩
 | _=>none
def NL:Nat->Option Hd
 | 8=>some ⟨[(8,false,[.d i64])],[],[(7,none,.row 3 i64)]⟩
 | _=>none
def Oc:Nat->Option Hd
 | 1000002=>some ⟨[],[],[]⟩
 | 1000005=>some ⟨[],[],[]⟩
 | _=>none
def I3:Nat->Option Hd
 | 2=>some ⟨[(8,false,[.d i64])],[],[]⟩
 | _=>none
def MM:Nat->Option Hd
 | 2=>some ⟨[(8,false,[.d i64])],[],[]⟩
 | _=>none
def PV:Nat->Option Hd
 | 2=>some ⟨[(8,false,[.d i64])],[],[]⟩
 | _=>none
def L4:Nat->Option Hd
 | 1000002=>some ⟨[(0,false,[.d (.int .u64)]),(2,false,[.d i64])],[],[]⟩
 | 1000005=>some ⟨[(0,false,[.d (.int .u64)]),(2,false,[.d i64])],[],[]⟩
 | _=>none
def Me:Nat->Option Hd
 | 17=>some ⟨[(15,false,[.d (.int .u64)]),(16,false,[.d (.int .u64)])],[],[]⟩
 | 24=>some ⟨[(16,false,[.d (.int .u64)]),(18,false,[.d (.int .u64)])],[],[]⟩
 | _=>none
def JH:Nat->Option Hd
 | 0=>some ⟨[(15,false,[.d (.int .u64)])],[],[]⟩
 | 2=>some ⟨[(18,false,[.d (.int .u64)])],[],[]⟩
 | 1000002=>some ⟨[],[],[]⟩
 | 1000004=>some ⟨[],[],[]⟩
 | _=>none
def OI:Nat->Option Hd
 | 1000008=>some ⟨[(9,false,[.d .bool])],[(10,[.d nq])],[]⟩
 | 1000010=>some ⟨[(9,false,[.d .bool])],[(10,[.d nq])],[]⟩
 | _=>none
def Po:Nat->Option Hd
 | 3=>some ⟨[(15,false,[.d i64])],[(0,[.d RE]),(6,[.d T49]),(7,[.d T49])],[]⟩
 | _=>none
def NI:Nat->Option Hd
 | 1000007=>some ⟨[(11,false,[.d i64])],[(10,[.d T49])],[]⟩
 | _=>none
def Ny:Nat->Option Hd
 | 1000009=>some ⟨[],[(6,[.d nq]),(7,[.d nq])],[]⟩
 | _=>none
def Ka:Nat->Option Hd
 | 3=>some ⟨[(5,false,[.row 3 i64]),(11,false,[.d i64])],[],[]⟩
 | _=>none
def Ol:Nat->Option Hd
 | 3=>some ⟨[(9,false,[.d .bool]),(14,false,[.d i64])],[(0,[.d RE])],[]⟩
 | _=>none
def NF:Nat->Option Hd
 | 3=>some ⟨[(3,false,[.row 3 i64]),(9,false,[.d i64])],[],[]⟩
 | _=>none
def OL:Nat->Option Hd
 | 2=>some ⟨[(10,false,[.d i64])],[],[]⟩
 | _=>none
def KS:Nat->Option Hd
 | 3=>some ⟨[(5,false,[.d i64]),(14,false,[.d i64])],[],[]⟩
 | _=>none
def J4:Nat->Option Hd
 | 5=>some ⟨[(3,false,[.d i64]),(4,false,[.d i64])],[],[]⟩
 | _=>none
def Km:Nat->Option Hd
 | 1000002=>some ⟨[],[],[]⟩
 | _=>none
def K5:Nat->Option Hd
 | 4=>some ⟨[(4,false,[.row 3 i64]),(18,false,[.d i64])],[],[]⟩
 | 10=>some ⟨[(7,false,[.d i64]),(34,false,[.d i64])],[],[]⟩
 | _=>none
def Kd:Nat->Option Hd
 | 4=>some ⟨[(5,false,[.d i64]),(24,false,[.d i64])],[],[]⟩
 | 12=>some ⟨[(9,false,[.d i64]),(51,false,[.d i64])],[(46,[.x (.tab 29 .ref 3 i64),.d i64,.row 3 i64,.row 3 i64,.row 3 i64,.d i64,.d i64])],[]⟩
 | 28=>some ⟨[(95,false,[.d i64])],[],[(12,none,.row 3 i64)]⟩
 | _=>none
def LP:Nat->Option Hd
 | 1000019=>some ⟨[(9,false,[.d i64])],[],[(12,none,.row 3 i64)]⟩
 | 1000022=>some ⟨[(9,false,[.d i64])],[],[(12,none,.row 3 i64)]⟩
 | 1000026=>some ⟨[(13,false,[.d i64])],[],[(12,none,.row 3 i64)]⟩
 | _=>none
def JU:Nat->Option Hd
 | 3=>some ⟨[(5,false,[.d i64]),(13,false,[.d i64])],[],[]⟩
 | _=>none
def Jd:Nat->Option Hd
 | 1000008=>some ⟨[(10,false,[.d .bool])],[(2,[.d uw]),(3,[.d uw])],[]⟩
 | _=>none
def M4:Nat->Option Hd
 | 2=>some ⟨[(29,false,[.d i64])],[],[(0,some 0,.x (.tab 29 .ref 3 i64))]⟩
 | 7=>some ⟨[(43,false,[.d i64])],[],[(0,some 0,.x (.tab 29 .ref 3 i64))]⟩
 | 17=>some ⟨[(98,false,[.d i64])],[],[(0,some 0,.x (.tab 29 .ref 3 i64))]⟩
 | 20=>some ⟨[(104,false,[.d i64])],[],[(0,some 0,.x (.tab 29 .ref 3 i64))]⟩
 | _=>none
def JR:Nat->Option Hd
 | 3=>some ⟨[(5,false,[.d i64]),(14,false,[.d i64])],[],[]⟩
 | _=>none
def Ko:Nat->Option Hd
 | 1=>some ⟨[],[(0,[.x (.tab 29 .ref 3 i64),.d i64,.row 3 i64,.row 3 i64,.row 3 i64,.d i64,.d i64])],[]⟩
 | 3=>some ⟨[(3,false,[.d i64]),(4,false,[.d i64])],[],[]⟩
 | 12=>some ⟨[(44,false,[.d i64])],[(0,[.x (.tab 29 .ref 3 i64),.d i64,.row 3 i64,.row 3 i64,.row 3 i64,.d i64,.d i64])],[]⟩
 | 15=>some ⟨[(6,false,[.d i64])],[(0,[.x (.tab 29 .ref 3 i64),.d i64,.row 3 i64,.row 3 i64,.row 3 i64,.d i64,.d i64])],[]⟩
 | _=>none
def JW:Nat->Option Hd
 | 3=>some ⟨[(5,false,[.d i64]),(21,false,[.d i64])],[],[]⟩
 | _=>none
def KD:Nat->Option Hd
 | 1=>some ⟨[],[(0,[.x (.tab 29 .ref 3 i64),.d i64,.row 3 i64,.row 3 i64,.row 3 i64,.d i64,.d i64])],[]⟩
 | 3=>some ⟨[(3,false,[.d i64]),(4,false,[.d i64])],[],[]⟩
 | _=>none
def OS:Nat->Option Hd
 | 14=>some ⟨[(6,false,[.d i64]),(43,false,[.d i64])],[],[(7,none,.row 3 i64)]⟩
 | 22=>some ⟨[(94,false,[.d i64])],[(5,[.d T49,.row 49 T49,.row 49 T49])],[]⟩
 | 27=>some ⟨[(110,false,[.d i64])],[(5,[.d T49,.row 49 T49,.row 49 T49])],[]⟩
 | 31=>some ⟨[(13,false,[.d i64]),(118,false,[.d i64])],[],[]⟩
 | _=>none
def Pr:Nat->Option Hd
 | 2=>some ⟨[(8,false,[.d i64])],[],[]⟩
 | _=>none
def O4:Nat->Option Hd
 | 5=>some ⟨[(4,false,[.row 9 .str]),(16,false,[.d i64])],[],[]⟩
 | _=>none
def Oj:Nat->Option Hd
 | 3=>some ⟨[(11,false,[.d i64])],[(3,[.d (.sl T66),.row 75 T75])],[]⟩
 | _=>none
def PE:Nat->Option Hd
 | 4=>some ⟨[(3,false,[.d i64])],[],[]⟩
 | 9=>some ⟨[(4,false,[.d i64])],[],[]⟩
 | 14=>some ⟨[(5,false,[.d i64])],[],[]⟩
 | _=>none
def Pk:Nat->Option Hd
 | 2=>some ⟨[(5,false,[.d i64])],[],[]⟩
 | _=>none
def Ni:Nat->Option Hd
 | 1=>some ⟨[(1,false,[.d i64])],[],[]⟩
 | _=>none
def NN:Nat->Option Hd
 | 2=>some ⟨[(5,false,[.d i64])],[],[]⟩
 | _=>none
def Kb:Nat->Option Hd
 | 4=>some ⟨[(5,false,[.d i64])],[(2,[.d lg]),(3,[.d lg])],[]⟩
 | 6=>some ⟨[],[(2,[.d lg]),(3,[.d lg])],[]⟩
 | 7=>some ⟨[],[(2,[.d lg])],[]⟩
 | 9=>some ⟨[],[(3,[.d lg])],[]⟩
 | 14=>some ⟨[(5,false,[.d i64])],[(3,[.d lg])],[]⟩
 | _=>none
def Oa:Nat->Option Hd
 | 4=>some ⟨[(5,false,[.d i64])],[],[]⟩
 | _=>none
def NK:Nat->Option Hd
 | 4=>some ⟨[(3,false,[.d i64])],[],[]⟩
 | 11=>some ⟨[(5,false,[.d i64]),(6,false,[.d i64])],[],[]⟩
 | _=>none
def PD:Nat->Option Hd
 | 4=>some ⟨[(5,false,[.d i64])],[],[]⟩
 | 9=>some ⟨[(6,false,[.d i64])],[],[]⟩
 | 15=>some ⟨[(9,false,[.d i64])],[],[]⟩
 | _=>none
def Mm:Nat->Option Hd
 | 3=>some ⟨[(5,false,[.d i64]),(6,false,[.d i64])],[],[]⟩
 | _=>none
def NY:Nat->Option Hd
 | 3=>some ⟨[(3,false,[.x (.tab 29 .ref 3 i64)]),(4,false,[.d i64])],[],[]⟩
 | 7=>some ⟨[(5,false,[.row 3 i64]),(6,false,[.d i64])],[],[]⟩
 | _=>none
def N1:Nat->Option Hd
 | 4=>some ⟨[(7,false,[.d i64])],[(5,[.d (.sl i64),.row 86 T86])],[]⟩
 | _=>none
def OC:Nat->Option Hd
 | 3=>some ⟨[(3,false,[.row 3 i64]),(4,false,[.d i64])],[],[]⟩
 | _=>none
def Ng:Nat->Option Hd
 | 2=>some ⟨[(3,false,[.d i64])],[],[]⟩
 | _=>none
def Jo:Nat->Option Hd
 | 5=>some ⟨[(8,false,[.d i64])],[(2,[.d lg]),(6,[.d lg]),(7,[.d lg])],[]⟩
 | _=>none
def Nf:Nat->Option Hd
 | 3=>some ⟨[(7,false,[.d i64])],[(4,[.d T49]),(6,[.d T49])],[]⟩
 | _=>none
def Jr:Nat->Option Hd
 | 3=>some ⟨[(5,false,[.row 3 i64]),(6,false,[.d i64])],[],[]⟩
 | _=>none
def OU:Nat->Option Hd
 | 3=>some ⟨[(8,false,[.d .bool]),(9,false,[.d i64])],[],[]⟩
 | _=>none
def NG:Nat->Option Hd
 | 3=>some ⟨[(3,false,[.row 3 i64]),(4,false,[.d i64])],[],[]⟩
 | _=>none
def OV:Nat->Option Hd
 | 2=>some ⟨[(5,false,[.d i64])],[],[]⟩
 | _=>none
def Jb:Nat->Option Hd
 | 3=>some ⟨[(3,false,[.d i64]),(4,false,[.d i64])],[],[]⟩
 | 8=>some ⟨[(5,false,[.row 3 i64]),(6,false,[.d i64])],[],[]⟩
 | 12=>some ⟨[(7,false,[.d i64]),(8,false,[.d i64])],[],[]⟩
 | _=>none
def Ms:Nat->Option Hd
 | 3=>some ⟨[(6,false,[.d i64]),(7,false,[.d i64])],[],[]⟩
 | _=>none
def Nm:Nat->Option Hd
 | 5=>some ⟨[(6,false,[.d i64]),(7,false,[.d i64])],[],[]⟩
 | _=>none
def Kk:Nat->Option Hd
 | 3=>some ⟨[(8,false,[.d i64])],[],[(3,some 0,.x (.tab 29 .ref 3 i64))]⟩
 | 8=>some ⟨[(10,false,[.d i64])],[],[(3,some 0,.x (.tab 29 .ref 3 i64))]⟩
 | _=>none
def Nv:Nat->Option Hd
 | 2=>some ⟨[],[(1,[.x (.tab 29 .ref 3 i64),.row 3 i64,.d i64,.d i64]),(2,[.x (.tab 29 .ref 3 i64),.row 3 i64,.d i64,.d i64])],[]⟩
 | 3=>some ⟨[(5,false,[.d i64])],[],[]⟩
 | 9=>some ⟨[(6,false,[.d i64]),(8,false,[.d i64])],[],[]⟩
 | _=>none
def Ou:Nat->Option Hd
 | 1=>some ⟨[(4,false,[.d i64])],[],[(0,none,.row 3 i64)]⟩
 | _=>none
def Nt:Nat->Option Hd
 | 5=>some ⟨[(7,false,[.d i64])],[(5,[.x (.tab 29 .ref 3 i64),.row 3 i64,.d i64,.d i64])],[(6,none,.row 3 i64)]⟩
 | 16=>some ⟨[(9,false,[.d i64])],[],[(8,none,.row 3 i64)]⟩
 | 20=>some ⟨[(10,false,[.d i64])],[],[(6,none,.row 3 i64)]⟩
 | _=>none
def Ow:Nat->Option Hd
 | 1000010=>some ⟨[],[],[(8,none,.row 3 i64)]⟩
 | 1000012=>some ⟨[],[],[(8,none,.row 3 i64)]⟩
 | 1000015=>some ⟨[],[],[(8,none,.row 3 i64)]⟩
 | _=>none
def Ps:Nat->Option Hd
 | 2=>some ⟨[(3,false,[.d i64])],[(1,[.x (.tab 29 .ref 3 i64),.row 3 i64,.d i64,.d i64])],[]⟩
 | 6=>some ⟨[(4,false,[.d i64])],[],[]⟩
 | 11=>some ⟨[(5,false,[.d i64])],[],[(1,some 0,.x (.tab 29 .ref 3 i64))]⟩
 | _=>none
def O7:Nat->Option Hd
 | 9=>some ⟨[(9,false,[.d i64])],[],[(4,some 0,.x (.tab 29 .ref 3 i64))]⟩
 | 13=>some ⟨[(10,false,[.d i64]),(11,false,[.d i64])],[],[]⟩
 | _=>none
def Nb:Nat->Option Hd
 | 7=>some ⟨[(20,false,[.d i64])],[(2,[.d T49]),(4,[.d T49])],[]⟩
 | _=>none
def PT:Nat->Option Hd
 | 3=>some ⟨[(4,false,[.row 9 .str]),(5,false,[.d i64])],[],[]⟩
 | _=>none
def Pv:Nat->Option Hd
 | 4=>some ⟨[(13,false,[.d i64])],[],[]⟩
 | _=>none
def Ri:Nat->Option Hd
 | 1000023=>some ⟨[],[],[]⟩
 | _=>none
def NR:Nat->Option Hd
 | 3=>some ⟨[(4,false,[.d i64])],[(3,[.row 66 T66,.row 75 T75])],[]⟩
 | _=>none
def Rj:Nat->Option Hd
 | 7=>some ⟨[(39,false,[.d i64])],[],[]⟩
 | _=>none
def LO:Nat->Option Hd
 | 1000014=>some ⟨[],[],[]⟩
 | _=>none
def OM:Nat->Option Hd
 | 10=>some ⟨[(5,false,[.row 49 T49]),(20,false,[.d i64])],[],[]⟩
 | _=>none
def NC:Nat->Option Hd
 | 7=>some ⟨[(8,false,[.row 49 T49]),(9,false,[.d i64]),(25,false,[.d i64])],[],[]⟩
 | 11=>some ⟨[(31,false,[.d i64])],[(11,[.d T49])],[]⟩
 | _=>none
def OD:Nat->Option Hd
 | 2=>some ⟨[(3,false,[.d i64])],[],[]⟩
 | _=>none
def N3:Nat->Option Hd
 | 2=>some ⟨[(8,false,[.d i64])],[],[]⟩
 | _=>none
def QL:Nat->Option Hd
 | 25=>some ⟨[(123,false,[.d i64])],[],[]⟩
 | _=>none
def Ru:Nat->Option Hd
 | 1000020=>some ⟨[],[],[]⟩
 | _=>none
def LY:Nat->Option Hd
 | 2=>some ⟨[(8,false,[.d i64])],[],[]⟩
 | _=>none
def JI:Nat->Option Hd
 | 1000007=>some ⟨[(12,false,[.d (.int .u64)]),(13,false,[.d (.int .u64)]),(18,false,[.d .bool])],[],[]⟩
 | 1000008=>some ⟨[(12,false,[.d (.int .u64)]),(13,false,[.d (.int .u64)]),(14,false,[.d (.int .u64)]),(15,false,[.d (.int .u64)]),(18,false,[.d .bool])],[],[]⟩
 | _=>none
def MI:Nat->Option Hd
 | 3=>some ⟨[(20,false,[.d i64])],[(5,[.x (.tab 29 .ref 3 i64),.d i64,.row 3 i64,.row 3 i64,.d .bool])],[]⟩
 | 9=>some ⟨[(40,false,[.d i64])],[(5,[.x (.tab 29 .ref 3 i64),.d i64,.row 3 i64,.row 3 i64,.d .bool])],[]⟩
 | 14=>some ⟨[(10,false,[.d i64]),(11,false,[.d i64])],[],[]⟩
 | 19=>some ⟨[(10,false,[.d i64])],[(5,[.x (.tab 29 .ref 3 i64),.d i64,.row 3 i64,.row 3 i64,.d .bool])],[]⟩
 | 26=>some ⟨[(130,false,[.d i64])],[],[(5,some 0,.x (.tab 29 .ref 3 i64))]⟩
 | 31=>some ⟨[(144,false,[.d i64])],[],[(5,some 0,.x (.tab 29 .ref 3 i64))]⟩
 | _=>none
def PX:Nat->Option Hd
 | 10=>some ⟨[(7,false,[.x (.tab 29 .ref 3 i64)]),(37,false,[.d i64])],[],[]⟩
 | 16=>some ⟨[(64,false,[.d i64])],[],[]⟩
 | 25=>some ⟨[(13,false,[.row 49 T49]),(80,false,[.d i64])],[],[]⟩
 | _=>none
def NT:Nat->Option Hd
 | 4=>some ⟨[(13,false,[.d i64])],[],[]⟩
 | _=>none
def Q1:Nat->Option Hd
 | 16=>some ⟨[(9,false,[.row 9 .str]),(59,false,[.d i64])],[],[]⟩
 | _=>none
def QE:Nat->Option Hd
 | 1000019=>some ⟨[(9,false,[.row 9 .str])],[],[]⟩
 | _=>none
def ao:FuncId->Hint
 | 161=>{loop:=Lg}
 | 167=>{loop:=LU}
 | 75=>{loop:=Om}
 | 117=>{loop:=JF}
 | 59=>{loop:=Py}
 | 87=>{loop:=OO}
 | 88=>{loop:=Nc}
 | 45=>{loop:=Pp}
 | 46=>{loop:=NL,join:=Oc}
 | 173=>{loop:=I3}
 | 174=>{loop:=MM}
 | 74=>{loop:=PV}
 | 181=>{join:=L4}
 | 125=>{loop:=Me,join:=JH}
 | 35=>{join:=OI}
 | 95=>{loop:=Po,join:=NI}
 | 39=>{join:=Ny}
 | 145=>{loop:=Ka}
 | 93=>{loop:=Ol}
 | 96=>{loop:=NF}
 | 97=>{loop:=OL}
 | 154=>{loop:=KS}
 | 156=>{loop:=J4,join:=Km}
 | 108=>{loop:=K5}
 | 109=>{loop:=Kd,join:=LP}
 | 126=>{loop:=JU}
 | 176=>{join:=Jd}
 | 157=>{loop:=M4}
 | 158=>{loop:=JR}
 | 110=>{loop:=Ko}
 | 159=>{loop:=JW}
 | 111=>{loop:=KD}
 | 58=>{loop:=OS}
 | 60=>{loop:=Pr}
 | 21=>{loop:=O4}
 | 43=>{loop:=Oj}
 | 44=>{loop:=PE}
 | 22=>{loop:=Pk}
 | 99=>{loop:=Ni}
 | 49=>{loop:=NN}
 | 102=>{loop:=Kb}
 | 50=>{loop:=Oa}
 | 13=>{loop:=NK}
 | 14=>{loop:=PD}
 | 101=>{loop:=Mm}
 | 51=>{loop:=NY}
 | 15=>{loop:=N1}
 | 16=>{loop:=OC}
 | 17=>{loop:=Ng}
 | 164=>{loop:=Jo}
 | 54=>{loop:=Nf}
 | 104=>{loop:=Jr}
 | 53=>{loop:=OU}
 | 55=>{loop:=NG}
 | 57=>{loop:=OV}
 | 118=>{loop:=Jb}
 | 119=>{loop:=Ms}
 | 63=>{loop:=Nm}
 | 120=>{loop:=Kk}
 | 66=>{loop:=Nv}
 | 69=>{loop:=Ou}
 | 67=>{loop:=Nt,join:=Ow}
 | 68=>{loop:=Ps}
 | 26=>{loop:=O7}
 | 27=>{loop:=Nb}
 | 28=>{loop:=PT}
 | 29=>{loop:=Pv}
 | 4=>{join:=Ri}
 | 31=>{loop:=NR}
 | 5=>{loop:=Rj,join:=LO}
 | 83=>{loop:=OM}
 | 84=>{loop:=NC}
 | 38=>{loop:=OD}
 | 86=>{loop:=N3}
 | 7=>{loop:=QL,join:=Ru}
 | 182=>{loop:=LY}
 | 172=>{join:=JI}
 | 135=>{loop:=MI}
 | 89=>{loop:=PX}
 | 42=>{loop:=NT}
 | 8=>{loop:=Q1,join:=QE}
 | _=>{}
def Fx (p : String) : Bool := p == "program.go:104" || p == "ref.go:45"
def FY:TypeId->Option XP
 | 87=>some (.tab 29 .ref 3 i64)
 | 88=>some (.tab 29 .ref 3 i64)
 | _=>none
def yP:List Nat:=[115,174,141,142,93,109,157,110,111,120,66,69,67,68]
def its:List (Nat×ICtr):=[]
theorem S5:Mp prog its:=HQ
end Go.Proofs.YtfknoaclabfdlaaGreat

namespace Go.Proofs.YtfknoaclabfdlaaGreat
noncomputable section
open Tryz Dn Dn.Sh
set_option maxRecDepth 100000
theorem aW:prog.follows .mixedOrders=true:=by kernel_rfl
theorem QI:En prog yP=true:=by kernel_rfl
theorem q0:(ll prog shs yP its [] []).ok:=HE QI S5
abbrev cx (l) (r):=Da FY Fx (ll prog shs yP its l r)
def jk (_:Lp) (_:Jn) (x0:List Int):Option (List Int) :=
 bif dZ (0+List.length x0) 8 then some x0 else none
def cf (x0:List Int):Option (List Int):=jk lpK jnK x0
abbrev OY:=(List Int)->Option (List Int)
def R6 (cf:OY):RCtr:=⟨[(.sl i64)],3,i64,fun x=>cf x.1⟩
def bJ:RCtr:=R6 cf
theorem UX (lp:Lp) (jn:Jn):∀x:TsS bJ.as,jk lp jn x.1=Im lp jn (cx [] []) ao 4 134 f134 bJ.t bJ.e (Ed bJ.as x true):=fun x=>by kernel_rfl
theorem RI:bJ.ok prog 134:=RCtr.of_den_nil (c:=bJ) (au (q0)) aW (hl:=ao) (d:=4) rfl func134 rfl (by decide) (UX lpK jnK) fun x h=>by
 obtain ⟨l,u⟩:=x
 simp only at h
 subst h
 kernel_rfl
theorem bV:(ll prog shs yP its [] [(134,bJ)]).ok:=HZ q0 (by kernel_rfl) RI
def kD (_:Lp) (_:Jn) (x0:Int) (x1:Int) (x2:Int):Option Bool :=
 
 let v5:Bool:=decide (x0>=x1);
 let v6:Bool:=!v5||v5;bif v6&&v6 then bif v6 then some (bif v5 then decide (x0<=x2) else false) else none else none
def bA (x0:Int) (x1:Int) (x2:Int):Option Bool:=kD lpK jnK x0 x1 x2
abbrev LG:=(Int)->(Int)->(Int)->Option (Bool)
def QB (bA:LG):Ctr:=⟨[i64,i64,i64],[],[],.one .bool,fun x _ _=>bA x.1 x.2.1 x.2.2.1⟩
def J2:Ctr:=QB bA
theorem VT (lp:Lp) (jn:Jn):∀(x:TsS J2.as) (F:TsF J2.fs) (y:TsS J2.cs),kD lp jn x.1 x.2.1 x.2.2.1=cn lp jn (cx [] [(134,bJ)]) ao 4 114 f114 J2 x F y:=fun x F y=>by kernel_rfl
theorem PZ:J2.ok prog 114:=Ctr.of_den (au (bV)) aW (hl:=ao) (d:=4) func114 rfl (by decide) (VT lpK jnK)
def ku (_:Lp) (_:Jn) (x0:Int):Option Bool :=
 
 let v3:Bool:=decide (x0>=97);
 let v4:Bool:=decide (x0>=65);
 let v5:Bool:=!v3||v3;
 let v6:Bool:=bif v3 then decide (x0<=122) else false;
 let v7:Bool:=!v6;
 let v8:Bool:=!v7;
 let v9:Bool:=v7&&v4;
 let v10:Bool:=v8||v7;bif v5 then bif v5 then bif v10 then bif v10 then bif !v9||v9 then bif (v8||v10)&&(v8||(!v4||(v8||v9))) then bif v6||v7 then some (bif v6 then true else bif v4 then decide (x0<=90) else false) else none else none else none else none else none else none else none
def bB (x0:Int):Option Bool:=ku lpK jnK x0
abbrev JQ:=(Int)->Option (Bool)
def Rf (bB:JQ):Ctr:=⟨[(.int .u8)],[],[],.one .bool,fun x _ _=>bB x.1⟩
def Mz:Ctr:=Rf bB
theorem VL (lp:Lp) (jn:Jn):∀(x:TsS Mz.as) (F:TsF Mz.fs) (y:TsS Mz.cs),ku lp jn x.1=cn lp jn (cx [] [(134,bJ)]) ao 4 160 f160 Mz x F y:=fun x F y=>by kernel_rfl
theorem Qq:Mz.ok prog 160:=Ctr.of_den (au (bV)) aW (hl:=ao) (d:=4) func160 rfl (by decide) (VL lpK jnK)
def lf (_:Lp) (_:Jn) (x0:Int):Option Bool :=
 
 let v3:Bool:=decide (x0>=48);
 let v4:Bool:=!v3||v3;bif v4 then bif v4 then some (bif v3 then decide (x0<=57) else false) else none else none
def dU (x0:Int):Option Bool:=lf lpK jnK x0
abbrev S0:=(Int)->Option (Bool)
def J3:Ctr:=⟨[(.int .u8)],[],[],.one .bool,fun x _ _=>dU x.1⟩
theorem UN (lp:Lp) (jn:Jn):∀(x:TsS J3.as) (F:TsF J3.fs) (y:TsS J3.cs),lf lp jn x.1=cn lp jn (cx [] [(134,bJ)]) ao 4 179 f179 J3 x F y:=fun x F y=>by kernel_rfl
theorem Ti:J3.ok prog 179:=Ctr.of_den (au (bV)) aW (hl:=ao) (d:=4) func179 rfl (by decide) (UN lpK jnK)
def jF (lp:Lp) (_:Jn) (bB:JQ) (dU:S0) (x0:ByteArray):Option Int :=
 lp (Int×PUnit) Int (fun (again:Int×PUnit->Option Int) (x:Int×PUnit) =>
 let v5:Bool:=inB x.1 (ByteArray.size x0);
 let v6:Int:=fi x0 x.1.toNat;
 let v7:Bool:=decide (x.1<(↑(ByteArray.size x0):Int));
 let v8:Bool:=!v7;
 let v9:Bool:=v8||v7;
 let v10:Bool:=v8||v9;bif v9&&(v9&&(v8||v5)) then bif v9 then aa (bif v7 then bB v6 else some false) fun (t:Bool) =>
 let v12:Bool:=v7&&!t;
 let v13:Bool:=!v12;
 let v14:Bool:=v13||v12;bif v9 then bif v14&&(v14&&(v13||v5)) then bif v14 then aa (bif v12 then dU v6 else some false) fun (t_1:Bool) =>
 let v16:Bool:=bif t then true else t_1;
 let v17:Bool:=v7&&!v16;
 let v18:Bool:=!v17;
 let v19:Bool:=v18||v17;bif v10&&(v8||(t||(v8||v12))) then bif v9 then bif v19&&(v19&&(v18||v5)) then bif v19 then bif v10&&(v8||(v16||(v8||v17))) then bif v9 then bif bif v7 then bif v16 then true else decide (v6=95) else false then again (IntKind.wrap .i64 (x.1+1),PUnit.unit) else some x.1 else none else none else none else none else none else none else none else none else none else none else none) (0,PUnit.unit)
def dF (x0:ByteArray):Option Int:=jF lpK jnK bB dU x0
abbrev Tt:=(ByteArray)->Option (Int)
def Kv:Ctr:=⟨[.str],[],[],.one i64,fun x _ _=>dF x.1⟩
theorem VA (lp:Lp) (jn:Jn) (bB:JQ) (dU:S0):∀(x:TsS Kv.as) (F:TsF Kv.fs) (y:TsS Kv.cs),jF lp jn bB dU x.1=cn lp jn (cx [(179,⟨[(.int .u8)],[],[],.one .bool,fun x _ _=>dU x.1⟩),(160,Rf bB)] [(134,bJ)]) ao 4 161 f161 Kv x F y:=fun x F y=>by kernel_rfl
theorem SE:Kv.ok prog 161:=Ctr.of_den (au (ai (ai (bV) (by kernel_rfl) Qq) (by kernel_rfl) Ti)) aW (hl:=ao) (d:=4) func161 rfl (by decide) (VA lpK jnK bB dU)
def kn (_:Lp) (_:Jn) (bB:JQ) (dF:Tt) (x0:ByteArray):Option Bool :=
 
 let v3:Bool:=!List.beq (ByteArray.toList x0) (ByteArray.toList { data:=#[] });
 let v4:Bool:=!v3||v3;
 let v5:Bool:=bif v3 then decide ((↑(ByteArray.size x0):Int)<=20) else false;
 let v6:Bool:=!v5;
 let v7:Bool:=v6||v5;bif v4 then bif v4 then bif v4 then bif v7&&(v6||inB 0 (ByteArray.size x0)) then bif v7 then aa (bif v5 then bB (fi x0 0) else some false) fun (t:Bool) =>
 let v9:Bool:=bif v5 then t else false;
 let v10:Bool:=!v9||v9;bif v7 then bif v10 then aa (bif v9 then dF x0 else some 0) fun (t:Int)=>bif v10 then bif v10&&v10 then bif v10 then some (bif v9 then decide (t=(↑(ByteArray.size x0):Int)) else false) else none else none else none else none else none else none else none else none else none else none
def dy (x0:ByteArray):Option Bool:=kn lpK jnK bB dF x0
abbrev Sv:=(ByteArray)->Option (Bool)
def KE:Ctr:=⟨[.str],[],[],.one .bool,fun x _ _=>dy x.1⟩
theorem Vz (lp:Lp) (jn:Jn) (bB:JQ) (dF:Tt):∀(x:TsS KE.as) (F:TsF KE.fs) (y:TsS KE.cs),kn lp jn bB dF x.1=cn lp jn (cx [(161,⟨[.str],[],[],.one i64,fun x _ _=>dF x.1⟩),(160,Rf bB)] [(134,bJ)]) ao 4 116 f116 KE x F y:=fun x F y=>by kernel_rfl
theorem Sp:KE.ok prog 116:=Ctr.of_den (au (ai (ai (bV) (by kernel_rfl) Qq) (by kernel_rfl) SE)) aW (hl:=ao) (d:=4) func116 rfl (by decide) (Vz lpK jnK bB dF)
def gI (lp:Lp) (_:Jn) (x0:List (ByteArray×Int)) (f0:(((ByteArray×Int)×Unit)->Option Bool)):Option Int :=
 lp (Int×PUnit) Int (fun (again:Int×PUnit->Option Int) (x:Int×PUnit)=>bif decide (x.1<(↑x0.length:Int)) then bif inB x.1 x0.length then aa (f0 (x0.getD x.1.toNat ({ data:={ toList:=[] } },0),PUnit.unit)) fun (t:Bool)=>bif t then some x.1 else again (IntKind.wrap .i64 (x.1+1), PUnit.unit) else none else some (-1)) (0,PUnit.unit)
def bZ (x0:List (ByteArray×Int)) (f0:(((ByteArray×Int)×Unit)->Option Bool)):Option Int:=gI lpK jnK x0 f0
abbrev RY:=(List (ByteArray×Int))->((((ByteArray×Int)×Unit)->Option Bool))->Option (Int)
def Sw (bZ:RY):Ctr:=⟨[(.sl T66)],[([T66],.bool)],[],.one i64,fun x F _=>bZ x.1 F.1⟩
def KI:Ctr:=Sw bZ
theorem VO (lp:Lp) (jn:Jn):∀(x:TsS KI.as) (F:TsF KI.fs) (y:TsS KI.cs),gI lp jn x.1 F.1=cn lp jn (cx [] [(134,bJ)]) ao 4 167 f167 KI x F y:=fun x F y=>by kernel_rfl
theorem R2:KI.ok prog 167:=Ctr.of_den (au (bV)) aW (hl:=ao) (d:=4) func167 rfl (by decide) (VO lpK jnK)
def ki (_:Lp) (_:Jn) (x0:ByteArray×Int) (y0:ByteArray):Option Bool :=
 some (List.beq (ByteArray.toList x0.1) (ByteArray.toList y0))
def eA (x0:ByteArray×Int) (y0:ByteArray):Option Bool:=ki lpK jnK x0 y0
abbrev TF:=(ByteArray×Int)->(ByteArray)->Option (Bool)
def L2:Ctr:=⟨[T66],[],[.str],.one .bool,fun x _ y=>eA x.1 y.1⟩
theorem UM (lp:Lp) (jn:Jn):∀(x:TsS L2.as) (F:TsF L2.fs) (y:TsS L2.cs),ki lp jn x.1 y.1=cn lp jn (cx [] [(134,bJ)]) ao 4 168 f168 L2 x F y:=fun x F y=>by kernel_rfl
theorem Sn:L2.ok prog 168:=Ctr.of_den (au (bV)) aW (hl:=ao) (d:=4) func168 rfl (by decide) (UM lpK jnK)
def mj (_:Lp) (_:Jn) (bZ:RY) (eA:TF) (x0:(List (ByteArray×Int))×List (ByteArray×(List (ByteArray×Int×Int×Int))×Bool)) (x1:ByteArray):Option Int :=
 aa (bZ x0.1 fun (x:(ByteArray×Int)×PUnit)=>eA x.1 x1) fun (t:Int)=>some t
def ce (x0:(List (ByteArray×Int))×List (ByteArray×(List (ByteArray×Int×Int×Int))×Bool)) (x1:ByteArray):Option Int:=mj lpK jnK bZ eA x0 x1
abbrev JY:=((List (ByteArray×Int))×List (ByteArray×(List (ByteArray×Int×Int×Int))×Bool))->(ByteArray)->Option (Int)
def QV (ce:JY):Ctr:=⟨[T25,.str],[],[],.one i64,fun x _ _=>ce x.1 x.2.1⟩
def LK:Ctr:=QV ce
theorem VC (lp:Lp) (jn:Jn) (bZ:RY) (eA:TF):∀(x:TsS LK.as) (F:TsF LK.fs) (y:TsS LK.cs),mj lp jn bZ eA x.1 x.2.1=cn lp jn (cx [(168,⟨[T66],[],[.str],.one .bool,fun x _ y=>eA x.1 y.1⟩),(167,Sw bZ)] [(134,bJ)]) ao 4 131 f131 LK x F y:=fun x F y=>by kernel_rfl
theorem Qn:LK.ok prog 131:=Ctr.of_den (au (ai (ai (bV) (by kernel_rfl) R2) (by kernel_rfl) Sn)) aW (hl:=ao) (d:=4) func131 rfl (by decide) (VC lpK jnK bZ eA)
def qq (lp:Lp) (_:Jn) (x0:Int) (x1:Int):Option Int :=
 lp (Int×Int×PUnit) Int (fun (again:Int×Int×PUnit->Option Int) (x:Int×Int×PUnit)=>bif !decide (x.2.1=0) then bif nzB x.2.1 then again (x.2.1, Int.tmod x.1 x.2.1,PUnit.unit) else none else some x.1) (x0,x1,PUnit.unit)
def bC (x0:Int) (x1:Int):Option Int:=qq lpK jnK x0 x1
abbrev t75:=(Int)->(Int)->Option (Int)
def k75 (bC:t75):Ctr:=⟨[(.int .u64),(.int .u64)],[],[],.one (.int .u64),fun x _ _=>bC x.1 x.2.1⟩
def c75:Ctr:=k75 bC
theorem e75 (lp:Lp) (jn:Jn):∀(x:TsS c75.as) (F:TsF c75.fs) (y:TsS c75.cs),qq lp jn x.1 x.2.1=cn lp jn (cx [] [(134,bJ)]) ao 4 75 f75 c75 x F y:=fun x F y=>by kernel_rfl
theorem Ox:c75.ok prog 75:=Ctr.of_den (au (bV)) aW (hl:=ao) (d:=4) func75 rfl (by decide) (e75 lpK jnK)
def ov (_:Lp) (_:Jn) (x0:Int):Option Int :=
 
 let v3:Int:=IntKind.wrap .u64 x0;bif decide (x0<0) then some (IntKind.wrap .u64 (0 - v3)) else some v3
def aL (x0:Int):Option Int:=ov lpK jnK x0
abbrev t77:=(Int)->Option (Int)
def k77 (aL:t77):Ctr:=⟨[i64],[],[],.one (.int .u64),fun x _ _=>aL x.1⟩
def c77:Ctr:=k77 aL
theorem e77 (lp:Lp) (jn:Jn):∀(x:TsS c77.as) (F:TsF c77.fs) (y:TsS c77.cs),ov lp jn x.1=cn lp jn (cx [] [(134,bJ)]) ao 4 77 f77 c77 x F y:=fun x F y=>by kernel_rfl
theorem KZ:c77.ok prog 77:=Ctr.of_den (au (bV)) aW (hl:=ao) (d:=4) func77 rfl (by decide) (e77 lpK jnK)
def np (_:Lp) (_:Jn) (bC:t75) (aL:t77) (x0:Int×Int):Option Bool :=
 
 let v3:Bool:=decide (x0.2>=1);
 let v4:Bool:=!v3||v3;
 let v5:Bool:=bif v3 then decide (x0.2<=1152921504606846976) else false;
 let v6:Bool:=bif v5 then decide (x0.1>=(-1152921504606846976)) else false;
 let v7:Bool:=!v5||v5;
 let v8:Bool:=bif v6 then decide (x0.1<=1152921504606846976) else false;
 let v9:Bool:=!v6||v6;
 let v10:Bool:=!v8||v8;bif v4 then bif v4 then bif v4 then bif v7 then bif v7 then bif v7 then bif v9 then bif v9 then bif v9 then bif v10 then bif v10 then aa (bif v8 then aL x0.1 else some 0) fun (t:Int)=>bif v10 then bif v10 then bif v10&&v10 then aa (bif v8 then bC t (IntKind.wrap .u64 x0.2) else some (0 : Int)) fun (t:Int)=>bif v10 then bif v10 then some (bif v8 then decide (t=1) else false) else none else none else none else none else none else none else none else none else none else none else none else none else none else none else none else none
def aw (x0:Int×Int):Option Bool:=np lpK jnK bC aL x0
abbrev t72:=(Int×Int)->Option (Bool)
def k72 (aw:t72):Ctr:=⟨[T49],[],[],.one .bool,fun x _ _=>aw x.1⟩
def c72:Ctr:=k72 aw
theorem e72 (lp:Lp) (jn:Jn) (bC:t75) (aL:t77):∀(x:TsS c72.as) (F:TsF c72.fs) (y:TsS c72.cs),np lp jn bC aL x.1=cn lp jn (cx [(77,k77 aL),(75,k75 bC)] [(134,bJ)]) ao 4 72 f72 c72 x F y:=fun x F y=>by kernel_rfl
theorem H2:c72.ok prog 72:=Ctr.of_den (au (ai (ai (bV) (by kernel_rfl) Ox) (by kernel_rfl) KZ)) aW (hl:=ao) (d:=4) func72 rfl (by decide) (e72 lpK jnK bC aL)
def kX (_:Lp) (_:Jn) (aw:t72) (x0:Int×Int):Option Bool :=
 aa (aw x0) fun (t:Bool) =>
 let v4:Bool:=!t||t;
 let v5:Bool:=bif t then decide (x0.1>=x0.2) else false;
 let v6:Bool:=!v5||v5;bif v4 then bif v4 then bif v4&&v4 then bif v4 then bif v6 then bif v6 then bif v6 then some (bif v5 then decide (x0.1<=100) else false) else none else none else none else none else none else none else none
def eu (x0:Int×Int):Option Bool:=kX lpK jnK aw x0
abbrev Td:=(Int×Int)->Option (Bool)
def Lz:Ctr:=⟨[T49],[],[],.one .bool,fun x _ _=>eu x.1⟩
theorem Vn (lp:Lp) (jn:Jn) (aw:t72):∀(x:TsS Lz.as) (F:TsF Lz.fs) (y:TsS Lz.cs),kX lp jn aw x.1=cn lp jn (cx [(72,k72 aw)] [(134,bJ)]) ao 4 180 f180 Lz x F y:=fun x F y=>by kernel_rfl
theorem S8:Lz.ok prog 180:=Ctr.of_den (au (ai (bV) (by kernel_rfl) H2)) aW (hl:=ao) (d:=4) func180 rfl (by decide) (Vn lpK jnK aw)
def mu (_:Lp) (_:Jn) (ce:JY) (eu:Td) (x0:(List (ByteArray×Int))×List (ByteArray×(List (ByteArray×Int×Int×Int))×Bool)) (x1:ByteArray×Int×Int×Int) (x2:Bool):Option Bool :=
 
 let v5:Bool:=!x2;
 let v6:Bool:=v5||x2;
 let v7:Bool:=decide (x1.2.1=0);
 let v8:Bool:=decide (x1.2.1=1);
 let v9:Bool:=decide (x1.2.1=2);
 let v10:Bool:=!v8;
 let v11:Bool:=!v9;
 let v12:Bool:=bif v9 then true else v7;
 let v13:Bool:=!v10||v10;
 let v14:Bool:=!v11||v11;
 let v15:Bool:=!v12;
 let v16:Bool:=bif x2 then !(decide (x1.2.2.1=1)&&(decide (x1.2.2.2=1)&&true)) else false;
 let v17:Bool:=!v16;
 let v18:Bool:=!v17;
 let v19:Bool:=v17&&v5;
 let v20:Bool:=!v15||v15;
 let v21:Bool:=v18||v17;
 let v22:Bool:=!v19||v19;bif v6 then bif v6&&v6 then bif v6 then bif v21 then bif v21 then bif v22 then bif v22 then aa (bif v19 then eu x1.2.2 else some false) fun (t:Bool)=>bif v22 then bif (v18||v21)&&(v18||(!v5||(v18||v19))) then bif v16||v17 then bif bif v16 then true else bif v5 then !t else false then some false else bif List.beq (ByteArray.toList x1.1) (ByteArray.toList { data:=#[] }) then some v7 else aa (ce x0 x1.1) fun (t:Int)=>bif decide (t<0) then some false else bif x2 then bif v13 then bif v13 then bif v8||v10 then some (bif v8 then true else decide (x1.2.1=(-1))) else none else none else none else bif v14 then bif v14 then bif v9||v11 then bif v20 then bif v20 then bif v12||v15 then some (bif v12 then true else decide (x1.2.1=(-2))) else none else none else none else none else none else none else none else none else none else none else none else none else none else none else none else none
def dW (x0:(List (ByteArray×Int))×List (ByteArray×(List (ByteArray×Int×Int×Int))×Bool)) (x1:ByteArray×Int×Int×Int) (x2:Bool):Option Bool:=mu lpK jnK ce eu x0 x1 x2
abbrev QF:=((List (ByteArray×Int))×List (ByteArray×(List (ByteArray×Int×Int×Int))×Bool))->(ByteArray×Int×Int×Int)->(Bool)->Option (Bool)
def Ts (dW:QF):Ctr:=⟨[T25,Pa,.bool],[],[],.one .bool,fun x _ _=>dW x.1 x.2.1 x.2.2.1⟩
def J6:Ctr:=Ts dW
theorem Vb (lp:Lp) (jn:Jn) (ce:JY) (eu:Td):∀(x:TsS J6.as) (F:TsF J6.fs) (y:TsS J6.cs),mu lp jn ce eu x.1 x.2.1 x.2.2.1=cn lp jn (cx [(180,⟨[T49],[],[],.one .bool,fun x _ _=>eu x.1⟩),(131,QV ce)] [(134,bJ)]) ao 4 162 f162 J6 x F y:=fun x F y=>by kernel_rfl
theorem Sg:J6.ok prog 162:=Ctr.of_den (au (ai (ai (bV) (by kernel_rfl) Qn) (by kernel_rfl) S8)) aW (hl:=ao) (d:=4) func162 rfl (by decide) (Vb lpK jnK ce eu)
def md (lp:Lp) (_:Jn) (bA:LG) (dW:QF) (x0:(List (ByteArray×Int))×List (ByteArray×(List (ByteArray×Int×Int×Int))×Bool)) (x1:ByteArray×(List (ByteArray×Int×Int×Int))×Bool):Option Bool :=
 
 let v4:Bool:=!x1.2.2;
 let v5:Bool:=!v4;
 let v6:Bool:=!v5;
 let v7:Int:=IntKind.wrap .i64 ((↑x1.2.1.length:Int) - 1);
 let v8:Bool:=v6||v5;aa (bA (↑x1.2.1.length:Int) 2 10) fun (t:Bool)=>bif !t then some false else lp (Int×PUnit) Bool (fun (again : Int×PUnit->Option Bool) (x:Int×PUnit) =>
 let v12:Bool:=decide (x.1=0);
 let v13:Bool:=!v12;
 let v14:Bool:=!v13||v13;bif decide (x.1<(↑x1.2.1.length:Int)) then bif inB x.1 x1.2.1.length then bif v14 then bif v14&&v14 then bif v12||v13 then aa (dW x0 (x1.2.1.getD x.1.toNat ({ data:={ toList:=[] } },0,0,0)) (bif v12 then true else decide (x.1=v7))) fun (t : Bool)=>bif !t then some false else again (IntKind.wrap .i64 (x.1+1),PUnit.unit) else none else none else none else none else bif v8 then bif v8 then bif v8&&(v8 && (v6||inB v7 x1.2.1.length)) then bif v8 then bif v8 then bif v8 then bif v4||v5 then some (bif v4 then true else List.beq (ByteArray.toList (x1.2.1.getD v7.toNat ({ data:={ toList:=[] } },0,0,0)).1) (ByteArray.toList { data:=#[] })) else none else none else none else none else none else none else none) (0,PUnit.unit)
def eO (x0:(List (ByteArray×Int))×List (ByteArray×(List (ByteArray×Int×Int×Int))×Bool)) (x1:ByteArray×(List (ByteArray×Int×Int×Int))×Bool):Option Bool:=md lpK jnK bA dW x0 x1
abbrev Sk:=((List (ByteArray×Int))×List (ByteArray×(List (ByteArray×Int×Int×Int))×Bool))->(ByteArray×(List (ByteArray×Int×Int×Int))×Bool)->Option (Bool)
def K2:Ctr:=⟨[T25,T75],[],[],.one .bool,fun x _ _=>eO x.1 x.2.1⟩
theorem Vt (lp:Lp) (jn:Jn) (bA:LG) (dW:QF):∀(x:TsS K2.as) (F:TsF K2.fs) (y:TsS K2.cs),md lp jn bA dW x.1 x.2.1=cn lp jn (cx [(162,Ts dW),(114,QB bA)] [(134,bJ)]) ao 4 117 f117 K2 x F y:=fun x F y=>by kernel_rfl
theorem R7:K2.ok prog 117:=Ctr.of_den (au (ai (ai (bV) (by kernel_rfl) PZ) (by kernel_rfl) Sg)) aW (hl:=ao) (d:=4) func117 rfl (by decide) (Vt lpK jnK bA dW)
def li (lp:Lp) (_:Jn) (bA:LG) (dy:Sv) (eO:Sk) (x0:(List (ByteArray×Int))×List (ByteArray×(List (ByteArray×Int×Int×Int))×Bool)):Option Bool :=
 aa (bA (↑x0.1.length:Int) 1 6) fun (t:Bool) =>
 let v4:Bool:=!t;
 let v5:Bool:=!v4;
 let v6:Bool:=!v5||v5;bif v6 then bif v6 then bif v6 then aa (bif v5 then bA (↑x0.2.length:Int) 1 6 else some false) fun (t:Bool)=>bif v6 then bif v4||v5 then bif bif v4 then true else !t then some false else lp (Int×List (ByteArray×Bool)×PUnit) Bool (fun (again:Int×List (ByteArray×Bool)×PUnit->Option Bool) (x:Int×List (ByteArray×Bool)×PUnit) =>
 let v10:ByteArray×Int:=x0.1.getD x.1.toNat ({ data:={ toList:=[] } },0);bif decide (x.1<(↑x0.1.length:Int)) then bif inB x.1 x0.1.length then aa (dy v10.1) fun (t:Bool) =>
 let v12:Bool:=!t||t;bif v12&&v12 then bif v12 then bif v12 then bif (!!!bif t then !iH str Sh.bool v10.1 false x.2.1 else false)||!!bif t then !iH str Sh.bool v10.1 false x.2.1 else false then bif (!!!bif t then !iH str Sh.bool v10.1 false x.2.1 else false)||!!bif t then !iH str Sh.bool v10.1 false x.2.1 else false then aa (bif !!bif t then !iH str Sh.bool v10.1 false x.2.1 else false then bA v10.2 0 16777216 else some false) fun (t_1:Bool)=>bif (!!!bif t then !iH str Sh.bool v10.1 false x.2.1 else false)||!!bif t then !iH str Sh.bool v10.1 false x.2.1 else false then bif (!bif t then !iH str Sh.bool v10.1 false x.2.1 else false)||!!bif t then !iH str Sh.bool v10.1 false x.2.1 else false then bif bif !bif t then !iH str Sh.bool v10.1 false x.2.1 else false then true else !t_1 then some false else again (IntKind.wrap .i64 (x.1+1),pO str Sh.bool v10.1 true x.2.1,PUnit.unit) else none else none else none else none else none else none else none else none else lp (Int×Int×List (ByteArray×Bool)×PUnit) Bool (fun (again:Int×Int×List (ByteArray×Bool)×PUnit->Option Bool) (x:Int×Int×List (ByteArray×Bool)×PUnit) =>
 let v13:ByteArray×List (ByteArray×Int×Int×Int)×Bool:=x0.2.getD x.2.1.toNat ({ data:={ toList:=[] } },[],false);bif decide (x.2.1<(↑x0.2.length:Int)) then bif inB x.2.1 x0.2.length then aa (dy v13.1) fun (t:Bool) =>
 let v15:Bool:=!t||t;bif v15&&v15 then bif v15 then bif v15 then bif ((!!!bif t then !iH str Sh.bool v13.1 false x.2.2.1 else false)||!!bif t then !iH str Sh.bool v13.1 false x.2.2.1 else false)&&((!!!bif t then !iH str Sh.bool v13.1 false x.2.2.1 else false)||!!bif t then !iH str Sh.bool v13.1 false x.2.2.1 else false) then aa (bif !!bif t then !iH str Sh.bool v13.1 false x.2.2.1 else false then eO x0 v13 else some false) fun (t_1:Bool)=>bif (!!!bif t then !iH str Sh.bool v13.1 false x.2.2.1 else false)||!!bif t then !iH str Sh.bool v13.1 false x.2.2.1 else false then bif (!bif t then !iH str Sh.bool v13.1 false x.2.2.1 else false)||!!bif t then !iH str Sh.bool v13.1 false x.2.2.1 else false then bif bif !bif t then !iH str Sh.bool v13.1 false x.2.2.1 else false then true else !t_1 then some false else bif v13.2.2 then again (IntKind.wrap .i64 (x.1+1),IntKind.wrap .i64 (x.2.1+1),pO str Sh.bool v13.1 true x.2.2.1,PUnit.unit) else again (x.1,IntKind.wrap .i64 (x.2.1+1),pO str Sh.bool v13.1 true x.2.2.1,PUnit.unit) else none else none else none else none else none else none else none else some (decide (x.1<=1))) (0,0,x.2.1,PUnit.unit)) (0,[],PUnit.unit) else none else none else none else none else none
def aI (x0:(List (ByteArray×Int))×List (ByteArray×(List (ByteArray×Int×Int×Int))×Bool)):Option Bool:=li lpK jnK bA dy eO x0
abbrev t59:=((List (ByteArray×Int))×List (ByteArray×(List (ByteArray×Int×Int×Int))×Bool))->Option (Bool)
def k59 (aI:t59):Ctr:=⟨[T25],[],[],.one .bool,fun x _ _=>aI x.1⟩
def c59:Ctr:=k59 aI
theorem e59 (lp:Lp) (jn:Jn) (bA:LG) (dy:Sv) (eO:Sk):∀(x:TsS c59.as) (F:TsF c59.fs) (y:TsS c59.cs),li lp jn bA dy eO x.1=cn lp jn (cx [(117,⟨[T25,T75],[],[],.one .bool,fun x _ _=>eO x.1 x.2.1⟩),(116,⟨[.str],[],[],.one .bool,fun x _ _=>dy x.1⟩),(114,QB bA)] [(134,bJ)]) ao 4 59 f59 c59 x F y:=fun x F y=>by kernel_rfl
theorem Nn:c59.ok prog 59:=Ctr.of_den (au (ai (ai (ai (bV) (by kernel_rfl) PZ) (by kernel_rfl) Sp) (by kernel_rfl) R7)) aW (hl:=ao) (d:=4) func59 rfl (by decide) (e59 lpK jnK bA dy eO)
def nC (lp:Lp) (_:Jn) (ce:JY) (aI:t59) (x0:(List (ByteArray×Int))×List (ByteArray×(List (ByteArray×Int×Int×Int))×Bool)):Option ((List (List Int))×Int×Unit) :=
 aa (aI x0) fun (t:Bool)=>bif !t then some ([],1,PUnit.unit) else bif decide (0<=(↑x0.1.length:Int))&&dZ (Int.toNat (↑x0.1.length : Int)) 24 then lp (Int×(List Nat×List (Option (List Int)))×PUnit) (List (List Int)×Int×PUnit) (fun (again:Int×(List Nat×List (Option (List Int)))×PUnit -> Option (List (List Int)×Int×PUnit)) (x:Int×(List Nat×List (Option (List Int)))×PUnit)=>bif decide (x.1<(↑(List.length (Nat.brecOn (motive:=fun (x:Nat)=>Nat->List Nat) (Int.toNat (↑x0.1.length:Int)) (fun (x:Nat) (f:Nat.below (motive:=fun (x:Nat)=>Nat->List (T ref)) x) (x_1:Nat)=>(match (motive:=(x:Nat)->Nat->Nat.below (motive:=fun (x:Nat)=>Nat->List (T ref)) x->List Nat) x,x_1 with | 0,x=>fun (_:PUnit)=>[] | Nat.succ n,k=>fun (x:(Nat->List Nat) ×' Nat.rec PUnit (fun (n:Nat) (n_ih:Type)=>(fun (x:Nat)=>Nat->List (T ref)) n ×' n_ih) n)=>(k+0) ::x.1 (k+1)) f) 0)):Int)) then bif decide (0 <= (↑x0.2.length:Int))&&dZ (Int.toNat (↑x0.2.length:Int)) 8 then bif inB x.1 x.2.1.1.length then bif Nat.ble (Nat.succ x.1.toNat) x.2.1.1.length then again (IntKind.wrap .i64 (x.1+1),(x.2.1.1.set x.1.toNat x.2.1.2.length,x.2.1.2++[some (List.replicate (Int.toNat (↑x0.2.length:Int)) 0)]),PUnit.unit) else none else none else none else lp (Int×(List Nat×List (Option (List Int)))×PUnit) (List (List Int)×Int×PUnit) (fun (again:Int×(List Nat×List (Option (List Int)))×PUnit->Option (List (List Int)×Int×PUnit)) (x:Int×(List Nat×List (Option (List Int))) × PUnit)=>bif decide (x.1<(↑x0.2.length:Int)) then bif inB x.1 x0.2.length then lp (Int×(List Nat×List (Option (List Int)))×PUnit) (List (List Int)×Int × PUnit) (fun (again_1:Int×(List Nat×List (Option (List Int)))×PUnit->Option (List (List Int)×Int×PUnit)) (x_1:Int×(List Nat×List (Option (List Int)))×PUnit) =>
 let v10:Int:=IntKind.wrap .i64 (x_1.1+1);
 let v11:(List Nat×List (Option (List Int)))×PUnit:=(x_1.2.1,PUnit.unit);
 let v12:ByteArray×Int×Int×Int:=List.getD (x0.2.getD x.1.toNat ({ data:={ toList:=[] } },[],false)).2.1 x_1.1.toNat ({ data:={ toList:=[] } },0,0,0);bif decide (x_1.1<(↑(List.length (x0.2.getD x.1.toNat ({ data:={ toList:=[] } },[],false)).2.1):Int)) then bif inB x_1.1 (List.length (x0.2.getD x.1.toNat ({ data:={ toList:=[] } },[],false)).2.1) then aa (ce x0 v12.1) fun (t:Int)=>bif decide (t>=(0 : Int)) then bif inB t x_1.2.1.1.length then bif Nat.ble (Nat.succ t.toNat) x_1.2.1.1.length then bif inB x.1 (List.length (ah x_1.2.1.2 (x_1.2.1.1.getD t.toNat 0))) then bif Nat.ble (Nat.succ x.1.toNat) (List.length (ah x_1.2.1.2 (x_1.2.1.1.getD t.toNat (0 : Nat)))) then bif inB x.1 (List.length (ah x_1.2.1.2 (x_1.2.1.1.getD t.toNat 0))) then bif Nat.ble (Nat.succ x.1.toNat) (List.length (ah x_1.2.1.2 (x_1.2.1.1.getD t.toNat 0))) then again_1 (v10,(x_1.2.1.1,x_1.2.1.2.set (x_1.2.1.1.getD t.toNat 0) (some (List.set (ah x_1.2.1.2 (x_1.2.1.1.getD t.toNat 0)) x.1.toNat (IntKind.wrap .i64 (List.getD (ah x_1.2.1.2 (x_1.2.1.1.getD t.toNat 0)) x.1.toNat 0+v12.2.1))))),PUnit.unit) else none else none else none else none else none else none else again_1 (v10,v11) else none else again (IntKind.wrap .i64 (x.1+1),v11)) (0,x.2.1,PUnit.unit) else none else bif List.all x.2.1.1 fun (x_1:Nat)=>eM x.2.1.2 x_1 then some (List.map (fun (x_1:Nat)=>ah x.2.1.2 x_1) x.2.1.1,0,PUnit.unit) else none) (0,x.2.1,PUnit.unit)) (0, (Nat.brecOn (motive:=fun (x:Nat)=>Nat->List Nat) (Int.toNat (↑x0.1.length:Int)) (fun (x:Nat) (f:Nat.below (motive:=fun (x:Nat)=>Nat->List (T ref)) x) (x_1:Nat)=>(match (motive:=(x:Nat)->Nat->Nat.below (motive:=fun (x:Nat)=>Nat->List (T ref)) x->List Nat) x,x_1 with | 0,x=>fun (_:PUnit)=>[] | Nat.succ n,k=>fun (x:(Nat->List Nat) ×' Nat.rec PUnit (fun (n:Nat) (n_ih:Type)=>(fun (x:Nat)=>Nat->List (T ref)) n ×' n_ih) n)=>(k+0) ::x.1 (k+1)) f) 0,List.replicate (Int.toNat (↑x0.1.length:Int)) (some [])),PUnit.unit) else none
def ct (x0:(List (ByteArray×Int))×List (ByteArray×(List (ByteArray×Int×Int×Int))×Bool)):Option ((List (List Int))×Int×Unit):=nC lpK jnK ce aI x0
abbrev t87:=((List (ByteArray×Int))×List (ByteArray×(List (ByteArray×Int×Int×Int))×Bool))->Option ((List (List Int))×Int×Unit)
def k87 (ct:t87):Ctr:=⟨[T25],[],[],.tup [(.sl (.sl i64)),i64],fun x _ _=>ct x.1⟩
def c87:Ctr:=k87 ct
theorem e87 (lp:Lp) (jn:Jn) (ce:JY) (aI:t59):∀(x:TsS c87.as) (F:TsF c87.fs) (y:TsS c87.cs),nC lp jn ce aI x.1=cn lp jn (cx [(59,k59 aI),(131,QV ce)] [(134,bJ)]) ao 4 87 f87 c87 x F y:=fun x F y=>by kernel_rfl
theorem VP:c87.ok prog 87:=Ctr.of_den (au (ai (ai (bV) (by kernel_rfl) Qn) (by kernel_rfl) Nn)) aW (hl:=ao) (d:=4) func87 rfl (by decide) (e87 lpK jnK ce aI)
def jD (lp:Lp) (_:Jn) (aI:t59) (x0:(List (ByteArray×Int))×List (ByteArray×(List (ByteArray×Int×Int×Int))×Bool)):Option ((List Int)×Int×Unit) :=
 aa (aI x0) fun (t:Bool)=>bif !t then some ([],1,PUnit.unit) else lp (List Int×Int×PUnit) (List Int×Int×PUnit) (fun (again:List Int×Int×PUnit -> Option (List Int×Int×PUnit)) (x:List Int×Int×PUnit)=>bif decide (x.2.1<(↑x0.1.length:Int)) then bif inB x.2.1 x0.1.length then bif dZ (List.length x.1+1) 8 then again (x.1++[(x0.1.getD x.2.1.toNat ({ data:={ toList:=[] } },0)).2],IntKind.wrap .i64 (x.2.1+1),PUnit.unit) else none else none else some (x.1,0,PUnit.unit)) ([],0,PUnit.unit)
def cN (x0:(List (ByteArray×Int))×List (ByteArray×(List (ByteArray×Int×Int×Int))×Bool)):Option ((List Int)×Int×Unit):=jD lpK jnK aI x0
abbrev t88:=((List (ByteArray×Int))×List (ByteArray×(List (ByteArray×Int×Int×Int))×Bool))->Option ((List Int)×Int×Unit)
def k88 (cN:t88):Ctr:=⟨[T25],[],[],.tup [(.sl i64),i64],fun x _ _=>cN x.1⟩
def c88:Ctr:=k88 cN
theorem e88 (lp:Lp) (jn:Jn) (aI:t59):∀(x:TsS c88.as) (F:TsF c88.fs) (y:TsS c88.cs),jD lp jn aI x.1=cn lp jn (cx [(59,k59 aI)] [(134,bJ)]) ao 4 88 f88 c88 x F y:=fun x F y=>by kernel_rfl
theorem Uq:c88.ok prog 88:=Ctr.of_den (au (ai (bV) (by kernel_rfl) Nn)) aW (hl:=ao) (d:=4) func88 rfl (by decide) (e88 lpK jnK aI)
def lB (lp:Lp) (_:Jn) (ct:t87) (cN:t88) (x0:(List (ByteArray×Int))×List (ByteArray×(List (ByteArray×Int×Int×Int))×Bool)) (x1:List Int):Option (((List Int)×List ((List Int)×Int×Int))×Int×Unit) :=
 aa (ct x0) fun (t:List (List Int)×Int×PUnit)=>bif !decide (t.2.1=0) then some (([],[]),t.2.1,PUnit.unit) else aa (cN x0) fun (t_1 : List Int×Int×PUnit)=>bif !decide (t_1.2.1=0) then some (([],[]),t_1.2.1,PUnit.unit) else lp (Int×List Int×List (List Int×Int×Int)×PUnit) ((List Int×List (List Int×Int×Int))×Int×PUnit) (fun (again:Int×List Int×List (List Int×Int×Int)×PUnit->Option ((List Int×List (List Int×Int×Int))×Int×PUnit)) (x:Int×List Int×List (List Int×Int×Int)×PUnit)=>bif decide (x.1<(↑t.1.length:Int)) then bif inB x.1 t.1.length then bif inB x.1 t_1.1.length then bif dZ (List.length x.2.2.1+1) 40 then again (IntKind.wrap .i64 (x.1+1),x.2.1,x.2.2.1++[(t.1.getD x.1.toNat [],3,t_1.1.getD x.1.toNat 0)],PUnit.unit) else none else none else none else some ((x.2.1,x.2.2.1),0, PUnit.unit)) (0,x1,[],PUnit.unit)
def cJ (x0:(List (ByteArray×Int))×List (ByteArray×(List (ByteArray×Int×Int×Int))×Bool)) (x1:List Int):Option (((List Int)×List ((List Int)×Int×Int))×Int×Unit):=lB lpK jnK ct cN x0 x1
abbrev t45:=((List (ByteArray×Int))×List (ByteArray×(List (ByteArray×Int×Int×Int))×Bool))->(List Int)->Option (((List Int)×List ((List Int)×Int×Int))×Int×Unit)
def k45 (cJ:t45):Ctr:=⟨[T25,(.sl i64)],[],[],.tup [T32,i64],fun x _ _=>cJ x.1 x.2.1⟩
def c45:Ctr:=k45 cJ
theorem e45 (lp:Lp) (jn:Jn) (ct:t87) (cN:t88):∀(x:TsS c45.as) (F:TsF c45.fs) (y:TsS c45.cs),lB lp jn ct cN x.1 x.2.1=cn lp jn (cx [(88,k88 cN),(87,k87 ct)] [(134,bJ)]) ao 4 45 f45 c45 x F y:=fun x F y=>by kernel_rfl
theorem Tu:c45.ok prog 45:=Ctr.of_den (au (ai (ai (bV) (by kernel_rfl) VP) (by kernel_rfl) Uq)) aW (hl:=ao) (d:=4) func45 rfl (by decide) (e45 lpK jnK ct cN)
def ox (_:Lp) (_:Jn) (x0:Int) (x1:Int):Option (Int×Int×Unit) :=
 
 let v4:Int:=2 ^ 32;
 let v5:Int:=Int.fdiv x0 v4;
 let v6:Int:=Int.fdiv x1 v4;
 let v7:Bool:=decide ((0:Int)<=32);
 let v8:Int:=IntKind.wrap .u64 (↑(Nat.land (Int.toNat (x1 % Int.ofNat 18446744073709551616)) (Int.toNat (4294967295 % Int.ofNat 18446744073709551616))) : Int);
 let v9:Int:=IntKind.wrap .u64 (↑(Nat.land (Int.toNat (x0 % Int.ofNat 18446744073709551616)) (Int.toNat (4294967295 % Int.ofNat 18446744073709551616))) : Int);
 let v10:Int:=IntKind.wrap .u64 (IntKind.wrap .u64 (v5*v8)+Int.fdiv (IntKind.wrap .u64 (v9*v8)) v4);bif v7 then bif v7 then bif v7 then bif v7 then bif v7 then some (IntKind.wrap .u64 (IntKind.wrap .u64 (IntKind.wrap .u64 (v5*v6)+Int.fdiv v10 v4)+Int.fdiv (IntKind.wrap .u64 (IntKind.wrap .u64 (↑(Nat.land (Int.toNat (v10 % Int.ofNat 18446744073709551616)) (Int.toNat (4294967295 % Int.ofNat 18446744073709551616))):Int)+IntKind.wrap .u64 (v9 * v6))) v4),IntKind.wrap .u64 (x0*x1),PUnit.unit) else none else none else none else none else none
def bW (x0:Int) (x1:Int):Option (Int×Int×Unit):=ox lpK jnK x0 x1
abbrev EY:=(Int)->(Int)->Option (Int×Int×Unit)
def OX (bW:EY):Ctr:=⟨[(.int .u64),(.int .u64)],[],[],.tup [(.int .u64),(.int .u64)],fun x _ _=>bW x.1 x.2.1⟩
def Lo:Ctr:=OX bW
theorem Ul (lp:Lp) (jn:Jn):∀(x:TsS Lo.as) (F:TsF Lo.fs) (y:TsS Lo.cs),ox lp jn x.1 x.2.1=cn lp jn (cx [] [(134,bJ)]) ao 4 122 f122 Lo x F y:=fun x F y=>by kernel_rfl
theorem KR:Lo.ok prog 122:=Ctr.of_den (au (bV)) aW (hl:=ao) (d:=4) func122 rfl (by decide) (Ul lpK jnK)
def uf (_:Lp) (_:Jn) (x0:Int) (x1:Int):Option (Int×Int×Unit) :=
 
 let v4:Int:=IntKind.wrap .u64 (IntKind.wrap .u64 x0*IntKind.wrap .u64 x1);bif decide ((0:Int)<=32) then some (IntKind.wrap IntKind.u32 (Int.fdiv v4 (2 ^ 32)),IntKind.wrap IntKind.u32 v4,PUnit.unit) else none
def iv (x0:Int) (x1:Int):Option (Int×Int×Unit):=uf lpK jnK x0 x1
def T6 (iv:(Int)->(Int)->Option (Int×Int×Unit)):Ctr:=⟨[(.int .u32),(.int .u32)],[],[],.tup [(.int .u32),(.int .u32)],fun x _ _=>iv x.1 x.2.1⟩
def KW:Ctr:=T6 iv
theorem VD (lp:Lp) (jn:Jn):∀(x:TsS KW.as) (F:TsF KW.fs) (y:TsS KW.cs),uf lp jn x.1 x.2.1=cn lp jn (cx [] [(134,bJ)]) ao 4 137 f137 KW x F y:=fun x F y=>by kernel_rfl
theorem S6:KW.ok prog 137:=Ctr.of_den (au (bV)) aW (hl:=ao) (d:=4) func137 rfl (by decide) (VD lpK jnK)
def tl (_:Lp) (_:Jn) (bW:EY) (_:(Int)->(Int)->Option (Int×Int×Unit)) (x0:Int) (x1:Int):Option (Int×Int×Unit) :=
 aa (bW x0 x1) fun (t:Int×Int×PUnit)=>some (t.1,t.2.1,PUnit.unit)
def gS (x0:Int) (x1:Int):Option (Int×Int×Unit):=tl lpK jnK bW iv x0 x1
abbrev t90:=(Int)->(Int)->Option (Int×Int×Unit)
def k90 (gS:t90):Ctr:=⟨[(.int .u64),(.int .u64)],[],[],.tup [(.int .u64),(.int .u64)],fun x _ _=>gS x.1 x.2.1⟩
def c90:Ctr:=k90 gS
theorem e90 (lp:Lp) (jn:Jn) (bW:EY) (iv:(Int)->(Int)->Option (Int×Int×Unit)):∀(x:TsS c90.as) (F:TsF c90.fs) (y:TsS c90.cs),tl lp jn bW iv x.1 x.2.1=cn lp jn (cx [(137,T6 iv),(122,OX bW)] [(134,bJ)]) ao 4 90 f90 c90 x F y:=fun x F y=>by kernel_rfl
theorem VF:c90.ok prog 90:=Ctr.of_den (au (ai (ai (bV) (by kernel_rfl) KR) (by kernel_rfl) S6)) aW (hl:=ao) (d:=4) func90 rfl (by decide) (e90 lpK jnK bW iv)
def jg (lp:Lp) (jn:Jn) (gS:t90) (x0:List Int) (x1:Int):Option (List Int) :=
 jn PUnit (List Int) (fun (_:PUnit)=>aa (gS (IntKind.wrap .u64 (↑x0.length:Int)) (IntKind.wrap .u64 x1)) fun (t:Int×Int×PUnit) =>
 let v6:List Int:=List.take (Int.toNat (IntKind.wrap .i64 t.2.1)) x0;
 let v7:List Int:=List.replicate (Int.toNat (IntKind.wrap .i64 t.2.1)) 0;
 let v8:Bool:=decide (t.1>0);
 let v9:Bool:=!v8;bif !v9||v9 then bif v8||v9 then jn PUnit (List Int) (fun (_:PUnit)=>bif decide (0<=IntKind.wrap .i64 t.2.1)&&dZ (Int.toNat (IntKind.wrap .i64 t.2.1)) 8 then lp (Int×List Int×PUnit) (List Int) (fun (again:Int×List Int×PUnit->Option (List Int)) (x:Int×List Int×PUnit) =>
 let v13:List Int:=List.take x.1.toNat x.2.1;
 let v14:List Int:=List.take (Int.toNat (↑x.2.1.length:Int) - Int.toNat x.1) (List.drop 0 v13);bif decide (x.1<(↑x.2.1.length:Int)) then bif slB x.1 (↑x.2.1.length:Int) x.2.1.length then bif slB 0 x.1 x.2.1.length then bif Nat.ble x.1.toNat (Int.toNat (↑x.2.1.length:Int))&&(Nat.ble (Int.toNat (↑x.2.1.length:Int)) x.2.1.length&&Nat.ble x.1.toNat x.2.1.length) then again (IntKind.wrap IntKind.i64 (x.1+(↑v14.length:Int)),v13++v14++List.drop (Int.toNat x.1+List.length v14) x.2.1,PUnit.unit) else none else none else none else some x.2.1) ((↑v6.length:Int),List.take 0 v7++v6++List.drop (0+List.length v6) v7,PUnit.unit) else none) fun (j:PUnit->Option (List Int))=>bif bif v8 then true else decide (t.2.1>9223372036854775807) then none else j PUnit.unit else none else none) fun (j:PUnit->Option (List Int))=>bif decide (x1<0) then none else j PUnit.unit
def cH (x0:List Int) (x1:Int):Option (List Int):=jg lpK jnK gS x0 x1
abbrev t46:=(List Int)->(Int)->Option (List Int)
def k46 (cH:t46):Ctr:=⟨[(.sl i64),i64],[],[],.one (.sl i64),fun x _ _=>cH x.1 x.2.1⟩
def c46:Ctr:=k46 cH
theorem e46 (lp:Lp) (jn:Jn) (gS:t90):∀(x:TsS c46.as) (F:TsF c46.fs) (y:TsS c46.cs),jg lp jn gS x.1 x.2.1=cn lp jn (cx [(90,k90 gS)] [(134,bJ)]) ao 4 46 f46 c46 x F y:=fun x F y=>by kernel_rfl
theorem Vy:c46.ok prog 46:=Ctr.of_den (au (ai (bV) (by kernel_rfl) VF)) aW (hl:=ao) (d:=4) func46 rfl (by decide) (e46 lpK jnK gS)
def jd (_:Lp) (_:Jn) (cJ:t45) (cH:t46) (x0:(List (ByteArray×Int))×List (ByteArray×(List (ByteArray×Int×Int×Int))×Bool)):Option (((List Int)×List ((List Int)×Int×Int))×Int×Unit) :=
 aa (cH [1] (↑x0.2.length:Int)) fun (t:List Int)=>aa (cJ x0 t) fun (t:(List Int×List (List Int×Int×Int))×Int×PUnit)=>some (t.1,t.2.1,PUnit.unit)
def aU (x0:(List (ByteArray×Int))×List (ByteArray×(List (ByteArray×Int×Int×Int))×Bool)):Option (((List Int)×List ((List Int)×Int×Int))×Int×Unit):=jd lpK jnK cJ cH x0
abbrev t11:=((List (ByteArray×Int))×List (ByteArray×(List (ByteArray×Int×Int×Int))×Bool))->Option (((List Int)×List ((List Int)×Int×Int))×Int×Unit)
def k11 (aU:t11):Ctr:=⟨[T25],[],[],.tup [T32,i64],fun x _ _=>aU x.1⟩
def c11:Ctr:=k11 aU
theorem e11 (lp:Lp) (jn:Jn) (cJ:t45) (cH:t46):∀(x:TsS c11.as) (F:TsF c11.fs) (y:TsS c11.cs),jd lp jn cJ cH x.1=cn lp jn (cx [(46,k46 cH),(45,k45 cJ)] [(134,bJ)]) ao 4 11 f11 c11 x F y:=fun x F y=>by kernel_rfl
theorem T2:c11.ok prog 11:=Ctr.of_den (au (ai (ai (bV) (by kernel_rfl) Tu) (by kernel_rfl) Vy)) aW (hl:=ao) (d:=4) func11 rfl (by decide) (e11 lpK jnK cJ cH)
def iR (_:Lp) (_:Jn) (x0:Int) (y0:Int):Option Bool :=
 
 let v4:Bool:=decide (x0<IntKind.wrap .i64 (0 - y0));
 let v5:Bool:=!v4;
 let v6:Bool:=!v5||v5;bif v6&&v6 then bif v4||v5 then some (bif v4 then true else decide (x0>y0)) else none else none
def ci (x0:Int) (y0:Int):Option Bool:=iR lpK jnK x0 y0
abbrev Tx:=(Int)->(Int)->Option (Bool)
def KO:Ctr:=⟨[i64],[],[i64],.one .bool,fun x _ y=>ci x.1 y.1⟩
theorem Vf (lp:Lp) (jn:Jn):∀(x:TsS KO.as) (F:TsF KO.fs) (y:TsS KO.cs),iR lp jn x.1 y.1=cn lp jn (cx [] [(134,bJ)]) ao 4 139 f139 KO x F y:=fun x F y=>by kernel_rfl
theorem Sc:KO.ok prog 139:=Ctr.of_den (au (bV)) aW (hl:=ao) (d:=4) func139 rfl (by decide) (Vf lpK jnK)
def jL (_:Lp) (_:Jn) (ci:Tx) (x0:Int):Option ((Int×Unit)->Option Bool) :=
 some fun (x:Int×PUnit)=>ci x.1 x0
def di (x0:Int):Option ((Int×Unit)->Option Bool):=jL lpK jnK ci x0
abbrev TP:=(Int)->Option ((Int×Unit)->Option Bool)
def RQ:FCtr:=⟨[i64],[i64],.bool,fun x=>di x.1⟩
theorem Vs (lp:Lp) (jn:Jn) (ci:Tx):∀x:TsS RQ.as,jL lp jn ci x.1=QT lp jn (cx [(139,⟨[i64],[],[i64],.one .bool,fun x _ y=>ci x.1 y.1⟩)] [(134,bJ)]) ao 4 138 f138 RQ x:=fun x=>by kernel_rfl
theorem QP:RQ.ok prog 138:=FCtr.of_den (au (ai (bV) (by kernel_rfl) Sc)) aW (hl:=ao) (d:=4) func138 rfl (by decide) (Vs lpK jnK ci)
def gK (lp:Lp) (_:Jn) (x0:List Int) (f0:((Int×Unit)->Option Bool)):Option Int :=
 lp (Int×PUnit) Int (fun (again:Int×PUnit->Option Int) (x:Int×PUnit)=>bif decide (x.1<(↑x0.length:Int)) then bif inB x.1 x0.length then aa (f0 (x0.getD x.1.toNat 0,PUnit.unit)) fun (t:Bool)=>bif t then some x.1 else again (IntKind.wrap .i64 (x.1+1),PUnit.unit) else none else some (-1)) (0,PUnit.unit)
def bK (x0:List Int) (f0:((Int×Unit)->Option Bool)):Option Int:=gK lpK jnK x0 f0
abbrev Re:=(List Int)->(((Int×Unit)->Option Bool))->Option (Int)
def R8 (bK:Re):Ctr:=⟨[(.sl i64)],[([i64],.bool)],[],.one i64,fun x F _=>bK x.1 F.1⟩
def M8:Ctr:=R8 bK
theorem VR (lp:Lp) (jn:Jn):∀(x:TsS M8.as) (F:TsF M8.fs) (y:TsS M8.cs),gK lp jn x.1 F.1=cn lp jn (cx [] [(134,bJ)]) ao 4 173 f173 M8 x F y:=fun x F y=>by kernel_rfl
theorem T3:M8.ok prog 173:=Ctr.of_den (au (bV)) aW (hl:=ao) (d:=4) func173 rfl (by decide) (VR lpK jnK)
def fL (_:Lp) (_:Jn) (bK:Re) (x0:List Int) (f0:((Int×Unit)->Option Bool)):Option Bool :=
 aa (bK x0 f0) fun (t:Int)=>some (decide (t>=0))
def aY (x0:List Int) (f0:((Int×Unit)->Option Bool)):Option Bool:=fL lpK jnK bK x0 f0
abbrev Rz:=(List Int)->(((Int×Unit)->Option Bool))->Option (Bool)
def R4 (aY:Rz):Ctr:=⟨[(.sl i64)],[([i64],.bool)],[],.one .bool,fun x F _=>aY x.1 F.1⟩
def KT:Ctr:=R4 aY
theorem UE (lp:Lp) (jn:Jn) (bK:Re):∀(x:TsS KT.as) (F:TsF KT.fs) (y:TsS KT.cs),fL lp jn bK x.1 F.1=cn lp jn (cx [(173,R8 bK)] [(134,bJ)]) ao 4 140 f140 KT x F y:=fun x F y=>by kernel_rfl
theorem Tg:KT.ok prog 140:=Ctr.of_den (au (ai (bV) (by kernel_rfl) T3)) aW (hl:=ao) (d:=4) func140 rfl (by decide) (UE lpK jnK bK)
def jI (lp:Lp) (_:Jn) (x0:List ((List Int)×Int×Int)) (f0:((((List Int)×Int×Int)×Unit)->Option Bool)):Option Int :=
 lp (Int×PUnit) Int (fun (again:Int×PUnit->Option Int) (x:Int×PUnit)=>bif decide (x.1<(↑x0.length:Int)) then bif inB x.1 x0.length then aa (f0 (x0.getD x.1.toNat ([],0,0),PUnit.unit)) fun (t:Bool)=>bif t then some x.1 else again (IntKind.wrap .i64 (x.1+1),PUnit.unit) else none else some (-1)) (0,PUnit.unit)
def cA (x0:List ((List Int)×Int×Int)) (f0:((((List Int)×Int×Int)×Unit)->Option Bool)):Option Int:=jI lpK jnK x0 f0
abbrev Rh:=(List ((List Int)×Int×Int))->(((((List Int)×Int×Int)×Unit)->Option Bool))->Option (Int)
def TE (cA:Rh):Ctr:=⟨[(.sl T86)],[([T86],.bool)],[],.one i64,fun x F _=>cA x.1 F.1⟩
def Ml:Ctr:=TE cA
theorem Ve (lp:Lp) (jn:Jn):∀(x:TsS Ml.as) (F:TsF Ml.fs) (y:TsS Ml.cs),jI lp jn x.1 F.1=cn lp jn (cx [] [(134,bJ)]) ao 4 174 f174 Ml x F y:=fun x F y=>by kernel_rfl
theorem T7:Ml.ok prog 174:=Ctr.of_den (au (bV)) aW (hl:=ao) (d:=4) func174 rfl (by decide) (Ve lpK jnK)
def iO (_:Lp) (_:Jn) (cA:Rh) (x0:List ((List Int)×Int×Int)) (f0:((((List Int)×Int×Int)×Unit)->Option Bool)):Option Bool :=
 aa (cA x0 f0) fun (t:Int)=>some (decide (t>=0))
def cC (x0:List ((List Int)×Int×Int)) (f0:((((List Int)×Int×Int)×Unit)->Option Bool)):Option Bool:=iO lpK jnK cA x0 f0
def Sj (cC:(List ((List Int)×Int×Int))->(((((List Int)×Int×Int)×Unit)->Option Bool))->Option (Bool)):Ctr:=⟨[(.sl T86)],[([T86],.bool)],[],.one .bool,fun x F _=>cC x.1 F.1⟩
def Ji:Ctr:=Sj cC
theorem Vu (lp:Lp) (jn:Jn) (cA:Rh):∀(x:TsS Ji.as) (F:TsF Ji.fs) (y:TsS Ji.cs),iO lp jn cA x.1 F.1=cn lp jn (cx [(174,TE cA)] [(134,bJ)]) ao 4 141 f141 Ji x F y:=fun x F y=>by kernel_rfl
theorem SH:Ji.ok prog 141:=Ctr.of_den (au (ai (bV) (by kernel_rfl) T7)) aW (hl:=ao) (d:=4) func141 rfl (by decide) (Vu lpK jnK cA)
def lh (lp:Lp) (_:Jn) (aY:Rz) (_:(List ((List Int)×Int×Int))->(((((List Int)×Int×Int)×Unit)->Option Bool))->Option (Bool)) (di:TP) (x0:(List Int)×List ((List Int)×Int×Int)):Option Bool :=
 
 let v3:Bool:=decide ((↑x0.1.length:Int)<1);
 let v4:Bool:=!v3;
 let v5:Bool:=bif v3 then true else decide ((↑x0.1.length:Int)>12);
 let v6:Bool:=!v4||v4;
 let v7:Bool:=!v5;
 let v8:Bool:=bif v5 then true else decide ((↑x0.2.length:Int)>6);
 let v9:Bool:=!v8;
 let v10:Bool:=!v7||v7;
 let v11:Bool:=!v9||v9;bif v6 then bif v6 then bif v6 then bif v3||v4 then bif v10 then bif v10 then bif v10 then bif v5||v7 then bif v11 then bif v11 then aa (bif v9 then di 1048576 else some fun (_:Int×PUnit)=>none) fun (t:Int×PUnit->Option Bool)=>bif v11&&v11 then aa (bif v9 then aY x0.1 t else some false) fun (t:Bool)=>bif v8||v9 then bif bif v8 then true else t then some false else lp (Int×PUnit) Bool (fun (again:Int×PUnit->Option Bool) (x:Int×PUnit) =>
 let v16:List Int×Int×Int:=x0.2.getD x.1.toNat ([],0,0);
 let v17:Bool:=decide (v16.2.1<1);
 let v18:Bool:=decide (v16.2.1>3);
 let v19:Bool:=!decide ((↑v16.1.length:Int)=(↑x0.1.length:Int));
 let v20:Bool:=!v19;
 let v21:Bool:=!v20||v20;bif decide (x.1<(↑x0.2.length:Int)) then bif inB x.1 x0.2.length then bif v21 then bif v21 then aa (bif v20 then di 1048576 else some fun (_:Int×PUnit)=>none) fun (t:Int×PUnit->Option Bool)=>bif v21&&v21 then aa (bif v20 then aY v16.1 t else some false) fun (t:Bool) =>
 let v24:Bool:=bif v19 then true else t;
 let v25:Bool:=!v24;
 let v26:Bool:=bif v24 then true else v17;
 let v27:Bool:=!v26;
 let v28:Bool:=bif v26 then true else v18;
 let v29:Bool:=!v25||v25;
 let v30:Bool:=!v28;
 let v31:Bool:=!v27||v27;
 let v32:Bool:=!v30||v30;bif v19||v20 then bif v29 then bif v29 then bif v24||v25 then bif v31 then bif v31 then bif v26||v27 then bif v32 then aa (bif v30 then di 1073741824 else some fun (_:Int×PUnit)=>none) fun (t:Int×PUnit->Option Bool)=>bif v32 then bif v32&&v32 then aa (bif v30 then t (v16.2.2, PUnit.unit) else some false) fun (t:Bool)=>bif v28||v30 then bif bif v28 then true else t then some !decide (x.1>=0) else again (IntKind.wrap .i64 (x.1+(1 : Int)),PUnit.unit) else none else none else none else none else none else none else none else none else none else none else none else none else none else none else none else some !decide ((-1:Int)>=0)) (0,PUnit.unit) else none else none else none else none else none else none else none else none else none else none else none else none
def bD (x0:(List Int)×List ((List Int)×Int×Int)):Option Bool:=lh lpK jnK aY cC di x0
abbrev t91:=((List Int)×List ((List Int)×Int×Int))->Option (Bool)
def k91 (bD:t91):Ctr:=⟨[T32],[],[],.one .bool,fun x _ _=>bD x.1⟩
def c91:Ctr:=k91 bD
theorem e91 (lp:Lp) (jn:Jn) (aY:Rz) (cC:(List ((List Int)×Int×Int))->(((((List Int)×Int×Int)×Unit)->Option Bool))->Option (Bool)) (di:TP):∀(x:TsS c91.as) (F:TsF c91.fs) (y:TsS c91.cs),lh lp jn aY cC di x.1=cn lp jn (Da FY Fx (TV [(138,⟨[i64],[i64],.bool,fun x=>di x.1⟩)] (ll prog shs yP its [(141,Sj cC),(140,R4 aY)] [(134,bJ)]))) ao 4 91 f91 c91 x F y:=fun x F y=>by kernel_rfl
theorem R3:c91.ok prog 91:=Ctr.of_den (au (Pq (ai (ai (bV) (by kernel_rfl) Tg) (by kernel_rfl) SH) (HM (by kernel_rfl) QP (KQ)))) aW (hl:=ao) (d:=4) func91 rfl (by decide) (e91 lpK jnK aY cC di)
def ii (lp:Lp) (_:Jn) (x0:List (Int×Int)) (f0:(((Int×Int)×Unit)->Option Bool)):Option Int :=
 lp (Int×PUnit) Int (fun (again:Int×PUnit->Option Int) (x:Int×PUnit)=>bif decide (x.1<(↑x0.length:Int)) then bif inB x.1 x0.length then aa (f0 (x0.getD x.1.toNat (0,0),PUnit.unit)) fun (t:Bool)=>bif t then some x.1 else again (IntKind.wrap .i64 (x.1+1),PUnit.unit) else none else some (-1)) (0,PUnit.unit)
def bS (x0:List (Int×Int)) (f0:(((Int×Int)×Unit)->Option Bool)):Option Int:=ii lpK jnK x0 f0
abbrev t74:=(List (Int×Int))->((((Int×Int)×Unit)->Option Bool))->Option (Int)
def k74 (bS:t74):Ctr:=⟨[(.sl T49)],[([T49],.bool)],[],.one i64,fun x F _=>bS x.1 F.1⟩
def c74:Ctr:=k74 bS
theorem e74 (lp:Lp) (jn:Jn):∀(x:TsS c74.as) (F:TsF c74.fs) (y:TsS c74.cs),ii lp jn x.1 F.1=cn lp jn (cx [] [(134,bJ)]) ao 4 74 f74 c74 x F y:=fun x F y=>by kernel_rfl
theorem Vg:c74.ok prog 74:=Ctr.of_den (au (bV)) aW (hl:=ao) (d:=4) func74 rfl (by decide) (e74 lpK jnK)
def gl (_:Lp) (_:Jn) (bS:t74) (x0:List (Int×Int)) (f0:(((Int×Int)×Unit)->Option Bool)):Option Bool :=
 aa (bS x0 f0) fun (t:Int)=>some (decide (t>=0))
def aj (x0:List (Int×Int)) (f0:(((Int×Int)×Unit)->Option Bool)):Option Bool:=gl lpK jnK bS x0 f0
abbrev t32:=(List (Int×Int))->((((Int×Int)×Unit)->Option Bool))->Option (Bool)
def k32 (aj:t32):Ctr:=⟨[(.sl T49)],[([T49],.bool)],[],.one .bool,fun x F _=>aj x.1 F.1⟩
def c32:Ctr:=k32 aj
theorem e32 (lp:Lp) (jn:Jn) (bS:t74):∀(x:TsS c32.as) (F:TsF c32.fs) (y:TsS c32.cs),gl lp jn bS x.1 F.1=cn lp jn (cx [(74,k74 bS)] [(134,bJ)]) ao 4 32 f32 c32 x F y:=fun x F y=>by kernel_rfl
theorem QS:c32.ok prog 32:=Ctr.of_den (au (ai (bV) (by kernel_rfl) Vg)) aW (hl:=ao) (d:=4) func32 rfl (by decide) (e32 lpK jnK bS)
def mQ (_:Lp) (_:Jn) (aw:t72) (x0:Int×Int):Option Bool :=
 aa (aw x0) fun (t:Bool)=>some !t
def eG (x0:Int×Int):Option Bool:=mQ lpK jnK aw x0
abbrev TA:=(Int×Int)->Option (Bool)
def Lb:Ctr:=⟨[T49],[],[],.one .bool,fun x _ _=>eG x.1⟩
theorem Ub (lp:Lp) (jn:Jn) (aw:t72):∀(x:TsS Lb.as) (F:TsF Lb.fs) (y:TsS Lb.cs),mQ lp jn aw x.1=cn lp jn (cx [(72,k72 aw)] [(134,bJ)]) ao 4 143 f143 Lb x F y:=fun x F y=>by kernel_rfl
theorem Sb:Lb.ok prog 143:=Ctr.of_den (au (ai (bV) (by kernel_rfl) H2)) aW (hl:=ao) (d:=4) func143 rfl (by decide) (Ub lpK jnK aw)
def pD (_:Lp) (_:Jn) (aj:t32) (eG:TA) (x0:List (Int×Int)):Option Bool :=
 aa (aj x0 fun (x:(Int×Int)×PUnit)=>eG x.1) fun (t:Bool)=>some !t
def fw (x0:List (Int×Int)):Option Bool:=pD lpK jnK aj eG x0
abbrev t92:=(List (Int×Int))->Option (Bool)
def c92:Ctr:=⟨[(.sl T49)],[],[],.one .bool,fun x _ _=>fw x.1⟩
theorem e92 (lp:Lp) (jn:Jn) (aj:t32) (eG:TA):∀(x:TsS c92.as) (F:TsF c92.fs) (y:TsS c92.cs),pD lp jn aj eG x.1=cn lp jn (cx [(143,⟨[T49],[],[],.one .bool,fun x _ _=>eG x.1⟩),(32,k32 aj)] [(134,bJ)]) ao 4 92 f92 c92 x F y:=fun x F y=>by kernel_rfl
theorem UJ:c92.ok prog 92:=Ctr.of_den (au (ai (ai (bV) (by kernel_rfl) QS) (by kernel_rfl) Sb)) aW (hl:=ao) (d:=4) func92 rfl (by decide) (e92 lpK jnK aj eG)
def lk (_:Lp) (_:Jn) (bW:EY) (x0:Int) (x1:Int):Option (Int×Int) :=
 aa (bW x0 x1) fun (t:Int×Int×PUnit)=>some (t.1,t.2.1)
def aP (x0:Int) (x1:Int):Option (Int×Int):=lk lpK jnK bW x0 x1
abbrev t76:=(Int)->(Int)->Option (Int×Int)
def k76 (aP:t76):Ctr:=⟨[(.int .u64),(.int .u64)],[],[],.one nq,fun x _ _=>aP x.1 x.2.1⟩
def c76:Ctr:=k76 aP
theorem e76 (lp:Lp) (jn:Jn) (bW:EY):∀(x:TsS c76.as) (F:TsF c76.fs) (y:TsS c76.cs),lk lp jn bW x.1 x.2.1=cn lp jn (cx [(122,OX bW)] [(134,bJ)]) ao 4 76 f76 c76 x F y:=fun x F y=>by kernel_rfl
theorem Rq:c76.ok prog 76:=Ctr.of_den (au (ai (bV) (by kernel_rfl) KR)) aW (hl:=ao) (d:=4) func76 rfl (by decide) (e76 lpK jnK bW)
def lG (_:Lp) (_:Jn) (x0:Int×Int) (x1:Int×Int):Option (Int×Int) :=
 bif decide ((0:Int)<=0)&&decide ((0:Int)<=1) then bif decide (0<=pN x0.2 x1.2 0)&&decide (pN x0.2 x1.2 0<=1) then some (yT x0.1 x1.1 (pN x0.2 x1.2 0),yT x0.2 x1.2 0) else none else none
def fH (x0:Int×Int) (x1:Int×Int):Option (Int×Int):=lG lpK jnK x0 x1
abbrev t78:=(Int×Int)->(Int×Int)->Option (Int×Int)
def c78:Ctr:=⟨[nq,nq],[],[],.one nq,fun x _ _=>fH x.1 x.2.1⟩
theorem e78 (lp:Lp) (jn:Jn):∀(x:TsS c78.as) (F:TsF c78.fs) (y:TsS c78.cs),lG lp jn x.1 x.2.1=cn lp jn (cx [] [(134,bJ)]) ao 4 78 f78 c78 x F y:=fun x F y=>by kernel_rfl
theorem UB:c78.ok prog 78:=Ctr.of_den (au (bV)) aW (hl:=ao) (d:=4) func78 rfl (by decide) (e78 lpK jnK)
def pa (_:Lp) (_:Jn) (x0:Int×Int) (x1:Int×Int):Option Bool :=
 
 let v4:Bool:=decide (x0.1=x1.1);
 let v5:Bool:=decide (x0.1<x1.1);
 let v6:Bool:=!v5;
 let v7:Bool:=!v6;
 let v8:Bool:=v6&&v4;
 let v9:Bool:=v7||v6;
 let v10:Bool:=!v8||v8;bif v9 then bif v9 then bif v9&&v9 then bif v9 then bif v10 then bif v10 then bif v10&&v10 then bif (v7||v9)&&(v7||(!v4||(v7||v8))) then bif v5 || v6 then some (bif v5 then true else bif v4 then decide (x0.2<x1.2) else false) else none else none else none else none else none else none else none else none else none
def cP (x0:Int×Int) (x1:Int×Int):Option Bool:=pa lpK jnK x0 x1
abbrev t79:=(Int×Int)->(Int×Int)->Option (Bool)
def k79 (cP:t79):Ctr:=⟨[nq,nq],[],[],.one .bool,fun x _ _=>cP x.1 x.2.1⟩
def c79:Ctr:=k79 cP
theorem e79 (lp:Lp) (jn:Jn):∀(x:TsS c79.as) (F:TsF c79.fs) (y:TsS c79.cs),pa lp jn x.1 x.2.1=cn lp jn (cx [] [(134,bJ)]) ao 4 79 f79 c79 x F y:=fun x F y=>by kernel_rfl
theorem S7:c79.ok prog 79:=Ctr.of_den (au (bV)) aW (hl:=ao) (d:=4) func79 rfl (by decide) (e79 lpK jnK)
def kF (_:Lp) (_:Jn) (x0:Int×Int) (x1:Int×Int):Option (Int×Int) :=
 bif decide ((0:Int)<=0)&&decide ((0:Int)<=1) then bif decide (0<=nJ x0.2 x1.2 0)&&decide (nJ x0.2 x1.2 0<=1) then some (uM x0.1 x1.1 (nJ x0.2 x1.2 0),uM x0.2 x1.2 0) else none else none
def eF (x0:Int×Int) (x1:Int×Int):Option (Int×Int):=kF lpK jnK x0 x1
abbrev t80:=(Int×Int)->(Int×Int)->Option (Int×Int)
def c80:Ctr:=⟨[nq,nq],[],[],.one nq,fun x _ _=>eF x.1 x.2.1⟩
theorem e80 (lp:Lp) (jn:Jn):∀(x:TsS c80.as) (F:TsF c80.fs) (y:TsS c80.cs),kF lp jn x.1 x.2.1=cn lp jn (cx [] [(134,bJ)]) ao 4 80 f80 c80 x F y:=fun x F y=>by kernel_rfl
theorem Ux:c80.ok prog 80:=Ctr.of_den (au (bV)) aW (hl:=ao) (d:=4) func80 rfl (by decide) (e80 lpK jnK)
def tY (_:Lp) (jn:Jn) (x0:Int):Option Int :=
 jn (Int×Int×PUnit) Int (fun (x:Int×Int×PUnit)=>jn (Int×Int×PUnit) Int (fun (x:Int×Int×PUnit) =>
 let v5:Int:=IntKind.wrap IntKind.u8 x.1;
 let v6:Int:=IntKind.wrap IntKind.u8 (Int.fdiv x.1 (2 ^ 8));bif decide (x.1>=256) then bif decide ((0:Int)<=8) then bif inB v6 256 then some (IntKind.wrap .i64 (IntKind.wrap .i64 (x.2.1+8)+IntKind.wrap .i64 (fi { data:=List.toArray (List.append (List.append [(0:UInt8),(1 : UInt8),(2:UInt8),(2:UInt8),(3:UInt8),(3:UInt8),(3:UInt8),(3:UInt8),(4:UInt8),(4:UInt8),(4:UInt8),(4:UInt8),(4:UInt8),(4:UInt8),(4:UInt8),(4 : UInt8),(5:UInt8),(5:UInt8),(5:UInt8),(5:UInt8),(5:UInt8),(5:UInt8),(5:UInt8),(5:UInt8),(5:UInt8),(5:UInt8),(5:UInt8),(5:UInt8),(5:UInt8),(5 : UInt8),(5:UInt8),(5:UInt8),(6:UInt8),(6:UInt8),(6:UInt8),(6:UInt8),(6:UInt8),(6:UInt8),(6:UInt8),(6:UInt8),(6:UInt8),(6:UInt8),(6:UInt8),(6 : UInt8),(6:UInt8),(6:UInt8),(6:UInt8),(6:UInt8),(6:UInt8),(6:UInt8),(6:UInt8),(6:UInt8),(6:UInt8),(6:UInt8),(6:UInt8),(6:UInt8),(6:UInt8),(6 : UInt8),(6:UInt8),(6:UInt8),(6:UInt8),(6:UInt8),(6:UInt8),(6:UInt8)] [(7:UInt8),(7:UInt8),(7:UInt8),(7:UInt8),(7:UInt8),(7:UInt8),(7:UInt8),(7 : UInt8),(7:UInt8),(7:UInt8),(7:UInt8),(7:UInt8),(7:UInt8),(7:UInt8),(7:UInt8),(7:UInt8),(7:UInt8),(7:UInt8),(7:UInt8),(7:UInt8),(7:UInt8),(7 : UInt8),(7:UInt8),(7:UInt8),(7:UInt8),(7:UInt8),(7:UInt8),(7:UInt8),(7:UInt8),(7:UInt8),(7:UInt8),(7:UInt8),(7:UInt8),(7:UInt8),(7:UInt8),(7 : UInt8),(7:UInt8),(7:UInt8),(7:UInt8),(7:UInt8),(7:UInt8),(7:UInt8),(7:UInt8),(7:UInt8),(7:UInt8),(7:UInt8),(7:UInt8),(7:UInt8),(7:UInt8),(7 : UInt8),(7:UInt8),(7:UInt8),(7:UInt8),(7:UInt8),(7:UInt8),(7:UInt8),(7:UInt8),(7:UInt8),(7:UInt8),(7:UInt8),(7:UInt8),(7:UInt8),(7:UInt8),(7 : UInt8)]) (List.append [(8:UInt8),(8:UInt8),(8:UInt8),(8:UInt8),(8:UInt8),(8:UInt8),(8:UInt8),(8:UInt8),(8:UInt8),(8:UInt8),(8:UInt8),(8:UInt8),(8 : UInt8),(8:UInt8),(8:UInt8),(8:UInt8),(8:UInt8),(8:UInt8),(8:UInt8),(8:UInt8),(8:UInt8),(8:UInt8),(8:UInt8),(8:UInt8),(8:UInt8),(8:UInt8),(8 : UInt8),(8:UInt8),(8:UInt8),(8:UInt8),(8:UInt8),(8:UInt8),(8:UInt8),(8:UInt8),(8:UInt8),(8:UInt8),(8:UInt8),(8:UInt8),(8:UInt8),(8:UInt8),(8 : UInt8),(8:UInt8),(8:UInt8),(8:UInt8),(8:UInt8),(8:UInt8),(8:UInt8),(8:UInt8),(8:UInt8),(8:UInt8),(8:UInt8),(8:UInt8),(8:UInt8),(8:UInt8),(8 : UInt8),(8:UInt8),(8:UInt8),(8:UInt8),(8:UInt8),(8:UInt8),(8:UInt8),(8:UInt8),(8:UInt8),(8:UInt8)] [(8:UInt8),(8:UInt8),(8:UInt8),(8:UInt8),(8 : UInt8),(8:UInt8),(8:UInt8),(8:UInt8),(8:UInt8),(8:UInt8),(8:UInt8),(8:UInt8),(8:UInt8),(8:UInt8),(8:UInt8),(8:UInt8),(8:UInt8),(8:UInt8),(8 : UInt8),(8:UInt8),(8:UInt8),(8:UInt8),(8:UInt8),(8:UInt8),(8:UInt8),(8:UInt8),(8:UInt8),(8:UInt8),(8:UInt8),(8:UInt8),(8:UInt8),(8:UInt8),(8 : UInt8),(8:UInt8),(8:UInt8),(8:UInt8),(8:UInt8),(8:UInt8),(8:UInt8),(8:UInt8),(8:UInt8),(8:UInt8),(8:UInt8),(8:UInt8),(8:UInt8),(8:UInt8),(8 : UInt8),(8:UInt8),(8:UInt8),(8:UInt8),(8:UInt8),(8:UInt8),(8:UInt8),(8:UInt8),(8:UInt8),(8:UInt8),(8:UInt8),(8:UInt8),(8:UInt8),(8:UInt8),(8 : UInt8),(8:UInt8),(8:UInt8),(8:UInt8)])) } v6.toNat))) else none else none else bif inB v5 256 then some (IntKind.wrap .i64 (x.2.1+IntKind.wrap IntKind.i64 (fi { data:=List.toArray (List.append (List.append [(0:UInt8),(1:UInt8),(2:UInt8),(2:UInt8),(3:UInt8),(3:UInt8),(3:UInt8),(3:UInt8),(4 : UInt8),(4:UInt8),(4:UInt8),(4:UInt8),(4:UInt8),(4:UInt8),(4:UInt8),(4:UInt8),(5:UInt8),(5:UInt8),(5:UInt8),(5:UInt8),(5:UInt8),(5:UInt8),(5 : UInt8),(5:UInt8),(5:UInt8),(5:UInt8),(5:UInt8),(5:UInt8),(5:UInt8),(5:UInt8),(5:UInt8),(5:UInt8),(6:UInt8),(6:UInt8),(6:UInt8),(6:UInt8),(6 : UInt8),(6:UInt8),(6:UInt8),(6:UInt8),(6:UInt8),(6:UInt8),(6:UInt8),(6:UInt8),(6:UInt8),(6:UInt8),(6:UInt8),(6:UInt8),(6:UInt8),(6:UInt8),(6 : UInt8),(6:UInt8),(6:UInt8),(6:UInt8),(6:UInt8),(6:UInt8),(6:UInt8),(6:UInt8),(6:UInt8),(6:UInt8),(6:UInt8),(6:UInt8),(6:UInt8),(6:UInt8)] [(7 : UInt8),(7:UInt8),(7:UInt8),(7:UInt8),(7:UInt8),(7:UInt8),(7:UInt8),(7:UInt8),(7:UInt8),(7:UInt8),(7:UInt8),(7:UInt8),(7:UInt8),(7:UInt8),(7 : UInt8),(7:UInt8),(7:UInt8),(7:UInt8),(7:UInt8),(7:UInt8),(7:UInt8),(7:UInt8),(7:UInt8),(7:UInt8),(7:UInt8),(7:UInt8),(7:UInt8),(7:UInt8),(7 : UInt8),(7:UInt8),(7:UInt8),(7:UInt8),(7:UInt8),(7:UInt8),(7:UInt8),(7:UInt8),(7:UInt8),(7:UInt8),(7:UInt8),(7:UInt8),(7:UInt8),(7:UInt8),(7 : UInt8),(7:UInt8),(7:UInt8),(7:UInt8),(7:UInt8),(7:UInt8),(7:UInt8),(7:UInt8),(7:UInt8),(7:UInt8),(7:UInt8),(7:UInt8),(7:UInt8),(7:UInt8),(7 : UInt8),(7:UInt8),(7:UInt8),(7:UInt8),(7:UInt8),(7:UInt8),(7:UInt8),(7:UInt8)]) (List.append [(8:UInt8),(8:UInt8),(8:UInt8),(8:UInt8),(8:UInt8),(8 : UInt8),(8:UInt8),(8:UInt8),(8:UInt8),(8:UInt8),(8:UInt8),(8:UInt8),(8:UInt8),(8:UInt8),(8:UInt8),(8:UInt8),(8:UInt8),(8:UInt8),(8:UInt8),(8 : UInt8),(8:UInt8),(8:UInt8),(8:UInt8),(8:UInt8),(8:UInt8),(8:UInt8),(8:UInt8),(8:UInt8),(8:UInt8),(8:UInt8),(8:UInt8),(8:UInt8),(8:UInt8),(8 : UInt8),(8:UInt8),(8:UInt8),(8:UInt8),(8:UInt8),(8:UInt8),(8:UInt8),(8:UInt8),(8:UInt8),(8:UInt8),(8:UInt8),(8:UInt8),(8:UInt8),(8:UInt8),(8 : UInt8),(8:UInt8),(8:UInt8),(8:UInt8),(8:UInt8),(8:UInt8),(8:UInt8),(8:UInt8),(8:UInt8),(8:UInt8),(8:UInt8),(8:UInt8),(8:UInt8),(8:UInt8),(8 : UInt8),(8:UInt8),(8:UInt8)] [(8:UInt8),(8:UInt8),(8:UInt8),(8:UInt8),(8:UInt8),(8:UInt8),(8:UInt8),(8:UInt8),(8:UInt8),(8:UInt8),(8:UInt8),(8 : UInt8),(8:UInt8),(8:UInt8),(8:UInt8),(8:UInt8),(8:UInt8),(8:UInt8),(8:UInt8),(8:UInt8),(8:UInt8),(8:UInt8),(8:UInt8),(8:UInt8),(8:UInt8),(8 : UInt8),(8:UInt8),(8:UInt8),(8:UInt8),(8:UInt8),(8:UInt8),(8:UInt8),(8:UInt8),(8:UInt8),(8:UInt8),(8:UInt8),(8:UInt8),(8:UInt8),(8:UInt8),(8 : UInt8),(8:UInt8),(8:UInt8),(8:UInt8),(8:UInt8),(8:UInt8),(8:UInt8),(8:UInt8),(8:UInt8),(8:UInt8),(8:UInt8),(8:UInt8),(8:UInt8),(8:UInt8),(8 : UInt8),(8:UInt8),(8:UInt8),(8:UInt8),(8:UInt8),(8:UInt8),(8:UInt8),(8:UInt8),(8:UInt8),(8:UInt8),(8:UInt8)])) } v5.toNat))) else none) fun (j:Int × Int×PUnit->Option Int)=>bif decide (x.1>=65536) then bif decide ((0:Int)<=16) then j (Int.fdiv x.1 (2 ^ 16),IntKind.wrap .i64 (x.2.1+16),PUnit.unit) else none else j (x.1,x.2.1,PUnit.unit)) fun (j:Int×Int×PUnit->Option Int)=>bif decide (x0>=4294967296) then bif decide (0<=32) then j (Int.fdiv x0 (2 ^ 32),32,PUnit.unit) else none else j (x0,0,PUnit.unit)
def gj (x0:Int):Option Int:=tY lpK jnK x0
abbrev TT:=(Int)->Option (Int)
def L5:Ctr:=⟨[(.int .u64)],[],[],.one i64,fun x _ _=>gj x.1⟩
theorem UK (lp:Lp) (jn:Jn):∀(x:TsS L5.as) (F:TsF L5.fs) (y:TsS L5.cs),tY lp jn x.1=cn lp jn (cx [] [(134,bJ)]) ao 4 181 f181 L5 x F y:=fun x F y=>by kernel_rfl
theorem S4:L5.ok prog 181:=Ctr.of_den (au (bV)) aW (hl:=ao) (d:=4) func181 rfl (by decide) (UK lpK jnK)
def ia (_:Lp) (_:Jn) (gj:TT) (x0:Int):Option Int :=
 aa (gj x0) fun (t:Int)=>some (IntKind.wrap .i64 (64 - t))
def cM (x0:Int):Option Int:=ia lpK jnK gj x0
abbrev SN:=(Int)->Option (Int)
def JS:Ctr:=⟨[(.int .u64)],[],[],.one i64,fun x _ _=>cM x.1⟩
theorem Us (lp:Lp) (jn:Jn) (gj:TT):∀(x:TsS JS.as) (F:TsF JS.fs) (y:TsS JS.cs),ia lp jn gj x.1=cn lp jn (cx [(181,⟨[(.int .u64)],[],[],.one i64,fun x _ _=>gj x.1⟩)] [(134,bJ)]) ao 4 165 f165 JS x F y:=fun x F y=>by kernel_rfl
theorem Tq:JS.ok prog 165:=Ctr.of_den (au (ai (bV) (by kernel_rfl) S4)) aW (hl:=ao) (d:=4) func165 rfl (by decide) (Us lpK jnK gj)
def oI (lp:Lp) (jn:Jn) (cM:SN) (x0:Int) (x1:Int) (x2:Int):Option (Int×Int×Unit) :=
 
 let v5:Bool:=nzB x2;
 let v6:Int:=2 ^ 32;
 let v7:Bool:=decide ((0:Int)<=32);jn PUnit (Int×Int×PUnit) (fun (_:PUnit)=>jn PUnit (Int×Int×PUnit) (fun (_:PUnit)=>bif decide (x0=0) then bif v5 then bif v5 then some (IntKind.wrap .u64 (Int.tdiv x1 x2),Int.tmod x1 x2,PUnit.unit) else none else none else aa (cM x2) fun (t:Int) =>
 let v11:Int:=IntKind.wrap .u64 t;
 let v12:Bool:=decide (0<=v11);
 let v13:Int:=2 ^ min v11.toNat 64;
 let v14:Int:=IntKind.wrap .u64 (x2*v13);
 let v15:Int:=IntKind.wrap .u64 (x1*v13);
 let v16:Int:=Int.fdiv v14 v6;
 let v17:Int:=Int.fdiv v15 v6;
 let v18:Bool:=nzB v16;
 let v19:Int:=IntKind.wrap .u64 (↑(Nat.land (Int.toNat (v15 % Int.ofNat 18446744073709551616)) (Int.toNat (4294967295 % Int.ofNat 18446744073709551616))) : Int);
 let v20:Int:=IntKind.wrap .u64 (↑(Nat.land (Int.toNat (v14 % Int.ofNat 18446744073709551616)) (Int.toNat (4294967295 % Int.ofNat 18446744073709551616))) : Int);
 let v21:Int:=IntKind.wrap .u64 (↑(Nat.lor (Int.toNat (IntKind.wrap .u64 (x0*v13) % Int.ofNat 18446744073709551616)) (Int.toNat (Int.fdiv x1 (2 ^ min (Int.toNat (IntKind.wrap .u64 (64 - v11))) 64) % Int.ofNat 18446744073709551616))):Int);
 let v22:Int:=IntKind.wrap .u64 (Int.tdiv v21 v16);bif v12 then bif v7 then bif v12 then bif decide (0<=IntKind.wrap .u64 (64 - v11)) then bif v12 then bif v7 then bif v18 then jn (Int×PUnit) (Int×Int×PUnit) (fun (x:Int×PUnit) =>
 let v24:Int:=IntKind.wrap .u64 (IntKind.wrap .u64 (IntKind.wrap .u64 (v21*4294967296)+v17) - IntKind.wrap .u64 (x.1*v14));
 let v25:Int:=IntKind.wrap .u64 (Int.tdiv v24 v16);bif v18 then jn (Int×PUnit) (Int×Int×PUnit) (fun (x_1:Int×PUnit)=>bif v12 then some (IntKind.wrap .u64 (IntKind.wrap .u64 (x.1*4294967296)+x_1.1),Int.fdiv (IntKind.wrap .u64 (IntKind.wrap .u64 (IntKind.wrap .u64 (v24*4294967296) + v19) - IntKind.wrap .u64 (x_1.1*v14))) v13,PUnit.unit) else none) fun (j:Int×PUnit->Option (Int×Int×PUnit))=>lp (Int×Int×PUnit) (Int×Int×PUnit) (fun (again:Int×Int×PUnit->Option (Int×Int×PUnit)) (x:Int×Int×PUnit) =>
 let v29:Int×PUnit:=(IntKind.wrap .u64 (x.2.1 - 1),PUnit.unit);
 let v30:Bool:=decide (x.2.1>=4294967296);
 let v31:Bool:=!v30;
 let v32:Bool:=!v31||v31;
 let v33:Bool:=v32&&v32;bif v33 then bif v32 then bif v33 then bif v33 then bif v30||v31 then bif bif v30 then true else decide (IntKind.wrap .u64 (x.2.1*v20) > IntKind.wrap .u64 (IntKind.wrap .u64 (4294967296*x.1)+v19)) then bif decide (IntKind.wrap .u64 (x.1+v16)>=4294967296) then j v29 else again (IntKind.wrap .u64 (x.1+v16),v29) else j (x.2.1,PUnit.unit) else none else none else none else none else none) (IntKind.wrap .u64 (v24 - IntKind.wrap IntKind.u64 (v25*v16)),v25,PUnit.unit) else none) fun (j:Int×PUnit->Option (Int×Int×PUnit))=>lp (Int×Int×PUnit) (Int×Int×PUnit) (fun (again:Int×Int×PUnit -> Option (Int×Int×PUnit)) (x:Int×Int×PUnit) =>
 let v26:Int:=IntKind.wrap .u64 (x.1 - 1);
 let v27:Bool:=decide (x.1>=4294967296);
 let v28:Bool:=!v27;
 let v29:Bool:=!v28||v28;
 let v30:Bool:=v29&&v29;bif v30 then bif v29 then bif v30 then bif v30 then bif v27||v28 then bif bif v27 then true else decide (IntKind.wrap .u64 (x.1*v20) > IntKind.wrap .u64 (IntKind.wrap .u64 (4294967296*x.2.1)+v17)) then bif decide (IntKind.wrap .u64 (x.2.1+v16)>=4294967296) then j (v26,PUnit.unit) else again (v26,IntKind.wrap .u64 (x.2.1+v16),PUnit.unit) else j (x.1,PUnit.unit) else none else none else none else none else none) (v22, IntKind.wrap .u64 (v21 - IntKind.wrap .u64 (v22*v16)),PUnit.unit) else none else none else none else none else none else none else none) fun (j:PUnit->Option (Int × Int×PUnit))=>bif decide (x2<=x0) then none else j PUnit.unit) fun (j:PUnit->Option (Int×Int×PUnit))=>bif decide (x2=0) then none else j PUnit.unit
def cZ (x0:Int) (x1:Int) (x2:Int):Option (Int×Int×Unit):=oI lpK jnK cM x0 x1 x2
abbrev Mi:=(Int)->(Int)->(Int)->Option (Int×Int×Unit)
def Qt (cZ:Mi):Ctr:=⟨[(.int .u64),(.int .u64),(.int .u64)],[],[],.tup [(.int .u64),(.int .u64)],fun x _ _=>cZ x.1 x.2.1 x.2.2.1⟩
def Lq:Ctr:=Qt cZ
theorem Uo (lp:Lp) (jn:Jn) (cM:SN):∀(x:TsS Lq.as) (F:TsF Lq.fs) (y:TsS Lq.cs),oI lp jn cM x.1 x.2.1 x.2.2.1=cn lp jn (cx [(165,⟨[(.int .u64)],[],[],.one i64,fun x _ _=>cM x.1⟩)] [(134,bJ)]) ao 4 125 f125 Lq x F y:=fun x F y=>by kernel_rfl
theorem Qi:Lq.ok prog 125:=Ctr.of_den (au (ai (bV) (by kernel_rfl) Tq)) aW (hl:=ao) (d:=4) func125 rfl (by decide) (Uo lpK jnK cM)
def oQ (_:Lp) (_:Jn) (cZ:Mi) (x0:Int×Int) (x1:Int):Option ((Int×Int)×Int×Unit) :=
 
 let v4:Bool:=nzB x1;bif v4 then aa (cZ (Int.tmod x0.1 x1) x0.2 x1) fun (t:Int×Int×PUnit)=>bif v4 then some ((IntKind.wrap .u64 (Int.tdiv x0.1 x1), t.1),t.2.1,PUnit.unit) else none else none
def eg (x0:Int×Int) (x1:Int):Option ((Int×Int)×Int×Unit):=oQ lpK jnK cZ x0 x1
abbrev t81:=(Int×Int)->(Int)->Option ((Int×Int)×Int×Unit)
def k81 (eg:t81):Ctr:=⟨[nq,(.int .u64)],[],[],.tup [nq,(.int .u64)],fun x _ _=>eg x.1 x.2.1⟩
def c81:Ctr:=k81 eg
theorem e81 (lp:Lp) (jn:Jn) (cZ:Mi):∀(x:TsS c81.as) (F:TsF c81.fs) (y:TsS c81.cs),oQ lp jn cZ x.1 x.2.1=cn lp jn (cx [(125,Qt cZ)] [(134,bJ)]) ao 4 81 f81 c81 x F y:=fun x F y=>by kernel_rfl
theorem VN:c81.ok prog 81:=Ctr.of_den (au (ai (bV) (by kernel_rfl) Qi)) aW (hl:=ao) (d:=4) func81 rfl (by decide) (e81 lpK jnK cZ)
def mG (_:Lp) (_:Jn) (x0:Bool) (x1:Int) (x2:Int):Option ((Int×Int)×Int×Unit) :=
 
 let v5:Int:=IntKind.wrap .i64 x1;
 let v6:Int:=IntKind.wrap .i64 x2;
 let v7:Bool:=decide (x1>1152921504606846976);
 let v8:Bool:=!v7;bif !v8||v8 then bif v7||v8 then bif bif v7 then true else decide (x2>1152921504606846976) then some ((0,0),5,PUnit.unit) else bif x0 then some ((IntKind.wrap .i64 (0 - v5),v6),0,PUnit.unit) else some ((v5,v6),0,PUnit.unit) else none else none
def bm (x0:Bool) (x1:Int) (x2:Int):Option ((Int×Int)×Int×Unit):=mG lpK jnK x0 x1 x2
abbrev t82:=(Bool)->(Int)->(Int)->Option ((Int×Int)×Int×Unit)
def k82 (bm:t82):Ctr:=⟨[.bool,(.int .u64),(.int .u64)],[],[],.tup [T49,i64],fun x _ _=>bm x.1 x.2.1 x.2.2.1⟩
def c82:Ctr:=k82 bm
theorem e82 (lp:Lp) (jn:Jn):∀(x:TsS c82.as) (F:TsF c82.fs) (y:TsS c82.cs),mG lp jn x.1 x.2.1 x.2.2.1=cn lp jn (cx [] [(134,bJ)]) ao 4 82 f82 c82 x F y:=fun x F y=>by kernel_rfl
theorem Qw:c82.ok prog 82:=Ctr.of_den (au (bV)) aW (hl:=ao) (d:=4) func82 rfl (by decide) (e82 lpK jnK)
def qE (_:Lp) (jn:Jn) (bC:t75) (aL:t77) (aw:t72) (aP:t76) (fH:t78) (cP:t79) (eF:t80) (eg:t81) (bm:t82) (x0:Int×Int) (x1:Int×Int):Option ((Int×Int)×Int×Unit) :=
 
 let v4:Int:=IntKind.wrap .u64 x0.2;
 let v5:Int:=IntKind.wrap .u64 x1.2;
 let v6:Bool:=decide (x0.1<0);aa (aw x0) fun (t:Bool) =>
 let v8:Bool:=!t;
 let v9:Bool:=!v8;
 let v10:Bool:=!v9||v9;bif v10 then aa (bif v9 then aw x1 else some false) fun (t:Bool)=>bif v10 then bif v8||v9 then bif bif v8 then true else !t then some (((0 : Int),0),1,PUnit.unit) else aa (bC v4 v5) fun (t:Int) =>
 let v13:Bool:=nzB t;
 let v14:Int:=IntKind.wrap .u64 (Int.tdiv v4 t);aa (aL x0.1) fun (t_1:Int)=>bif v13 then aa (aP t_1 (IntKind.wrap .u64 (Int.tdiv v5 t))) fun (t_2:Int×Int)=>aa (aL x1.1) fun (t_3:Int)=>bif v13 then aa (aP t_3 v14) fun (t_4:Int×Int)=>jn (Bool×(Int×Int)×PUnit) ((Int×Int) × Int×PUnit) (fun (x:Bool×(Int×Int)×PUnit)=>bif decide (x.2.1.1=0)&&(decide (x.2.1.2=0)&&true) then some ((0,1),(0 : Int),PUnit.unit) else aa (eg x.2.1 t) fun (t_5:(Int×Int)×Int×PUnit)=>aa (bC t t_5.2.1) fun (t:Int)=>aa (eg x.2.1 t) fun (t_6 : (Int×Int)×Int×PUnit) =>
 let v23:Bool:=decide (t_6.1.1>0);
 let v24:Bool:=!v23;
 let v25:Bool:=!v24||v24;bif v13 then bif nzB t then aa (aP v14 (IntKind.wrap .u64 (Int.tdiv v5 t))) fun (t:Int×Int)=>bif v25 then bif v25 then bif v23 || v24 then bif bif v23 then true else decide (t.1>0) then some ((0,0),5,PUnit.unit) else aa (bm x.1 t_6.1.2 t.2) fun (t:(Int × Int)×Int×PUnit)=>some (t.1,t.2.1,PUnit.unit) else none else none else none else none else none) fun (j:Bool×(Int×Int)×PUnit->Option ((Int×Int)×Int×PUnit)) =>bif decide (v6=decide (x1.1<0)) then aa (fH t_2 t_4) fun (t:Int×Int)=>j (v6,t,PUnit.unit) else aa (cP t_2 t_4) fun (t:Bool)=>jn (Bool × (Int×Int)×PUnit) ((Int×Int)×Int×PUnit) (fun (x:Bool×(Int×Int)×PUnit)=>j (x.1,x.2.1,PUnit.unit)) fun (j:Bool×(Int×Int)×PUnit->Option ((Int×Int) × Int×PUnit))=>bif t then aa (eF t_4 t_2) fun (t:Int×Int)=>j (!v6,t,PUnit.unit) else aa (eF t_2 t_4) fun (t:Int×Int)=>j (v6,t,PUnit.unit) else none else none else none else none else none
def bh (x0:Int×Int) (x1:Int×Int):Option ((Int×Int)×Int×Unit):=qE lpK jnK bC aL aw aP fH cP eF eg bm x0 x1
abbrev t35:=(Int×Int)->(Int×Int)->Option ((Int×Int)×Int×Unit)
def k35 (bh:t35):Ctr:=⟨[T49,T49],[],[],.tup [T49,i64],fun x _ _=>bh x.1 x.2.1⟩
def c35:Ctr:=k35 bh
theorem e35 (lp:Lp) (jn:Jn) (bC:t75) (aL:t77) (aw:t72) (aP:t76) (fH:t78) (cP:t79) (eF:t80) (eg:t81) (bm:t82):∀(x:TsS c35.as) (F:TsF c35.fs) (y:TsS c35.cs),qE lp jn bC aL aw aP fH cP eF eg bm x.1 x.2.1=cn lp jn (cx [(82,k82 bm),(81,k81 eg),(80,⟨[nq,nq],[],[],.one nq,fun x _ _=>eF x.1 x.2.1⟩),(79,k79 cP),(78,⟨[nq,nq],[],[],.one nq,fun x _ _=>fH x.1 x.2.1⟩),(76,k76 aP),(72,k72 aw),(77,k77 aL),(75,k75 bC)] [(134,bJ)]) ao 4 35 f35 c35 x F y:=fun x F y=>by kernel_rfl
theorem RB:c35.ok prog 35:=Ctr.of_den (au (ai (ai (ai (ai (ai (ai (ai (ai (ai (bV) (by kernel_rfl) Ox) (by kernel_rfl) KZ) (by kernel_rfl) H2) (by kernel_rfl) Rq) (by kernel_rfl) UB) (by kernel_rfl) S7) (by kernel_rfl) Ux) (by kernel_rfl) VN) (by kernel_rfl) Qw)) aW (hl:=ao) (d:=4) func35 rfl (by decide) (e35 lpK jnK bC aL aw aP fH cP eF eg bm)
def vr (_:Lp) (_:Jn) (bC:t75) (aL:t77) (aw:t72) (aP:t76) (bm:t82) (x0:Int×Int) (x1:Int×Int):Option ((Int×Int)×Int×Unit) :=
 
 let v4:Int:=IntKind.wrap .u64 x1.2;
 let v5:Int:=IntKind.wrap .u64 x0.2;aa (aw x0) fun (t:Bool) =>
 let v7:Bool:=!t;
 let v8:Bool:=!v7;
 let v9:Bool:=!v8||v8;bif v9 then aa (bif v8 then aw x1 else some false) fun (t:Bool)=>bif v9 then bif v7||v8 then bif bif v7 then true else !t then some (((0 : Int),0),1,PUnit.unit) else aa (aL x0.1) fun (t:Int)=>aa (bC t v4) fun (t:Int) =>
 let v13:Bool:=nzB t;aa (aL x1.1) fun (t_1:Int)=>aa (bC t_1 v5) fun (t_2:Int) =>
 let v16:Bool:=nzB t_2;aa (aL x0.1) fun (t_3:Int)=>bif v13 then aa (aL x1.1) fun (t_4:Int)=>bif v16 then aa (aP (IntKind.wrap IntKind.u64 (Int.tdiv t_3 t)) (IntKind.wrap .u64 (Int.tdiv t_4 t_2))) fun (t_5:Int×Int) =>
 let v20:Bool:=decide (t_5.1>0);
 let v21:Bool:=decide (t_5.2>0);
 let v22:Bool:=!v20;
 let v23:Bool:=!v21||v21;
 let v24:Bool:=!v22||v22;bif v16 then bif v13 then aa (aP (IntKind.wrap .u64 (Int.tdiv v5 t_2)) (IntKind.wrap .u64 (Int.tdiv v4 t))) fun (t:Int×Int) =>bif v24 then bif v24 then bif v20||v22 then bif bif v20 then true else decide (t.1>0) then some ((0,0),5,PUnit.unit) else bif v23 then bif v23 then bif v23 then bif v23 then bif v23&&v23 then bif v23 then aa (bm (bif v21 then !decide (decide (x0.1<0)=decide (x1.1<0)) else false) t_5.2 t.2) fun (t:(Int×Int)×Int×PUnit)=>some (t.1,t.2.1,PUnit.unit) else none else none else none else none else none else none else none else none else none else none else none else none else none else none else none else none
def fC (x0:Int×Int) (x1:Int×Int):Option ((Int×Int)×Int×Unit):=vr lpK jnK bC aL aw aP bm x0 x1
abbrev NJ:=(Int×Int)->(Int×Int)->Option ((Int×Int)×Int×Unit)
def TS (fC:NJ):Ctr:=⟨[T49,T49],[],[],.tup [T49,i64],fun x _ _=>fC x.1 x.2.1⟩
def Lr:Ctr:=TS fC
theorem Ue (lp:Lp) (jn:Jn) (bC:t75) (aL:t77) (aw:t72) (aP:t76) (bm:t82):∀(x:TsS Lr.as) (F:TsF Lr.fs) (y:TsS Lr.cs),vr lp jn bC aL aw aP bm x.1 x.2.1=cn lp jn (cx [(82,k82 bm),(76,k76 aP),(72,k72 aw),(77,k77 aL),(75,k75 bC)] [(134,bJ)]) ao 4 146 f146 Lr x F y:=fun x F y=>by kernel_rfl
theorem Tl:Lr.ok prog 146:=Ctr.of_den (au (ai (ai (ai (ai (ai (bV) (by kernel_rfl) Ox) (by kernel_rfl) KZ) (by kernel_rfl) H2) (by kernel_rfl) Rq) (by kernel_rfl) Qw)) aW (hl:=ao) (d:=4) func146 rfl (by decide) (Ue lpK jnK bC aL aw aP bm)
def mX (lp:Lp) (jn:Jn) (bh:t35) (fC:NJ) (x0:Int) (x1:List Int) (x2:List (Int×Int)):Option (Int×(Int×Int)) :=
 lp (Int×Int×(Int×Int)×(Int×Int)×PUnit) (Int×Int×Int) (fun (again:Int×Int×(Int×Int)×(Int×Int)×PUnit->Option (Int×Int×Int)) (x:Int×Int×(Int×Int) × (Int×Int)×PUnit)=>bif decide (x.1<(↑x1.length:Int)) then bif inB x.1 x1.length then bif inB x.1 x2.length then aa (fC (x1.getD x.1.toNat 0,1) (x2.getD x.1.toNat (0,0))) fun (t:(Int×Int)×Int×PUnit)=>jn (Int×(Int×Int)×PUnit) (Int×Int×Int) (fun (x_1:Int×(Int×Int)×PUnit)=>bif !decide (x_1.1=0) then some (x_1.1,0,1) else again (IntKind.wrap .i64 (x.1+1), x.2.1,x.2.2.1,x_1.2.1,PUnit.unit)) fun (j:Int×(Int×Int)×PUnit->Option (Int×Int×Int))=>bif decide (t.2.1=0) then aa (bh x.2.2.2.1 t.1) fun (t:(Int×Int)×Int×PUnit)=>j (t.2.1,t.1,PUnit.unit) else j (t.2.1,t.1,PUnit.unit) else none else none else some (x.2.1, x.2.2.2.1)) (0,x0,(0,0),(0,1),PUnit.unit)
def dj (x0:Int) (x1:List Int) (x2:List (Int×Int)):Option (Int×(Int×Int)):=mX lpK jnK bh fC x0 x1 x2
abbrev t95:=(Int)->(List Int)->(List (Int×Int))->Option (Int×(Int×Int))
def k95 (dj:t95):MCtr:=⟨RE,[(.sl i64),(.sl T49)],.one T49,fun x y=>dj x y.1 y.2.1⟩
def m95:MCtr:=k95 dj
theorem e95 (lp:Lp) (jn:Jn) (bh:t35) (fC:NJ):∀(x:m95.s.T) (y:TsS m95.as),mX lp jn bh fC x y.1 y.2.1=RA lp jn (cx [(146,TS fC),(35,k35 bh)] [(134,bJ)]) ao 4 95 f95 m95 x y:=fun x y=>by kernel_rfl
theorem UV:m95.ok prog 95:=MCtr.of_den (au (ai (ai (bV) (by kernel_rfl) RB) (by kernel_rfl) Tl)) aW (hl:=ao) (d:=4) func95 rfl (by decide) rfl (e95 lpK jnK bh fC)
def vF (_:Lp) (jn:Jn) (aL:t77) (aw:t72) (aP:t76) (cP:t79) (x0:Int×Int) (x1:Int×Int):Option (Int×Int×Unit) :=
 
 let v4:Bool:=decide (x0.1<0);aa (aw x0) fun (t:Bool) =>
 let v6:Bool:=!t;
 let v7:Bool:=!v6;
 let v8:Bool:=!v7||v7;bif v8 then aa (bif v7 then aw x1 else some false) fun (t:Bool)=>bif v8 then bif v6||v7 then bif bif v6 then true else !t then some ((0 : Int),1,PUnit.unit) else aa (aL x0.1) fun (t:Int)=>aa (aP t (IntKind.wrap .u64 x1.2)) fun (t:Int×Int)=>aa (aL x1.1) fun (t_1:Int)=>aa (aP t_1 (IntKind.wrap .u64 x0.2)) fun (t_2:Int×Int)=>bif !decide (v4=decide (x1.1<0)) then bif v4 then some ((-1), 0,PUnit.unit) else some (1,0,PUnit.unit) else jn ((Int×Int)×(Int×Int)×PUnit) (Int×Int×PUnit) (fun (x:(Int×Int)×(Int×Int)×PUnit)=>aa (cP x.1 x.2.1) fun (t:Bool)=>bif t then some ((-1),0,PUnit.unit) else aa (cP x.2.1 x.1) fun (t:Bool)=>bif t then some (1, 0,PUnit.unit) else some (0,0,PUnit.unit)) fun (j:(Int×Int)×(Int×Int)×PUnit->Option (Int×Int×PUnit))=>bif v4 then j (t_2,t,PUnit.unit) else j (t,t_2,PUnit.unit) else none else none else none
def eh (x0:Int×Int) (x1:Int×Int):Option (Int×Int×Unit):=vF lpK jnK aL aw aP cP x0 x1
abbrev t39:=(Int×Int)->(Int×Int)->Option (Int×Int×Unit)
def k39 (eh:t39):Ctr:=⟨[T49,T49],[],[],.tup [i64,i64],fun x _ _=>eh x.1 x.2.1⟩
def c39:Ctr:=k39 eh
theorem e39 (lp:Lp) (jn:Jn) (aL:t77) (aw:t72) (aP:t76) (cP:t79):∀(x:TsS c39.as) (F:TsF c39.fs) (y:TsS c39.cs),vF lp jn aL aw aP cP x.1 x.2.1=cn lp jn (cx [(79,k79 cP),(76,k76 aP),(72,k72 aw),(77,k77 aL)] [(134,bJ)]) ao 4 39 f39 c39 x F y:=fun x F y=>by kernel_rfl
theorem Vm:c39.ok prog 39:=Ctr.of_den (au (ai (ai (ai (ai (bV) (by kernel_rfl) KZ) (by kernel_rfl) H2) (by kernel_rfl) Rq) (by kernel_rfl) S7)) aW (hl:=ao) (d:=4) func39 rfl (by decide) (e39 lpK jnK aL aw aP cP)
def su (_:Lp) (_:Jn) (eh:t39) (x0:Int×Int) (x1:Int):Option Int :=
 aa (eh x0 (x1,1)) fun (t:Int×Int×PUnit)=>some t.1
def gD (x0:Int×Int) (x1:Int):Option Int:=su lpK jnK eh x0 x1
abbrev Tr:=(Int×Int)->(Int)->Option (Int)
def Kx:Ctr:=⟨[T49,i64],[],[],.one i64,fun x _ _=>gD x.1 x.2.1⟩
theorem U9 (lp:Lp) (jn:Jn) (eh:t39):∀(x:TsS Kx.as) (F:TsF Kx.fs) (y:TsS Kx.cs),su lp jn eh x.1 x.2.1=cn lp jn (cx [(39,k39 eh)] [(134,bJ)]) ao 4 144 f144 Kx x F y:=fun x F y=>by kernel_rfl
theorem R1:Kx.ok prog 144:=Ctr.of_den (au (ai (bV) (by kernel_rfl) Vm)) aW (hl:=ao) (d:=4) func144 rfl (by decide) (U9 lpK jnK eh)
def nB (lp:Lp) (_:Jn) (x0:(List Int)×List ((List Int)×Int×Int)) (x1:Int):Option (List Int) :=
 lp (List Int×Int×PUnit) (List Int) (fun (again:List Int×Int×PUnit->Option (List Int)) (x:List Int×Int×PUnit)=>bif decide (x.2.1<(↑x0.2.length:Int)) then bif inB x.2.1 x0.2.length then bif inB x1 (List.length (x0.2.getD x.2.1.toNat ([],0,0)).1) then bif dZ (List.length x.1+(1 : Nat)) 8 then again (x.1++[List.getD (x0.2.getD x.2.1.toNat ([],0,0)).1 x1.toNat 0],IntKind.wrap .i64 (x.2.1 + 1),PUnit.unit) else none else none else none else some x.1) ([],0,PUnit.unit)
def eT (x0:(List Int)×List ((List Int)×Int×Int)) (x1:Int):Option (List Int):=nB lpK jnK x0 x1
abbrev SG:=((List Int)×List ((List Int)×Int×Int))->(Int)->Option (List Int)
def Jt:Ctr:=⟨[T32,i64],[],[],.one (.sl i64),fun x _ _=>eT x.1 x.2.1⟩
theorem UA (lp:Lp) (jn:Jn):∀(x:TsS Jt.as) (F:TsF Jt.fs) (y:TsS Jt.cs),nB lp jn x.1 x.2.1=cn lp jn (cx [] [(134,bJ)]) ao 4 145 f145 Jt x F y:=fun x F y=>by kernel_rfl
theorem Tv:Jt.ok prog 145:=Ctr.of_den (au (bV)) aW (hl:=ao) (d:=4) func145 rfl (by decide) (UA lpK jnK)
def ls (_:Lp) (_:Jn) (_:Int):Option Int :=
 some 0
def dN (x0:Int):Option Int:=ls lpK jnK x0
abbrev t94:=(Int)->Option (Int)
def c94:Ctr:=⟨[i64],[],[],.one i64,fun x _ _=>dN x.1⟩
theorem e94 (lp:Lp) (jn:Jn):∀(x:TsS c94.as) (F:TsF c94.fs) (y:TsS c94.cs),ls lp jn x.1=cn lp jn (cx [] [(134,bJ)]) ao 4 94 f94 c94 x F y:=fun x F y=>by kernel_rfl
theorem VQ:c94.ok prog 94:=Ctr.of_den (au (bV)) aW (hl:=ao) (d:=4) func94 rfl (by decide) (e94 lpK jnK)
def nQ (lp:Lp) (_:Jn) (x0:(List Int)×List ((List Int)×Int×Int)):Option (List Int) :=
 lp (List Int×Int×PUnit) (List Int) (fun (again:List Int×Int×PUnit->Option (List Int)) (x:List Int×Int×PUnit)=>bif decide (x.2.1<(↑x0.2.length:Int)) then bif inB x.2.1 x0.2.length then bif dZ (List.length x.1+1) 8 then again (x.1++[(x0.2.getD x.2.1.toNat ([],0,(0 : Int))).2.2],IntKind.wrap .i64 (x.2.1+1),PUnit.unit) else none else none else some x.1) ([],0,PUnit.unit)
def eP (x0:(List Int)×List ((List Int)×Int×Int)):Option (List Int):=nQ lpK jnK x0
abbrev t96:=((List Int)×List ((List Int)×Int×Int))->Option (List Int)
def c96:Ctr:=⟨[T32],[],[],.one (.sl i64),fun x _ _=>eP x.1⟩
theorem e96 (lp:Lp) (jn:Jn):∀(x:TsS c96.as) (F:TsF c96.fs) (y:TsS c96.cs),nQ lp jn x.1=cn lp jn (cx [] [(134,bJ)]) ao 4 96 f96 c96 x F y:=fun x F y=>by kernel_rfl
theorem Vi:c96.ok prog 96:=Ctr.of_den (au (bV)) aW (hl:=ao) (d:=4) func96 rfl (by decide) (e96 lpK jnK)
def nU (lp:Lp) (_:Jn) (x0:(List Int)×List ((List Int)×Int×Int)) (x1:List (Int×Int)):Option Bool :=
 lp (Int×PUnit) Bool (fun (again:Int×PUnit->Option Bool) (x:Int×PUnit) =>
 let v6:Bool:=inB x.1 x1.length;
 let v7:Bool:=decide ((x0.2.getD x.1.toNat ([],0,0)).2.1=1);
 let v8:Bool:=decide ((x0.2.getD x.1.toNat ([],0,0)).2.1=2);
 let v9:Bool:=!v7;
 let v10:Bool:=bif v7 then decide ((x1.getD x.1.toNat (0,0)).1>0) else false;
 let v11:Bool:=!v10;
 let v12:Bool:=!v11;
 let v13:Bool:=v9||v7;
 let v14:Bool:=v11&&v8;
 let v15:Bool:=!v14;
 let v16:Bool:=v12||v11;
 let v17:Bool:=v15||v14;bif decide (x.1<(↑x0.2.length:Int)) then bif inB x.1 x0.2.length then bif v13&&(v13&&(v9||v6)) then bif v13 then bif v13 then bif v13 then bif v13 then bif v16 then bif v16 then bif v16 then bif v17&&(v17&&(v15||v6)) then bif v17 then bif v17 then bif v17 then bif (v12||v16)&&(v12||(!v8||(v12 || v14))) then bif v10||v11 then bif bif v10 then true else bif v8 then decide ((x1.getD x.1.toNat (0,0)).1<0) else false then some false else again (IntKind.wrap .i64 (x.1+1),PUnit.unit) else none else none else none else none else none else none else none else none else none else none else none else none else none else none else none else some true) (0,PUnit.unit)
def eV (x0:(List Int)×List ((List Int)×Int×Int)) (x1:List (Int×Int)):Option Bool:=nU lpK jnK x0 x1
abbrev t97:=((List Int)×List ((List Int)×Int×Int))->(List (Int×Int))->Option (Bool)
def c97:Ctr:=⟨[T32,(.sl T49)],[],[],.one .bool,fun x _ _=>eV x.1 x.2.1⟩
theorem e97 (lp:Lp) (jn:Jn):∀(x:TsS c97.as) (F:TsF c97.fs) (y:TsS c97.cs),nU lp jn x.1 x.2.1=cn lp jn (cx [] [(134,bJ)]) ao 4 97 f97 c97 x F y:=fun x F y=>by kernel_rfl
theorem Ug:c97.ok prog 97:=Ctr.of_den (au (bV)) aW (hl:=ao) (d:=4) func97 rfl (by decide) (e97 lpK jnK)
def mS (lp:Lp) (_:Jn) (bD:t91) (fw:t92) (gD:Tr) (eT:SG) (dN:t94) (eP:t96) (eV:t97) (dj:t95) (x0:(List Int)×List ((List Int)×Int×Int)) (x1:List (Int×Int)):Option (Bool×Int×Unit) :=
 aa (bD x0) fun (t:Bool) =>
 let v5:Bool:=!t;
 let v6:Bool:=!v5;
 let v7:Bool:=!v6||v6;bif v7 then aa (bif v6 then fw x1 else some false) fun (t:Bool)=>bif v7 then bif v5||v6 then bif bif v5 then true else !t then some (false, 1,PUnit.unit) else bif !decide ((↑x1.length:Int)=(↑x0.2.length:Int)) then some (false,3,PUnit.unit) else lp (Bool×Int×Int×PUnit) (Bool × Int×PUnit) (fun (again:Bool×Int×Int×PUnit->Option (Bool×Int×PUnit)) (x:Bool×Int×Int×PUnit)=>bif decide (x.2.1<(↑x0.1.length:Int)) then aa (eT x0 x.2.1) fun (t:List Int)=>aa (dj x.2.2.1 t x1) fun (t:Int×Int×Int)=>aa (dN x.2.1) fun (t_1:Int)=>aa (gD t.2 t_1) fun (t_2:Int) =>
 let v15:Bool:=decide (t_2<=0);bif !v15||v15 then again (bif v15 then x.1 else false,IntKind.wrap .i64 (x.2.1+1),t.1,PUnit.unit) else none else aa (eP x0) fun (t:List Int)=>aa (dj x.2.2.1 t x1) fun (t:Int×Int×Int) =>
 let v13:Bool:=decide (t.2.1>0);
 let v14:Bool:=!v13||v13;bif v14&&v14 then aa (bif v13 then eV x0 x1 else some false) fun (t_1:Bool) =>
 let v16:Bool:=bif v13 then t_1 else false;
 let v17:Bool:=bif v16 then x.1 else false;
 let v18:Bool:=!v17||v17;bif v14 then bif !v16||v16 then bif v18 then bif v18 then bif v18 then some (bif v17 then decide (t.1=0) else false,t.1,PUnit.unit) else none else none else none else none else none else none) (true,0,0,PUnit.unit) else none else none else none
def dE (x0:(List Int)×List ((List Int)×Int×Int)) (x1:List (Int×Int)):Option (Bool×Int×Unit):=mS lpK jnK bD fw gD eT dN eP eV dj x0 x1
abbrev t47:=((List Int)×List ((List Int)×Int×Int))->(List (Int×Int))->Option (Bool×Int×Unit)
def k47 (dE:t47):Ctr:=⟨[T32,(.sl T49)],[],[],.tup [.bool,i64],fun x _ _=>dE x.1 x.2.1⟩
def c47:Ctr:=k47 dE
theorem e47 (lp:Lp) (jn:Jn) (bD:t91) (fw:t92) (gD:Tr) (eT:SG) (dN:t94) (eP:t96) (eV:t97) (dj:t95):∀(x:TsS c47.as) (F:TsF c47.fs) (y:TsS c47.cs),mS lp jn bD fw gD eT dN eP eV dj x.1 x.2.1=cn lp jn (Da FY Fx (IP [] [(95,k95 dj)] (ll prog shs yP its [(97,⟨[T32,(.sl T49)],[],[],.one .bool,fun x _ _=>eV x.1 x.2.1⟩),(96,⟨[T32],[],[],.one (.sl i64),fun x _ _=>eP x.1⟩),(94,⟨[i64],[],[],.one i64,fun x _ _=>dN x.1⟩),(145,⟨[T32,i64],[],[],.one (.sl i64),fun x _ _=>eT x.1 x.2.1⟩),(144,⟨[T49,i64],[],[],.one i64,fun x _ _=>gD x.1 x.2.1⟩),(92,⟨[(.sl T49)],[],[],.one .bool,fun x _ _=>fw x.1⟩),(91,k91 bD)] [(134,bJ)]))) ao 4 47 f47 c47 x F y:=fun x F y=>by kernel_rfl
theorem Vl:c47.ok prog 47:=Ctr.of_den (au (tL (ai (ai (ai (ai (ai (ai (ai (bV) (by kernel_rfl) R3) (by kernel_rfl) UJ) (by kernel_rfl) R1) (by kernel_rfl) Tv) (by kernel_rfl) VQ) (by kernel_rfl) Vi) (by kernel_rfl) Ug) (qe) (IJ (by kernel_rfl) UV (qN)))) aW (hl:=ao) (d:=4) func47 rfl (by decide) (e47 lpK jnK bD fw gD eT dN eP eV dj)
def qh (_:Lp) (_:Jn) (aU:t11) (dE:t47) (x0:(List (ByteArray×Int))×List (ByteArray×(List (ByteArray×Int×Int×Int))×Bool)) (x1:List (Int×Int)):Option (Bool×Int×Unit) :=
 aa (aU x0) fun (t:(List Int×List (List Int×Int×Int))×Int×PUnit)=>bif !decide (t.2.1=0) then some (false,t.2.1,PUnit.unit) else aa (dE t.1 x1) fun (t:Bool×Int×PUnit)=>some (t.1,t.2.1,PUnit.unit)
def bf (x0:(List (ByteArray×Int))×List (ByteArray×(List (ByteArray×Int×Int×Int))×Bool)) (x1:List (Int×Int)):Option (Bool×Int×Unit):=qh lpK jnK aU dE x0 x1
abbrev t12:=((List (ByteArray×Int))×List (ByteArray×(List (ByteArray×Int×Int×Int))×Bool))->(List (Int×Int))->Option (Bool×Int×Unit)
def k12 (bf:t12):Ctr:=⟨[T25,(.sl T49)],[],[],.tup [.bool,i64],fun x _ _=>bf x.1 x.2.1⟩
def c12:Ctr:=k12 bf
theorem e12 (lp:Lp) (jn:Jn) (aU:t11) (dE:t47):∀(x:TsS c12.as) (F:TsF c12.fs) (y:TsS c12.cs),qh lp jn aU dE x.1 x.2.1=cn lp jn (cx [(47,k47 dE),(11,k11 aU)] [(134,bJ)]) ao 4 12 f12 c12 x F y:=fun x F y=>by kernel_rfl
theorem US:c12.ok prog 12:=Ctr.of_den (au (ai (ai (bV) (by kernel_rfl) T2) (by kernel_rfl) Vl)) aW (hl:=ao) (d:=4) func12 rfl (by decide) (e12 lpK jnK aU dE)
def qB (_:Lp) (_:Jn) (x0:Int):Option Int :=
 
 let v3:Int:=IntKind.wrap .u64 x0;bif decide (x0<0) then some (IntKind.wrap .u64 (0 - v3)) else some v3
def cg (x0:Int):Option Int:=qB lpK jnK x0
abbrev Ju:=(Int)->Option (Int)
def Q8 (cg:Ju):Ctr:=⟨[i64],[],[],.one (.int .u64),fun x _ _=>cg x.1⟩
def KB:Ctr:=Q8 cg
theorem Uk (lp:Lp) (jn:Jn):∀(x:TsS KB.as) (F:TsF KB.fs) (y:TsS KB.cs),qB lp jn x.1=cn lp jn (cx [] [(134,bJ)]) ao 4 155 f155 KB x F y:=fun x F y=>by kernel_rfl
theorem P6:KB.ok prog 155:=Ctr.of_den (au (bV)) aW (hl:=ao) (d:=4) func155 rfl (by decide) (Uk lpK jnK)
def kz (lp:Lp) (_:Jn) (cg:Ju) (x0:List Int) (x1:Int):Option Int :=
 aa (cg x1) fun (t:Int)=>lp (Int×Int×PUnit) Int (fun (again:Int×Int×PUnit->Option Int) (x:Int×Int×PUnit)=>bif decide (x.2.1<(↑x0.length : Int)) then bif inB x.2.1 x0.length then aa (cg (x0.getD x.2.1.toNat 0)) fun (t:Int)=>again (IntKind.wrap .i64 (x.1 + IntKind.wrap .i64 t),IntKind.wrap .i64 (x.2.1+1),PUnit.unit) else none else some x.1) (IntKind.wrap .i64 (1+IntKind.wrap .i64 t), 0,PUnit.unit)
def dt (x0:List Int) (x1:Int):Option Int:=kz lpK jnK cg x0 x1
abbrev TN:=(List Int)->(Int)->Option (Int)
def JV:Ctr:=⟨[(.sl i64),i64],[],[],.one i64,fun x _ _=>dt x.1 x.2.1⟩
theorem Vd (lp:Lp) (jn:Jn) (cg:Ju):∀(x:TsS JV.as) (F:TsF JV.fs) (y:TsS JV.cs),kz lp jn cg x.1 x.2.1=cn lp jn (cx [(155,Q8 cg)] [(134,bJ)]) ao 4 154 f154 JV x F y:=fun x F y=>by kernel_rfl
theorem T1:JV.ok prog 154:=Ctr.of_den (au (ai (bV) (by kernel_rfl) P6)) aW (hl:=ao) (d:=4) func154 rfl (by decide) (Vd lpK jnK cg)
def kh (lp:Lp) (jn:Jn) (x0:List Int):Option Int :=
 jn PUnit Int (fun (_:PUnit)=>bif inB 0 x0.length then lp (Int×Int×PUnit) Int (fun (again:Int×Int×PUnit->Option Int) (x:Int×Int×PUnit)=>bif decide (x.2.1<(↑x0.length:Int)) then bif inB x.2.1 x0.length then again (if x0.getD x.2.1.toNat 0>x.1 then x0.getD x.2.1.toNat 0 else x.1,IntKind.wrap .i64 (x.2.1+1),PUnit.unit) else none else some x.1) (x0.getD 0 0,1,PUnit.unit) else none) fun (j:PUnit->Option Int)=>bif decide ((↑x0.length:Int)<1) then none else j PUnit.unit
def dS (x0:List Int):Option Int:=kh lpK jnK x0
abbrev Si:=(List Int)->Option (Int)
def KU:Ctr:=⟨[(.sl i64)],[],[],.one i64,fun x _ _=>dS x.1⟩
theorem Vv (lp:Lp) (jn:Jn):∀(x:TsS KU.as) (F:TsF KU.fs) (y:TsS KU.cs),kh lp jn x.1=cn lp jn (cx [] [(134,bJ)]) ao 4 156 f156 KU x F y:=fun x F y=>by kernel_rfl
theorem TL:KU.ok prog 156:=Ctr.of_den (au (bV)) aW (hl:=ao) (d:=4) func156 rfl (by decide) (Vv lpK jnK)
def mh (lp:Lp) (_:Jn) (dt:TN) (dS:Si) (x0:(List Int)×List ((List Int)×Int×Int)):Option Bool :=
 aa (dt x0.1 0) fun (t:Int)=>lp (List Int×Int×PUnit) Bool (fun (again:List Int×Int×PUnit->Option Bool) (x:List Int×Int×PUnit) =>
 let v6:List Int×Int×Int:=x0.2.getD x.2.1.toNat ([],0,0);bif decide (x.2.1<(↑x0.2.length:Int)) then bif inB x.2.1 x0.2.length then aa (dt v6.1 v6.2.2) fun (t:Int)=>bif dZ (List.length x.1+1) 8 then again (x.1++[t],IntKind.wrap .i64 (x.2.1+1),PUnit.unit) else none else none else lp (Int×Int×PUnit) Bool (fun (again:Int×Int×PUnit->Option Bool) (x_1:Int×Int×PUnit) =>
 let v9:Int:=x.1.getD x_1.2.1.toNat 0;bif decide (x_1.2.1<(↑x.1.length:Int)) then bif inB x_1.2.1 x.1.length then bif Nat.ble (Nat.succ x_1.2.1.toNat) x.1.length then bif nzB v9 then bif decide (x_1.1>IntKind.wrap .i64 (Int.tdiv 17592186044416 v9)) then some false else again (IntKind.wrap .i64 (x_1.1*v9),IntKind.wrap .i64 (x_1.2.1+1),PUnit.unit) else none else none else none else aa (dS x.1) fun (t : Int)=>bif nzB t then some (decide (x_1.1<=IntKind.wrap .i64 (Int.tdiv 144115188075855872 t))) else none) (1,0,PUnit.unit)) ([t],0, PUnit.unit)
def df (x0:(List Int)×List ((List Int)×Int×Int)):Option Bool:=mh lpK jnK dt dS x0
abbrev N0:=((List Int)×List ((List Int)×Int×Int))->Option (Bool)
def S1 (df:N0):Ctr:=⟨[T32],[],[],.one .bool,fun x _ _=>df x.1⟩
def JD:Ctr:=S1 df
theorem VH (lp:Lp) (jn:Jn) (dt:TN) (dS:Si):∀(x:TsS JD.as) (F:TsF JD.fs) (y:TsS JD.cs),mh lp jn dt dS x.1=cn lp jn (cx [(156,⟨[(.sl i64)],[],[],.one i64,fun x _ _=>dS x.1⟩),(154,⟨[(.sl i64),i64],[],[],.one i64,fun x _ _=>dt x.1 x.2.1⟩)] [(134,bJ)]) ao 4 108 f108 JD x F y:=fun x F y=>by kernel_rfl
theorem Sf:JD.ok prog 108:=Ctr.of_den (au (ai (ai (bV) (by kernel_rfl) T1) (by kernel_rfl) TL)) aW (hl:=ao) (d:=4) func108 rfl (by decide) (VH lpK jnK dt dS)
def fI (lp:Lp) (_:Jn) (x0:(List (List Int))×Int×(List Int)×(List Int)×(List Int)×Int×Int) (x1:Int):Option Int :=
 lp (Int×Int×PUnit) Int (fun (again:Int×Int×PUnit->Option Int) (x:Int×Int×PUnit) =>
 let v6:Int×PUnit:=(IntKind.wrap .i64 (x.2.1+1),PUnit.unit);
 let v7:List Int:=x0.1.getD x.2.1.toNat [];bif decide (x.2.1<(↑x0.1.length:Int)) then bif inB x.2.1 x0.1.length then bif inB x.2.1 x0.2.2.1.length then bif decide (x0.2.2.1.getD x.2.1.toNat 0>=x0.2.2.2.2.2.1) then bif inB x1 v7.length then again (IntKind.wrap .i64 (x.1+v7.getD x1.toNat 0),v6) else none else again (x.1,v6) else none else none else some x.1) (0,0,PUnit.unit)
def aH (x0:(List (List Int))×Int×(List Int)×(List Int)×(List Int)×Int×Int) (x1:Int):Option Int:=fI lpK jnK x0 x1
abbrev Pd:=((List (List Int))×Int×(List Int)×(List Int)×(List Int)×Int×Int)->(Int)->Option (Int)
def TQ (aH:Pd):PCtr:=⟨HL,[i64],.one i64,fun x y=>aH x y.1⟩
def Pj:PCtr:=TQ aH
theorem U0 (lp:Lp) (jn:Jn):∀(x:Pj.s.T) (y:TsS Pj.as),fI lp jn x y.1=Ga lp jn (cx [] [(134,bJ)]) ao 4 126 f126 Pj x y:=fun x y=>by kernel_rfl
theorem TW:Pj.ok prog 126:=PCtr.of_den (au (bV)) aW (hl:=ao) (d:=4) func126 rfl (by decide) (U0 lpK jnK)
def lj (_:Lp) (_:Jn) (bW:EY) (cg:Ju) (x0:Int) (x1:Int):Option (Bool×Int×Int) :=
 
 let v4:Bool:=!decide (decide (x0<0)=decide (x1<0));
 let v5:Bool:=!v4;
 let v6:Bool:=v5||v4;aa (cg x0) fun (t:Int)=>aa (cg x1) fun (t_1:Int)=>aa (bW t t_1) fun (t:Int×Int×PUnit) =>
 let v10:Bool:=!decide (t.1=0);
 let v11:Bool:=v4&&!v10;bif v6 then bif v6 then bif !v11||v11 then bif (v5||v6)&&(v5||(v10||(v5||v11))) then bif v6 then some (bif v4 then bif v10 then true else !decide (t.2.1=0) else false,t.1,t.2.1) else none else none else none else none else none
def bI (x0:Int) (x1:Int):Option (Bool×Int×Int):=lj lpK jnK bW cg x0 x1
abbrev JZ:=(Int)->(Int)->Option (Bool×Int×Int)
def QN (bI:JZ):Ctr:=⟨[i64,i64],[],[],.one uw,fun x _ _=>bI x.1 x.2.1⟩
def LN:Ctr:=QN bI
theorem Ua (lp:Lp) (jn:Jn) (bW:EY) (cg:Ju):∀(x:TsS LN.as) (F:TsF LN.fs) (y:TsS LN.cs),lj lp jn bW cg x.1 x.2.1=cn lp jn (cx [(155,Q8 cg),(122,OX bW)] [(134,bJ)]) ao 4 175 f175 LN x F y:=fun x F y=>by kernel_rfl
theorem P0:LN.ok prog 175:=Ctr.of_den (au (ai (ai (bV) (by kernel_rfl) KR) (by kernel_rfl) P6)) aW (hl:=ao) (d:=4) func175 rfl (by decide) (Ua lpK jnK bW cg)
def fO (_:Lp) (_:Jn) (x0:Bool×Int×Int) (x1:Bool×Int×Int):Option Int :=
 
 let v4:Bool:=decide (x0.2.1=x1.2.1);
 let v5:Bool:=!v4;
 let v6:Bool:=v5||v4;
 let v7:Bool:=!v5||v5;
 let v8:Bool:=bif v5 then decide (x0.2.1<x1.2.1) else false;
 let v9:Bool:=!v8;
 let v10:Bool:=!v9;
 let v11:Bool:=v9&&v4;
 let v12:Bool:=v10||v9;
 let v13:Bool:=!v11||v11;bif v7 then bif v7 then bif v7&&v7 then bif v7 then bif v12 then bif v12 then bif v12&&v12 then bif v12 then bif v13 then bif v13 then bif v13&&v13 then bif (v10||v12)&&(v10||(v5||(v10||v11))) then bif v8||v9 then bif bif v8 then true else bif v4 then decide (x0.2.2<x1.2.2) else false then some (-1) else bif v6 then bif v6 then bif v6&&v6 then bif v6 then bif bif v4 then decide (x0.2.2=x1.2.2) else false then some 0 else some 1 else none else none else none else none else none else none else none else none else none else none else none else none else none else none else none else none else none
def aB (x0:Bool×Int×Int) (x1:Bool×Int×Int):Option Int:=fO lpK jnK x0 x1
abbrev Jm:=(Bool×Int×Int)->(Bool×Int×Int)->Option (Int)
def Rn (aB:Jm):Ctr:=⟨[uw,uw],[],[],.one i64,fun x _ _=>aB x.1 x.2.1⟩
def KH:Ctr:=Rn aB
theorem UZ (lp:Lp) (jn:Jn):∀(x:TsS KH.as) (F:TsF KH.fs) (y:TsS KH.cs),fO lp jn x.1 x.2.1=cn lp jn (cx [] [(134,bJ)]) ao 4 184 f184 KH x F y:=fun x F y=>by kernel_rfl
theorem P9:KH.ok prog 184:=Ctr.of_den (au (bV)) aW (hl:=ao) (d:=4) func184 rfl (by decide) (UZ lpK jnK)
def gv (_:Lp) (jn:Jn) (aB:Jm) (x0:Bool×Int×Int) (x1:Bool×Int×Int):Option (Bool×Int×Int) :=
 
 let v4:Bool:=!x0.1;
 let v5:Bool:=!x1.1;
 let v6:Bool:=!v4;
 let v7:Bool:=v4&&v5;
 let v8:Bool:=v6||v4;
 let v9:Bool:=!v7;
 let v10:Bool:=v9||v7;
 let v11:Bool:=!decide (x1.2.1=0);
 let v12:Bool:=v7&&!v11;
 let v13:Bool:=decide ((0:Int)<=0)&&decide ((0:Int)<=1);
 let v14:Bool:=!v12||v12;bif !decide (x0.1=x1.1) then bif v13 then bif decide (0<=pN x0.2.2 x1.2.2 0)&&decide (pN x0.2.2 x1.2.2 (0 : Int)<=1) then bif v8 then bif v8 then bif v8 then bif v10 then bif v10 then bif v10 then bif v14 then bif v14 then bif (v9||v10)&&(v9||(v11||(v9||v12))) then bif (v6 || v8)&&(v6||(!v5||(v6||v7))) then bif x0.1||v4 then some (bif x0.1 then true else bif v5 then bif v11 then true else !decide (x1.2.2=0) else false,yT x0.2.1 x1.2.1 (pN x0.2.2 x1.2.2 0),yT x0.2.2 x1.2.2 0) else none else none else none else none else none else none else none else none else none else none else none else none else none else aa (aB x0 x1) fun (t:Int)=>jn (Bool×(Bool×Int×Int)×(Bool×Int×Int)×PUnit) (Bool×Int×Int) (fun (x:Bool×(Bool×Int×Int)×(Bool×Int×Int)×PUnit) =>
 let v17:Bool:=!x.1;
 let v18:Bool:=v17||x.1;
 let v19:Bool:=!decide (uM x.2.1.2.1 x.2.2.1.2.1 (nJ x.2.1.2.2 x.2.2.1.2.2 0)=0);
 let v20:Bool:=x.1&&!v19;bif v13 then bif decide (0<=nJ x.2.1.2.2 x.2.2.1.2.2 0)&&decide (nJ x.2.1.2.2 x.2.2.1.2.2 (0 : Int)<=1) then bif v18 then bif v18 then bif !v20||v20 then bif (v17||v18)&&(v17||(v19||(v17||v20))) then bif v18 then some (bif x.1 then bif v19 then true else !decide (uM x.2.1.2.2 x.2.2.1.2.2 0=0) else false,uM x.2.1.2.1 x.2.2.1.2.1 (nJ x.2.1.2.2 x.2.2.1.2.2 (0 : Int)),uM x.2.1.2.2 x.2.2.1.2.2 0) else none else none else none else none else none else none else none) fun (j:Bool×(Bool×Int×Int)×(Bool×Int × Int)×PUnit->Option (Bool×Int×Int))=>bif decide (t<0) then j (v4,x1,x0,PUnit.unit) else j (x0.1,x0,x1,PUnit.unit)
def bH (x0:Bool×Int×Int) (x1:Bool×Int×Int):Option (Bool×Int×Int):=gv lpK jnK aB x0 x1
abbrev Rc:=(Bool×Int×Int)->(Bool×Int×Int)->Option (Bool×Int×Int)
def Te (bH:Rc):Ctr:=⟨[uw,uw],[],[],.one uw,fun x _ _=>bH x.1 x.2.1⟩
def JK:Ctr:=Te bH
theorem U1 (lp:Lp) (jn:Jn) (aB:Jm):∀(x:TsS JK.as) (F:TsF JK.fs) (y:TsS JK.cs),gv lp jn aB x.1 x.2.1=cn lp jn (cx [(184,Rn aB)] [(134,bJ)]) ao 4 176 f176 JK x F y:=fun x F y=>by kernel_rfl
theorem RZ:JK.ok prog 176:=Ctr.of_den (au (ai (bV) (by kernel_rfl) P9)) aW (hl:=ao) (d:=4) func176 rfl (by decide) (U1 lpK jnK aB)
def gE (_:Lp) (_:Jn) (cZ:Mi) (x0:Bool×Int×Int) (x1:Int):Option Int :=
 aa (cZ x0.2.1 x0.2.2 (IntKind.wrap .u64 x1)) fun (t:Int×Int×PUnit) =>
 let v5:Int:=IntKind.wrap .i64 t.1;bif x0.1 then some (IntKind.wrap .i64 (0 - v5)) else some v5
def ca (x0:Bool×Int×Int) (x1:Int):Option Int:=gE lpK jnK cZ x0 x1
abbrev TK:=(Bool×Int×Int)->(Int)->Option (Int)
def LI:Ctr:=⟨[uw,i64],[],[],.one i64,fun x _ _=>ca x.1 x.2.1⟩
theorem Ud (lp:Lp) (jn:Jn) (cZ:Mi):∀(x:TsS LI.as) (F:TsF LI.fs) (y:TsS LI.cs),gE lp jn cZ x.1 x.2.1=cn lp jn (cx [(125,Qt cZ)] [(134,bJ)]) ao 4 177 f177 LI x F y:=fun x F y=>by kernel_rfl
theorem SI:LI.ok prog 177:=Ctr.of_den (au (ai (bV) (by kernel_rfl) Qi)) aW (hl:=ao) (d:=4) func177 rfl (by decide) (Ud lpK jnK cZ)
def ic (lp:Lp) (_:Jn) (bI:JZ) (bH:Rc) (ca:TK) (x0:List Nat×List (Option (List Int))) (x1:Int) (x2:List Int) (x3:List Int) (x4:List Int) (x5:Int) (x6:Int) (x7:Int) (x8:Int):Option ((List Nat×List (Option (List Int)))×Int×(List Int)×(List Int)×(List Int)×Int×Int×Unit) :=
 
 let v11:List Int×List Int×List Int×Int×Int×PUnit:=(x2.set x7.toNat x8,x3,x4,x5,x6,PUnit.unit);bif inB x7 x0.1.length then bif Nat.ble (Nat.succ x7.toNat) x0.1.length then bif inB x8 (List.length (ah x0.2 (x0.1.getD x7.toNat 0))) then bif Nat.ble (Nat.succ x8.toNat) (List.length (ah x0.2 (x0.1.getD x7.toNat 0))) then lp (Int×(List Nat×List (Option (List Int)))×PUnit) ((List Nat×List (Option (List Int)))×Int×List Int×List Int×List Int×Int×Int×PUnit) (fun (again:Int×(List Nat×List (Option (List Int)))×PUnit->Option ((List Nat×List (Option (List Int)))×Int×List Int×List Int×List Int×Int×Int×PUnit)) (x:Int×(List Nat×List (Option (List Int)))×PUnit) =>
 let v14:Int:=IntKind.wrap .i64 (x.1+1);
 let v15:(List Nat×List (Option (List Int)))×PUnit:=(x.2.1,PUnit.unit);
 let v16:Int×(List Nat×List (Option (List Int)))×PUnit:=(0,v15);bif decide (x.1<(↑x0.1.length:Int)) then bif inB x.1 x.2.1.1.length then bif Nat.ble (Nat.succ x.1.toNat) x.2.1.1.length then bif decide (x.1=x7) then again (v14,v15) else bif inB x8 (List.length (ah x.2.1.2 (x.2.1.1.getD x.1.toNat 0))) then bif Nat.ble (Nat.succ x8.toNat) (List.length (ah x.2.1.2 (x.2.1.1.getD x.1.toNat 0))) then bif eM x.2.1.2 (x.2.1.1.getD x.1.toNat 0) then lp (Int×(List Nat×List (Option (List Int)))×PUnit) ((List Nat×List (Option (List Int)))×Int × List Int×List Int×List Int×Int×Int×PUnit) (fun (again_1:Int×(List Nat×List (Option (List Int)))×PUnit->Option ((List Nat×List (Option (List Int)))×Int×List Int × List Int×List Int×Int×Int×PUnit)) (x_1:Int×(List Nat×List (Option (List Int)))×PUnit)=>bif decide (x_1.1<(↑(List.length (ah x.2.1.2 (x.2.1.1.getD x.1.toNat 0))):Int)) then bif inB x_1.1 (List.length (ah x_1.2.1.2 (x.2.1.1.getD x.1.toNat 0))) then bif Nat.ble (Nat.succ x_1.1.toNat) (List.length (ah x_1.2.1.2 (x.2.1.1.getD x.1.toNat 0))) then aa (bI (List.getD (ah x_1.2.1.2 (x.2.1.1.getD x.1.toNat 0)) x_1.1.toNat 0) (List.getD (ah x0.2 (x0.1.getD x7.toNat 0)) x8.toNat 0)) fun (t:Bool×Int×Int)=>bif inB x7 x_1.2.1.1.length then bif Nat.ble (Nat.succ x7.toNat) x_1.2.1.1.length then bif inB x_1.1 (List.length (ah x_1.2.1.2 (x_1.2.1.1.getD x7.toNat 0))) then bif Nat.ble (Nat.succ x_1.1.toNat) (List.length (ah x_1.2.1.2 (x_1.2.1.1.getD x7.toNat 0))) then aa (bI (List.getD (ah x.2.1.2 (x.2.1.1.getD x.1.toNat 0)) x8.toNat 0) (List.getD (ah x_1.2.1.2 (x_1.2.1.1.getD x7.toNat 0)) x_1.1.toNat 0)) fun (t_1:Bool×Int×Int)=>aa (bH t t_1) fun (t:Bool × Int×Int)=>aa (ca t x1) fun (t:Int)=>bif inB x_1.1 (List.length (ah x_1.2.1.2 (x.2.1.1.getD x.1.toNat 0))) then bif Nat.ble (Nat.succ x_1.1.toNat) (List.length (ah x_1.2.1.2 (x.2.1.1.getD x.1.toNat 0))) then again_1 (IntKind.wrap .i64 (x_1.1+(1 : Int)),(x_1.2.1.1,x_1.2.1.2.set (x.2.1.1.getD x.1.toNat 0) (some (List.set (ah x_1.2.1.2 (x.2.1.1.getD x.1.toNat 0)) x_1.1.toNat t))),PUnit.unit) else none else none else none else none else none else none else none else none else again (v14,x_1.2.1,PUnit.unit)) v16 else none else none else none else none else none else bif inB x7 x2.length then bif Nat.ble (Nat.succ x7.toNat) x2.length then bif decide (List.getD (ah x0.2 (x0.1.getD x7.toNat 0)) x8.toNat 0<0) then lp (Int×(List Nat×List (Option (List Int)))×PUnit) ((List Nat×List (Option (List Int))) × Int×List Int×List Int×List Int×Int×Int×PUnit) (fun (again:Int×(List Nat×List (Option (List Int)))×PUnit->Option ((List Nat×List (Option (List Int)))×Int×List Int×List Int×List Int×Int×Int×PUnit)) (x_1:Int×(List Nat×List (Option (List Int)))×PUnit)=>bif decide (x_1.1<(↑x.2.1.1.length:Int)) then bif inB x_1.1 x_1.2.1.1.length then bif Nat.ble (Nat.succ x_1.1.toNat) x_1.2.1.1.length then bif eM x_1.2.1.2 (x_1.2.1.1.getD x_1.1.toNat 0) then lp (Int×(List Nat×List (Option (List Int)))×PUnit) ((List Nat×List (Option (List Int)))×Int×List Int×List Int×List Int×Int×Int×PUnit) (fun (again_1:Int×(List Nat×List (Option (List Int)))×PUnit->Option ((List Nat×List (Option (List Int)))×Int×List Int×List Int×List Int×Int×Int×PUnit)) (x:Int × (List Nat×List (Option (List Int)))×PUnit)=>bif decide (x.1<(↑(List.length (ah x_1.2.1.2 (x_1.2.1.1.getD x_1.1.toNat 0))):Int)) then bif inB x.1 (List.length (ah x.2.1.2 (x_1.2.1.1.getD x_1.1.toNat 0))) then bif Nat.ble (Nat.succ x.1.toNat) (List.length (ah x.2.1.2 (x_1.2.1.1.getD x_1.1.toNat 0))) then bif inB x.1 (List.length (ah x.2.1.2 (x_1.2.1.1.getD x_1.1.toNat 0))) then bif Nat.ble (Nat.succ x.1.toNat) (List.length (ah x.2.1.2 (x_1.2.1.1.getD x_1.1.toNat 0))) then again_1 (IntKind.wrap .i64 (x.1+(1 : Int)),(x.2.1.1,x.2.1.2.set (x_1.2.1.1.getD x_1.1.toNat 0) (some (List.set (ah x.2.1.2 (x_1.2.1.1.getD x_1.1.toNat 0)) x.1.toNat (IntKind.wrap .i64 (0 - List.getD (ah x.2.1.2 (x_1.2.1.1.getD x_1.1.toNat 0)) x.1.toNat 0))))),PUnit.unit) else none else none else none else none else again (IntKind.wrap .i64 (x_1.1+1),x.2.1,PUnit.unit)) (0,x_1.2.1, PUnit.unit) else none else none else none else some (x_1.2.1,IntKind.wrap .i64 (0 - List.getD (ah x0.2 (x0.1.getD x7.toNat 0)) x8.toNat 0),v11)) v16 else some (x.2.1,List.getD (ah x0.2 (x0.1.getD x7.toNat 0)) x8.toNat 0,v11) else none else none) (0,x0, PUnit.unit) else none else none else none else none
def aN (x0:List Nat×List (Option (List Int))) (x1:Int) (x2:List Int) (x3:List Int) (x4:List Int) (x5:Int) (x6:Int) (x7:Int) (x8:Int):Option ((List Nat×List (Option (List Int)))×Int×(List Int)×(List Int)×(List Int)×Int×Int×Unit):=ic lpK jnK bI bH ca x0 x1 x2 x3 x4 x5 x6 x7 x8
abbrev M3:=(List Nat×List (Option (List Int)))->(Int)->(List Int)->(List Int)->(List Int)->(Int)->(Int)->(Int)->(Int)->Option ((List Nat×List (Option (List Int)))×Int×(List Int)×(List Int)×(List Int)×Int×Int×Unit)
def Qs (aN:M3):SCtr:=⟨[.b [.x (.tab 29 .ref 3 i64),.d i64,.row 3 i64,.row 3 i64,.row 3 i64,.d i64,.d i64],.d i64,.d i64],[],fun x=>aN x.1 x.2.1 x.2.2.1 x.2.2.2.1 x.2.2.2.2.1 x.2.2.2.2.2.1 x.2.2.2.2.2.2.1 x.2.2.2.2.2.2.2.1 x.2.2.2.2.2.2.2.2.1⟩
def Qu:SCtr:=Qs aN
theorem VG (lp:Lp) (jn:Jn) (bI:JZ) (bH:Rc) (ca:TK):∀x:TsR (rhI 0 Qu.ks),ic lp jn bI bH ca x.1 x.2.1 x.2.2.1 x.2.2.2.1 x.2.2.2.2.1 x.2.2.2.2.2.1 x.2.2.2.2.2.2.1 x.2.2.2.2.2.2.2.1 x.2.2.2.2.2.2.2.2.1=Jz lp jn (Dn.look []) (cx [(177,⟨[uw,i64],[],[],.one i64,fun x _ _=>ca x.1 x.2.1⟩),(176,Te bH),(175,QN bI)] [(134,bJ)]) ao 4 157 f157 Qu x:=fun x=>by kernel_rfl
theorem Qb:Qu.ok prog 157:=SCtr.of_den (au (ai (ai (ai (bV) (by kernel_rfl) P0) (by kernel_rfl) RZ) (by kernel_rfl) SI)) aW (tA) (hl:=ao) (d:=4) func157 rfl (by decide) (VG lpK jnK bI bH ca)
set_option maxRecDepth 100000
def ik (_:Lp) (_:Jn) (aB:Jm) (x0:Bool×Int×Int) (x1:Bool×Int×Int):Option Int :=
 
 let v4:Bool:=!decide (x0.1=x1.1);
 let v5:Bool:=!v4||v4;bif v5 then bif v5 then bif bif v4 then x0.1 else false then some (-1) else bif v4 then some 1 else bif x0.1 then aa (aB x1 x0) fun (t:Int)=>some t else aa (aB x0 x1) fun (t:Int)=>some t else none else none
def cG (x0:Bool×Int×Int) (x1:Bool×Int×Int):Option Int:=ik lpK jnK aB x0 x1
abbrev Tm:=(Bool×Int×Int)->(Bool×Int×Int)->Option (Int)
def I8:Ctr:=⟨[uw,uw],[],[],.one i64,fun x _ _=>cG x.1 x.2.1⟩
theorem Uz (lp:Lp) (jn:Jn) (aB:Jm):∀(x:TsS I8.as) (F:TsF I8.fs) (y:TsS I8.cs),ik lp jn aB x.1 x.2.1=cn lp jn (cx [(184,Rn aB)] [(134,bJ)]) ao 4 178 f178 I8 x F y:=fun x F y=>by kernel_rfl
theorem TX:I8.ok prog 178:=Ctr.of_den (au (ai (bV) (by kernel_rfl) P9)) aW (hl:=ao) (d:=4) func178 rfl (by decide) (Uz lpK jnK aB)
def gu (lp:Lp) (_:Jn) (bI:JZ) (cG:Tm) (x0:(List (List Int))×Int×(List Int)×(List Int)×(List Int)×Int×Int) (x1:Int):Option Int :=
 lp (Int×Int×PUnit) Int (fun (again:Int×Int×PUnit->Option Int) (x:Int×Int×PUnit) =>
 let v6:Int×PUnit:=(IntKind.wrap .i64 (x.2.1+1),PUnit.unit);
 let v7:Bool:=inB x.1 x0.1.length;
 let v8:List Int:=x0.1.getD x.1.toNat [];
 let v9:List Int:=x0.1.getD x.2.1.toNat [];
 let v10:Bool:=inB x1 v9.length;bif decide (x.2.1<(↑x0.1.length:Int)) then bif inB x.2.1 x0.1.length then bif v10 then bif decide (v9.getD x1.toNat 0<=0) then again (x.1,v6) else bif decide (x.1<0) then again (x.2.1,v6) else bif inB x0.2.2.2.2.2.2 v9.length then bif v7 then bif inB x1 v8.length then aa (bI (v9.getD x0.2.2.2.2.2.2.toNat 0) (v8.getD x1.toNat 0)) fun (t:Bool × Int×Int)=>bif v7 then bif inB x0.2.2.2.2.2.2 v8.length then bif v10 then aa (bI (v8.getD x0.2.2.2.2.2.2.toNat 0) (v9.getD x1.toNat 0)) fun (t_1:Bool×Int×Int)=>aa (cG t t_1) fun (t:Int) =>
 let v14:Bool:=decide (t=0);
 let v15:Bool:=decide (t<0);
 let v16:Bool:=!v15;
 let v17:Bool:=!v16;
 let v18:Bool:=v16&&v14;
 let v19:Bool:=!v18;
 let v20:Bool:=v17||v16;
 let v21:Bool:=v19||v18;bif v20 then bif v20 then bif v21 then bif v21 then bif v21 then bif v21&&(v21&&(v19||inB x.2.1 x0.2.2.1.length)) then bif v21 then bif v21 then bif v21 then bif v21 then bif v21&&(v21&&(v19||inB x.1 x0.2.2.1.length)) then bif v21 then bif v21&&v21 then bif (v17||v20)&&(v17||(!v14 || (v17||v18))) then bif v15||v16 then bif bif v15 then true else bif v14 then decide (x0.2.2.1.getD x.2.1.toNat 0<x0.2.2.1.getD x.1.toNat 0) else false then again (x.2.1,v6) else again (x.1,v6) else none else none else none else none else none else none else none else none else none else none else none else none else none else none else none else none else none else none else none else none else none else none else none else some x.1) ((-1),0,PUnit.unit)
def aJ (x0:(List (List Int))×Int×(List Int)×(List Int)×(List Int)×Int×Int) (x1:Int):Option Int:=gu lpK jnK bI cG x0 x1
abbrev JC:=((List (List Int))×Int×(List Int)×(List Int)×(List Int)×Int×Int)->(Int)->Option (Int)
def RP (aJ:JC):PCtr:=⟨HL,[i64],.one i64,fun x y=>aJ x y.1⟩
def NA:PCtr:=RP aJ
theorem Ut (lp:Lp) (jn:Jn) (bI:JZ) (cG:Tm):∀(x:NA.s.T) (y:TsS NA.as),gu lp jn bI cG x y.1=Ga lp jn (cx [(178,⟨[uw,uw],[],[],.one i64,fun x _ _=>cG x.1 x.2.1⟩),(175,QN bI)] [(134,bJ)]) ao 4 158 f158 NA x y:=fun x y=>by kernel_rfl
theorem Qd:NA.ok prog 158:=PCtr.of_den (au (ai (ai (bV) (by kernel_rfl) P0) (by kernel_rfl) TX)) aW (hl:=ao) (d:=4) func158 rfl (by decide) (Ut lpK jnK bI cG)
def ib (lp:Lp) (_:Jn) (aN:M3) (aH:Pd) (aJ:JC) (x0:List Nat×List (Option (List Int))) (x1:Int) (x2:List Int) (x3:List Int) (x4:List Int) (x5:Int) (x6:Int):Option ((List Nat×List (Option (List Int)))×Int×(List Int)×(List Int)×(List Int)×Int×Int×Bool×Unit) :=
 lp ((List Nat×List (Option (List Int)))×Int×List Int×List Int×List Int×Int×Int×PUnit) ((List Nat×List (Option (List Int)))×Int×List Int×List Int×List Int×Int × Int×Bool×PUnit) (fun (again:(List Nat×List (Option (List Int)))×Int×List Int×List Int×List Int×Int×Int×PUnit->Option ((List Nat×List (Option (List Int)))×Int × List Int×List Int×List Int×Int×Int×Bool×PUnit)) (x:(List Nat×List (Option (List Int)))×Int×List Int×List Int×List Int×Int×Int×PUnit)=>lp (Int×Int × PUnit) ((List Nat×List (Option (List Int)))×Int×List Int×List Int×List Int×Int×Int×Bool×PUnit) (fun (again_1:Int×Int×PUnit->Option ((List Nat×List (Option (List Int)))×Int×List Int×List Int×List Int×Int×Int×Bool×PUnit)) (x_1:Int×Int×PUnit) =>
 let v13:Bool:=decide (x_1.1<0);
 let v14:Int×PUnit:=(IntKind.wrap .i64 (x_1.2.1+1),PUnit.unit);
 let v15:Bool:=decide (x_1.2.1<x.2.2.2.2.2.1);
 let v16:Bool:=!v15||v15;bif v16 then bif v16 then bif bif v15 then v13 else false then aa (bif List.all x.1.1 fun (x_2:Nat)=>eM x.1.2 x_2 then aH (List.map (fun (x_2:Nat)=>ah x.1.2 x_2) x.1.1,x.2.1,x.2.2.1,x.2.2.2.1,x.2.2.2.2.1,x.2.2.2.2.2.1, x.2.2.2.2.2.2.1) x_1.2.1 else none) fun (t:Int)=>bif decide (t>0) then again_1 (x_1.2.1,v14) else again_1 (x_1.1,v14) else bif v13 then aa (bif List.all x.1.1 fun (x_2:Nat)=>eM x.1.2 x_2 then aH (List.map (fun (x_2:Nat)=>ah x.1.2 x_2) x.1.1,x.2.1,x.2.2.1, x.2.2.2.1,x.2.2.2.2.1,x.2.2.2.2.2.1,x.2.2.2.2.2.2.1) x.2.2.2.2.2.2.1 else none) fun (t:Int)=>bif decide (t>0) then some (x.1,x.2.1,x.2.2.1,x.2.2.2.1,x.2.2.2.2.1,x.2.2.2.2.2.1,x.2.2.2.2.2.2.1,false,PUnit.unit) else lp (Int×(List Nat×List (Option (List Int)))×Int×List Int×List Int×List Int×Int×Int×PUnit) ((List Nat×List (Option (List Int)))×Int×List Int×List Int×List Int×Int×Int × Bool×PUnit) (fun (again:Int×(List Nat×List (Option (List Int)))×Int×List Int×List Int×List Int×Int×Int×PUnit->Option ((List Nat×List (Option (List Int)))×Int × List Int×List Int×List Int×Int×Int×Bool×PUnit)) (x_2:Int×(List Nat×List (Option (List Int)))×Int×List Int×List Int×List Int×Int×Int×PUnit)=>bif decide (x_2.1<(↑x.1.1.length:Int)) then lp (Int×(List Nat×List (Option (List Int)))×Int×List Int×List Int×List Int×Int×Int×PUnit) ((List Nat×List (Option (List Int)))×Int×List Int×List Int×List Int×Int×Int×Bool×PUnit) (fun (again_2:Int×(List Nat×List (Option (List Int)))×Int×List Int×List Int×List Int×Int×Int×PUnit->Option ((List Nat×List (Option (List Int)))×Int×List Int×List Int×List Int×Int×Int×Bool×PUnit)) (x:Int×(List Nat×List (Option (List Int)))×Int×List Int×List Int×List Int×Int×Int×PUnit) =>
 let v22:Int:=IntKind.wrap .i64 (x.1+1);
 let v23:Bool:=decide (x.1<x.2.2.2.2.2.2.1);
 let v24:Bool:=!v23;
 let v25:Bool:=v24||v23;
 let v26:(List Nat×List (Option (List Int)))×Int×List Int×List Int×List Int×Int×Int×PUnit:=(x.2.1,x.2.2.1,x.2.2.2.1,x.2.2.2.2.1, x.2.2.2.2.2.1,x.2.2.2.2.2.2.1,x.2.2.2.2.2.2.2.1,PUnit.unit);bif v25 then bif v25 then bif v25 then bif v25&&(v25&&(v24||inB x_2.1 x.2.2.2.1.length)) then bif v25&&(v24||Nat.ble (Nat.succ x_2.1.toNat) x.2.2.2.1.length) then bif v25 then bif v25 then bif v25 then bif v25 && v25 then bif v25 then bif bif v23 then decide (x.2.2.2.1.getD x_2.1.toNat 0>=x.2.2.2.2.2.2.1) else false then bif inB x_2.1 x.2.1.1.length then bif Nat.ble (Nat.succ x_2.1.toNat) x.2.1.1.length then bif inB x.1 (List.length (ah x.2.1.2 (x.2.1.1.getD x_2.1.toNat 0))) then bif Nat.ble (Nat.succ x.1.toNat) (List.length (ah x.2.1.2 (x.2.1.1.getD x_2.1.toNat 0))) then bif !decide (List.getD (ah x.2.1.2 (x.2.1.1.getD x_2.1.toNat 0)) x.1.toNat 0=0) then aa (aN x.2.1 x.2.2.1 x.2.2.2.1 x.2.2.2.2.1 x.2.2.2.2.2.1 x.2.2.2.2.2.2.1 x.2.2.2.2.2.2.2.1 x_2.1 x.1) fun (y:(List Nat×List (Option (List Int)))×Int×List Int×List Int×List Int×Int×Int×PUnit)=>again_2 (v22,y.1,y.2.1,y.2.2.1,y.2.2.2.1,y.2.2.2.2.1,y.2.2.2.2.2.1, y.2.2.2.2.2.2.1,PUnit.unit) else again_2 (v22,v26) else none else none else none else none else again (IntKind.wrap .i64 (x_2.1+1),v26) else none else none else none else none else none else none else none else none else none else none) (0,x_2.2.1,x_2.2.2.1,x_2.2.2.2.1,x_2.2.2.2.2.1, x_2.2.2.2.2.2.1,x_2.2.2.2.2.2.2.1,x_2.2.2.2.2.2.2.2.1,PUnit.unit) else some (x_2.2.1,x_2.2.2.1,x_2.2.2.2.1, x_2.2.2.2.2.1,x_2.2.2.2.2.2.1,x_2.2.2.2.2.2.2.1,x_2.2.2.2.2.2.2.2.1,true,PUnit.unit)) (0,x.1,x.2.1, x.2.2.1,x.2.2.2.1,x.2.2.2.2.1,x.2.2.2.2.2.1,x.2.2.2.2.2.2.1,PUnit.unit) else aa (bif List.all x.1.1 fun (x_2:Nat) => eM x.1.2 x_2 then aJ (List.map (fun (x_2:Nat)=>ah x.1.2 x_2) x.1.1,x.2.1,x.2.2.1,x.2.2.2.1,x.2.2.2.2.1, x.2.2.2.2.2.1,x.2.2.2.2.2.2.1) x_1.1 else none) fun (t:Int)=>aa (aN x.1 x.2.1 x.2.2.1 x.2.2.2.1 x.2.2.2.2.1 x.2.2.2.2.2.1 x.2.2.2.2.2.2.1 t x_1.1) fun (y:(List Nat×List (Option (List Int)))×Int×List Int×List Int×List Int×Int × Int×PUnit)=>again (y.1,y.2.1,y.2.2.1,y.2.2.2.1,y.2.2.2.2.1,y.2.2.2.2.2.1,y.2.2.2.2.2.2.1,PUnit.unit) else none else none) ((-1),0,PUnit.unit)) (x0,x1,x2,x3,x4,x5,x6,PUnit.unit)
def bu (x0:List Nat×List (Option (List Int))) (x1:Int) (x2:List Int) (x3:List Int) (x4:List Int) (x5:Int) (x6:Int):Option ((List Nat×List (Option (List Int)))×Int×(List Int)×(List Int)×(List Int)×Int×Int×Bool×Unit):=ib lpK jnK aN aH aJ x0 x1 x2 x3 x4 x5 x6
abbrev OW:=(List Nat×List (Option (List Int)))->(Int)->(List Int)->(List Int)->(List Int)->(Int)->(Int)->Option ((List Nat×List (Option (List Int)))×Int×(List Int)×(List Int)×(List Int)×Int×Int×Bool×Unit)
def Sr (bu:OW):SCtr:=⟨[.b [.x (.tab 29 .ref 3 i64),.d i64,.row 3 i64,.row 3 i64,.row 3 i64,.d i64,.d i64]],[(false,[.d .bool])],fun x=>bu x.1 x.2.1 x.2.2.1 x.2.2.2.1 x.2.2.2.2.1 x.2.2.2.2.2.1 x.2.2.2.2.2.2.1⟩
def QX:SCtr:=Sr bu
theorem Uu (lp:Lp) (jn:Jn) (aN:M3) (aH:Pd) (aJ:JC):∀x:TsR (rhI 0 QX.ks),ib lp jn aN aH aJ x.1 x.2.1 x.2.2.1 x.2.2.2.1 x.2.2.2.2.1 x.2.2.2.2.2.1 x.2.2.2.2.2.2.1=Jz lp jn (Dn.look [(157,Qs aN)]) (Da FY Fx (IP [(158,RP aJ),(126,TQ aH)] [] (ll prog shs yP its [] [(134,bJ)]))) ao 4 110 f110 QX x:=fun x=>by kernel_rfl
theorem R0:QX.ok prog 110:=SCtr.of_den (au (tL (bV) (kA (by kernel_rfl) Qd (kA (by kernel_rfl) TW (qe))) (qN))) aW (rH Qb (tA)) (hl:=ao) (d:=4) func110 rfl (by decide) (Uu lpK jnK aN aH aJ)
def iE (_:Lp) (_:Jn) (x0:(List (List Int))×Int×(List Int)×(List Int)×(List Int)×Int×Int) (x1:Int):Option Int :=
 bif decide (x1<(↑x0.2.2.2.2.1.length:Int)) then bif inB x1 x0.2.2.2.2.1.length then some (x0.2.2.2.2.1.getD x1.toNat 0) else none else some 0
def aO (x0:(List (List Int))×Int×(List Int)×(List Int)×(List Int)×Int×Int) (x1:Int):Option Int:=iE lpK jnK x0 x1
abbrev Jy:=((List (List Int))×Int×(List Int)×(List Int)×(List Int)×Int×Int)->(Int)->Option (Int)
def QQ (aO:Jy):PCtr:=⟨HL,[i64],.one i64,fun x y=>aO x y.1⟩
def PM:PCtr:=QQ aO
theorem VJ (lp:Lp) (jn:Jn):∀(x:PM.s.T) (y:TsS PM.as),iE lp jn x y.1=Ga lp jn (cx [] [(134,bJ)]) ao 4 112 f112 PM x y:=fun x y=>by kernel_rfl
theorem Qf:PM.ok prog 112:=PCtr.of_den (au (bV)) aW (hl:=ao) (d:=4) func112 rfl (by decide) (VJ lpK jnK)
def gx (lp:Lp) (_:Jn) (aO:Jy) (x0:(List (List Int))×Int×(List Int)×(List Int)×(List Int)×Int×Int) (x1:Int):Option Int :=
 aa (aO x0 x1) fun (t:Int)=>lp (Int×Int×PUnit) Int (fun (again:Int×Int×PUnit->Option Int) (x:Int×Int×PUnit) =>
 let v7:List Int:=x0.1.getD x.2.1.toNat [];bif decide (x.2.1<(↑x0.1.length:Int)) then bif inB x.2.1 x0.1.length then bif inB x.2.1 x0.2.2.1.length then aa (aO x0 (x0.2.2.1.getD x.2.1.toNat 0)) fun (t:Int)=>bif inB x1 v7.length then again (IntKind.wrap .i64 (x.1 - IntKind.wrap .i64 (t*v7.getD x1.toNat 0)),IntKind.wrap .i64 (x.2.1+1),PUnit.unit) else none else none else none else some x.1) (IntKind.wrap .i64 (t*x0.2.1),0,PUnit.unit)
def bP (x0:(List (List Int))×Int×(List Int)×(List Int)×(List Int)×Int×Int) (x1:Int):Option Int:=gx lpK jnK aO x0 x1
abbrev T5:=((List (List Int))×Int×(List Int)×(List Int)×(List Int)×Int×Int)->(Int)->Option (Int)
def NM:PCtr:=⟨HL,[i64],.one i64,fun x y=>bP x y.1⟩
theorem UY (lp:Lp) (jn:Jn) (aO:Jy):∀(x:NM.s.T) (y:TsS NM.as),gx lp jn aO x y.1=Ga lp jn (Da FY Fx (IP [(112,QQ aO)] [] (ll prog shs yP its [] [(134,bJ)]))) ao 4 159 f159 NM x y:=fun x y=>by kernel_rfl
theorem TB:NM.ok prog 159:=PCtr.of_den (au (tL (bV) (kA (by kernel_rfl) Qf (qe)) (qN))) aW (hl:=ao) (d:=4) func159 rfl (by decide) (UY lpK jnK aO)
def gz (lp:Lp) (_:Jn) (aN:M3) (aJ:JC) (bP:T5) (x0:List Nat×List (Option (List Int))) (x1:Int) (x2:List Int) (x3:List Int) (x4:List Int) (x5:Int) (x6:Int):Option ((List Nat×List (Option (List Int)))×Int×(List Int)×(List Int)×(List Int)×Int×Int×Bool×Unit) :=
 lp ((List Nat×List (Option (List Int)))×Int×List Int×List Int×List Int×Int×Int×PUnit) ((List Nat×List (Option (List Int)))×Int×List Int×List Int×List Int×Int × Int×Bool×PUnit) (fun (again:(List Nat×List (Option (List Int)))×Int×List Int×List Int×List Int×Int×Int×PUnit->Option ((List Nat×List (Option (List Int)))×Int × List Int×List Int×List Int×Int×Int×Bool×PUnit)) (x:(List Nat×List (Option (List Int)))×Int×List Int×List Int×List Int×Int×Int×PUnit)=>lp (Int×Int × PUnit) ((List Nat×List (Option (List Int)))×Int×List Int×List Int×List Int×Int×Int×Bool×PUnit) (fun (again_1:Int×Int×PUnit->Option ((List Nat×List (Option (List Int)))×Int×List Int×List Int×List Int×Int×Int×Bool×PUnit)) (x_1:Int×Int×PUnit) =>
 let v13:Bool:=decide (x_1.1<0);
 let v14:Int×PUnit:=(IntKind.wrap .i64 (x_1.2.1+1),PUnit.unit);
 let v15:Bool:=decide (x_1.2.1<x.2.2.2.2.2.1);
 let v16:Bool:=!v15||v15;bif v16 then bif v16 then bif bif v15 then v13 else false then aa (bif List.all x.1.1 fun (x_2:Nat)=>eM x.1.2 x_2 then bP (List.map (fun (x_2:Nat)=>ah x.1.2 x_2) x.1.1,x.2.1,x.2.2.1,x.2.2.2.1,x.2.2.2.2.1,x.2.2.2.2.2.1, x.2.2.2.2.2.2.1) x_1.2.1 else none) fun (t:Int)=>bif decide (t<0) then again_1 (x_1.2.1,v14) else again_1 (x_1.1,v14) else bif v13 then some (x.1,x.2.1,x.2.2.1,x.2.2.2.1,x.2.2.2.2.1,x.2.2.2.2.2.1,x.2.2.2.2.2.2.1,true,PUnit.unit) else aa (bif List.all x.1.1 fun (x_2:Nat)=>eM x.1.2 x_2 then aJ (List.map (fun (x_2:Nat)=>ah x.1.2 x_2) x.1.1,x.2.1,x.2.2.1,x.2.2.2.1, x.2.2.2.2.1,x.2.2.2.2.2.1,x.2.2.2.2.2.2.1) x_1.1 else none) fun (t:Int)=>bif decide (t<0) then some (x.1,x.2.1, x.2.2.1,x.2.2.2.1,x.2.2.2.2.1,x.2.2.2.2.2.1,x.2.2.2.2.2.2.1,false,PUnit.unit) else aa (aN x.1 x.2.1 x.2.2.1 x.2.2.2.1 x.2.2.2.2.1 x.2.2.2.2.2.1 x.2.2.2.2.2.2.1 t x_1.1) fun (y:(List Nat×List (Option (List Int)))×Int×List Int × List Int×List Int×Int×Int×PUnit)=>again (y.1,y.2.1,y.2.2.1,y.2.2.2.1,y.2.2.2.2.1,y.2.2.2.2.2.1,y.2.2.2.2.2.2.1, PUnit.unit) else none else none) ((-1),0,PUnit.unit)) (x0,x1,x2,x3,x4,x5,x6,PUnit.unit)
def bG (x0:List Nat×List (Option (List Int))) (x1:Int) (x2:List Int) (x3:List Int) (x4:List Int) (x5:Int) (x6:Int):Option ((List Nat×List (Option (List Int)))×Int×(List Int)×(List Int)×(List Int)×Int×Int×Bool×Unit):=gz lpK jnK aN aJ bP x0 x1 x2 x3 x4 x5 x6
abbrev QG:=(List Nat×List (Option (List Int)))->(Int)->(List Int)->(List Int)->(List Int)->(Int)->(Int)->Option ((List Nat×List (Option (List Int)))×Int×(List Int)×(List Int)×(List Int)×Int×Int×Bool×Unit)
def Sq (bG:QG):SCtr:=⟨[.b [.x (.tab 29 .ref 3 i64),.d i64,.row 3 i64,.row 3 i64,.row 3 i64,.d i64,.d i64]],[(false,[.d .bool])],fun x=>bG x.1 x.2.1 x.2.2.1 x.2.2.2.1 x.2.2.2.2.1 x.2.2.2.2.2.1 x.2.2.2.2.2.2.1⟩
def QC:SCtr:=Sq bG
theorem Ui (lp:Lp) (jn:Jn) (aN:M3) (aJ:JC) (bP:T5):∀x:TsR (rhI 0 QC.ks),gz lp jn aN aJ bP x.1 x.2.1 x.2.2.1 x.2.2.2.1 x.2.2.2.2.1 x.2.2.2.2.2.1 x.2.2.2.2.2.2.1=Jz lp jn (Dn.look [(157,Qs aN)]) (Da FY Fx (IP [(159,⟨HL,[i64],.one i64,fun x y=>bP x y.1⟩),(158,RP aJ)] [] (ll prog shs yP its [] [(134,bJ)]))) ao 4 111 f111 QC x:=fun x=>by kernel_rfl
theorem TZ:QC.ok prog 111:=SCtr.of_den (au (tL (bV) (kA (by kernel_rfl) TB (kA (by kernel_rfl) Qd (qe))) (qN))) aW (rH Qb (tA)) (hl:=ao) (d:=4) func111 rfl (by decide) (Ui lpK jnK aN aJ bP)
def oy (_:Lp) (_:Jn) (bC:t75) (aL:t77) (bm:t82) (x0:Int) (x1:Int):Option ((Int×Int)×Int×Unit) :=
 
 let v4:Bool:=!decide (x0=0);
 let v5:Bool:=!v4||v4;bif decide (x1=0) then some ((0,0),16,PUnit.unit) else aa (aL x0) fun (t:Int)=>aa (aL x1) fun (t_1:Int)=>aa (bC t t_1) fun (t_2:Int) =>
 let v9:Bool:=nzB t_2;bif v5 then bif v5 then bif v5&&v5 then bif v5 then bif v9 then bif v9 then aa (bm (bif v4 then !decide (decide (x0<0)=decide (x1<(0 : Int))) else false) (IntKind.wrap .u64 (Int.tdiv t t_2)) (IntKind.wrap .u64 (Int.tdiv t_1 t_2))) fun (t:(Int×Int)×Int×PUnit)=>some (t.1,t.2.1, PUnit.unit) else none else none else none else none else none else none
def fm (x0:Int) (x1:Int):Option ((Int×Int)×Int×Unit):=oy lpK jnK bC aL bm x0 x1
abbrev Rx:=(Int)->(Int)->Option ((Int×Int)×Int×Unit)
def SK (fm:Rx):Ctr:=⟨[i64,i64],[],[],.tup [T49,i64],fun x _ _=>fm x.1 x.2.1⟩
def Kw:Ctr:=SK fm
theorem Vo (lp:Lp) (jn:Jn) (bC:t75) (aL:t77) (bm:t82):∀(x:TsS Kw.as) (F:TsF Kw.fs) (y:TsS Kw.cs),oy lp jn bC aL bm x.1 x.2.1=cn lp jn (cx [(82,k82 bm),(77,k77 aL),(75,k75 bC)] [(134,bJ)]) ao 4 136 f136 Kw x F y:=fun x F y=>by kernel_rfl
theorem SC:Kw.ok prog 136:=Ctr.of_den (au (ai (ai (ai (bV) (by kernel_rfl) Ox) (by kernel_rfl) KZ) (by kernel_rfl) Qw)) aW (hl:=ao) (d:=4) func136 rfl (by decide) (Vo lpK jnK bC aL bm)
def iA (_:Lp) (_:Jn) (fm:Rx) (x0:(List (List Int))×Int×(List Int)×(List Int)×(List Int)×Int×Int) (x1:Int):Option (Int×Int) :=
 aa (fm x1 x0.2.1) fun (t:(Int×Int)×Int×PUnit)=>some t.1
def bg (x0:(List (List Int))×Int×(List Int)×(List Int)×(List Int)×Int×Int) (x1:Int):Option (Int×Int):=iA lpK jnK fm x0 x1
abbrev PP:=((List (List Int))×Int×(List Int)×(List Int)×(List Int)×Int×Int)->(Int)->Option (Int×Int)
def SQ (bg:PP):PCtr:=⟨HL,[i64],.one T49,fun x y=>bg x y.1⟩
def Nr:PCtr:=SQ bg
theorem Vp (lp:Lp) (jn:Jn) (fm:Rx):∀(x:Nr.s.T) (y:TsS Nr.as),iA lp jn fm x y.1=Ga lp jn (cx [(136,SK fm)] [(134,bJ)]) ao 4 113 f113 Nr x y:=fun x y=>by kernel_rfl
theorem SA:Nr.ok prog 113:=PCtr.of_den (au (ai (bV) (by kernel_rfl) SC)) aW (hl:=ao) (d:=4) func113 rfl (by decide) (Vp lpK jnK fm)
def je (lp:Lp) (jn:Jn) (bD:t91) (df:N0) (cf:OY) (bu:OW) (bG:QG) (aO:Jy) (bg:PP) (x0:(List Int)×List ((List Int)×Int×Int)):Option (((Int×Int)×(List (Int×Int))×List (Int×Int))×Int×Unit) :=
 aa (bD x0) fun (t:Bool)=>bif !t then some (((0,0),[],[]),1,PUnit.unit) else aa (df x0) fun (t:Bool)=>bif !t then some ((((0 : Int),0),[],[]),5,PUnit.unit) else lp (Int×Int×PUnit) (((Int×Int)×List (Int×Int)×List (Int×Int))×Int×PUnit) (fun (again:Int×Int×PUnit -> Option (((Int×Int)×List (Int×Int)×List (Int×Int))×Int×PUnit)) (x:Int×Int×PUnit) =>
 let v7:Int×PUnit:=(IntKind.wrap .i64 (x.2.1+1),PUnit.unit);
 let v8:Int:=IntKind.wrap .i64 ((↑x0.1.length:Int)+x.1);bif decide (x.2.1<(↑x0.2.length:Int)) then bif inB x.2.1 x0.2.length then bif !decide ((x0.2.getD x.2.1.toNat ([],0,0)).2.1=3) then again (IntKind.wrap .i64 (x.1+1),v7) else again (x.1, v7) else none else aa (cf x0.1) fun (t:List Int)=>lp (Int×Int×(List Nat×List (Option (List Int)))×Int×List Int×List Int×List Int×Int×Int × PUnit) (((Int×Int)×List (Int×Int)×List (Int×Int))×Int×PUnit) (fun (again:Int×Int×(List Nat×List (Option (List Int)))×Int×List Int×List Int×List Int×Int × Int×PUnit->Option (((Int×Int)×List (Int×Int)×List (Int×Int))×Int×PUnit)) (x:Int×Int×(List Nat×List (Option (List Int)))×Int×List Int×List Int×List Int × Int×Int×PUnit) =>
 let v12:Int:=IntKind.wrap .i64 (x.1+1);
 let v13:List Int×Int×Int:=x0.2.getD x.2.1.toNat ([],0,0);
 let v14:List Int:=List.replicate (Int.toNat (IntKind.wrap .i64 (x.2.2.2.2.2.2.2.2.1+1))) 0;
 let v15:Bool:=inB x.1 (Int.toNat (IntKind.wrap .i64 (x.2.2.2.2.2.2.2.2.1+1)));
 let v16:Bool:=Nat.ble (Nat.succ x.1.toNat) (Int.toNat (IntKind.wrap .i64 (x.2.2.2.2.2.2.2.2.1+1)));
 let v17:Int:=IntKind.wrap .i64 (x.2.2.2.2.2.2.2.1+x.2.1);
 let v18:List Int:=List.take (Int.toNat (IntKind.wrap .i64 (x.2.2.2.2.2.2.2.2.1+1))) v13.1;
 let v19:List Int:=List.set (List.take 0 v14++v18++List.drop (0+List.length v18) v14) x.2.2.2.2.2.2.2.2.1.toNat v13.2.2;bif decide (x.2.1<(↑x0.2.length:Int)) then bif inB x.2.1 x0.2.length then bif decide (0<=IntKind.wrap .i64 (x.2.2.2.2.2.2.2.2.1+(1 : Int)))&&dZ (Int.toNat (IntKind.wrap .i64 (x.2.2.2.2.2.2.2.2.1+1))) 8 then bif inB x.2.2.2.2.2.2.2.2.1 (Int.toNat (IntKind.wrap .i64 (x.2.2.2.2.2.2.2.2.1+1))) then bif Nat.ble (Nat.succ x.2.2.2.2.2.2.2.2.1.toNat) (Int.toNat (IntKind.wrap IntKind.i64 (x.2.2.2.2.2.2.2.2.1+1))) then jn (Int×List Int×PUnit) (((Int×Int)×List (Int×Int)×List (Int×Int))×Int×PUnit) (fun (x_1:Int × List Int×PUnit) =>
 let v21:List Int×PUnit:=(x_1.2.1,PUnit.unit);jn (Int×List Int×PUnit) (((Int×Int)×List (Int×Int)×List (Int×Int))×Int×PUnit) (fun (x_2:Int×List Int × PUnit)=>bif inB v17 x_2.2.1.length then bif Nat.ble (Nat.succ v17.toNat) x_2.2.1.length then bif dZ (List.length x.2.2.1.1+1) (24 : Nat) then bif dZ (List.length x.2.2.2.2.2.1+1) 8 then bif dZ (List.length x.2.2.2.2.1+1) 8 then again (x_1.1, IntKind.wrap .i64 (x.2.1+1),(x.2.2.1.1++[List.length x.2.2.1.2+0],x.2.2.1.2++[some (x_2.2.1.set v17.toNat (1 : Int))]),x.2.2.2.1,x.2.2.2.2.1++[v17],x.2.2.2.2.2.1++[x_2.1],x.2.2.2.2.2.2.1,x.2.2.2.2.2.2.2.1, x.2.2.2.2.2.2.2.2.1,PUnit.unit) else none else none else none else none else none) fun (j:Int×List Int×PUnit->Option (((Int×Int)×List (Int×Int)×List (Int×Int))×Int×PUnit))=>bif decide (v13.2.2<0) then lp (Int×List Int×PUnit) (((Int×Int)×List (Int×Int)×List (Int×Int))×Int×PUnit) (fun (again : Int×List Int×PUnit->Option (((Int×Int)×List (Int×Int)×List (Int×Int))×Int×PUnit)) (x:Int×List Int×PUnit) =>
 let v25:Bool:=inB x.1 x.2.1.length;
 let v26:Bool:=Nat.ble (Nat.succ x.1.toNat) x.2.1.length;bif decide (x.1<(↑x_1.2.1.length:Int)) then bif v25 then bif v26 then bif v25 then bif v26 then again (IntKind.wrap .i64 (x.1+1),x.2.1.set x.1.toNat (IntKind.wrap .i64 (0 - x.2.1.getD x.1.toNat 0)), PUnit.unit) else none else none else none else none else j ((-1),x.2.1,PUnit.unit)) (0,v21) else j (1,v21)) fun (j:Int×List Int×PUnit->Option (((Int × Int)×List (Int×Int)×List (Int×Int))×Int×PUnit))=>bif decide (v13.2.1=1) then bif v15 then bif v16 then j (v12,v19.set x.1.toNat 1, PUnit.unit) else none else none else jn (Int×List Int×PUnit) (((Int×Int)×List (Int×Int)×List (Int×Int))×Int×PUnit) (fun (x:Int×List Int×PUnit)=>j (x.1, x.2.1,PUnit.unit)) fun (j:Int×List Int×PUnit->Option (((Int×Int)×List (Int×Int)×List (Int×Int))×Int×PUnit))=>bif decide (v13.2.1=2) then bif v15 then bif v16 then j (v12,v19.set x.1.toNat (-1),PUnit.unit) else none else none else j (x.1,v19,PUnit.unit) else none else none else none else none else aa (bu x.2.2.1 x.2.2.2.1 x.2.2.2.2.1 x.2.2.2.2.2.1 x.2.2.2.2.2.2.1 x.2.2.2.2.2.2.2.1 x.2.2.2.2.2.2.2.2.1) fun (y:(List Nat×List (Option (List Int)))×Int×List Int×List Int×List Int×Int×Int×Bool×PUnit)=>bif !y.2.2.2.2.2.2.2.1 then some (((0,0),[],[]),22,PUnit.unit) else aa (bG y.1 y.2.1 y.2.2.1 y.2.2.2.1 y.2.2.2.2.1 y.2.2.2.2.2.1 y.2.2.2.2.2.2.1) fun (y:(List Nat×List (Option (List Int)))×Int×List Int×List Int×List Int×Int×Int×Bool × PUnit)=>bif !y.2.2.2.2.2.2.2.1 then some (((0,0),[],[]),21,PUnit.unit) else bif decide (0<=(↑x0.1.length:Int))&&dZ (Int.toNat (↑x0.1.length:Int)) 8 then lp (Int×Int×List Int×PUnit) (((Int×Int)×List (Int×Int)×List (Int×Int))×Int×PUnit) (fun (again:Int×Int × List Int×PUnit->Option (((Int×Int)×List (Int×Int)×List (Int×Int))×Int×PUnit)) (x:Int×Int×List Int×PUnit) =>
 let v24:Int:=IntKind.wrap .i64 (x.2.1+1);
 let v25:Bool:=inB x.2.1 y.1.1.length;
 let v26:Bool:=Nat.ble (Nat.succ x.2.1.toNat) y.1.1.length;
 let v27:Int:=y.2.2.1.getD x.2.1.toNat 0;bif decide (x.2.1<(↑y.2.2.1.length:Int)) then bif inB x.2.1 y.2.2.1.length then bif Nat.ble (Nat.succ x.2.1.toNat) y.2.2.1.length then aa (bif List.all y.1.1 fun (x:Nat)=>eM y.1.2 x then aO (List.map (fun (x:Nat)=>ah y.1.2 x) y.1.1,y.2.1,y.2.2.1,y.2.2.2.1,y.2.2.2.2.1,y.2.2.2.2.2.1,y.2.2.2.2.2.2.1) v27 else none) fun (t:Int)=>bif v25 then bif v26 then bif inB y.2.2.2.2.2.2.1 (List.length (ah y.1.2 (y.1.1.getD x.2.1.toNat 0))) then bif Nat.ble (Nat.succ y.2.2.2.2.2.2.1.toNat) (List.length (ah y.1.2 (y.1.1.getD x.2.1.toNat 0))) then bif decide (v27<(↑x.2.2.1.length:Int)) then bif v25 then bif v26 then bif inB y.2.2.2.2.2.2.1 (List.length (ah y.1.2 (y.1.1.getD x.2.1.toNat 0))) then bif Nat.ble (Nat.succ y.2.2.2.2.2.2.1.toNat) (List.length (ah y.1.2 (y.1.1.getD x.2.1.toNat 0))) then bif inB v27 x.2.2.1.length then bif Nat.ble (Nat.succ v27.toNat) x.2.2.1.length then again (IntKind.wrap .i64 (x.1+IntKind.wrap .i64 (t*List.getD (ah y.1.2 (y.1.1.getD x.2.1.toNat 0)) y.2.2.2.2.2.2.1.toNat 0)),v24,x.2.2.1.set v27.toNat (List.getD (ah y.1.2 (y.1.1.getD x.2.1.toNat 0)) y.2.2.2.2.2.2.1.toNat 0),PUnit.unit) else none else none else none else none else none else none else again (IntKind.wrap .i64 (x.1+IntKind.wrap .i64 (t*List.getD (ah y.1.2 (y.1.1.getD x.2.1.toNat 0)) y.2.2.2.2.2.2.1.toNat 0)),v24,x.2.2.1,PUnit.unit) else none else none else none else none else none else none else aa (bif List.all y.1.1 fun (x:Nat) =>eM y.1.2 x then bg (List.map (fun (x:Nat)=>ah y.1.2 x) y.1.1,y.2.1,y.2.2.1,y.2.2.2.1,y.2.2.2.2.1, y.2.2.2.2.2.1,y.2.2.2.2.2.2.1) x.1 else none) fun (t:Int×Int)=>lp (Int×(Int×Int)×List (Int×Int)×List (Int×Int)×PUnit) (((Int×Int) × List (Int×Int)×List (Int×Int))×Int×PUnit) (fun (again:Int×(Int×Int)×List (Int×Int)×List (Int×Int)×PUnit->Option (((Int×Int)×List (Int×Int)×List (Int × Int))×Int×PUnit)) (x_1:Int×(Int×Int)×List (Int×Int)×List (Int×Int)×PUnit) =>
 let v31:List (Int×Int)×PUnit:=(x_1.2.2.2.1,PUnit.unit);bif decide (x_1.1<(↑x.2.2.1.length:Int)) then bif inB x_1.1 x.2.2.1.length then bif Nat.ble (Nat.succ x_1.1.toNat) x.2.2.1.length then aa (bif List.all y.1.1 fun (x:Nat)=>eM y.1.2 x then bg (List.map (fun (x : Nat)=>ah y.1.2 x) y.1.1,y.2.1,y.2.2.1,y.2.2.2.1,y.2.2.2.2.1,y.2.2.2.2.2.1,y.2.2.2.2.2.2.1) (x.2.2.1.getD x_1.1.toNat 0) else none) fun (t:Int×Int)=>bif dZ (List.length x_1.2.2.1+1) 16 then again (IntKind.wrap .i64 (x_1.1+1),x_1.2.1,x_1.2.2.1++[t],v31) else none else none else none else lp (Int×(Int×Int)×List (Int×Int)×List (Int×Int)×PUnit) (((Int×Int) × List (Int×Int)×List (Int×Int))×Int×PUnit) (fun (again:Int×(Int×Int)×List (Int×Int)×List (Int×Int)×PUnit->Option (((Int×Int)×List (Int×Int)×List (Int × Int))×Int×PUnit)) (x:Int×(Int×Int)×List (Int×Int)×List (Int×Int)×PUnit) =>
 let v34:Int:=IntKind.wrap .i64 (y.2.2.2.2.2.1+x.1);bif decide (x.1<(↑x0.2.length:Int)) then lp (Int×Int×PUnit) (((Int×Int)×List (Int × Int)×List (Int×Int))×Int×PUnit) (fun (again_1:Int×Int×PUnit->Option (((Int×Int)×List (Int×Int)×List (Int×Int))×Int×PUnit)) (x_2:Int×Int×PUnit)=>bif decide (x_2.2.1<(↑y.2.2.1.length:Int)) then bif inB x_2.2.1 y.2.2.1.length then bif Nat.ble (Nat.succ x_2.2.1.toNat) y.2.2.1.length then aa (bif List.all y.1.1 fun (x:Nat)=>eM y.1.2 x then aO (List.map (fun (x:Nat)=>ah y.1.2 x) y.1.1,y.2.1, y.2.2.1,y.2.2.2.1,y.2.2.2.2.1,y.2.2.2.2.2.1,y.2.2.2.2.2.2.1) (y.2.2.1.getD x_2.2.1.toNat 0) else none) fun (t:Int)=>bif inB x_2.2.1 y.1.1.length then bif Nat.ble (Nat.succ x_2.2.1.toNat) y.1.1.length then bif inB v34 (List.length (ah y.1.2 (y.1.1.getD x_2.2.1.toNat 0))) then bif Nat.ble (Nat.succ v34.toNat) (List.length (ah y.1.2 (y.1.1.getD x_2.2.1.toNat (0 : Nat)))) then again_1 (IntKind.wrap .i64 (x_2.1+IntKind.wrap .i64 (t*List.getD (ah y.1.2 (y.1.1.getD x_2.2.1.toNat 0)) v34.toNat 0)),IntKind.wrap .i64 (x_2.2.1+1),PUnit.unit) else none else none else none else none else none else none else bif inB x.1 y.2.2.2.1.length then bif Nat.ble (Nat.succ x.1.toNat) y.2.2.2.1.length then aa (bif List.all y.1.1 fun (x:Nat)=>eM y.1.2 x then bg (List.map (fun (x:Nat)=>ah y.1.2 x) y.1.1,y.2.1,y.2.2.1,y.2.2.2.1,y.2.2.2.2.1,y.2.2.2.2.2.1, y.2.2.2.2.2.2.1) (IntKind.wrap .i64 (y.2.2.2.1.getD x.1.toNat 0*x_2.1)) else none) fun (t:Int×Int)=>bif dZ (List.length x.2.2.2.1+1) 16 then again (IntKind.wrap .i64 (x.1+1),x.2.1,x.2.2.1,x.2.2.2.1++[t],PUnit.unit) else none else none else none) (0,0,PUnit.unit) else some ((x.2.1,x.2.2.1,x.2.2.2.1),0,PUnit.unit)) (0,x_1.2.1,x_1.2.2.1,v31)) ((0 : Int),t,[],[],PUnit.unit)) (0,0,List.replicate (Int.toNat (↑x0.1.length:Int)) 0,PUnit.unit) else none) ((↑x0.1.length:Int),(0 : Int),([],[]),1,[],[],t,v8,IntKind.wrap .i64 (v8+(↑x0.2.length:Int)),PUnit.unit)) (0,0,PUnit.unit)
def aA (x0:(List Int)×List ((List Int)×Int×Int)):Option (((Int×Int)×(List (Int×Int))×List (Int×Int))×Int×Unit):=je lpK jnK bD df cf bu bG aO bg x0
abbrev t58:=((List Int)×List ((List Int)×Int×Int))->Option (((Int×Int)×(List (Int×Int))×List (Int×Int))×Int×Unit)
def k58 (aA:t58):Ctr:=⟨[T32],[],[],.tup [T96,i64],fun x _ _=>aA x.1⟩
def c58:Ctr:=k58 aA
theorem e58 (lp:Lp) (jn:Jn) (bD:t91) (df:N0) (cf:OY) (bu:OW) (bG:QG) (aO:Jy) (bg:PP):∀(x:TsS c58.as) (F:TsF c58.fs) (y:TsS c58.cs),je lp jn bD df cf bu bG aO bg x.1=Qc lp jn (Dn.look [(111,Sq bG),(110,Sr bu)]) (Da FY Fx (IP [(113,SQ bg),(112,QQ aO)] [] (ll prog shs yP its [(108,S1 df),(91,k91 bD)] [(134,R6 cf)]))) ao 4 58 f58 c58 x F y:=fun x F y=>by kernel_rfl
theorem RV:c58.ok prog 58:=Ctr.of_denS (au (tL (ai (ai (bV) (by kernel_rfl) R3) (by kernel_rfl) Sf) (kA (by kernel_rfl) SA (kA (by kernel_rfl) Qf (qe))) (qN))) aW (rH TZ (rH R0 (tA))) (hl:=ao) (d:=4) func58 rfl (by decide) (e58 lpK jnK bD df cf bu bG aO bg)
def lz (_:Lp) (_:Jn) (aU:t11) (aA:t58) (x0:(List (ByteArray×Int))×List (ByteArray×(List (ByteArray×Int×Int×Int))×Bool)):Option ((List (Int×Int))×Int×Unit) :=
 aa (aU x0) fun (t:(List Int×List (List Int×Int×Int))×Int×PUnit)=>bif !decide (t.2.1=0) then some ([],t.2.1,PUnit.unit) else aa (aA t.1) fun (t:((Int×Int)×List (Int×Int)×List (Int×Int))×Int×PUnit)=>bif !decide (t.2.1=0) then some ([],t.2.1,PUnit.unit) else some (t.1.2.1,0,PUnit.unit)
def aE (x0:(List (ByteArray×Int))×List (ByteArray×(List (ByteArray×Int×Int×Int))×Bool)):Option ((List (Int×Int))×Int×Unit):=lz lpK jnK aU aA x0
abbrev t19:=((List (ByteArray×Int))×List (ByteArray×(List (ByteArray×Int×Int×Int))×Bool))->Option ((List (Int×Int))×Int×Unit)
def k19 (aE:t19):Ctr:=⟨[T25],[],[],.tup [(.sl T49),i64],fun x _ _=>aE x.1⟩
def c19:Ctr:=k19 aE
theorem e19 (lp:Lp) (jn:Jn) (aU:t11) (aA:t58):∀(x:TsS c19.as) (F:TsF c19.fs) (y:TsS c19.cs),lz lp jn aU aA x.1=cn lp jn (cx [(58,k58 aA),(11,k11 aU)] [(134,bJ)]) ao 4 19 f19 c19 x F y:=fun x F y=>by kernel_rfl
theorem SF:c19.ok prog 19:=Ctr.of_den (au (ai (ai (bV) (by kernel_rfl) T2) (by kernel_rfl) RV)) aW (hl:=ao) (d:=4) func19 rfl (by decide) (e19 lpK jnK aU aA)
def jX (lp:Lp) (_:Jn) (x0:List (ByteArray×(List (ByteArray×Int×Int×Int))×Bool)) (f0:(((ByteArray×(List (ByteArray×Int×Int×Int))×Bool)×Unit)->Option Bool)):Option Int :=
 lp (Int×PUnit) Int (fun (again:Int×PUnit->Option Int) (x:Int×PUnit)=>bif decide (x.1<(↑x0.length:Int)) then bif inB x.1 x0.length then aa (f0 (x0.getD x.1.toNat ({ data:={ toList:=[] } },[],false),PUnit.unit)) fun (t:Bool)=>bif t then some x.1 else again (IntKind.wrap .i64 (x.1+1), PUnit.unit) else none else some (-1)) (0,PUnit.unit)
def cE (x0:List (ByteArray×(List (ByteArray×Int×Int×Int))×Bool)) (f0:(((ByteArray×(List (ByteArray×Int×Int×Int))×Bool)×Unit)->Option Bool)):Option Int:=jX lpK jnK x0 f0
abbrev t60:=(List (ByteArray×(List (ByteArray×Int×Int×Int))×Bool))->((((ByteArray×(List (ByteArray×Int×Int×Int))×Bool)×Unit)->Option Bool))->Option (Int)
def k60 (cE:t60):Ctr:=⟨[(.sl T75)],[([T75],.bool)],[],.one i64,fun x F _=>cE x.1 F.1⟩
def c60:Ctr:=k60 cE
theorem e60 (lp:Lp) (jn:Jn):∀(x:TsS c60.as) (F:TsF c60.fs) (y:TsS c60.cs),jX lp jn x.1 F.1=cn lp jn (cx [] [(134,bJ)]) ao 4 60 f60 c60 x F y:=fun x F y=>by kernel_rfl
theorem UF:c60.ok prog 60:=Ctr.of_den (au (bV)) aW (hl:=ao) (d:=4) func60 rfl (by decide) (e60 lpK jnK)
def pE (_:Lp) (_:Jn) (x0:ByteArray×(List (ByteArray×Int×Int×Int))×Bool) (y0:ByteArray):Option Bool :=
 some (List.beq (ByteArray.toList x0.1) (ByteArray.toList y0))
def fz (x0:ByteArray×(List (ByteArray×Int×Int×Int))×Bool) (y0:ByteArray):Option Bool:=pE lpK jnK x0 y0
abbrev t61:=(ByteArray×(List (ByteArray×Int×Int×Int))×Bool)->(ByteArray)->Option (Bool)
def c61:Ctr:=⟨[T75],[],[.str],.one .bool,fun x _ y=>fz x.1 y.1⟩
theorem e61 (lp:Lp) (jn:Jn):∀(x:TsS c61.as) (F:TsF c61.fs) (y:TsS c61.cs),pE lp jn x.1 y.1=cn lp jn (cx [] [(134,bJ)]) ao 4 61 f61 c61 x F y:=fun x F y=>by kernel_rfl
theorem U5:c61.ok prog 61:=Ctr.of_den (au (bV)) aW (hl:=ao) (d:=4) func61 rfl (by decide) (e61 lpK jnK)
def pP (_:Lp) (_:Jn) (cJ:t45) (x0:(List (ByteArray×Int))×List (ByteArray×(List (ByteArray×Int×Int×Int))×Bool)) (x1:Int) (x2:Int):Option (((List Int)×List ((List Int)×Int×Int))×Int×Unit) :=
 bif decide (0<=(↑x0.2.length:Int))&&dZ (Int.toNat (↑x0.2.length:Int)) 8 then bif inB x1 (Int.toNat (↑x0.2.length:Int)) then bif Nat.ble (Nat.succ x1.toNat) (Int.toNat (↑x0.2.length:Int)) then aa (cJ x0 (List.set (List.replicate (Int.toNat (↑x0.2.length:Int)) 0) x1.toNat x2)) fun (t:(List Int×List (List Int×Int×Int))×Int×PUnit)=>some (t.1,t.2.1,PUnit.unit) else none else none else none
def dI (x0:(List (ByteArray×Int))×List (ByteArray×(List (ByteArray×Int×Int×Int))×Bool)) (x1:Int) (x2:Int):Option (((List Int)×List ((List Int)×Int×Int))×Int×Unit):=pP lpK jnK cJ x0 x1 x2
abbrev t62:=((List (ByteArray×Int))×List (ByteArray×(List (ByteArray×Int×Int×Int))×Bool))->(Int)->(Int)->Option (((List Int)×List ((List Int)×Int×Int))×Int×Unit)
def k62 (dI:t62):Ctr:=⟨[T25,i64,i64],[],[],.tup [T32,i64],fun x _ _=>dI x.1 x.2.1 x.2.2.1⟩
def c62:Ctr:=k62 dI
theorem e62 (lp:Lp) (jn:Jn) (cJ:t45):∀(x:TsS c62.as) (F:TsF c62.fs) (y:TsS c62.cs),pP lp jn cJ x.1 x.2.1 x.2.2.1=cn lp jn (cx [(45,k45 cJ)] [(134,bJ)]) ao 4 62 f62 c62 x F y:=fun x F y=>by kernel_rfl
theorem SJ:c62.ok prog 62:=Ctr.of_den (au (ai (bV) (by kernel_rfl) Tu)) aW (hl:=ao) (d:=4) func62 rfl (by decide) (e62 lpK jnK cJ)
def rT (_:Lp) (_:Jn) (aI:t59) (aA:t58) (cE:t60) (fz:t61) (dI:t62) (x0:(List (ByteArray×Int))×List (ByteArray×(List (ByteArray×Int×Int×Int))×Bool)) (x1:ByteArray):Option ((Int×Int)×Int×Unit) :=
 aa (aI x0) fun (t:Bool)=>bif !t then some ((0,0),1,PUnit.unit) else aa (cE x0.2 fun (x:(ByteArray×List (ByteArray × Int×Int×Int)×Bool)×PUnit)=>fz x.1 x1) fun (t:Int)=>bif decide (t<0) then some ((0,0),9,PUnit.unit) else aa (dI x0 t 1) fun (t:(List Int×List (List Int×Int×Int))×Int×PUnit)=>bif !decide (t.2.1=0) then some ((0,0),t.2.1,PUnit.unit) else aa (aA t.1) fun (t:((Int×Int)×List (Int×Int)×List (Int×Int))×Int×PUnit)=>bif !decide (t.2.1=0) then some ((0,0), t.2.1,PUnit.unit) else some (t.1.1,0,PUnit.unit)
def cm (x0:(List (ByteArray×Int))×List (ByteArray×(List (ByteArray×Int×Int×Int))×Bool)) (x1:ByteArray):Option ((Int×Int)×Int×Unit):=rT lpK jnK aI aA cE fz dI x0 x1
abbrev t20:=((List (ByteArray×Int))×List (ByteArray×(List (ByteArray×Int×Int×Int))×Bool))->(ByteArray)->Option ((Int×Int)×Int×Unit)
def k20 (cm:t20):Ctr:=⟨[T25,.str],[],[],.tup [T49,i64],fun x _ _=>cm x.1 x.2.1⟩
def c20:Ctr:=k20 cm
theorem e20 (lp:Lp) (jn:Jn) (aI:t59) (aA:t58) (cE:t60) (fz:t61) (dI:t62):∀(x:TsS c20.as) (F:TsF c20.fs) (y:TsS c20.cs),rT lp jn aI aA cE fz dI x.1 x.2.1=cn lp jn (cx [(62,k62 dI),(61,⟨[T75],[],[.str],.one .bool,fun x _ y=>fz x.1 y.1⟩),(60,k60 cE),(58,k58 aA),(59,k59 aI)] [(134,bJ)]) ao 4 20 f20 c20 x F y:=fun x F y=>by kernel_rfl
theorem UT:c20.ok prog 20:=Ctr.of_den (au (ai (ai (ai (ai (ai (bV) (by kernel_rfl) Nn) (by kernel_rfl) RV) (by kernel_rfl) UF) (by kernel_rfl) U5) (by kernel_rfl) SJ)) aW (hl:=ao) (d:=4) func20 rfl (by decide) (e20 lpK jnK aI aA cE fz dI)
def kG (lp:Lp) (_:Jn) (aI:t59) (aA:t58) (dI:t62) (x0:(List (ByteArray×Int))×List (ByteArray×(List (ByteArray×Int×Int×Int))×Bool)):Option ((List ByteArray)×Int×Unit) :=
 aa (aI x0) fun (t:Bool)=>bif !t then some ([],1,PUnit.unit) else lp (List ByteArray×Int×PUnit) (List ByteArray×Int×PUnit) (fun (again:List ByteArray × Int×PUnit->Option (List ByteArray×Int×PUnit)) (x:List ByteArray×Int×PUnit) =>
 let v6:Int×PUnit:=(IntKind.wrap .i64 (x.2.1+1),PUnit.unit);bif decide (x.2.1<(↑x0.2.length:Int)) then bif inB x.2.1 x0.2.length then aa (dI x0 x.2.1 (-1)) fun (t:(List Int×List (List Int×Int×Int))×Int×PUnit)=>bif !decide (t.2.1=0) then some ([],t.2.1, PUnit.unit) else aa (aA t.1) fun (t:((Int×Int)×List (Int×Int)×List (Int×Int))×Int×PUnit)=>bif decide (t.2.1=21) then again (x.1,v6) else bif !decide (t.2.1=0) then some ([],t.2.1,PUnit.unit) else bif decide (t.1.1.1=0) then bif dZ (List.length x.1+1) 16 then again (x.1++[(x0.2.getD x.2.1.toNat ({ data:={ toList:=[] } },[],false)).1],v6) else none else again (x.1,v6) else none else some (x.1,0, PUnit.unit)) ([],0,PUnit.unit)
def aF (x0:(List (ByteArray×Int))×List (ByteArray×(List (ByteArray×Int×Int×Int))×Bool)):Option ((List ByteArray)×Int×Unit):=kG lpK jnK aI aA dI x0
abbrev t21:=((List (ByteArray×Int))×List (ByteArray×(List (ByteArray×Int×Int×Int))×Bool))->Option ((List ByteArray)×Int×Unit)
def k21 (aF:t21):Ctr:=⟨[T25],[],[],.tup [(.sl .str),i64],fun x _ _=>aF x.1⟩
def c21:Ctr:=k21 aF
theorem e21 (lp:Lp) (jn:Jn) (aI:t59) (aA:t58) (dI:t62):∀(x:TsS c21.as) (F:TsF c21.fs) (y:TsS c21.cs),kG lp jn aI aA dI x.1=cn lp jn (cx [(62,k62 dI),(58,k58 aA),(59,k59 aI)] [(134,bJ)]) ao 4 21 f21 c21 x F y:=fun x F y=>by kernel_rfl
theorem TM:c21.ok prog 21:=Ctr.of_den (au (ai (ai (ai (bV) (by kernel_rfl) Nn) (by kernel_rfl) RV) (by kernel_rfl) SJ)) aW (hl:=ao) (d:=4) func21 rfl (by decide) (e21 lpK jnK aI aA dI)
def si (_:Lp) (_:Jn) (x0:Int):Option (Int×Int) :=
 some (x0,1)
def bF (x0:Int):Option (Int×Int):=si lpK jnK x0
abbrev t34:=(Int)->Option (Int×Int)
def k34 (bF:t34):Ctr:=⟨[i64],[],[],.one T49,fun x _ _=>bF x.1⟩
def c34:Ctr:=k34 bF
theorem e34 (lp:Lp) (jn:Jn):∀(x:TsS c34.as) (F:TsF c34.fs) (y:TsS c34.cs),si lp jn x.1=cn lp jn (cx [] [(134,bJ)]) ao 4 34 f34 c34 x F y:=fun x F y=>by kernel_rfl
theorem QY:c34.ok prog 34:=Ctr.of_den (au (bV)) aW (hl:=ao) (d:=4) func34 rfl (by decide) (e34 lpK jnK)
def sf (lp:Lp) (_:Jn) (bF:t34) (x0:List Int):Option ((List (ByteArray×Int))×List (ByteArray×(List (ByteArray×Int×Int×Int))×Bool)) :=
 lp (Int×List (ByteArray×Int)×List (ByteArray×List (ByteArray×Int×Int×Int)×Bool)×PUnit) (List (ByteArray×Int)×List (ByteArray×List (ByteArray×Int×Int×Int)×Bool)) (fun (again:Int×List (ByteArray×Int)×List (ByteArray×List (ByteArray×Int×Int×Int)×Bool)×PUnit->Option (List (ByteArray×Int)×List (ByteArray×List (ByteArray×Int×Int×Int)×Bool))) (x:Int×List (ByteArray×Int)×List (ByteArray×List (ByteArray×Int×Int×Int)×Bool)×PUnit) => bif decide (x.1<(↑x0.length:Int)) then bif inB x.1 x0.length then aa (bF 1) fun (t:Int×Int)=>aa (bF 1) fun (t_1:Int×Int)=>bif dZ (List.length x.2.2.1+1) 48 then again (IntKind.wrap .i64 (x.1+1),x.2.1,x.2.2.1++[({ data:=#[114] }++wD [IntKind.wrap IntKind.u8 (IntKind.wrap .i64 (49+x.1))],[({ data:=#[98] },x0.getD x.1.toNat 0,t),({ data:={ toList:=[] } },0,t_1)],false)],PUnit.unit) else none else none else some (x.2.1,x.2.2.1)) (0,[({ data:=#[98] },10)],[],PUnit.unit)
def eE (x0:List Int):Option ((List (ByteArray×Int))×List (ByteArray×(List (ByteArray×Int×Int×Int))×Bool)):=sf lpK jnK bF x0
abbrev t43:=(List Int)->Option ((List (ByteArray×Int))×List (ByteArray×(List (ByteArray×Int×Int×Int))×Bool))
def c43:Ctr:=⟨[(.sl i64)],[],[],.one T25,fun x _ _=>eE x.1⟩
theorem e43 (lp:Lp) (jn:Jn) (bF:t34):∀(x:TsS c43.as) (F:TsF c43.fs) (y:TsS c43.cs),sf lp jn bF x.1=cn lp jn (cx [(34,k34 bF)] [(134,bJ)]) ao 4 43 f43 c43 x F y:=fun x F y=>by kernel_rfl
theorem U3:c43.ok prog 43:=Ctr.of_den (au (ai (bV) (by kernel_rfl) QY)) aW (hl:=ao) (d:=4) func43 rfl (by decide) (e43 lpK jnK bF)
def sA (_:Lp) (_:Jn) (bf:t12) (aE:t19) (cm:t20) (aF:t21) (bF:t34) (eE:t43):Option Bool :=
 aa (eE [1,1,(-1)]) fun (t:List (ByteArray×Int)×List (ByteArray×List (ByteArray×Int×Int×Int)×Bool))=>aa (aE t) fun (t:List (Int×Int)×Int×PUnit) =>
 let v4:Bool:=decide (t.2.1=0);
 let v5:Bool:=!v4||v4;
 let v6:Bool:=bif v4 then decide ((↑t.1.length:Int)=3) else false;
 let v7:Bool:=!v6||v6;aa (eE [1,1,(-1)]) fun (t:List (ByteArray×Int)×List (ByteArray×List (ByteArray×Int×Int×Int)×Bool))=>aa (aF t) fun (t:List ByteArray×Int×PUnit) =>
 let v10:Bool:=bif v6 then decide (t.2.1=0) else false;
 let v11:Bool:=!v10||v10;
 let v12:Bool:=bif v10 then decide ((↑t.1.length:Int)=0) else false;
 let v13:Bool:=!v12||v12;aa (eE [1,1,(-1)]) fun (t:List (ByteArray×Int)×List (ByteArray×List (ByteArray×Int×Int×Int)×Bool)) => aa (cm t { data:={ toList:=[{ toBitVec:={ toFin:=⟨114,Nat.mod_lt 114 (BitVec.ofNat._proof_1 8)⟩ } },{ toBitVec:={ toFin:=⟨49, Nat.mod_lt 49 (BitVec.ofNat._proof_1 8)⟩ } }] } }) fun (t:(Int×Int)×Int×PUnit) =>
 let v16:Bool:=bif v12 then decide (t.2.1=0) else false;
 let v17:Bool:=!v16||v16;aa (eE [(-1)]) fun (t_1:List (ByteArray×Int)×List (ByteArray×List (ByteArray×Int×Int×Int)×Bool))=>aa (bF (1 : Int)) fun (t_2:Int×Int)=>aa (bf t_1 [t_2]) fun (t_3:Bool×Int×PUnit)=>aa (eE [(-1)]) fun (t_4:List (ByteArray×Int)×List (ByteArray × List (ByteArray×Int×Int×Int)×Bool))=>aa (aE t_4) fun (t_5:List (Int×Int)×Int×PUnit)=>bif v5 then bif v5 then bif v5 then bif v7 then bif v7 then bif v11 then bif v11 then bif v11 then bif v13 then bif v13 then aa (bif v16 then bF 0 else some (0,0)) fun (t_6:Int×Int) =>
 let v24:Bool:=bif v16 then decide (t.1.1=t_6.1)&&(decide (t.1.2=t_6.2)&&true) else false;
 let v25:Bool:=bif v24 then decide (t_3.2.1=0) else false;
 let v26:Bool:=bif v25 then t_3.1 else false;
 let v27:Bool:=!v24||v24;
 let v28:Bool:=!v26||v26;bif v17&&v17 then bif v17 then bif v27 then bif v27 then bif !v25||v25 then bif v28 then bif v28 then some (bif v26 then decide (t_5.2.1=(22 : Int)) else false) else none else none else none else none else none else none else none else none else none else none else none else none else none else none else none else none else none
def aK:Option Bool:=sA lpK jnK bf aE cm aF bF eE
abbrev t9:=Option (Bool)
def k9 (aK:t9):Ctr:=⟨[],[],[],.one .bool,fun _ _ _=>aK⟩
def c9:Ctr:=k9 aK
theorem e9 (lp:Lp) (jn:Jn) (bf:t12) (aE:t19) (cm:t20) (aF:t21) (bF:t34) (eE:t43):∀(x:TsS c9.as) (F:TsF c9.fs) (y:TsS c9.cs),sA lp jn bf aE cm aF bF eE=cn lp jn (cx [(43,⟨[(.sl i64)],[],[],.one T25,fun x _ _=>eE x.1⟩),(34,k34 bF),(21,k21 aF),(20,k20 cm),(19,k19 aE),(12,k12 bf)] [(134,bJ)]) ao 4 9 f9 c9 x F y:=fun x F y=>by kernel_rfl
theorem ok9:c9.ok prog 9:=Ctr.of_den (au (ai (ai (ai (ai (ai (ai (bV) (by kernel_rfl) US) (by kernel_rfl) SF) (by kernel_rfl) UT) (by kernel_rfl) TM) (by kernel_rfl) QY) (by kernel_rfl) U3)) aW (hl:=ao) (d:=4) func9 rfl (by decide) (e9 lpK jnK bf aE cm aF bF eE)
def nu (lp:Lp) (_:Jn) (x0:(List (ByteArray×Int))×List (ByteArray×(List (ByteArray×Int×Int×Int))×Bool)):Option Bool :=
 
 let v3:Bool:=decide ((↑x0.1.length:Int)>9);
 let v4:Bool:=!v3;
 let v5:Bool:=!v4||v4;bif v5 then bif v5 then bif v5 then bif v3||v4 then bif bif v3 then true else decide ((↑x0.2.length:Int)>9) then some false else lp (Int × PUnit) Bool (fun (again:Int×PUnit->Option Bool) (x:Int×PUnit)=>bif decide (x.1<(↑x0.1.length:Int)) then bif inB x.1 x0.1.length then bif decide ((↑(ByteArray.size (x0.1.getD x.1.toNat ({ data:={ toList:=[] } },0)).1):Int)>60) then some false else again (IntKind.wrap .i64 (x.1 + 1),PUnit.unit) else none else lp (Int×PUnit) Bool (fun (again:Int×PUnit->Option Bool) (x:Int×PUnit) =>
 let v10:Bool:=inB x.1 x0.2.length;
 let v11:Bool:=decide ((↑(ByteArray.size (x0.2.getD x.1.toNat ({ data:={ toList:=[] } },[],false)).1):Int)>60);
 let v12:Bool:=!v11;
 let v13:Bool:=!v12;
 let v14:Bool:=v13||v12;bif decide (x.1<(↑x0.2.length:Int)) then bif v10 then bif v14 then bif v14&&(v14&&(v13||v10)) then bif v14 then bif v14 then bif v14 then bif v14 then bif v11||v12 then bif bif v11 then true else decide ((↑(List.length (x0.2.getD x.1.toNat ({ data:={ toList:=[] } },[],false)).2.1):Int) > 13) then some false else lp (Int×PUnit) Bool (fun (again_1:Int×PUnit->Option Bool) (x_1:Int×PUnit)=>bif v10 then bif decide (x_1.1<(↑(List.length (x0.2.getD x.1.toNat ({ data:={ toList:=[] } },[],false)).2.1):Int)) then bif v10 then bif inB x_1.1 (List.length (x0.2.getD x.1.toNat ({ data:={ toList:=[] } },[],false)).2.1) then bif decide ((↑(ByteArray.size (List.getD (x0.2.getD x.1.toNat ({ data:={ toList:=[] } },[],false)).2.1 x_1.1.toNat ({ data:={ toList:=[] } },0,0,0)).1):Int)>60) then some false else again_1 (IntKind.wrap .i64 (x_1.1+1), PUnit.unit) else none else none else again (IntKind.wrap .i64 (x.1+1),PUnit.unit) else none) (0,PUnit.unit) else none else none else none else none else none else none else none else none else some true) (0,PUnit.unit)) (0,PUnit.unit) else none else none else none else none
def fB (x0:(List (ByteArray×Int))×List (ByteArray×(List (ByteArray×Int×Int×Int))×Bool)):Option Bool:=nu lpK jnK x0
abbrev t44:=((List (ByteArray×Int))×List (ByteArray×(List (ByteArray×Int×Int×Int))×Bool))->Option (Bool)
def c44:Ctr:=⟨[T25],[],[],.one .bool,fun x _ _=>fB x.1⟩
theorem e44 (lp:Lp) (jn:Jn):∀(x:TsS c44.as) (F:TsF c44.fs) (y:TsS c44.cs),nu lp jn x.1=cn lp jn (cx [] [(134,bJ)]) ao 4 44 f44 c44 x F y:=fun x F y=>by kernel_rfl
theorem Vk:c44.ok prog 44:=Ctr.of_den (au (bV)) aW (hl:=ao) (d:=4) func44 rfl (by decide) (e44 lpK jnK)
def ql (_:Lp) (_:Jn) (fB:t44) (x0:(List (ByteArray×Int))×List (ByteArray×(List (ByteArray×Int×Int×Int))×Bool)) (x1:List (Int×Int)):Option Bool :=
 aa (fB x0) fun (t:Bool) =>
 let v5:Bool:=!t||t;bif v5 then bif v5 then bif v5 then some (bif t then decide ((↑x1.length:Int)<=10) else false) else none else none else none
def be (x0:(List (ByteArray×Int))×List (ByteArray×(List (ByteArray×Int×Int×Int))×Bool)) (x1:List (Int×Int)):Option Bool:=ql lpK jnK fB x0 x1
abbrev t10:=((List (ByteArray×Int))×List (ByteArray×(List (ByteArray×Int×Int×Int))×Bool))->(List (Int×Int))->Option (Bool)
def k10 (be:t10):Ctr:=⟨[T25,(.sl T49)],[],[],.one .bool,fun x _ _=>be x.1 x.2.1⟩
def c10:Ctr:=k10 be
theorem e10 (lp:Lp) (jn:Jn) (fB:t44):∀(x:TsS c10.as) (F:TsF c10.fs) (y:TsS c10.cs),ql lp jn fB x.1 x.2.1=cn lp jn (cx [(44,⟨[T25],[],[],.one .bool,fun x _ _=>fB x.1⟩)] [(134,bJ)]) ao 4 10 f10 c10 x F y:=fun x F y=>by kernel_rfl
theorem Vq:c10.ok prog 10:=Ctr.of_den (au (ai (bV) (by kernel_rfl) Vk)) aW (hl:=ao) (d:=4) func10 rfl (by decide) (e10 lpK jnK fB)
def ky (lp:Lp) (_:Jn) (x0:(List (ByteArray×Int))×List (ByteArray×(List (ByteArray×Int×Int×Int))×Bool)) (x1:ByteArray):Option Int :=
 lp (Int×PUnit) Int (fun (again:Int×PUnit->Option Int) (x:Int×PUnit)=>bif decide (x.1<(↑x0.2.length:Int)) then bif inB x.1 x0.2.length then bif List.beq (ByteArray.toList (x0.2.getD x.1.toNat ({ data:={ toList:=[] } },[],false)).1) (ByteArray.toList x1) then some x.1 else again (IntKind.wrap .i64 (x.1+1),PUnit.unit) else none else some (-1)) (0,PUnit.unit)
def bN (x0:(List (ByteArray×Int))×List (ByteArray×(List (ByteArray×Int×Int×Int))×Bool)) (x1:ByteArray):Option Int:=ky lpK jnK x0 x1
abbrev t22:=((List (ByteArray×Int))×List (ByteArray×(List (ByteArray×Int×Int×Int))×Bool))->(ByteArray)->Option (Int)
def k22 (bN:t22):Ctr:=⟨[T25,.str],[],[],.one i64,fun x _ _=>bN x.1 x.2.1⟩
def c22:Ctr:=k22 bN
theorem e22 (lp:Lp) (jn:Jn):∀(x:TsS c22.as) (F:TsF c22.fs) (y:TsS c22.cs),ky lp jn x.1 x.2.1=cn lp jn (cx [] [(134,bJ)]) ao 4 22 f22 c22 x F y:=fun x F y=>by kernel_rfl
theorem U2:c22.ok prog 22:=Ctr.of_den (au (bV)) aW (hl:=ao) (d:=4) func22 rfl (by decide) (e22 lpK jnK)
def qJ (_:Lp) (_:Jn) (x0:Int):Option Bool :=
 
 let v3:Bool:=decide (x0>=97);
 let v4:Bool:=decide (x0>=65);
 let v5:Bool:=!v3||v3;
 let v6:Bool:=bif v3 then decide (x0<=122) else false;
 let v7:Bool:=!v6;
 let v8:Bool:=!v7;
 let v9:Bool:=v7&&v4;
 let v10:Bool:=v8||v7;bif v5 then bif v5 then bif v10 then bif v10 then bif !v9||v9 then bif (v8||v10)&&(v8||(!v4||(v8||v9))) then bif v6||v7 then some (bif v6 then true else bif v4 then decide (x0<=90) else false) else none else none else none else none else none else none else none
def cB (x0:Int):Option Bool:=qJ lpK jnK x0
abbrev t98:=(Int)->Option (Bool)
def k98 (cB:t98):Ctr:=⟨[(.int .u8)],[],[],.one .bool,fun x _ _=>cB x.1⟩
def c98:Ctr:=k98 cB
theorem e98 (lp:Lp) (jn:Jn):∀(x:TsS c98.as) (F:TsF c98.fs) (y:TsS c98.cs),qJ lp jn x.1=cn lp jn (cx [] [(134,bJ)]) ao 4 98 f98 c98 x F y:=fun x F y=>by kernel_rfl
theorem Se:c98.ok prog 98:=Ctr.of_den (au (bV)) aW (hl:=ao) (d:=4) func98 rfl (by decide) (e98 lpK jnK)
def rV (_:Lp) (_:Jn) (x0:Int):Option Bool :=
 
 let v3:Bool:=decide (x0>=48);
 let v4:Bool:=!v3||v3;bif v4 then bif v4 then some (bif v3 then decide (x0<=57) else false) else none else none
def fZ (x0:Int):Option Bool:=rV lpK jnK x0
abbrev TO:=(Int)->Option (Bool)
def MP:Ctr:=⟨[(.int .u8)],[],[],.one .bool,fun x _ _=>fZ x.1⟩
theorem UC (lp:Lp) (jn:Jn):∀(x:TsS MP.as) (F:TsF MP.fs) (y:TsS MP.cs),rV lp jn x.1=cn lp jn (cx [] [(134,bJ)]) ao 4 147 f147 MP x F y:=fun x F y=>by kernel_rfl
theorem Tp:MP.ok prog 147:=Ctr.of_den (au (bV)) aW (hl:=ao) (d:=4) func147 rfl (by decide) (UC lpK jnK)
def pc (lp:Lp) (_:Jn) (cB:t98) (fZ:TO) (x0:ByteArray) (x1:Int):Option Int :=
 lp (Int×PUnit) Int (fun (again:Int×PUnit->Option Int) (x:Int×PUnit) =>
 let v6:Bool:=inB x.1 (ByteArray.size x0);
 let v7:Int:=fi x0 x.1.toNat;
 let v8:Bool:=decide (x.1<(↑(ByteArray.size x0):Int));
 let v9:Bool:=!v8;
 let v10:Bool:=v9||v8;
 let v11:Bool:=v9||v10;bif v10&&(v10&&(v9||v6)) then bif v10 then aa (bif v8 then cB v7 else some false) fun (t:Bool) =>
 let v13:Bool:=v8&&!t;
 let v14:Bool:=!v13;
 let v15:Bool:=v14||v13;bif v10 then bif v15&&(v15&&(v14||v6)) then bif v15 then aa (bif v13 then fZ v7 else some false) fun (t_1:Bool) =>
 let v17:Bool:=bif t then true else t_1;
 let v18:Bool:=v8&&!v17;
 let v19:Bool:=!v18;
 let v20:Bool:=v19||v18;bif v11&&(v9||(t||(v9||v13))) then bif v10 then bif v20&&(v20&&(v19||v6)) then bif v20 then bif v11&&(v9||(v17||(v9||v18))) then bif v10 then bif bif v8 then bif v17 then true else decide (v7=95) else false then again (IntKind.wrap .i64 (x.1+1),PUnit.unit) else some x.1 else none else none else none else none else none else none else none else none else none else none else none) (x1,PUnit.unit)
def gb (x0:ByteArray) (x1:Int):Option Int:=pc lpK jnK cB fZ x0 x1
abbrev t99:=(ByteArray)->(Int)->Option (Int)
def c99:Ctr:=⟨[.str,i64],[],[],.one i64,fun x _ _=>gb x.1 x.2.1⟩
theorem e99 (lp:Lp) (jn:Jn) (cB:t98) (fZ:TO):∀(x:TsS c99.as) (F:TsF c99.fs) (y:TsS c99.cs),pc lp jn cB fZ x.1 x.2.1=cn lp jn (cx [(147,⟨[(.int .u8)],[],[],.one .bool,fun x _ _=>fZ x.1⟩),(98,k98 cB)] [(134,bJ)]) ao 4 99 f99 c99 x F y:=fun x F y=>by kernel_rfl
theorem UU:c99.ok prog 99:=Ctr.of_den (au (ai (ai (bV) (by kernel_rfl) Se) (by kernel_rfl) Tp)) aW (hl:=ao) (d:=4) func99 rfl (by decide) (e99 lpK jnK cB fZ)
def mw (_:Lp) (_:Jn) (cB:t98) (gb:t99) (x0:ByteArray):Option Bool :=
 
 let v3:Bool:=decide ((↑(ByteArray.size x0):Int)=0);
 let v4:Bool:=!v3;
 let v5:Bool:=!v4||v4;
 let v6:Bool:=bif v3 then true else decide ((↑(ByteArray.size x0):Int)>20);
 let v7:Bool:=!v6;
 let v8:Bool:=!v7;
 let v9:Bool:=v8||v7;bif v5 then bif v5 then bif v3||v4 then bif v9&&(v8||inB 0 (ByteArray.size x0)) then bif v9 then aa (bif v7 then cB (fi x0 (0 : Nat)) else some false) fun (t:Bool)=>bif v9 then bif v6||v7 then bif bif v6 then true else !t then some false else aa (gb x0 0) fun (t:Int)=>some (decide (t = (↑(ByteArray.size x0):Int))) else none else none else none else none else none else none else none
def eB (x0:ByteArray):Option Bool:=mw lpK jnK cB gb x0
abbrev t48:=(ByteArray)->Option (Bool)
def c48:Ctr:=⟨[.str],[],[],.one .bool,fun x _ _=>eB x.1⟩
theorem e48 (lp:Lp) (jn:Jn) (cB:t98) (gb:t99):∀(x:TsS c48.as) (F:TsF c48.fs) (y:TsS c48.cs),mw lp jn cB gb x.1=cn lp jn (cx [(99,⟨[.str,i64],[],[],.one i64,fun x _ _=>gb x.1 x.2.1⟩),(98,k98 cB)] [(134,bJ)]) ao 4 48 f48 c48 x F y:=fun x F y=>by kernel_rfl
theorem UD:c48.ok prog 48:=Ctr.of_den (au (ai (ai (bV) (by kernel_rfl) Se) (by kernel_rfl) UU)) aW (hl:=ao) (d:=4) func48 rfl (by decide) (e48 lpK jnK cB gb)
def jA (lp:Lp) (_:Jn) (x0:(List (ByteArray×Int))×List (ByteArray×(List (ByteArray×Int×Int×Int))×Bool)) (x1:ByteArray):Option Int :=
 lp (Int×PUnit) Int (fun (again:Int×PUnit->Option Int) (x:Int×PUnit)=>bif decide (x.1<(↑x0.1.length:Int)) then bif inB x.1 x0.1.length then bif List.beq (ByteArray.toList (x0.1.getD x.1.toNat ({ data:={ toList:=[] } },0)).1) (ByteArray.toList x1) then some x.1 else again (IntKind.wrap .i64 (x.1+1),PUnit.unit) else none else some (-1)) (0,PUnit.unit)
def bq (x0:(List (ByteArray×Int))×List (ByteArray×(List (ByteArray×Int×Int×Int))×Bool)) (x1:ByteArray):Option Int:=jA lpK jnK x0 x1
abbrev t49:=((List (ByteArray×Int))×List (ByteArray×(List (ByteArray×Int×Int×Int))×Bool))->(ByteArray)->Option (Int)
def k49 (bq:t49):Ctr:=⟨[T25,.str],[],[],.one i64,fun x _ _=>bq x.1 x.2.1⟩
def c49:Ctr:=k49 bq
theorem e49 (lp:Lp) (jn:Jn):∀(x:TsS c49.as) (F:TsF c49.fs) (y:TsS c49.cs),jA lp jn x.1 x.2.1=cn lp jn (cx [] [(134,bJ)]) ao 4 49 f49 c49 x F y:=fun x F y=>by kernel_rfl
theorem To:c49.ok prog 49:=Ctr.of_den (au (bV)) aW (hl:=ao) (d:=4) func49 rfl (by decide) (e49 lpK jnK)
def xW (_:Lp) (_:Jn) (x0:Int):Option (Int×Int) :=
 some (x0,1)
def dn (x0:Int):Option (Int×Int):=xW lpK jnK x0
abbrev t73:=(Int)->Option (Int×Int)
def k73 (dn:t73):Ctr:=⟨[i64],[],[],.one T49,fun x _ _=>dn x.1⟩
def c73:Ctr:=k73 dn
theorem e73 (lp:Lp) (jn:Jn):∀(x:TsS c73.as) (F:TsF c73.fs) (y:TsS c73.cs),xW lp jn x.1=cn lp jn (cx [] [(134,bJ)]) ao 4 73 f73 c73 x F y:=fun x F y=>by kernel_rfl
theorem T9:c73.ok prog 73:=Ctr.of_den (au (bV)) aW (hl:=ao) (d:=4) func73 rfl (by decide) (e73 lpK jnK)
def om (_:Lp) (_:Jn) (x0:Int×Int):Option (Int×Int) :=
 
 let v3:Int:=2 ^ 1;
 let v4:Bool:=decide ((0:Int)<=1);bif v4 then bif v4 then bif decide ((0:Int)<=63) then some (Int.fdiv x0.1 v3,IntKind.wrap .u64 (Int.fdiv x0.2 v3 + IntKind.wrap .u64 (x0.1*2 ^ 63))) else none else none else none
def eL (x0:Int×Int):Option (Int×Int):=om lpK jnK x0
abbrev Tn:=(Int×Int)->Option (Int×Int)
def Kg:Ctr:=⟨[lg],[],[],.one lg,fun x _ _=>eL x.1⟩
theorem U7 (lp:Lp) (jn:Jn):∀(x:TsS Kg.as) (F:TsF Kg.fs) (y:TsS Kg.cs),om lp jn x.1=cn lp jn (cx [] [(134,bJ)]) ao 4 149 f149 Kg x F y:=fun x F y=>by kernel_rfl
theorem R9:Kg.ok prog 149:=Ctr.of_den (au (bV)) aW (hl:=ao) (d:=4) func149 rfl (by decide) (U7 lpK jnK)
def oi (_:Lp) (_:Jn) (x0:Int×Int) (x1:Int×Int):Option Bool :=
 
 let v4:Bool:=decide (x0.1=x1.1);
 let v5:Bool:=decide (x0.1<x1.1);
 let v6:Bool:=!v5;
 let v7:Bool:=!v6;
 let v8:Bool:=v6&&v4;
 let v9:Bool:=v7||v6;
 let v10:Bool:=!v8||v8;bif v9 then bif v9 then bif v9&&v9 then bif v9 then bif v10 then bif v10 then bif v10&&v10 then bif (v7||v9)&&(v7||(!v4||(v7||v8))) then bif v5 || v6 then some (bif v5 then true else bif v4 then decide (x0.2<x1.2) else false) else none else none else none else none else none else none else none else none else none
def cK (x0:Int×Int) (x1:Int×Int):Option Bool:=oi lpK jnK x0 x1
abbrev IK:=(Int×Int)->(Int×Int)->Option (Bool)
def S9 (cK:IK):Ctr:=⟨[lg,lg],[],[],.one .bool,fun x _ _=>cK x.1 x.2.1⟩
def J1:Ctr:=S9 cK
theorem VE (lp:Lp) (jn:Jn):∀(x:TsS J1.as) (F:TsF J1.fs) (y:TsS J1.cs),oi lp jn x.1 x.2.1=cn lp jn (cx [] [(134,bJ)]) ao 4 150 f150 J1 x F y:=fun x F y=>by kernel_rfl
theorem Tc:J1.ok prog 150:=Ctr.of_den (au (bV)) aW (hl:=ao) (d:=4) func150 rfl (by decide) (VE lpK jnK)
def ny (_:Lp) (_:Jn) (x0:Int×Int) (x1:Int×Int):Option (Int×Int) :=
 
 let v4:Int:=IntKind.wrap .u64 (x0.1 - x1.1);
 let v5:Int:=IntKind.wrap .u64 (x0.2 - x1.2);bif decide (x0.2<x1.2) then some (IntKind.wrap .u64 (v4 - 1),v5) else some (v4,v5)
def cD (x0:Int×Int) (x1:Int×Int):Option (Int×Int):=ny lpK jnK x0 x1
abbrev LZ:=(Int×Int)->(Int×Int)->Option (Int×Int)
def SR (cD:LZ):Ctr:=⟨[lg,lg],[],[],.one lg,fun x _ _=>cD x.1 x.2.1⟩
def MH:Ctr:=SR cD
theorem UH (lp:Lp) (jn:Jn):∀(x:TsS MH.as) (F:TsF MH.fs) (y:TsS MH.cs),ny lp jn x.1 x.2.1=cn lp jn (cx [] [(134,bJ)]) ao 4 151 f151 MH x F y:=fun x F y=>by kernel_rfl
theorem T4:MH.ok prog 151:=Ctr.of_den (au (bV)) aW (hl:=ao) (d:=4) func151 rfl (by decide) (UH lpK jnK)
def px (_:Lp) (_:Jn) (x0:Int×Int) (x1:Int×Int):Option (Int×Int) :=
 
 let v4:Int:=IntKind.wrap .u64 (x0.1+x1.1);
 let v5:Int:=IntKind.wrap .u64 (x0.2+x1.2);bif decide (v5<x0.2) then some (IntKind.wrap .u64 (v4+1),v5) else some (v4,v5)
def ef (x0:Int×Int) (x1:Int×Int):Option (Int×Int):=px lpK jnK x0 x1
abbrev Oz:=(Int×Int)->(Int×Int)->Option (Int×Int)
def T0 (ef:Oz):Ctr:=⟨[lg,lg],[],[],.one lg,fun x _ _=>ef x.1 x.2.1⟩
def Lj:Ctr:=T0 ef
theorem U8 (lp:Lp) (jn:Jn):∀(x:TsS Lj.as) (F:TsF Lj.fs) (y:TsS Lj.cs),px lp jn x.1 x.2.1=cn lp jn (cx [] [(134,bJ)]) ao 4 152 f152 Lj x F y:=fun x F y=>by kernel_rfl
theorem Tz:Lj.ok prog 152:=Ctr.of_den (au (bV)) aW (hl:=ao) (d:=4) func152 rfl (by decide) (U8 lpK jnK)
def pQ (lp:Lp) (_:Jn) (eL:Tn) (cK:IK) (cD:LZ) (ef:Oz) (x0:Int×Int) (x1:Int×Int):Option (Int×Int) :=
 bif decide (x0.1=0)&&(decide (x0.2=0)&&true) then some x1 else lp (Int×(Int×Int)×(Int×Int)×PUnit) (Int×Int) (fun (again:Int×(Int×Int)×(Int × Int)×PUnit->Option (Int×Int)) (x:Int×(Int×Int)×(Int×Int)×PUnit) =>
 let v6:Bool:=decide (IntKind.wrap .u64 (↑(Nat.land (Int.toNat (x.2.1.2 % Int.ofNat 18446744073709551616)) (Int.toNat (1 % Int.ofNat (18446744073709551616 : Nat)))):Int)=0);
 let v7:Bool:=!v6||v6;bif v7 then bif v7 then bif v7 then bif v7 then bif bif v6 then decide (IntKind.wrap .u64 (↑(Nat.land (Int.toNat (x.2.2.1.2 % Int.ofNat 18446744073709551616)) (Int.toNat (1 % Int.ofNat 18446744073709551616))):Int)=0) else false then aa (eL x.2.1) fun (t:Int×Int) => aa (eL x.2.2.1) fun (t_1:Int×Int)=>again (IntKind.wrap .i64 (x.1+1),t,t_1,PUnit.unit) else lp ((Int×Int)×(Int×Int)×PUnit) (Int × Int) (fun (again:(Int×Int)×(Int×Int)×PUnit->Option (Int×Int)) (x_1:(Int×Int)×(Int×Int)×PUnit) =>
 let v10:(Int×Int)×PUnit:=(x_1.2.1,PUnit.unit);bif !(decide (x_1.1.1=0)&&(decide (x_1.1.2=0)&&true)) then lp ((Int×Int)×PUnit) (Int×Int) (fun (again_1:(Int×Int)×PUnit->Option (Int×Int)) (x:(Int×Int)×PUnit)=>bif decide (IntKind.wrap .u64 (↑(Nat.land (Int.toNat (x.1.2 % Int.ofNat 18446744073709551616)) (Int.toNat (1 % Int.ofNat 18446744073709551616))):Int)=0) then aa (eL x.1) fun (t:Int×Int)=>again_1 (t, PUnit.unit) else lp ((Int×Int)×PUnit) (Int×Int) (fun (again_2:(Int×Int)×PUnit->Option (Int×Int)) (x_2:(Int×Int)×PUnit)=>bif decide (IntKind.wrap .u64 (↑(Nat.land (Int.toNat (x_2.1.2 % Int.ofNat 18446744073709551616)) (Int.toNat (1 % Int.ofNat 18446744073709551616))):Int)=0) then aa (eL x_2.1) fun (t:Int×Int)=>again_2 (t,PUnit.unit) else aa (cK x.1 x_2.1) fun (t:Bool)=>bif t then aa (cD x_2.1 x.1) fun (t:Int × Int)=>again (t,x.1,PUnit.unit) else aa (cD x.1 x_2.1) fun (t:Int×Int)=>again (t,x_2.1,PUnit.unit)) v10) (x_1.1,PUnit.unit) else lp (Int×(Int×Int) × PUnit) (Int×Int) (fun (again:Int×(Int×Int)×PUnit->Option (Int×Int)) (x:Int×(Int×Int)×PUnit)=>bif decide (x.1>0) then aa (ef x.2.1 x.2.1) fun (t:Int×Int)=>again (IntKind.wrap .i64 (x.1 - 1),t,PUnit.unit) else some x.2.1) (x.1,v10)) (x.2.1,x.2.2.1,PUnit.unit) else none else none else none else none) (0,x0,x1,PUnit.unit)
def eK (x0:Int×Int) (x1:Int×Int):Option (Int×Int):=pQ lpK jnK eL cK cD ef x0 x1
abbrev OP:=(Int×Int)->(Int×Int)->Option (Int×Int)
def SL (eK:OP):Ctr:=⟨[lg,lg],[],[],.one lg,fun x _ _=>eK x.1 x.2.1⟩
def Ls:Ctr:=SL eK
theorem UQ (lp:Lp) (jn:Jn) (eL:Tn) (cK:IK) (cD:LZ) (ef:Oz):∀(x:TsS Ls.as) (F:TsF Ls.fs) (y:TsS Ls.cs),pQ lp jn eL cK cD ef x.1 x.2.1=cn lp jn (cx [(152,T0 ef),(151,SR cD),(150,S9 cK),(149,⟨[lg],[],[],.one lg,fun x _ _=>eL x.1⟩)] [(134,bJ)]) ao 4 102 f102 Ls x F y:=fun x F y=>by kernel_rfl
theorem TU:Ls.ok prog 102:=Ctr.of_den (au (ai (ai (ai (ai (bV) (by kernel_rfl) R9) (by kernel_rfl) Tc) (by kernel_rfl) T4) (by kernel_rfl) Tz)) aW (hl:=ao) (d:=4) func102 rfl (by decide) (UQ lpK jnK eL cK cD ef)
def po (_:Lp) (_:Jn) (x0:Int):Option Int :=
 
 let v3:Int:=IntKind.wrap .u64 x0;bif decide (x0<0) then some (IntKind.wrap .u64 (0 - v3)) else some v3
def ba (x0:Int):Option Int:=po lpK jnK x0
abbrev Fl:=(Int)->Option (Int)
def So (ba:Fl):Ctr:=⟨[i64],[],[],.one (.int .u64),fun x _ _=>ba x.1⟩
def KP:Ctr:=So ba
theorem Va (lp:Lp) (jn:Jn):∀(x:TsS KP.as) (F:TsF KP.fs) (y:TsS KP.cs),po lp jn x.1=cn lp jn (cx [] [(134,bJ)]) ao 4 103 f103 KP x F y:=fun x F y=>by kernel_rfl
theorem SO:KP.ok prog 103:=Ctr.of_den (au (bV)) aW (hl:=ao) (d:=4) func103 rfl (by decide) (Va lpK jnK)
def nh (_:Lp) (_:Jn) (eK:OP) (ba:Fl) (x0:Int×Int):Option Bool :=
 
 let v3:Bool:=decide (x0.2<1);
 let v4:Bool:=!v3;
 let v5:Bool:=bif v3 then true else decide (x0.2>1152921504606846976);
 let v6:Bool:=!v4||v4;
 let v7:Bool:=!v5;
 let v8:Bool:=bif v5 then true else decide (x0.1<(-1152921504606846976));
 let v9:Bool:=!v8;
 let v10:Bool:=!v7||v7;
 let v11:Bool:=!v9||v9;bif v6 then bif v6 then bif v3||v4 then bif v10 then bif v10 then bif v5||v7 then bif v11 then bif v11 then bif v8||v9 then bif bif v8 then true else decide (x0.1>1152921504606846976) then some false else aa (ba x0.1) fun (t:Int)=>aa (ba x0.2) fun (t_1:Int)=>aa (eK (0, t) (0,t_1)) fun (t:Int×Int)=>some (decide (t.1=0)&&(decide (t.2=1)&&true)) else none else none else none else none else none else none else none else none else none
def du (x0:Int×Int):Option Bool:=nh lpK jnK eK ba x0
abbrev t52:=(Int×Int)->Option (Bool)
def k52 (du:t52):Ctr:=⟨[T49],[],[],.one .bool,fun x _ _=>du x.1⟩
def c52:Ctr:=k52 du
theorem e52 (lp:Lp) (jn:Jn) (eK:OP) (ba:Fl):∀(x:TsS c52.as) (F:TsF c52.fs) (y:TsS c52.cs),nh lp jn eK ba x.1=cn lp jn (cx [(103,So ba),(102,SL eK)] [(134,bJ)]) ao 4 52 f52 c52 x F y:=fun x F y=>by kernel_rfl
theorem Uw:c52.ok prog 52:=Ctr.of_den (au (ai (ai (bV) (by kernel_rfl) TU) (by kernel_rfl) SO)) aW (hl:=ao) (d:=4) func52 rfl (by decide) (e52 lpK jnK eK ba)
def jR (_:Lp) (_:Jn) (du:t52) (x0:Int×Int):Option Bool :=
 aa (du x0) fun (t:Bool) =>
 let v4:Bool:=!t||t;
 let v5:Bool:=bif t then decide (x0.1>=x0.2) else false;
 let v6:Bool:=!v5||v5;bif v4 then bif v4 then bif v4&&v4 then bif v4 then bif v6 then bif v6 then bif v6 then some (bif v5 then decide (x0.1<=100) else false) else none else none else none else none else none else none else none
def dD (x0:Int×Int):Option Bool:=jR lpK jnK du x0
abbrev SU:=(Int×Int)->Option (Bool)
def Kl:Ctr:=⟨[T49],[],[],.one .bool,fun x _ _=>dD x.1⟩
theorem VM (lp:Lp) (jn:Jn) (du:t52):∀(x:TsS Kl.as) (F:TsF Kl.fs) (y:TsS Kl.cs),jR lp jn du x.1=cn lp jn (cx [(52,k52 du)] [(134,bJ)]) ao 4 148 f148 Kl x F y:=fun x F y=>by kernel_rfl
theorem S3:Kl.ok prog 148:=Ctr.of_den (au (ai (bV) (by kernel_rfl) Uw)) aW (hl:=ao) (d:=4) func148 rfl (by decide) (VM lpK jnK du)
def ow (_:Lp) (_:Jn) (bq:t49) (dn:t73) (dD:SU) (x0:(List (ByteArray×Int))×List (ByteArray×(List (ByteArray×Int×Int×Int))×Bool)) (x1:ByteArray×Int×Int×Int) (x2:Bool):Option Bool :=
 
 let v5:Bool:=!x2||x2;
 let v6:Bool:=decide (x1.2.1=0);
 let v7:Bool:=decide (x1.2.1=1);
 let v8:Bool:=decide (x1.2.1=2);
 let v9:Bool:=!v7;
 let v10:Bool:=!v8;
 let v11:Bool:=bif v8 then true else v6;
 let v12:Bool:=!v9||v9;
 let v13:Bool:=!v10||v10;
 let v14:Bool:=!v11;
 let v15:Bool:=!v14||v14;bif v5 then aa (bif x2 then dn 1 else some (0,0)) fun (t:Int×Int) =>
 let v17:Bool:=bif x2 then !(decide (x1.2.2.1=t.1)&&(decide (x1.2.2.2=t.2)&&true)) else false;
 let v18:Bool:=!v17;
 let v19:Bool:=!v18||v18;bif v5&&v5 then bif v5 then bif v19 then bif v19 then aa (bif v18 then dD x1.2.2 else some false) fun (t:Bool)=>bif v19 then bif v17||v18 then bif bif v17 then true else !t then some false else bif List.beq (ByteArray.toList x1.1) (ByteArray.toList { data:=#[] }) then some v6 else aa (bq x0 x1.1) fun (t:Int)=>bif decide (t<0) then some false else bif x2 then bif v12 then bif v12 then bif v7||v9 then some (bif v7 then true else decide (x1.2.1=(-1 : Int))) else none else none else none else bif v13 then bif v13 then bif v8||v10 then bif v15 then bif v15 then bif v11||v14 then some (bif v11 then true else decide (x1.2.1 = (-2))) else none else none else none else none else none else none else none else none else none else none else none else none else none
def fh (x0:(List (ByteArray×Int))×List (ByteArray×(List (ByteArray×Int×Int×Int))×Bool)) (x1:ByteArray×Int×Int×Int) (x2:Bool):Option Bool:=ow lpK jnK bq dn dD x0 x1 x2
abbrev QJ:=((List (ByteArray×Int))×List (ByteArray×(List (ByteArray×Int×Int×Int))×Bool))->(ByteArray×Int×Int×Int)->(Bool)->Option (Bool)
def TR (fh:QJ):Ctr:=⟨[T25,Pa,.bool],[],[],.one .bool,fun x _ _=>fh x.1 x.2.1 x.2.2.1⟩
def ME:Ctr:=TR fh
theorem U4 (lp:Lp) (jn:Jn) (bq:t49) (dn:t73) (dD:SU):∀(x:TsS ME.as) (F:TsF ME.fs) (y:TsS ME.cs),ow lp jn bq dn dD x.1 x.2.1 x.2.2.1=cn lp jn (cx [(148,⟨[T49],[],[],.one .bool,fun x _ _=>dD x.1⟩),(73,k73 dn),(49,k49 bq)] [(134,bJ)]) ao 4 100 f100 ME x F y:=fun x F y=>by kernel_rfl
theorem TC:ME.ok prog 100:=Ctr.of_den (au (ai (ai (ai (bV) (by kernel_rfl) To) (by kernel_rfl) T9) (by kernel_rfl) S3)) aW (hl:=ao) (d:=4) func100 rfl (by decide) (U4 lpK jnK bq dn dD)
def ou (lp:Lp) (_:Jn) (fh:QJ) (x0:(List (ByteArray×Int))×List (ByteArray×(List (ByteArray×Int×Int×Int))×Bool)) (x1:ByteArray×(List (ByteArray×Int×Int×Int))×Bool):Option Bool :=
 
 let v4:Bool:=!x1.2.2;
 let v5:Bool:=!v4;
 let v6:Bool:=!v5;
 let v7:Int:=IntKind.wrap .i64 ((↑x1.2.1.length:Int) - 1);
 let v8:Bool:=v6||v5;
 let v9:Bool:=decide ((↑x1.2.1.length:Int)<2);
 let v10:Bool:=!v9;
 let v11:Bool:=!v10||v10;bif v11 then bif v11 then bif v11 then bif v9||v10 then bif bif v9 then true else decide ((↑x1.2.1.length:Int)>10) then some false else lp (Int×PUnit) Bool (fun (again:Int×PUnit->Option Bool) (x:Int×PUnit) =>
 let v14:Bool:=decide (x.1=0);
 let v15:Bool:=!v14;
 let v16:Bool:=!v15||v15;bif decide (x.1<(↑x1.2.1.length:Int)) then bif inB x.1 x1.2.1.length then bif v16 then bif v16 then bif v16 then bif v16 && v16 then bif v14||v15 then aa (fh x0 (x1.2.1.getD x.1.toNat ({ data:={ toList:=[] } },0,0,0)) (bif v14 then true else decide (x.1=v7))) fun (t:Bool)=>bif !t then some false else again (IntKind.wrap .i64 (x.1+1),PUnit.unit) else none else none else none else none else none else none else bif v8 then bif v8 then bif v8 then bif v8 then bif v8&&(v8&&(v6||inB v7 x1.2.1.length)) then bif v8 then bif v8 then bif v8 then bif v4||v5 then some (bif v4 then true else List.beq (ByteArray.toList (x1.2.1.getD v7.toNat ({ data:={ toList:=[] } },0,0,0)).1) (ByteArray.toList { data:=#[] })) else none else none else none else none else none else none else none else none else none) (0,PUnit.unit) else none else none else none else none
def gk (x0:(List (ByteArray×Int))×List (ByteArray×(List (ByteArray×Int×Int×Int))×Bool)) (x1:ByteArray×(List (ByteArray×Int×Int×Int))×Bool):Option Bool:=ou lpK jnK fh x0 x1
abbrev t50:=((List (ByteArray×Int))×List (ByteArray×(List (ByteArray×Int×Int×Int))×Bool))->(ByteArray×(List (ByteArray×Int×Int×Int))×Bool)->Option (Bool)
def c50:Ctr:=⟨[T25,T75],[],[],.one .bool,fun x _ _=>gk x.1 x.2.1⟩
theorem e50 (lp:Lp) (jn:Jn) (fh:QJ):∀(x:TsS c50.as) (F:TsF c50.fs) (y:TsS c50.cs),ou lp jn fh x.1 x.2.1=cn lp jn (cx [(100,TR fh)] [(134,bJ)]) ao 4 50 f50 c50 x F y:=fun x F y=>by kernel_rfl
theorem Um:c50.ok prog 50:=Ctr.of_den (au (ai (bV) (by kernel_rfl) TC)) aW (hl:=ao) (d:=4) func50 rfl (by decide) (e50 lpK jnK fh)
def ni (lp:Lp) (_:Jn) (bN:t22) (eB:t48) (bq:t49) (gk:t50) (x0:(List (ByteArray×Int))×List (ByteArray×(List (ByteArray×Int×Int×Int))×Bool)):Option Bool :=
 
 let v3:Bool:=decide ((↑x0.1.length:Int)<1);
 let v4:Bool:=!v3;
 let v5:Bool:=bif v3 then true else decide ((↑x0.1.length:Int)>6);
 let v6:Bool:=!v4||v4;
 let v7:Bool:=!v5;
 let v8:Bool:=bif v5 then true else decide ((↑x0.2.length:Int)<1);
 let v9:Bool:=!v8;
 let v10:Bool:=!v7||v7;
 let v11:Bool:=!v9||v9;bif v6 then bif v6 then bif v6 then bif v3||v4 then bif v10 then bif v10 then bif v10 then bif v5||v7 then bif v11 then bif v11 then bif v11 then bif v8 || v9 then bif bif v8 then true else decide ((↑x0.2.length:Int)>6) then some false else lp (Int×PUnit) Bool (fun (again:Int×PUnit->Option Bool) (x:Int × PUnit)=>bif decide (x.1<(↑x0.1.length:Int)) then bif inB x.1 x0.1.length then aa (eB (x0.1.getD x.1.toNat ({ data:={ toList := [] } },0)).1) fun (t:Bool) =>
 let v15:Bool:=!t;
 let v16:Bool:=!v15;
 let v17:Bool:=!v16||v16;
 let v18:Bool:=v17&&v17;bif v17 then bif v18 then aa (bif v16 then bq x0 (x0.1.getD x.1.toNat ({ data:={ toList:=[] } },0)).1 else some 0) fun (t:Int) =>
 let v20:Bool:=bif v15 then true else !decide (t=x.1);
 let v21:Bool:=!v20;
 let v22:Bool:=!v21||v21;
 let v23:Bool:=bif v20 then true else decide ((x0.1.getD x.1.toNat ({ data:={ toList:=[] } },0)).2<0);
 let v24:Bool:=!v23;
 let v25:Bool:=!v24||v24;bif v18 then bif v15||v16 then bif v22 then bif v22 then bif v20||v21 then bif v25 then bif v25 then bif v23||v24 then bif bif v23 then true else decide ((x0.1.getD x.1.toNat ({ data:={ toList:=[] } },0)).2>16777216) then some false else again (IntKind.wrap .i64 (x.1+1), PUnit.unit) else none else none else none else none else none else none else none else none else none else none else none else lp (Int×Int×PUnit) Bool (fun (again:Int×Int × PUnit->Option Bool) (x:Int×Int×PUnit) =>
 let v16:Int×PUnit:=(IntKind.wrap .i64 (x.2.1+1),PUnit.unit);
 let v17:ByteArray×List (ByteArray×Int×Int×Int)×Bool:=x0.2.getD x.2.1.toNat ({ data:={ toList:=[] } },[],false);bif decide (x.2.1<(↑x0.2.length:Int)) then bif inB x.2.1 x0.2.length then aa (eB v17.1) fun (t:Bool) =>
 let v19:Bool:=!t;
 let v20:Bool:=!v19;
 let v21:Bool:=!v20||v20;
 let v22:Bool:=v21&&v21;bif v21 then bif v22 then aa (bif v20 then bN x0 v17.1 else some 0) fun (t:Int) =>
 let v24:Bool:=bif v19 then true else !decide (t=x.2.1);
 let v25:Bool:=!v24;
 let v26:Bool:=!v25||v25;bif v22 then bif v19||v20 then bif v26 then bif v26&&v26 then aa (bif v25 then bq x0 v17.1 else some 0) fun (t:Int) =>
 let v28:Bool:=bif v24 then true else decide (t>=0);
 let v29:Bool:=!v28;
 let v30:Bool:=!v29||v29;bif v26 then bif v24||v25 then bif v30&&v30 then aa (bif v29 then gk x0 v17 else some false) fun (t:Bool)=>bif v30 then bif v28||v29 then bif bif v28 then true else !t then some false else bif v17.2.2 then again (IntKind.wrap .i64 (x.1+1),v16) else again (x.1,v16) else none else none else none else none else none else none else none else none else none else none else none else none else some (decide (x.1<=1))) (0,0,PUnit.unit)) (0, PUnit.unit) else none else none else none else none else none else none else none else none else none else none else none else none
def bn (x0:(List (ByteArray×Int))×List (ByteArray×(List (ByteArray×Int×Int×Int))×Bool)):Option Bool:=ni lpK jnK bN eB bq gk x0
abbrev t13:=((List (ByteArray×Int))×List (ByteArray×(List (ByteArray×Int×Int×Int))×Bool))->Option (Bool)
def k13 (bn:t13):Ctr:=⟨[T25],[],[],.one .bool,fun x _ _=>bn x.1⟩
def c13:Ctr:=k13 bn
theorem e13 (lp:Lp) (jn:Jn) (bN:t22) (eB:t48) (bq:t49) (gk:t50):∀(x:TsS c13.as) (F:TsF c13.fs) (y:TsS c13.cs),ni lp jn bN eB bq gk x.1=cn lp jn (cx [(50,⟨[T25,T75],[],[],.one .bool,fun x _ _=>gk x.1 x.2.1⟩),(49,k49 bq),(48,⟨[.str],[],[],.one .bool,fun x _ _=>eB x.1⟩),(22,k22 bN)] [(134,bJ)]) ao 4 13 f13 c13 x F y:=fun x F y=>by kernel_rfl
theorem VK:c13.ok prog 13:=Ctr.of_den (au (ai (ai (ai (ai (bV) (by kernel_rfl) U2) (by kernel_rfl) UD) (by kernel_rfl) To) (by kernel_rfl) Um)) aW (hl:=ao) (d:=4) func13 rfl (by decide) (e13 lpK jnK bN eB bq gk)
def AY (lp:Lp) (_:Jn) (x0:(List Int)×List ((List Int)×Int×Int)) (x1:(List Int)×List ((List Int)×Int×Int)):Option Bool :=
 
 let v4:Bool:=!decide ((↑x0.1.length:Int)=(↑x1.1.length:Int));
 let v5:Bool:=!v4;
 let v6:Bool:=!v5||v5;bif v6 then bif v6 then bif v6 then bif v6 then bif v6&&v6 then bif v4||v5 then bif bif v4 then true else !decide ((↑x0.2.length:Int) = (↑x1.2.length:Int)) then some false else lp (Int×PUnit) Bool (fun (again:Int×PUnit->Option Bool) (x:Int×PUnit)=>bif decide (x.1<(↑x0.1.length : Int)) then bif inB x.1 x0.1.length then bif inB x.1 x1.1.length then bif !decide (x0.1.getD x.1.toNat 0=x1.1.getD x.1.toNat 0) then some false else again (IntKind.wrap .i64 (x.1+1),PUnit.unit) else none else none else lp (Int×PUnit) Bool (fun (again:Int×PUnit->Option Bool) (x:Int×PUnit) =>
 let v11:Bool:=!decide ((x0.2.getD x.1.toNat ([],0,0)).2.1=(x1.2.getD x.1.toNat ([],0,0)).2.1);
 let v12:Bool:=!v11;
 let v13:Bool:=bif v11 then true else !decide ((x0.2.getD x.1.toNat ([],0,0)).2.2=(x1.2.getD x.1.toNat ([],0,(0 : Int))).2.2);
 let v14:Bool:=!v12||v12;
 let v15:Bool:=!v13;
 let v16:Bool:=!v15||v15;bif decide (x.1<(↑x0.2.length:Int)) then bif inB x.1 x0.2.length then bif inB x.1 x1.2.length then bif v14 then bif v14 then bif v14&&v14 then bif v11||v12 then bif v16 then bif v16 then bif v16 then bif v16 then bif v16&&v16 then bif v13||v15 then bif bif v13 then true else !decide ((↑(List.length (x0.2.getD x.1.toNat ([],0,0)).1):Int)=(↑(List.length (x1.2.getD x.1.toNat ([],0,0)).1):Int)) then some false else lp (Int×PUnit) Bool (fun (again_1:Int×PUnit->Option Bool) (x_1:Int×PUnit)=>bif decide (x_1.1<(↑(List.length (x0.2.getD x.1.toNat ([],0,0)).1):Int)) then bif inB x_1.1 (List.length (x0.2.getD x.1.toNat ([],0,0)).1) then bif inB x_1.1 (List.length (x1.2.getD x.1.toNat ([],0,0)).1) then bif !decide (List.getD (x0.2.getD x.1.toNat ([],0,0)).1 x_1.1.toNat 0=List.getD (x1.2.getD x.1.toNat ([],0,0)).1 x_1.1.toNat 0) then some false else again_1 (IntKind.wrap .i64 (x_1.1 + 1),PUnit.unit) else none else none else again (IntKind.wrap .i64 (x.1+1),PUnit.unit)) (0,PUnit.unit) else none else none else none else none else none else none else none else none else none else none else none else none else some true) (0,PUnit.unit)) (0,PUnit.unit) else none else none else none else none else none else none
def jm (x0:(List Int)×List ((List Int)×Int×Int)) (x1:(List Int)×List ((List Int)×Int×Int)):Option Bool:=AY lpK jnK x0 x1
abbrev t14:=((List Int)×List ((List Int)×Int×Int))->((List Int)×List ((List Int)×Int×Int))->Option (Bool)
def B0 (lp:Lp) (_:Jn) (x0:ByteArray×(List (ByteArray×Int×Int×Int))×Bool) (x1:ByteArray):Option Int :=
 lp (Int×Int×PUnit) Int (fun (again:Int×Int×PUnit->Option Int) (x:Int×Int×PUnit) =>
 let v6:Int×PUnit:=(IntKind.wrap .i64 (x.2.1+1),PUnit.unit);
 let v7:Bool:=inB x.2.1 x0.2.1.length;
 let v8:ByteArray×Int×Int×Int:=x0.2.1.getD x.2.1.toNat ({ data:={ toList:=[] } },0,0,0);bif decide (x.2.1<(↑x0.2.1.length:Int)) then bif v7 then bif List.beq (ByteArray.toList v8.1) (ByteArray.toList x1) then bif v7 then again (IntKind.wrap .i64 (x.1+v8.2.1),v6) else none else again (x.1,v6) else none else some x.1) (0,0,PUnit.unit)
def td (x0:ByteArray×(List (ByteArray×Int×Int×Int))×Bool) (x1:ByteArray):Option Int:=B0 lpK jnK x0 x1
abbrev Uh:=(ByteArray×(List (ByteArray×Int×Int×Int))×Bool)->(ByteArray)->Option (Int)
def xQ (lp:Lp) (_:Jn) (td:Uh) (x0:(List (ByteArray×Int))×List (ByteArray×(List (ByteArray×Int×Int×Int))×Bool)):Option (List (List Int)) :=
 lp ((List Nat×List (Option (List Int)))×Int×PUnit) (List (List Int)) (fun (again:(List Nat×List (Option (List Int)))×Int×PUnit->Option (List (List Int))) (x:(List Nat × List (Option (List Int)))×Int×PUnit)=>bif decide (x.2.1<(↑x0.1.length:Int)) then lp (List Int×Int×PUnit) (List (List Int)) (fun (again_1:List Int×Int × PUnit->Option (List (List Int))) (x_1:List Int×Int×PUnit)=>bif decide (x_1.2.1<(↑x0.2.length:Int)) then bif inB x_1.2.1 x0.2.length then bif inB x.2.1 x0.1.length then aa (td (x0.2.getD x_1.2.1.toNat ({ data:={ toList:=[] } },[],false)) (x0.1.getD x.2.1.toNat ({ data:={ toList:=[] } },0)).1) fun (t:Int)=>bif dZ (List.length x_1.1+1) 8 then again_1 (x_1.1++[t],IntKind.wrap .i64 (x_1.2.1 + 1),PUnit.unit) else none else none else none else bif dZ (List.length x.1.1+1) 24 then again ((x.1.1++[List.length x.1.2+0], x.1.2++[some x_1.1]),IntKind.wrap .i64 (x.2.1+1),PUnit.unit) else none) ([],0,PUnit.unit) else bif List.all x.1.1 fun (x_1:Nat)=>eM x.1.2 x_1 then some (List.map (fun (x_1:Nat)=>ah x.1.2 x_1) x.1.1) else none) (([],[]),0,PUnit.unit)
def oj (x0:(List (ByteArray×Int))×List (ByteArray×(List (ByteArray×Int×Int×Int))×Bool)):Option (List (List Int)):=xQ lpK jnK td x0
abbrev t51:=((List (ByteArray×Int))×List (ByteArray×(List (ByteArray×Int×Int×Int))×Bool))->Option (List (List Int))
def vZ (lp:Lp) (_:Jn) (oj:t51) (x0:(List (ByteArray×Int))×List (ByteArray×(List (ByteArray×Int×Int×Int))×Bool)) (x1:List Int):Option ((List Int)×List ((List Int)×Int×Int)) :=
 aa (oj x0) fun (t:List (List Int))=>lp (Int×List Int×List (List Int×Int×Int)×PUnit) (List Int×List (List Int×Int×Int)) (fun (again:Int×List Int×List (List Int×Int×Int)×PUnit->Option (List Int×List (List Int×Int×Int))) (x:Int×List Int×List (List Int×Int×Int)×PUnit)=>bif decide (x.1<(↑x0.1.length:Int)) then bif inB x.1 t.length then bif inB x.1 x0.1.length then bif dZ (List.length x.2.2.1+1) 40 then again (IntKind.wrap IntKind.i64 (x.1+1),x.2.1,x.2.2.1++[(t.getD x.1.toNat [],3,(x0.1.getD x.1.toNat ({ data:={ toList:=[] } },(0 : Int))).2)],PUnit.unit) else none else none else none else some (x.2.1,x.2.2.1)) (0,x1,[],PUnit.unit)
def aV (x0:(List (ByteArray×Int))×List (ByteArray×(List (ByteArray×Int×Int×Int))×Bool)) (x1:List Int):Option ((List Int)×List ((List Int)×Int×Int)):=vZ lpK jnK oj x0 x1
abbrev t15:=((List (ByteArray×Int))×List (ByteArray×(List (ByteArray×Int×Int×Int))×Bool))->(List Int)->Option ((List Int)×List ((List Int)×Int×Int))
def k15 (aV:t15):Ctr:=⟨[T25,(.sl i64)],[],[],.one T32,fun x _ _=>aV x.1 x.2.1⟩
def A3 (lp:Lp) (_:Jn) (x0:(List (ByteArray×Int))×List (ByteArray×(List (ByteArray×Int×Int×Int))×Bool)):Option (List Int) :=
 lp (List Int×Int×PUnit) (List Int) (fun (again:List Int×Int×PUnit->Option (List Int)) (x:List Int×Int×PUnit)=>bif decide (x.2.1<(↑x0.2.length:Int)) then bif dZ (List.length x.1+1) 8 then again (x.1++[1],IntKind.wrap .i64 (x.2.1+1),PUnit.unit) else none else some x.1) ([],(0 : Int),PUnit.unit)
def cQ (x0:(List (ByteArray×Int))×List (ByteArray×(List (ByteArray×Int×Int×Int))×Bool)):Option (List Int):=A3 lpK jnK x0
abbrev t16:=((List (ByteArray×Int))×List (ByteArray×(List (ByteArray×Int×Int×Int))×Bool))->Option (List Int)
def k16 (cQ:t16):Ctr:=⟨[T25],[],[],.one (.sl i64),fun x _ _=>cQ x.1⟩
def Cu (lp:Lp) (_:Jn) (du:t52) (x0:List (Int×Int)):Option Bool :=
 lp (Int×PUnit) Bool (fun (again:Int×PUnit->Option Bool) (x:Int×PUnit)=>bif decide (x.1<(↑x0.length:Int)) then bif inB x.1 x0.length then aa (du (x0.getD x.1.toNat (0,0))) fun (t:Bool)=>bif !t then some false else again (IntKind.wrap .i64 (x.1+1),PUnit.unit) else none else some true) (0,PUnit.unit)
def lU (x0:List (Int×Int)):Option Bool:=Cu lpK jnK du x0
abbrev t17:=(List (Int×Int))->Option (Bool)
def Ds (lp:Lp) (_:Jn) (cK:IK) (cD:LZ) (x0:Int×Int) (x1:Int×Int):Option ((Int×Int)×(Int×Int)×Unit) :=
 
 let v4:Bool:=nzB x1.2;
 let v5:Int:=2 ^ 63;
 let v6:Int:=2 ^ 1;
 let v7:Bool:=decide (x0.1=0);
 let v8:Bool:=decide ((0:Int)<=63);
 let v9:Bool:=decide ((0:Int)<=1);
 let v10:Bool:=!v7||v7;bif v10 then bif v10 then bif v10 then bif bif v7 then decide (x1.1=0) else false then bif v4 then bif v4 then some ((0,IntKind.wrap IntKind.u64 (Int.tdiv x0.2 x1.2)),(0,Int.tmod x0.2 x1.2),PUnit.unit) else none else none else lp (Int×(Int×Int)×(Int×Int)×(Int×Int)×PUnit) ((Int×Int) × (Int×Int)×PUnit) (fun (again:Int×(Int×Int)×(Int×Int)×(Int×Int)×PUnit->Option ((Int×Int)×(Int×Int)×PUnit)) (x:Int×(Int×Int)×(Int×Int)×(Int × Int)×PUnit) =>
 let v13:Int:=IntKind.wrap .i64 (x.1+1);
 let v14:Int:=IntKind.wrap .u64 (x.2.2.1.2*v6);
 let v15:Int:=IntKind.wrap .u64 (IntKind.wrap .u64 (x.2.2.1.1*v6)+Int.fdiv x.2.2.1.2 v5);
 let v16:Bool:=decide (Int.fdiv x.2.2.2.1.1 v5>0);
 let v17:Bool:=!v16;
 let v18:Int×Int:=(IntKind.wrap .u64 (IntKind.wrap .u64 (x.2.1.1*v6)+Int.fdiv x.2.1.2 v5),IntKind.wrap .u64 (x.2.1.2*v6));
 let v19:Int×Int:=(IntKind.wrap .u64 (IntKind.wrap .u64 (x.2.2.2.1.1*v6)+Int.fdiv x.2.2.2.1.2 v5),IntKind.wrap .u64 (IntKind.wrap IntKind.u64 (x.2.2.2.1.2*v6)+Int.fdiv x.2.1.1 v5));
 let v20:Bool:=!v17||v17;bif decide (x.1<128) then bif v8 then bif v9 then bif v8 then bif v9 then bif v8 then bif v9 then bif v8 then bif v9 then bif v9 then bif v8 then bif v9 then bif v20&&v20 then aa (bif v17 then cK v19 x1 else some false) fun (t:Bool)=>bif v20 then bif v16||v17 then bif bif v16 then true else !t then aa (cD v19 x1) fun (t:Int×Int)=>again (v13,v18,(v15,IntKind.wrap .u64 (v14+1)),t,PUnit.unit) else again (v13,v18,(v15,v14),v19,PUnit.unit) else none else none else none else none else none else none else none else none else none else none else none else none else none else none else some (x.2.2.1,x.2.2.2.1, PUnit.unit)) (0,x0,(0,0),(0,0),PUnit.unit) else none else none else none
def rK (x0:Int×Int) (x1:Int×Int):Option ((Int×Int)×(Int×Int)×Unit):=Ds lpK jnK cK cD x0 x1
abbrev Vh:=(Int×Int)->(Int×Int)->Option ((Int×Int)×(Int×Int)×Unit)
def Bd (_:Lp) (_:Jn) (eK:OP) (rK:Vh) (x0:Int×Int) (x1:Bool) (x2:Int×Int):Option ((Int×Int)×Int×Unit) :=
 bif decide (x2.1=0)&&(decide (x2.2=0)&&true) then some ((0,0),16,PUnit.unit) else aa (eK x0 x2) fun (t:Int×Int)=>aa (rK x0 t) fun (t_1:(Int×Int)×(Int×Int)×PUnit) =>
 let v7:Int:=IntKind.wrap .i64 t_1.1.2;
 let v8:Bool:=decide (t_1.1.1>0);
 let v9:Bool:=!v8;
 let v10:Bool:=bif v8 then true else decide (t_1.1.2>1152921504606846976);
 let v11:Bool:=!v9||v9;
 let v12:Bool:=!v10;
 let v13:Bool:=!v12||v12;aa (rK x2 t) fun (t:(Int×Int)×(Int×Int)×PUnit) =>
 let v15:Int:=IntKind.wrap .i64 t.1.2;
 let v16:Bool:=bif v10 then true else decide (t.1.1>0);
 let v17:Bool:=!v16;
 let v18:Bool:=!v17||v17;bif v11 then bif v11 then bif v8||v9 then bif v13 then bif v13 then bif v10||v12 then bif v18 then bif v18 then bif v16||v17 then bif bif v16 then true else decide (t.1.2>1152921504606846976) then some ((0,0),5,PUnit.unit) else bif x1 then some ((IntKind.wrap .i64 (0 - v7), v15),0,PUnit.unit) else some ((v7,v15),0,PUnit.unit) else none else none else none else none else none else none else none else none else none
def fG (x0:Int×Int) (x1:Bool) (x2:Int×Int):Option ((Int×Int)×Int×Unit):=Bd lpK jnK eK rK x0 x1 x2
abbrev Qx:=(Int×Int)->(Bool)->(Int×Int)->Option ((Int×Int)×Int×Unit)
def CX (_:Lp) (_:Jn) (x0:Int) (x1:Int):Option (Int×Int) :=
 
 let v4:Int:=2 ^ 32;
 let v5:Int:=Int.fdiv x0 v4;
 let v6:Int:=Int.fdiv x1 v4;
 let v7:Bool:=decide ((0:Int)<=32);
 let v8:Int:=IntKind.wrap .u64 (↑(Nat.land (Int.toNat (x1 % Int.ofNat 18446744073709551616)) (Int.toNat (4294967295 % Int.ofNat 18446744073709551616))) : Int);
 let v9:Int:=IntKind.wrap .u64 (↑(Nat.land (Int.toNat (x0 % Int.ofNat 18446744073709551616)) (Int.toNat (4294967295 % Int.ofNat 18446744073709551616))) : Int);
 let v10:Int:=IntKind.wrap .u64 (v9*v8);
 let v11:Int:=IntKind.wrap .u64 (IntKind.wrap .u64 (v5*v8)+Int.fdiv v10 v4);
 let v12:Int:=IntKind.wrap .u64 (IntKind.wrap .u64 (v9*v6)+IntKind.wrap .u64 (↑(Nat.land (Int.toNat (v11 % Int.ofNat 18446744073709551616)) (Int.toNat (4294967295 % Int.ofNat 18446744073709551616))):Int));bif v7 then bif v7 then bif v7 then bif v7 then bif v7 then bif v7 then some (IntKind.wrap .u64 (IntKind.wrap .u64 (IntKind.wrap .u64 (v5*v6)+Int.fdiv v11 v4)+Int.fdiv v12 v4),IntKind.wrap .u64 (IntKind.wrap .u64 (v12*v4)+IntKind.wrap IntKind.u64 (↑(Nat.land (Int.toNat (v10 % Int.ofNat 18446744073709551616)) (Int.toNat (4294967295 % Int.ofNat 18446744073709551616))):Int))) else none else none else none else none else none else none
def fE (x0:Int) (x1:Int):Option (Int×Int):=CX lpK jnK x0 x1
abbrev Q4:=(Int)->(Int)->Option (Int×Int)
def za (_:Lp) (_:Jn) (ba:Fl) (fG:Qx) (fE:Q4) (x0:Int×Int) (x1:Int×Int):Option ((Int×Int)×Int×Unit) :=
 aa (ba x0.1) fun (t:Int)=>aa (ba x1.1) fun (t_1:Int)=>aa (fE t t_1) fun (t:Int×Int)=>aa (ba x0.2) fun (t_2:Int)=>aa (ba x1.2) fun (t_3:Int)=>aa (fE t_2 t_3) fun (t_4:Int×Int)=>aa (fG t (!decide (decide (x0.1<0)=decide (x1.1<0))) t_4) fun (t:(Int×Int)×Int×PUnit)=>some (t.1,t.2.1,PUnit.unit)
def qc (x0:Int×Int) (x1:Int×Int):Option ((Int×Int)×Int×Unit):=za lpK jnK ba fG fE x0 x1
abbrev Vx:=(Int×Int)->(Int×Int)->Option ((Int×Int)×Int×Unit)
def Ep (_:Lp) (_:Jn) (cK:IK) (cD:LZ) (ef:Oz) (ba:Fl) (fG:Qx) (fE:Q4) (x0:Int×Int) (x1:Int×Int):Option ((Int×Int)×Int×Unit) :=
 
 let v4:Bool:=decide (x0.1<0);aa (ba x0.1) fun (t:Int)=>aa (ba x1.2) fun (t_1:Int)=>aa (fE t t_1) fun (t:Int×Int)=>aa (ba x1.1) fun (t_2:Int)=>aa (ba x0.2) fun (t_3:Int)=>aa (fE t_2 t_3) fun (t_4:Int×Int)=>aa (ba x0.2) fun (t_5:Int)=>aa (ba x1.2) fun (t_6:Int)=>aa (fE t_5 t_6) fun (t_7:Int×Int)=>bif decide (v4=decide (x1.1<0)) then aa (ef t t_4) fun (t:Int×Int) =>aa (fG t v4 t_7) fun (t:(Int×Int)×Int×PUnit)=>some (t.1,t.2.1,PUnit.unit) else aa (cK t t_4) fun (t_8:Bool)=>bif t_8 then aa (cD t_4 t) fun (t:Int×Int)=>aa (fG t (decide (x1.1<0)) t_7) fun (t:(Int×Int)×Int×PUnit)=>some (t.1,t.2.1,PUnit.unit) else aa (cD t t_4) fun (t:Int×Int)=>aa (fG t v4 t_7) fun (t:(Int×Int)×Int×PUnit)=>some (t.1,t.2.1,PUnit.unit)
def uW (x0:Int×Int) (x1:Int×Int):Option ((Int×Int)×Int×Unit):=Ep lpK jnK cK cD ef ba fG fE x0 x1
abbrev Uy:=(Int×Int)->(Int×Int)->Option ((Int×Int)×Int×Unit)
def CY (lp:Lp) (_:Jn) (dn:t73) (qc:Vx) (uW:Uy) (x0:List Int) (x1:List (Int×Int)):Option ((Int×Int)×Int×Unit) :=
 aa (dn 0) fun (t:Int×Int)=>lp (Int×(Int×Int)×(Int×Int)×PUnit) ((Int×Int)×Int×PUnit) (fun (again:Int×(Int×Int)×(Int×Int)×PUnit->Option ((Int×Int)×Int×PUnit)) (x:Int×(Int×Int)×(Int×Int)×PUnit)=>bif decide (x.1<(↑x0.length:Int)) then bif inB x.1 x0.length then aa (dn (x0.getD x.1.toNat 0)) fun (t:Int×Int)=>bif inB x.1 x1.length then aa (qc t (x1.getD x.1.toNat (0,0))) fun (t:(Int×Int)×Int×PUnit)=>bif !decide (t.2.1=0) then some ((0,0),t.2.1,PUnit.unit) else aa (uW x.2.2.1 t.1) fun (t:(Int × Int)×Int×PUnit)=>bif !decide (t.2.1=0) then some ((0,0),t.2.1,PUnit.unit) else again (IntKind.wrap .i64 (x.1+1), x.2.1,t.1,PUnit.unit) else none else none else some (x.2.2.1,0,PUnit.unit)) (0,(0,0),t,PUnit.unit)
def lR (x0:List Int) (x1:List (Int×Int)):Option ((Int×Int)×Int×Unit):=CY lpK jnK dn qc uW x0 x1
abbrev t54:=(List Int)->(List (Int×Int))->Option ((Int×Int)×Int×Unit)
def xa (lp:Lp) (_:Jn) (x0:(List Int)×List ((List Int)×Int×Int)) (x1:Int):Option (List Int) :=
 lp (List Int×Int×PUnit) (List Int) (fun (again:List Int×Int×PUnit->Option (List Int)) (x:List Int×Int×PUnit)=>bif decide (x.2.1<(↑x0.2.length:Int)) then bif inB x.2.1 x0.2.length then bif inB x1 (List.length (x0.2.getD x.2.1.toNat ([],0,0)).1) then bif dZ (List.length x.1+(1 : Nat)) 8 then again (x.1++[List.getD (x0.2.getD x.2.1.toNat ([],0,0)).1 x1.toNat 0],IntKind.wrap .i64 (x.2.1 + 1),PUnit.unit) else none else none else none else some x.1) ([],0,PUnit.unit)
def oC (x0:(List Int)×List ((List Int)×Int×Int)) (x1:Int):Option (List Int):=xa lpK jnK x0 x1
abbrev VI:=((List Int)×List ((List Int)×Int×Int))->(Int)->Option (List Int)
def Dt (_:Lp) (_:Jn) (cK:IK) (ba:Fl) (fE:Q4) (x0:Int×Int) (x1:Int×Int):Option Int :=
 
 let v4:Bool:=decide (x0.1<0);
 let v5:Bool:=decide (x0.1>=0);
 let v6:Bool:=!v4||v4;
 let v7:Bool:=!v5||v5;aa (ba x0.1) fun (t:Int)=>aa (ba x1.2) fun (t_1:Int)=>aa (fE t t_1) fun (t:Int×Int)=>aa (ba x1.1) fun (t_2:Int)=>aa (ba x0.2) fun (t_3:Int)=>aa (fE t_2 t_3) fun (t_4:Int×Int)=>bif v6 then bif v6 then bif v6 then bif bif v4 then decide (x1.1>=0) else false then some (-1) else bif v7 then bif v7 then bif v7 then bif bif v5 then decide (x1.1<0) else false then some 1 else bif decide (t.1=t_4.1)&&(decide (t.2=t_4.2)&&true) then some 0 else aa (cK t t_4) fun (t:Bool)=>bif decide (t=v5) then some (-1) else some 1 else none else none else none else none else none else none
def lV (x0:Int×Int) (x1:Int×Int):Option Int:=Dt lpK jnK cK ba fE x0 x1
abbrev Ta:=(Int×Int)->(Int×Int)->Option (Int)
def yN (lp:Lp) (_:Jn) (dn:t73) (lR:t54) (oC:VI) (lV:Ta) (x0:(List Int)×List ((List Int)×Int×Int)) (x1:List (Int×Int)) (x2:List Int):Option (Bool×Int×Unit) :=
 lp (Bool×Int×PUnit) (Bool×Int×PUnit) (fun (again:Bool×Int×PUnit->Option (Bool×Int×PUnit)) (x:Bool×Int×PUnit) =>
 let v7:Bool:=!x.1;
 let v8:Bool:=v7||x.1;bif decide (x.2.1<(↑x2.length:Int)) then aa (oC x0 x.2.1) fun (t:List Int)=>aa (lR t x1) fun (t:(Int×Int) × Int×PUnit)=>bif !decide (t.2.1=0) then some (false,t.2.1,PUnit.unit) else bif v8&&(v8&&(v7||inB x.2.1 x2.length)) then bif v8 then bif v8 then aa (bif x.1 then dn (x2.getD x.2.1.toNat 0) else some (0,0)) fun (t_1:Int×Int)=>bif v8&&v8 then aa (bif x.1 then lV t.1 t_1 else some 0) fun (t:Int)=>bif v8 then bif v8 then again (bif x.1 then decide (t<=0) else false,IntKind.wrap .i64 (x.2.1+(1 : Int)),PUnit.unit) else none else none else none else none else none else none else some (x.1,0,PUnit.unit)) (true,0,PUnit.unit)
def qA (x0:(List Int)×List ((List Int)×Int×Int)) (x1:List (Int×Int)) (x2:List Int):Option (Bool×Int×Unit):=yN lpK jnK dn lR oC lV x0 x1 x2
abbrev t53:=((List Int)×List ((List Int)×Int×Int))->(List (Int×Int))->(List Int)->Option (Bool×Int×Unit)
end
end Go.Proofs.YtfknoaclabfdlaaGreat
