/- r50: the shapes of its types, and the places of its loops. r50: what its functions answer (printed by a program), and that they do. r50: what its functions answer (printed by a program), and that they do; part 2. -/
import Derived.Test.YtegbncajloeepaaGreatProg
import Derived.KernelRfl
import Derived.Test.YtegbncajloeepaaGreatMgL

namespace Go.Proofs.YtegbncajloeepaaGreat
open Tryz Dn Dn.Sh
abbrev i64:Sh:=.int .i64
abbrev T45:Sh:=.agg (.pair .str i64)
abbrev T47:Sh:=.agg (.pair i64 i64)
abbrev T74:Sh:=.agg (.pair .str (.pair i64 T47))
abbrev T72:Sh:=.agg (.pair .str (.pair (.sl T74) .bool))
abbrev T25:Sh:=.agg (.pair (.sl T45) (.sl T72))
abbrev T30:Sh:=.agg (.pair (.sl T47) (.pair .bool (.sl T47)))
abbrev Ec:Sh:=.agg (.pair (.sl i64) (.pair i64 i64))
abbrev T82:Sh:=.agg (.pair (.sl i64) (.sl Ec))
abbrev T94:Sh:=.agg (.pair T47 (.pair (.sl T47) (.sl T47)))
abbrev oM:Sh:=.agg (.pair (.int .u64) (.int .u64))
abbrev Js:Sh:=.agg (.pair (.sl (.sl i64)) (.pair i64 (.pair (.sl i64) (.pair (.sl i64) (.pair (.sl i64) (.pair i64 i64))))))
abbrev Xt:Sh:=.agg (.pair (.sl (.sl i64)) (.pair i64 (.pair (.sl i64) (.pair (.sl i64) .bool))))
abbrev TB:Sh:=.agg i64
abbrev lW:Sh:=.agg (.pair (.int .u64) (.int .u64))
abbrev vk:Sh:=.agg (.pair .bool (.pair (.int .u64) (.int .u64)))
def shs:TypeId->Option Sh
 | 3=>some i64
 | 4=>some .bool
 | 5=>some (.int .u8)
 | 9=>some .str
 | 28=>some (.sl T47)
 | 45=>some T45
 | 47=>some T47
 | 72=>some T72
 | 74=>some T74
 | 79=>some (.sl i64)
 | 124=>some Ec
 | _=>none
def QY:Nat->Option Hd
 | 3=>some ⟨[(3,false,[.d i64]),(11,false,[.d i64])],[],[]⟩
 | 11=>some ⟨[(6,false,[.row 47 T47]),(27,false,[.d i64])],[],[]⟩
 | _=>none
def Kq:Nat->Option Hd
 | 2=>some ⟨[(3,false,[.d i64])],[],[]⟩
 | _=>none
def OP:Nat->Option Hd
 | 2=>some ⟨[(8,false,[.d i64])],[],[]⟩
 | _=>none
def Pt:Nat->Option Hd
 | 1=>some ⟨[(0,false,[.d (.int .u64)]),(1,false,[.d (.int .u64)])],[],[]⟩
 | _=>none
def RJ:Nat->Option Hd
 | 5=>some ⟨[(17,false,[.d i64])],[],[]⟩
 | _=>none
def Rr:Nat->Option Hd
 | 6=>some ⟨[(27,false,[.d i64])],[],[(3,some 0,.x (.map 133 .str .bool))]⟩
 | 13=>some ⟨[(7,false,[.d i64]),(46,false,[.d i64])],[],[(3,some 0,.x (.map 133 .str .bool))]⟩
 | _=>none
def Qv:Nat->Option Hd
 | 5=>some ⟨[(20,false,[.d i64])],[],[(4,none,.x (.tab 79 .ref 3 i64))]⟩
 | 10=>some ⟨[(34,false,[.d i64])],[],[(4,none,.x (.tab 79 .ref 3 i64))]⟩
 | 13=>some ⟨[(42,false,[.d i64])],[],[(4,none,.x (.tab 79 .ref 3 i64))]⟩
 | _=>none
def R3:Nat->Option Hd
 | 5=>some ⟨[(4,false,[.row 3 i64]),(13,false,[.d i64])],[],[]⟩
 | _=>none
def Qf:Nat->Option Hd
 | 9=>some ⟨[(34,false,[.d i64])],[(9,[.d (.sl i64),.row 124 Ec])],[]⟩
 | _=>none
def QZ:Nat->Option Hd
 | 8=>some ⟨[(8,false,[.d i64])],[],[(7,none,.row 3 i64)]⟩
 | _=>none
def Qt:Nat->Option Hd
 | 1000002=>some ⟨[],[],[]⟩
 | 1000005=>some ⟨[],[],[]⟩
 | _=>none
def K4:Nat->Option Hd
 | 2=>some ⟨[(8,false,[.d i64])],[],[]⟩
 | _=>none
def ML:Nat->Option Hd
 | 2=>some ⟨[(8,false,[.d i64])],[],[]⟩
 | _=>none
def LO:Nat->Option Hd
 | 3=>some ⟨[(5,false,[.d i64]),(14,false,[.d i64])],[],[]⟩
 | _=>none
def NA:Nat->Option Hd
 | 5=>some ⟨[(3,false,[.d i64]),(4,false,[.d i64])],[],[]⟩
 | _=>none
def Om:Nat->Option Hd
 | 1000002=>some ⟨[],[],[]⟩
 | _=>none
def Mw:Nat->Option Hd
 | 4=>some ⟨[(4,false,[.row 3 i64]),(18,false,[.d i64])],[],[]⟩
 | 10=>some ⟨[(7,false,[.d i64]),(34,false,[.d i64])],[],[]⟩
 | _=>none
def Pm:Nat->Option Hd
 | 4=>some ⟨[(5,false,[.d i64]),(24,false,[.d i64])],[],[]⟩
 | 12=>some ⟨[(9,false,[.d i64]),(51,false,[.d i64])],[(46,[.x (.tab 79 .ref 3 i64),.d i64,.row 3 i64,.row 3 i64,.row 3 i64,.d i64,.d i64])],[]⟩
 | 28=>some ⟨[(95,false,[.d i64])],[],[(12,none,.row 3 i64)]⟩
 | _=>none
def Lm:Nat->Option Hd
 | 1000019=>some ⟨[(9,false,[.d i64])],[],[(12,none,.row 3 i64)]⟩
 | 1000022=>some ⟨[(9,false,[.d i64])],[],[(12,none,.row 3 i64)]⟩
 | 1000026=>some ⟨[(13,false,[.d i64])],[],[(12,none,.row 3 i64)]⟩
 | _=>none
def Oc:Nat->Option Hd
 | 3=>some ⟨[(5,false,[.d i64]),(13,false,[.d i64])],[],[]⟩
 | _=>none
def Me:Nat->Option Hd
 | 1000008=>some ⟨[(10,false,[.d .bool])],[(2,[.d vk]),(3,[.d vk])],[]⟩
 | _=>none
def Ku:Nat->Option Hd
 | 1000002=>some ⟨[(0,false,[.d (.int .u64)]),(2,false,[.d i64])],[],[]⟩
 | 1000005=>some ⟨[(0,false,[.d (.int .u64)]),(2,false,[.d i64])],[],[]⟩
 | _=>none
def MM:Nat->Option Hd
 | 17=>some ⟨[(15,false,[.d (.int .u64)]),(16,false,[.d (.int .u64)])],[],[]⟩
 | 24=>some ⟨[(16,false,[.d (.int .u64)]),(18,false,[.d (.int .u64)])],[],[]⟩
 | _=>none
def Mm:Nat->Option Hd
 | 0=>some ⟨[(15,false,[.d (.int .u64)])],[],[]⟩
 | 2=>some ⟨[(18,false,[.d (.int .u64)])],[],[]⟩
 | 1000002=>some ⟨[],[],[]⟩
 | 1000004=>some ⟨[],[],[]⟩
 | _=>none
def Lb:Nat->Option Hd
 | 2=>some ⟨[(29,false,[.d i64])],[],[(0,some 0,.x (.tab 79 .ref 3 i64))]⟩
 | 7=>some ⟨[(43,false,[.d i64])],[],[(0,some 0,.x (.tab 79 .ref 3 i64))]⟩
 | 17=>some ⟨[(98,false,[.d i64])],[],[(0,some 0,.x (.tab 79 .ref 3 i64))]⟩
 | 20=>some ⟨[(104,false,[.d i64])],[],[(0,some 0,.x (.tab 79 .ref 3 i64))]⟩
 | _=>none
def Og:Nat->Option Hd
 | 3=>some ⟨[(5,false,[.d i64]),(14,false,[.d i64])],[],[]⟩
 | _=>none
def Mi:Nat->Option Hd
 | 1=>some ⟨[],[(0,[.x (.tab 79 .ref 3 i64),.d i64,.row 3 i64,.row 3 i64,.row 3 i64,.d i64,.d i64])],[]⟩
 | 3=>some ⟨[(3,false,[.d i64]),(4,false,[.d i64])],[],[]⟩
 | 12=>some ⟨[(44,false,[.d i64])],[(0,[.x (.tab 79 .ref 3 i64),.d i64,.row 3 i64,.row 3 i64,.row 3 i64,.d i64,.d i64])],[]⟩
 | 15=>some ⟨[(6,false,[.d i64])],[(0,[.x (.tab 79 .ref 3 i64),.d i64,.row 3 i64,.row 3 i64,.row 3 i64,.d i64,.d i64])],[]⟩
 | _=>none
def Lq:Nat->Option Hd
 | 3=>some ⟨[(5,false,[.d i64]),(21,false,[.d i64])],[],[]⟩
 | _=>none
def MZ:Nat->Option Hd
 | 1=>some ⟨[],[(0,[.x (.tab 79 .ref 3 i64),.d i64,.row 3 i64,.row 3 i64,.row 3 i64,.d i64,.d i64])],[]⟩
 | 3=>some ⟨[(3,false,[.d i64]),(4,false,[.d i64])],[],[]⟩
 | _=>none
def QP:Nat->Option Hd
 | 14=>some ⟨[(6,false,[.d i64]),(43,false,[.d i64])],[],[(7,none,.row 3 i64)]⟩
 | 22=>some ⟨[(94,false,[.d i64])],[(5,[.d T47,.row 47 T47,.row 47 T47])],[]⟩
 | 27=>some ⟨[(110,false,[.d i64])],[(5,[.d T47,.row 47 T47,.row 47 T47])],[]⟩
 | 31=>some ⟨[(13,false,[.d i64]),(118,false,[.d i64])],[],[]⟩
 | _=>none
def PC:Nat->Option Hd
 | 10=>some ⟨[(5,false,[.row 47 T47]),(20,false,[.d i64])],[],[]⟩
 | _=>none
def QO:Nat->Option Hd
 | 4=>some ⟨[(13,false,[.d i64])],[],[]⟩
 | _=>none
def Q6:Nat->Option Hd
 | 2=>some ⟨[(8,false,[.d i64])],[],[]⟩
 | _=>none
def N2:Nat->Option Hd
 | 1000002=>some ⟨[],[],[]⟩
 | _=>none
def Lz:Nat->Option Hd
 | 1000008=>some ⟨[(9,false,[.d .bool])],[(10,[.d oM])],[]⟩
 | 1000010=>some ⟨[(9,false,[.d .bool])],[(10,[.d oM])],[]⟩
 | _=>none
def MY:Nat->Option Hd
 | 3=>some ⟨[(15,false,[.d i64])],[(0,[.d TB]),(6,[.d T47]),(7,[.d T47])],[]⟩
 | _=>none
def MD:Nat->Option Hd
 | 1000007=>some ⟨[(11,false,[.d i64])],[(10,[.d T47])],[]⟩
 | _=>none
def NX:Nat->Option Hd
 | 1000009=>some ⟨[],[(6,[.d oM]),(7,[.d oM])],[]⟩
 | _=>none
def KM:Nat->Option Hd
 | 3=>some ⟨[(5,false,[.row 3 i64]),(11,false,[.d i64])],[],[]⟩
 | _=>none
def L0:Nat->Option Hd
 | 3=>some ⟨[(9,false,[.d .bool]),(14,false,[.d i64])],[(0,[.d TB])],[]⟩
 | _=>none
def LM:Nat->Option Hd
 | 3=>some ⟨[(3,false,[.row 3 i64]),(9,false,[.d i64])],[],[]⟩
 | _=>none
def KH:Nat->Option Hd
 | 2=>some ⟨[(10,false,[.d i64])],[],[]⟩
 | _=>none
def QI:Nat->Option Hd
 | 7=>some ⟨[(8,false,[.row 47 T47]),(9,false,[.d i64]),(25,false,[.d i64])],[],[]⟩
 | 11=>some ⟨[(31,false,[.d i64])],[(11,[.d T47])],[]⟩
 | _=>none
def RQ:Nat->Option Hd
 | 1000004=>some ⟨[(8,false,[.d i64])],[],[]⟩
 | _=>none
def P9:Nat->Option Hd
 | 2=>some ⟨[(0,false,[.row 5 (.int .u8)]),(7,false,[.d i64])],[],[]⟩
 | _=>none
def QV:Nat->Option Hd
 | 3=>some ⟨[(3,false,[.d (.int .u32)]),(8,false,[.d i64])],[],[]⟩
 | _=>none
def QH:Nat->Option Hd
 | 12=>some ⟨[(6,false,[.row 5 (.int .u8)]),(36,false,[.d i64])],[],[]⟩
 | _=>none
def RB:Nat->Option Hd
 | 1000010=>some ⟨[],[],[(6,none,.row 5 (.int .u8))]⟩
 | _=>none
def RX:Nat->Option Hd
 | 4=>some ⟨[(3,false,[.d i64])],[],[]⟩
 | 9=>some ⟨[(4,false,[.d i64])],[],[]⟩
 | 14=>some ⟨[(5,false,[.d i64])],[],[]⟩
 | _=>none
def RL:Nat->Option Hd
 | 1=>some ⟨[(1,false,[.d i64])],[],[]⟩
 | _=>none
def Rq:Nat->Option Hd
 | 2=>some ⟨[(5,false,[.d i64])],[],[]⟩
 | _=>none
def Qx:Nat->Option Hd
 | 2=>some ⟨[(5,false,[.d i64])],[],[]⟩
 | _=>none
def M4:Nat->Option Hd
 | 4=>some ⟨[(5,false,[.d i64])],[(2,[.d lW]),(3,[.d lW])],[]⟩
 | 6=>some ⟨[],[(2,[.d lW]),(3,[.d lW])],[]⟩
 | 7=>some ⟨[],[(2,[.d lW])],[]⟩
 | 9=>some ⟨[],[(3,[.d lW])],[]⟩
 | 14=>some ⟨[(5,false,[.d i64])],[(3,[.d lW])],[]⟩
 | _=>none
def R1:Nat->Option Hd
 | 4=>some ⟨[(5,false,[.d i64])],[],[]⟩
 | _=>none
def P5:Nat->Option Hd
 | 4=>some ⟨[(3,false,[.d i64])],[],[]⟩
 | 11=>some ⟨[(5,false,[.d i64]),(6,false,[.d i64])],[],[]⟩
 | _=>none
def P6:Nat->Option Hd
 | 3=>some ⟨[(3,false,[.d i64]),(4,false,[.d i64])],[],[]⟩
 | 8=>some ⟨[(5,false,[.row 3 i64]),(6,false,[.d i64])],[],[]⟩
 | 12=>some ⟨[(7,false,[.d i64]),(8,false,[.d i64])],[],[]⟩
 | _=>none
def R0:Nat->Option Hd
 | 3=>some ⟨[(6,false,[.d i64]),(7,false,[.d i64])],[],[]⟩
 | _=>none
def Q5:Nat->Option Hd
 | 5=>some ⟨[(6,false,[.d i64]),(7,false,[.d i64])],[],[]⟩
 | _=>none
def OO:Nat->Option Hd
 | 3=>some ⟨[(5,false,[.d i64]),(6,false,[.d i64])],[],[]⟩
 | _=>none
def Rl:Nat->Option Hd
 | 3=>some ⟨[(3,false,[.x (.tab 79 .ref 3 i64)]),(4,false,[.d i64])],[],[]⟩
 | 7=>some ⟨[(5,false,[.row 3 i64]),(6,false,[.d i64])],[],[]⟩
 | _=>none
def QK:Nat->Option Hd
 | 4=>some ⟨[(7,false,[.d i64])],[(5,[.d (.sl i64),.row 124 Ec])],[]⟩
 | _=>none
def Qs:Nat->Option Hd
 | 3=>some ⟨[(3,false,[.row 3 i64]),(4,false,[.d i64])],[],[]⟩
 | _=>none
def PX:Nat->Option Hd
 | 2=>some ⟨[(3,false,[.d i64])],[],[]⟩
 | _=>none
def Lf:Nat->Option Hd
 | 5=>some ⟨[(8,false,[.d i64])],[(2,[.d lW]),(6,[.d lW]),(7,[.d lW])],[]⟩
 | _=>none
def RF:Nat->Option Hd
 | 3=>some ⟨[(7,false,[.d i64])],[(4,[.d T47]),(6,[.d T47])],[]⟩
 | _=>none
def NR:Nat->Option Hd
 | 3=>some ⟨[(5,false,[.row 3 i64]),(6,false,[.d i64])],[],[]⟩
 | _=>none
def QQ:Nat->Option Hd
 | 3=>some ⟨[(8,false,[.d .bool]),(9,false,[.d i64])],[],[]⟩
 | _=>none
def Qd:Nat->Option Hd
 | 3=>some ⟨[(3,false,[.row 3 i64]),(4,false,[.d i64])],[],[]⟩
 | _=>none
def PR:Nat->Option Hd
 | 2=>some ⟨[(5,false,[.d i64])],[],[]⟩
 | _=>none
def NQ:Nat->Option Hd
 | 3=>some ⟨[(7,false,[.d i64])],[(4,[.d T47]),(6,[.d T47])],[]⟩
 | _=>none
def Q4:Nat->Option Hd
 | 7=>some ⟨[(8,false,[.row 47 T47]),(9,false,[.d i64])],[],[]⟩
 | _=>none
def PS:Nat->Option Hd
 | 5=>some ⟨[(8,false,[.d i64])],[],[]⟩
 | _=>none
def R2:Nat->Option Hd
 | 18=>some ⟨[(9,false,[.d .bool]),(10,false,[.d i64])],[],[]⟩
 | _=>none
def Qp:Nat->Option Hd
 | 1000009=>some ⟨[(8,false,[.d i64])],[],[]⟩
 | _=>none
def RS:Nat->Option Hd
 | 3=>some ⟨[(4,false,[.d i64])],[(3,[.row 45 T45,.row 72 T72])],[]⟩
 | _=>none
def T2:Nat->Option Hd
 | 10=>some ⟨[(45,false,[.d i64])],[],[(7,some 0,.row 45 T45)]⟩
 | 20=>some ⟨[(69,false,[.d i64])],[(9,[.row 47 T47,.d .bool,.d (.sl T47)])],[]⟩
 | _=>none
def Tv:Nat->Option Hd
 | 1000018=>some ⟨[],[(9,[.row 47 T47,.d .bool,.d (.sl T47)])],[]⟩
 | _=>none
def P7:Nat->Option Hd
 | 2=>some ⟨[(0,false,[.row 5 (.int .u8)]),(7,false,[.d i64])],[],[]⟩
 | _=>none
def Rb:Nat->Option Hd
 | 3=>some ⟨[(3,false,[.d i64]),(4,false,[.d i64])],[],[]⟩
 | _=>none
def R4:Nat->Option Hd
 | 11=>some ⟨[(6,false,[.row 5 (.int .u8)]),(7,false,[.d i64])],[],[]⟩
 | _=>none
def Qk:Nat->Option Hd
 | 1000009=>some ⟨[],[],[(6,none,.row 5 (.int .u8))]⟩
 | _=>none
def Qg:Nat->Option Hd
 | 4=>some ⟨[(13,false,[.d i64])],[],[]⟩
 | _=>none
def QA:Nat->Option Hd
 | 4=>some ⟨[(5,false,[.d i64])],[],[]⟩
 | _=>none
def PV:Nat->Option Hd
 | 3=>some ⟨[(3,false,[.d i64]),(8,false,[.d i64])],[],[]⟩
 | _=>none
def Qw:Nat->Option Hd
 | 12=>some ⟨[(5,false,[.row 47 T47]),(6,false,[.d i64])],[(2,[.d T30])],[]⟩
 | _=>none
def Pv:Nat->Option Hd
 | 3=>some ⟨[(3,false,[.d i64]),(4,false,[.d i64])],[],[]⟩
 | _=>none
def Qy:Nat->Option Hd
 | 12=>some ⟨[(5,false,[.row 47 T47]),(6,false,[.d i64])],[],[]⟩
 | _=>none
def Pd:Nat->Option Hd
 | 2=>some ⟨[(8,false,[.d i64])],[],[]⟩
 | _=>none
def NF:Nat->Option Hd
 | 1000007=>some ⟨[(12,false,[.d (.int .u64)]),(13,false,[.d (.int .u64)]),(18,false,[.d .bool])],[],[]⟩
 | 1000008=>some ⟨[(12,false,[.d (.int .u64)]),(13,false,[.d (.int .u64)]),(14,false,[.d (.int .u64)]),(15,false,[.d (.int .u64)]),(18,false,[.d .bool])],[],[]⟩
 | _=>none
def Lg:Nat->Option Hd
 | 3=>some ⟨[(20,false,[.d i64])],[(5,[.x (.tab 79 .ref 3 i64),.d i64,.row 3 i64,.row 3 i64,.d .bool])],[]⟩
 | 9=>some ⟨[(40,false,[.d i64])],[(5,[.x (.tab 79 .ref 3 i64),.d i64,.row 3 i64,.row 3 i64,.d .bool])],[]⟩
 | 14=>some ⟨[(10,false,[.d i64]),(11,false,[.d i64])],[],[]⟩
 | 19=>some ⟨[(10,false,[.d i64])],[(5,[.x (.tab 79 .ref 3 i64),.d i64,.row 3 i64,.row 3 i64,.d .bool])],[]⟩
 | 26=>some ⟨[(130,false,[.d i64])],[],[(5,some 0,.x (.tab 79 .ref 3 i64))]⟩
 | 31=>some ⟨[(144,false,[.d i64])],[],[(5,some 0,.x (.tab 79 .ref 3 i64))]⟩
 | _=>none
def PG:Nat->Option Hd
 | 10=>some ⟨[(7,false,[.x (.tab 79 .ref 3 i64)]),(37,false,[.d i64])],[],[]⟩
 | 16=>some ⟨[(64,false,[.d i64])],[],[]⟩
 | 25=>some ⟨[(13,false,[.row 47 T47]),(80,false,[.d i64])],[],[]⟩
 | _=>none
def Ts:Nat->List Nat
 | 2000014=>[7]
 | _=>[]
def aj:FuncId->Hint
 | 92=>{loop:=QY}
 | 127=>{loop:=Kq}
 | 154=>{loop:=OP}
 | 59=>{loop:=Pt}
 | 91=>{loop:=RJ}
 | 50=>{loop:=Rr}
 | 72=>{loop:=Qv}
 | 73=>{loop:=R3}
 | 97=>{loop:=Qf}
 | 98=>{loop:=QZ,join:=Qt}
 | 174=>{loop:=K4}
 | 175=>{loop:=ML}
 | 146=>{loop:=LO}
 | 148=>{loop:=NA,join:=Om}
 | 100=>{loop:=Mw}
 | 101=>{loop:=Pm,join:=Lm}
 | 106=>{loop:=Oc}
 | 177=>{join:=Me}
 | 194=>{join:=Ku}
 | 185=>{loop:=MM,join:=Mm}
 | 149=>{loop:=Lb}
 | 150=>{loop:=Og}
 | 102=>{loop:=Mi}
 | 151=>{loop:=Lq}
 | 103=>{loop:=MZ}
 | 56=>{loop:=QP}
 | 57=>{loop:=PC}
 | 36=>{loop:=QO}
 | 75=>{loop:=Q6}
 | 129=>{join:=N2}
 | 171=>{join:=Lz}
 | 133=>{loop:=MY,join:=MD}
 | 187=>{join:=NX}
 | 170=>{loop:=KM}
 | 131=>{loop:=L0}
 | 134=>{loop:=LM}
 | 135=>{loop:=KH}
 | 95=>{loop:=QI}
 | 19=>{join:=RQ}
 | 63=>{loop:=P9}
 | 64=>{loop:=QV}
 | 25=>{loop:=QH,join:=RB}
 | 12=>{loop:=RX}
 | 77=>{loop:=RL}
 | 40=>{loop:=Rq}
 | 41=>{loop:=Qx}
 | 152=>{loop:=M4}
 | 42=>{loop:=R1}
 | 14=>{loop:=P5}
 | 79=>{loop:=P6}
 | 80=>{loop:=R0}
 | 43=>{loop:=Q5}
 | 118=>{loop:=OO}
 | 81=>{loop:=Rl}
 | 44=>{loop:=QK}
 | 45=>{loop:=Qs}
 | 70=>{loop:=PX}
 | 186=>{loop:=Lf}
 | 83=>{loop:=RF}
 | 119=>{loop:=NR}
 | 82=>{loop:=QQ}
 | 84=>{loop:=Qd}
 | 86=>{loop:=PR}
 | 124=>{loop:=NQ}
 | 87=>{loop:=Q4}
 | 48=>{loop:=PS}
 | 18=>{loop:=R2,join:=Qp}
 | 22=>{loop:=RS}
 | 6=>{loop:=T2,join:=Tv,thaw:=Ts}
 | 65=>{loop:=P7}
 | 66=>{loop:=Rb}
 | 26=>{loop:=R4,join:=Qk}
 | 27=>{loop:=Qg}
 | 67=>{loop:=QA}
 | 68=>{loop:=PV}
 | 29=>{loop:=Qw}
 | 69=>{loop:=Pv}
 | 30=>{loop:=Qy}
 | 181=>{loop:=Pd}
 | 159=>{join:=NF}
 | 113=>{loop:=Lg}
 | 74=>{loop:=PG}
 | _=>{}
def Ap (p : String) : Bool := p == "program.go:104" || p == "ref.go:45" || p == "tension.go:104" || p == "ref.go:107"
def Au:TypeId->Option XP
 | 108=>some (.tab 79 .ref 3 i64)
 | 109=>some (.tab 79 .ref 3 i64)
 | _=>none
def tX:List Nat:=[89,175,144,145,101,149,102,103,129,131]
def its:List (Nat×ICtr):=[]
theorem Uz:N0 prog its:=JO
end Go.Proofs.YtegbncajloeepaaGreat

namespace Go.Proofs.YtegbncajloeepaaGreat
noncomputable section
open Tryz Dn Dn.Sh
set_option maxRecDepth 100000
theorem aF:prog.follows .mixedOrders=true:=by kernel_rfl
theorem SO:DU prog tX=true:=by kernel_rfl
theorem q0:(jv prog shs tX its [] []).ok:=I7 SO Uz
abbrev cx (l) (r):=yN Au Ap (jv prog shs tX its l r)
def fW (_:Lp) (_:Jn) (x0:List Int):Option (List Int) :=
 bif dM (0+List.length x0) 8 then some x0 else none
def av (x0:List Int):Option (List Int):=fW lpK jnK x0
abbrev B9:=(List Int)->Option (List Int)
def M1 (av:B9):RCtr:=⟨[(.sl i64)],3,i64,fun x=>av x.1⟩
def bi:RCtr:=M1 av
theorem Yi (lp:Lp) (jn:Jn):∀x:TsS bi.as,fW lp jn x.1=Fh lp jn (cx [] []) aj 4 112 f112 bi.t bi.e (AM bi.as x true):=fun x=>by kernel_rfl
theorem Tn:bi.ok prog 112:=RCtr.of_den_nil (c:=bi) (ao (q0)) aF (hl:=aj) (d:=4) rfl func112 rfl (by decide) (Yi lpK jnK) fun x h=>by
 obtain ⟨l,u⟩:=x
 simp only at h
 subst h
 kernel_rfl
theorem Vd:(jv prog shs tX its [] [(112,bi)]).ok:=wq q0 (by kernel_rfl) Tn
def nH (lp:Lp) (jn:Jn) (x0:List (List (Int×Int))):Option (List (Int×Int)) :=
 lp (Int×Int×PUnit) (List (Int×Int)) (fun (again:Int×Int×PUnit->Option (List (Int×Int))) (x:Int×Int×PUnit)=>bif decide (x.2.1<(↑x0.length:Int)) then bif inB x.2.1 x0.length then bif decide (IntKind.wrap .i64 (x.1+(↑(List.length (x0.getD x.2.1.toNat [])):Int))<0) then none else again (IntKind.wrap .i64 (x.1+(↑(List.length (x0.getD x.2.1.toNat [])):Int)),IntKind.wrap .i64 (x.2.1+1),PUnit.unit) else none else jn PUnit (List (Int×Int)) (fun (_:PUnit)=>bif decide (IntKind.wrap .i64 (x.1 - IntKind.wrap .i64 ((↑0:Int) - (↑0:Int)))>0) then bif slB (0 : Int) (↑0:Int) 0 then bif decide (0<IntKind.wrap .i64 (x.1 - IntKind.wrap .i64 ((↑0:Int) - (↑0:Int))))&&dM (Int.toNat (IntKind.wrap .i64 (x.1 - IntKind.wrap .i64 ((↑0:Int) - (↑0:Int))))) 16 then bif slB 0 (↑0:Int) (Int.toNat (IntKind.wrap IntKind.i64 (x.1 - IntKind.wrap .i64 ((↑0:Int) - (↑0:Int)))))&&decide (0<Int.toNat (IntKind.wrap .i64 (x.1 - IntKind.wrap .i64 ((↑0:Int) - (↑0:Int))))) then lp (List (Int×Int)×Int×PUnit) (List (Int×Int)) (fun (again:List (Int×Int)×Int×PUnit->Option (List (Int×Int))) (x : List (Int×Int)×Int×PUnit) =>
 let v8:List (Int×Int):=x0.getD x.2.1.toNat [];bif decide (x.2.1<(↑x0.length:Int)) then bif inB x.2.1 x0.length then bif dM (List.length x.1+List.length v8) 16 then again (x.1++v8,IntKind.wrap .i64 (x.2.1+1),PUnit.unit) else none else none else some x.1) (List.take (Int.toNat (↑(0 : Nat):Int)) (List.replicate (Int.toNat (IntKind.wrap .i64 (x.1 - IntKind.wrap .i64 ((↑0:Int) - (↑0:Int))))) (0,0)),0, PUnit.unit) else none else none else none else lp (List (Int×Int)×Int×PUnit) (List (Int×Int)) (fun (again:List (Int×Int)×Int×PUnit->Option (List (Int×Int))) (x:List (Int×Int)×Int×PUnit) =>
 let v8:List (Int×Int):=x0.getD x.2.1.toNat [];bif decide (x.2.1<(↑x0.length:Int)) then bif inB x.2.1 x0.length then bif dM (List.length x.1+List.length v8) 16 then again (x.1++v8,IntKind.wrap .i64 (x.2.1+1),PUnit.unit) else none else none else some x.1) ([],0, PUnit.unit)) fun (j:PUnit->Option (List (Int×Int)))=>bif decide (x.1<0) then none else j PUnit.unit) (0,0,PUnit.unit)
def eF (x0:List (List (Int×Int))):Option (List (Int×Int)):=nH lpK jnK x0
abbrev t92:=(List (List (Int×Int)))->Option (List (Int×Int))
def r92:RCtr:=⟨[(.sl (.sl T47))],47,T47,fun x=>eF x.1⟩
theorem e92 (lp:Lp) (jn:Jn):∀x:TsS r92.as,nH lp jn x.1=Fh lp jn (cx [] [(112,bi)]) aj 4 92 f92 r92.t r92.e (ko r92.as x 0):=fun x=>by kernel_rfl
theorem UX:r92.ok prog 92:=RCtr.of_den (c:=r92) (ao (Vd)) aF (hl:=aj) (d:=4) func92 rfl (by decide) (e92 lpK jnK)
theorem q92:(jv prog shs tX its [] [(92,r92),(112,bi)]).ok:=wq Vd (by kernel_rfl) UX
def oa (_:Lp) (_:Jn) (x0:List Int):Option (List Int) :=
 bif dM (0+List.length x0) 1 then some x0 else none
def xy (x0:List Int):Option (List Int):=oa lpK jnK x0
def r32:RCtr:=⟨[(.sl (.int .u8))],5,(.int .u8),fun x=>xy x.1⟩
theorem e32 (lp:Lp) (jn:Jn):∀x:TsS r32.as,oa lp jn x.1=Fh lp jn (cx [] [(92,r92),(112,bi)]) aj 4 32 f32 r32.t r32.e (AM r32.as x true):=fun x=>by kernel_rfl
theorem Wk:r32.ok prog 32:=RCtr.of_den_nil (c:=r32) (ao (q92)) aF (hl:=aj) (d:=4) rfl func32 rfl (by decide) (e32 lpK jnK) fun x h=>by
 obtain ⟨l,u⟩:=x
 simp only at h
 subst h
 kernel_rfl
theorem q32:(jv prog shs tX its [] [(32,r32),(92,r92),(112,bi)]).ok:=wq q92 (by kernel_rfl) Wk
def kT (_:Lp) (_:Jn) (x0:Int) (x1:Int) (x2:Int):Option Bool :=
 
 let v5:Bool:=decide (x0>=x1);
 let v6:Bool:=!v5||v5;bif v6&&v6 then bif v6 then some (bif v5 then decide (x0<=x2) else false) else none else none
def bB (x0:Int) (x1:Int) (x2:Int):Option Bool:=kT lpK jnK x0 x1 x2
abbrev t88:=(Int)->(Int)->(Int)->Option (Bool)
def k88 (bB:t88):Ctr:=⟨[i64,i64,i64],[],[],.one .bool,fun x _ _=>bB x.1 x.2.1 x.2.2.1⟩
def c88:Ctr:=k88 bB
theorem e88 (lp:Lp) (jn:Jn):∀(x:TsS c88.as) (F:TsF c88.fs) (y:TsS c88.cs),kT lp jn x.1 x.2.1 x.2.2.1=bI lp jn (cx [] [(32,r32),(92,r92),(112,bi)]) aj 4 88 f88 c88 x F y:=fun x F y=>by kernel_rfl
theorem Va:c88.ok prog 88:=Ctr.of_den (ao (q32)) aF (hl:=aj) (d:=4) func88 rfl (by decide) (e88 lpK jnK)
def kY (_:Lp) (_:Jn) (x0:Int):Option Bool :=
 
 let v3:Bool:=decide (x0>=97);
 let v4:Bool:=decide (x0>=65);
 let v5:Bool:=!v3||v3;
 let v6:Bool:=bif v3 then decide (x0<=122) else false;
 let v7:Bool:=!v6;
 let v8:Bool:=!v7;
 let v9:Bool:=v7&&v4;
 let v10:Bool:=v8||v7;bif v5 then bif v5 then bif v10 then bif v10 then bif !v9||v9 then bif (v8||v10)&&(v8||(!v4||(v8||v9))) then bif v6||v7 then some (bif v6 then true else bif v4 then decide (x0<=90) else false) else none else none else none else none else none else none else none
def bz (x0:Int):Option Bool:=kY lpK jnK x0
abbrev KV:=(Int)->Option (Bool)
def S5 (bz:KV):Ctr:=⟨[(.int .u8)],[],[],.one .bool,fun x _ _=>bz x.1⟩
def NT:Ctr:=S5 bz
theorem Xl (lp:Lp) (jn:Jn):∀(x:TsS NT.as) (F:TsF NT.fs) (y:TsS NT.cs),kY lp jn x.1=bI lp jn (cx [] [(32,r32),(92,r92),(112,bi)]) aj 4 126 f126 NT x F y:=fun x F y=>by kernel_rfl
theorem Sv:NT.ok prog 126:=Ctr.of_den (ao (q32)) aF (hl:=aj) (d:=4) func126 rfl (by decide) (Xl lpK jnK)
def mg (_:Lp) (_:Jn) (x0:Int):Option Bool :=
 
 let v3:Bool:=decide (x0>=48);
 let v4:Bool:=!v3||v3;bif v4 then bif v4 then some (bif v3 then decide (x0<=57) else false) else none else none
def ef (x0:Int):Option Bool:=mg lpK jnK x0
abbrev Vo:=(Int)->Option (Bool)
def Na:Ctr:=⟨[(.int .u8)],[],[],.one .bool,fun x _ _=>ef x.1⟩
theorem XY (lp:Lp) (jn:Jn):∀(x:TsS Na.as) (F:TsF Na.fs) (y:TsS Na.cs),mg lp jn x.1=bI lp jn (cx [] [(32,r32),(92,r92),(112,bi)]) aj 4 166 f166 Na x F y:=fun x F y=>by kernel_rfl
theorem VD:Na.ok prog 166:=Ctr.of_den (ao (q32)) aF (hl:=aj) (d:=4) func166 rfl (by decide) (XY lpK jnK)
def kf (lp:Lp) (_:Jn) (bz:KV) (ef:Vo) (x0:ByteArray):Option Int :=
 lp (Int×PUnit) Int (fun (again:Int×PUnit->Option Int) (x:Int×PUnit) =>
 let v5:Bool:=inB x.1 (ByteArray.size x0);
 let v6:Int:=fL x0 x.1.toNat;
 let v7:Bool:=decide (x.1<(↑(ByteArray.size x0):Int));
 let v8:Bool:=!v7;
 let v9:Bool:=v8||v7;
 let v10:Bool:=v8||v9;bif v9&&(v9&&(v8||v5)) then bif v9 then ah (bif v7 then bz v6 else some false) fun (t:Bool) =>
 let v12:Bool:=v7&&!t;
 let v13:Bool:=!v12;
 let v14:Bool:=v13||v12;bif v9 then bif v14&&(v14&&(v13||v5)) then bif v14 then ah (bif v12 then ef v6 else some false) fun (t_1:Bool) =>
 let v16:Bool:=bif t then true else t_1;
 let v17:Bool:=v7&&!v16;
 let v18:Bool:=!v17;
 let v19:Bool:=v18||v17;bif v10&&(v8||(t||(v8||v12))) then bif v9 then bif v19&&(v19&&(v18||v5)) then bif v19 then bif v10&&(v8||(v16||(v8||v17))) then bif v9 then bif bif v7 then bif v16 then true else decide (v6=95) else false then again (IntKind.wrap .i64 (x.1+1),PUnit.unit) else some x.1 else none else none else none else none else none else none else none else none else none else none else none) (0,PUnit.unit)
def dN (x0:ByteArray):Option Int:=kf lpK jnK bz ef x0
abbrev Vu:=(ByteArray)->Option (Int)
def MU:Ctr:=⟨[.str],[],[],.one i64,fun x _ _=>dN x.1⟩
theorem YN (lp:Lp) (jn:Jn) (bz:KV) (ef:Vo):∀(x:TsS MU.as) (F:TsF MU.fs) (y:TsS MU.cs),kf lp jn bz ef x.1=bI lp jn (cx [(166,⟨[(.int .u8)],[],[],.one .bool,fun x _ _=>ef x.1⟩),(126,S5 bz)] [(32,r32),(92,r92),(112,bi)]) aj 4 127 f127 MU x F y:=fun x F y=>by kernel_rfl
theorem V2:MU.ok prog 127:=Ctr.of_den (ao (aa (aa (q32) (by kernel_rfl) Sv) (by kernel_rfl) VD)) aF (hl:=aj) (d:=4) func127 rfl (by decide) (YN lpK jnK bz ef)
def kQ (_:Lp) (_:Jn) (bz:KV) (dN:Vu) (x0:ByteArray):Option Bool :=
 
 let v3:Bool:=!List.beq (ByteArray.toList x0) (ByteArray.toList { data:=#[] });
 let v4:Bool:=!v3||v3;
 let v5:Bool:=bif v3 then decide ((↑(ByteArray.size x0):Int)<=20) else false;
 let v6:Bool:=!v5;
 let v7:Bool:=v6||v5;bif v4 then bif v4 then bif v4 then bif v7&&(v6||inB 0 (ByteArray.size x0)) then bif v7 then ah (bif v5 then bz (fL x0 0) else some false) fun (t:Bool) =>
 let v9:Bool:=bif v5 then t else false;
 let v10:Bool:=!v9||v9;bif v7 then bif v10 then ah (bif v9 then dN x0 else some 0) fun (t:Int)=>bif v10 then bif v10&&v10 then bif v10 then some (bif v9 then decide (t=(↑(ByteArray.size x0):Int)) else false) else none else none else none else none else none else none else none else none else none else none
def dx (x0:ByteArray):Option Bool:=kQ lpK jnK bz dN x0
abbrev t90:=(ByteArray)->Option (Bool)
def c90:Ctr:=⟨[.str],[],[],.one .bool,fun x _ _=>dx x.1⟩
theorem e90 (lp:Lp) (jn:Jn) (bz:KV) (dN:Vu):∀(x:TsS c90.as) (F:TsF c90.fs) (y:TsS c90.cs),kQ lp jn bz dN x.1=bI lp jn (cx [(127,⟨[.str],[],[],.one i64,fun x _ _=>dN x.1⟩),(126,S5 bz)] [(32,r32),(92,r92),(112,bi)]) aj 4 90 f90 c90 x F y:=fun x F y=>by kernel_rfl
theorem YF:c90.ok prog 90:=Ctr.of_den (ao (aa (aa (q32) (by kernel_rfl) Sv) (by kernel_rfl) V2)) aF (hl:=aj) (d:=4) func90 rfl (by decide) (e90 lpK jnK bz dN)
def ik (lp:Lp) (_:Jn) (x0:List (ByteArray×Int)) (f0:(((ByteArray×Int)×Unit)->Option Bool)):Option Int :=
 lp (Int×PUnit) Int (fun (again:Int×PUnit->Option Int) (x:Int×PUnit)=>bif decide (x.1<(↑x0.length:Int)) then bif inB x.1 x0.length then ah (f0 (x0.getD x.1.toNat ({ data:={ toList:=[] } },0),PUnit.unit)) fun (t:Bool)=>bif t then some x.1 else again (IntKind.wrap .i64 (x.1+1), PUnit.unit) else none else some (-1)) (0,PUnit.unit)
def bZ (x0:List (ByteArray×Int)) (f0:(((ByteArray×Int)×Unit)->Option Bool)):Option Int:=ik lpK jnK x0 f0
abbrev Ty:=(List (ByteArray×Int))->((((ByteArray×Int)×Unit)->Option Bool))->Option (Int)
def Wo (bZ:Ty):Ctr:=⟨[(.sl T45)],[([T45],.bool)],[],.one i64,fun x F _=>bZ x.1 F.1⟩
def OX:Ctr:=Wo bZ
theorem Xx (lp:Lp) (jn:Jn):∀(x:TsS OX.as) (F:TsF OX.fs) (y:TsS OX.cs),ik lp jn x.1 F.1=bI lp jn (cx [] [(32,r32),(92,r92),(112,bi)]) aj 4 154 f154 OX x F y:=fun x F y=>by kernel_rfl
theorem VE:OX.ok prog 154:=Ctr.of_den (ao (q32)) aF (hl:=aj) (d:=4) func154 rfl (by decide) (Xx lpK jnK)
def kV (_:Lp) (_:Jn) (x0:ByteArray×Int) (y0:ByteArray):Option Bool :=
 some (List.beq (ByteArray.toList x0.1) (ByteArray.toList y0))
def eT (x0:ByteArray×Int) (y0:ByteArray):Option Bool:=kV lpK jnK x0 y0
abbrev UU:=(ByteArray×Int)->(ByteArray)->Option (Bool)
def K8:Ctr:=⟨[T45],[],[.str],.one .bool,fun x _ y=>eT x.1 y.1⟩
theorem WY (lp:Lp) (jn:Jn):∀(x:TsS K8.as) (F:TsF K8.fs) (y:TsS K8.cs),kV lp jn x.1 y.1=bI lp jn (cx [] [(32,r32),(92,r92),(112,bi)]) aj 4 155 f155 K8 x F y:=fun x F y=>by kernel_rfl
theorem WW:K8.ok prog 155:=Ctr.of_den (ao (q32)) aF (hl:=aj) (d:=4) func155 rfl (by decide) (WY lpK jnK)
def nq (_:Lp) (_:Jn) (bZ:Ty) (eT:UU) (x0:(List (ByteArray×Int))×List (ByteArray×(List (ByteArray×Int×Int×Int))×Bool)) (x1:ByteArray):Option Int :=
 ah (bZ x0.1 fun (x:(ByteArray×Int)×PUnit)=>eT x.1 x1) fun (t:Int)=>some t
def cb (x0:(List (ByteArray×Int))×List (ByteArray×(List (ByteArray×Int×Int×Int))×Bool)) (x1:ByteArray):Option Int:=nq lpK jnK bZ eT x0 x1
abbrev Mj:=((List (ByteArray×Int))×List (ByteArray×(List (ByteArray×Int×Int×Int))×Bool))->(ByteArray)->Option (Int)
def Tw (cb:Mj):Ctr:=⟨[T25,.str],[],[],.one i64,fun x _ _=>cb x.1 x.2.1⟩
def Kz:Ctr:=Tw cb
theorem YP (lp:Lp) (jn:Jn) (bZ:Ty) (eT:UU):∀(x:TsS Kz.as) (F:TsF Kz.fs) (y:TsS Kz.cs),nq lp jn bZ eT x.1 x.2.1=bI lp jn (cx [(155,⟨[T45],[],[.str],.one .bool,fun x _ y=>eT x.1 y.1⟩),(154,Wo bZ)] [(32,r32),(92,r92),(112,bi)]) aj 4 109 f109 Kz x F y:=fun x F y=>by kernel_rfl
theorem Sk:Kz.ok prog 109:=Ctr.of_den (ao (aa (aa (q32) (by kernel_rfl) VE) (by kernel_rfl) WW)) aF (hl:=aj) (d:=4) func109 rfl (by decide) (YP lpK jnK bZ eT)
def rU (lp:Lp) (_:Jn) (x0:Int) (x1:Int):Option Int :=
 lp (Int×Int×PUnit) Int (fun (again:Int×Int×PUnit->Option Int) (x:Int×Int×PUnit)=>bif !decide (x.2.1=0) then bif nzB x.2.1 then again (x.2.1, Int.tmod x.1 x.2.1,PUnit.unit) else none else some x.1) (x0,x1,PUnit.unit)
def bE (x0:Int) (x1:Int):Option Int:=rU lpK jnK x0 x1
abbrev t59:=(Int)->(Int)->Option (Int)
def k59 (bE:t59):Ctr:=⟨[(.int .u64),(.int .u64)],[],[],.one (.int .u64),fun x _ _=>bE x.1 x.2.1⟩
def c59:Ctr:=k59 bE
theorem e59 (lp:Lp) (jn:Jn):∀(x:TsS c59.as) (F:TsF c59.fs) (y:TsS c59.cs),rU lp jn x.1 x.2.1=bI lp jn (cx [] [(32,r32),(92,r92),(112,bi)]) aj 4 59 f59 c59 x F y:=fun x F y=>by kernel_rfl
theorem PZ:c59.ok prog 59:=Ctr.of_den (ao (q32)) aF (hl:=aj) (d:=4) func59 rfl (by decide) (e59 lpK jnK)
def qg (_:Lp) (_:Jn) (x0:Int):Option Int :=
 
 let v3:Int:=IntKind.wrap .u64 x0;bif decide (x0<0) then some (IntKind.wrap .u64 (0 - v3)) else some v3
def aH (x0:Int):Option Int:=qg lpK jnK x0
abbrev t60:=(Int)->Option (Int)
def k60 (aH:t60):Ctr:=⟨[i64],[],[],.one (.int .u64),fun x _ _=>aH x.1⟩
def c60:Ctr:=k60 aH
theorem e60 (lp:Lp) (jn:Jn):∀(x:TsS c60.as) (F:TsF c60.fs) (y:TsS c60.cs),qg lp jn x.1=bI lp jn (cx [] [(32,r32),(92,r92),(112,bi)]) aj 4 60 f60 c60 x F y:=fun x F y=>by kernel_rfl
theorem Ls:c60.ok prog 60:=Ctr.of_den (ao (q32)) aF (hl:=aj) (d:=4) func60 rfl (by decide) (e60 lpK jnK)
def oI (_:Lp) (_:Jn) (bE:t59) (aH:t60) (x0:Int×Int):Option Bool :=
 
 let v3:Bool:=decide (x0.2>=1);
 let v4:Bool:=!v3||v3;
 let v5:Bool:=bif v3 then decide (x0.2<=1152921504606846976) else false;
 let v6:Bool:=bif v5 then decide (x0.1>=(-1152921504606846976)) else false;
 let v7:Bool:=!v5||v5;
 let v8:Bool:=bif v6 then decide (x0.1<=1152921504606846976) else false;
 let v9:Bool:=!v6||v6;
 let v10:Bool:=!v8||v8;bif v4 then bif v4 then bif v4 then bif v7 then bif v7 then bif v7 then bif v9 then bif v9 then bif v9 then bif v10 then bif v10 then ah (bif v8 then aH x0.1 else some 0) fun (t:Int)=>bif v10 then bif v10 then bif v10&&v10 then ah (bif v8 then bE t (IntKind.wrap .u64 x0.2) else some (0 : Int)) fun (t:Int)=>bif v10 then bif v10 then some (bif v8 then decide (t=1) else false) else none else none else none else none else none else none else none else none else none else none else none else none else none else none else none else none
def ap (x0:Int×Int):Option Bool:=oI lpK jnK bE aH x0
abbrev t58:=(Int×Int)->Option (Bool)
def k58 (ap:t58):Ctr:=⟨[T47],[],[],.one .bool,fun x _ _=>ap x.1⟩
def c58:Ctr:=k58 ap
theorem e58 (lp:Lp) (jn:Jn) (bE:t59) (aH:t60):∀(x:TsS c58.as) (F:TsF c58.fs) (y:TsS c58.cs),oI lp jn bE aH x.1=bI lp jn (cx [(60,k60 aH),(59,k59 bE)] [(32,r32),(92,r92),(112,bi)]) aj 4 58 f58 c58 x F y:=fun x F y=>by kernel_rfl
theorem E4:c58.ok prog 58:=Ctr.of_den (ao (aa (aa (q32) (by kernel_rfl) PZ) (by kernel_rfl) Ls)) aF (hl:=aj) (d:=4) func58 rfl (by decide) (e58 lpK jnK bE aH)
def lX (_:Lp) (_:Jn) (ap:t58) (x0:Int×Int):Option Bool :=
 ah (ap x0) fun (t:Bool) =>
 let v4:Bool:=!t||t;
 let v5:Bool:=bif t then decide (x0.1>=x0.2) else false;
 let v6:Bool:=!v5||v5;bif v4 then bif v4 then bif v4&&v4 then bif v4 then bif v6 then bif v6 then bif v6 then some (bif v5 then decide (x0.1<=100) else false) else none else none else none else none else none else none else none
def eP (x0:Int×Int):Option Bool:=lX lpK jnK ap x0
abbrev UY:=(Int×Int)->Option (Bool)
def Ln:Ctr:=⟨[T47],[],[],.one .bool,fun x _ _=>eP x.1⟩
theorem YR (lp:Lp) (jn:Jn) (ap:t58):∀(x:TsS Ln.as) (F:TsF Ln.fs) (y:TsS Ln.cs),lX lp jn ap x.1=bI lp jn (cx [(58,k58 ap)] [(32,r32),(92,r92),(112,bi)]) aj 4 167 f167 Ln x F y:=fun x F y=>by kernel_rfl
theorem UN:Ln.ok prog 167:=Ctr.of_den (ao (aa (q32) (by kernel_rfl) E4)) aF (hl:=aj) (d:=4) func167 rfl (by decide) (YR lpK jnK ap)
def nl (_:Lp) (_:Jn) (cb:Mj) (eP:UY) (x0:(List (ByteArray×Int))×List (ByteArray×(List (ByteArray×Int×Int×Int))×Bool)) (x1:ByteArray×Int×Int×Int) (x2:Bool):Option Bool :=
 
 let v5:Bool:=!x2;
 let v6:Bool:=v5||x2;
 let v7:Bool:=decide (x1.2.1=0);
 let v8:Bool:=decide (x1.2.1=1);
 let v9:Bool:=decide (x1.2.1=2);
 let v10:Bool:=!v8;
 let v11:Bool:=!v9;
 let v12:Bool:=bif v9 then true else v7;
 let v13:Bool:=!v10||v10;
 let v14:Bool:=!v11||v11;
 let v15:Bool:=!v12;
 let v16:Bool:=bif x2 then !(decide (x1.2.2.1=1)&&(decide (x1.2.2.2=1)&&true)) else false;
 let v17:Bool:=!v16;
 let v18:Bool:=!v17;
 let v19:Bool:=v17&&v5;
 let v20:Bool:=!v15||v15;
 let v21:Bool:=v18||v17;
 let v22:Bool:=!v19||v19;bif v6 then bif v6&&v6 then bif v6 then bif v21 then bif v21 then bif v22 then bif v22 then ah (bif v19 then eP x1.2.2 else some false) fun (t:Bool)=>bif v22 then bif (v18||v21)&&(v18||(!v5||(v18||v19))) then bif v16||v17 then bif bif v16 then true else bif v5 then !t else false then some false else bif List.beq (ByteArray.toList x1.1) (ByteArray.toList { data:=#[] }) then some v7 else ah (cb x0 x1.1) fun (t:Int)=>bif decide (t<0) then some false else bif x2 then bif v13 then bif v13 then bif v8||v10 then some (bif v8 then true else decide (x1.2.1=(-1))) else none else none else none else bif v14 then bif v14 then bif v9||v11 then bif v20 then bif v20 then bif v12||v15 then some (bif v12 then true else decide (x1.2.1=(-2))) else none else none else none else none else none else none else none else none else none else none else none else none else none else none else none else none
def ep (x0:(List (ByteArray×Int))×List (ByteArray×(List (ByteArray×Int×Int×Int))×Bool)) (x1:ByteArray×Int×Int×Int) (x2:Bool):Option Bool:=nl lpK jnK cb eP x0 x1 x2
abbrev Uf:=((List (ByteArray×Int))×List (ByteArray×(List (ByteArray×Int×Int×Int))×Bool))->(ByteArray×Int×Int×Int)->(Bool)->Option (Bool)
def Ut (ep:Uf):Ctr:=⟨[T25,T74,.bool],[],[],.one .bool,fun x _ _=>ep x.1 x.2.1 x.2.2.1⟩
def LL:Ctr:=Ut ep
theorem XF (lp:Lp) (jn:Jn) (cb:Mj) (eP:UY):∀(x:TsS LL.as) (F:TsF LL.fs) (y:TsS LL.cs),nl lp jn cb eP x.1 x.2.1 x.2.2.1=bI lp jn (cx [(167,⟨[T47],[],[],.one .bool,fun x _ _=>eP x.1⟩),(109,Tw cb)] [(32,r32),(92,r92),(112,bi)]) aj 4 128 f128 LL x F y:=fun x F y=>by kernel_rfl
theorem Wi:LL.ok prog 128:=Ctr.of_den (ao (aa (aa (q32) (by kernel_rfl) Sk) (by kernel_rfl) UN)) aF (hl:=aj) (d:=4) func128 rfl (by decide) (XF lpK jnK cb eP)
def ni (lp:Lp) (_:Jn) (bB:t88) (ep:Uf) (x0:(List (ByteArray×Int))×List (ByteArray×(List (ByteArray×Int×Int×Int))×Bool)) (x1:ByteArray×(List (ByteArray×Int×Int×Int))×Bool):Option Bool :=
 
 let v4:Bool:=!x1.2.2;
 let v5:Bool:=!v4;
 let v6:Bool:=!v5;
 let v7:Int:=IntKind.wrap .i64 ((↑x1.2.1.length:Int) - 1);
 let v8:Bool:=v6||v5;ah (bB (↑x1.2.1.length:Int) 2 10) fun (t:Bool)=>bif !t then some false else lp (Int×PUnit) Bool (fun (again : Int×PUnit->Option Bool) (x:Int×PUnit) =>
 let v12:Bool:=decide (x.1=0);
 let v13:Bool:=!v12;
 let v14:Bool:=!v13||v13;bif decide (x.1<(↑x1.2.1.length:Int)) then bif inB x.1 x1.2.1.length then bif v14 then bif v14&&v14 then bif v12||v13 then ah (ep x0 (x1.2.1.getD x.1.toNat ({ data:={ toList:=[] } },0,0,0)) (bif v12 then true else decide (x.1=v7))) fun (t : Bool)=>bif !t then some false else again (IntKind.wrap .i64 (x.1+1),PUnit.unit) else none else none else none else none else bif v8 then bif v8 then bif v8&&(v8 && (v6||inB v7 x1.2.1.length)) then bif v8 then bif v8 then bif v8 then bif v4||v5 then some (bif v4 then true else List.beq (ByteArray.toList (x1.2.1.getD v7.toNat ({ data:={ toList:=[] } },0,0,0)).1) (ByteArray.toList { data:=#[] })) else none else none else none else none else none else none else none) (0,PUnit.unit)
def fy (x0:(List (ByteArray×Int))×List (ByteArray×(List (ByteArray×Int×Int×Int))×Bool)) (x1:ByteArray×(List (ByteArray×Int×Int×Int))×Bool):Option Bool:=ni lpK jnK bB ep x0 x1
abbrev t91:=((List (ByteArray×Int))×List (ByteArray×(List (ByteArray×Int×Int×Int))×Bool))->(ByteArray×(List (ByteArray×Int×Int×Int))×Bool)->Option (Bool)
def c91:Ctr:=⟨[T25,T72],[],[],.one .bool,fun x _ _=>fy x.1 x.2.1⟩
theorem e91 (lp:Lp) (jn:Jn) (bB:t88) (ep:Uf):∀(x:TsS c91.as) (F:TsF c91.fs) (y:TsS c91.cs),ni lp jn bB ep x.1 x.2.1=bI lp jn (cx [(128,Ut ep),(88,k88 bB)] [(32,r32),(92,r92),(112,bi)]) aj 4 91 f91 c91 x F y:=fun x F y=>by kernel_rfl
theorem YE:c91.ok prog 91:=Ctr.of_den (ao (aa (aa (q32) (by kernel_rfl) Va) (by kernel_rfl) Wi)) aF (hl:=aj) (d:=4) func91 rfl (by decide) (e91 lpK jnK bB ep)
def mf (lp:Lp) (_:Jn) (bB:t88) (dx:t90) (fy:t91) (x0:(List (ByteArray×Int))×List (ByteArray×(List (ByteArray×Int×Int×Int))×Bool)):Option Bool :=
 ah (bB (↑x0.1.length:Int) 1 6) fun (t:Bool) =>
 let v4:Bool:=!t;
 let v5:Bool:=!v4;
 let v6:Bool:=!v5||v5;bif v6 then bif v6 then bif v6 then ah (bif v5 then bB (↑x0.2.length:Int) 1 6 else some false) fun (t:Bool)=>bif v6 then bif v4||v5 then bif bif v4 then true else !t then some false else lp (Int×List (ByteArray×Bool)×PUnit) Bool (fun (again:Int×List (ByteArray×Bool)×PUnit->Option Bool) (x:Int×List (ByteArray×Bool)×PUnit) =>
 let v10:ByteArray×Int:=x0.1.getD x.1.toNat ({ data:={ toList:=[] } },0);bif decide (x.1<(↑x0.1.length:Int)) then bif inB x.1 x0.1.length then ah (dx v10.1) fun (t:Bool) =>
 let v12:Bool:=!t||t;bif v12&&v12 then bif v12 then bif v12 then bif (!!!bif t then !jc str Sh.bool v10.1 false x.2.1 else false)||!!bif t then !jc str Sh.bool v10.1 false x.2.1 else false then bif (!!!bif t then !jc str Sh.bool v10.1 false x.2.1 else false)||!!bif t then !jc str Sh.bool v10.1 false x.2.1 else false then ah (bif !!bif t then !jc str Sh.bool v10.1 false x.2.1 else false then bB v10.2 0 16777216 else some false) fun (t_1:Bool)=>bif (!!!bif t then !jc str Sh.bool v10.1 false x.2.1 else false)||!!bif t then !jc str Sh.bool v10.1 false x.2.1 else false then bif (!bif t then !jc str Sh.bool v10.1 false x.2.1 else false)||!!bif t then !jc str Sh.bool v10.1 false x.2.1 else false then bif bif !bif t then !jc str Sh.bool v10.1 false x.2.1 else false then true else !t_1 then some false else again (IntKind.wrap .i64 (x.1+1),qV str Sh.bool v10.1 true x.2.1,PUnit.unit) else none else none else none else none else none else none else none else none else lp (Int×Int×List (ByteArray×Bool)×PUnit) Bool (fun (again:Int×Int×List (ByteArray×Bool)×PUnit->Option Bool) (x:Int×Int×List (ByteArray×Bool)×PUnit) =>
 let v13:ByteArray×List (ByteArray×Int×Int×Int)×Bool:=x0.2.getD x.2.1.toNat ({ data:={ toList:=[] } },[],false);bif decide (x.2.1<(↑x0.2.length:Int)) then bif inB x.2.1 x0.2.length then ah (dx v13.1) fun (t:Bool) =>
 let v15:Bool:=!t||t;bif v15&&v15 then bif v15 then bif v15 then bif ((!!!bif t then !jc str Sh.bool v13.1 false x.2.2.1 else false)||!!bif t then !jc str Sh.bool v13.1 false x.2.2.1 else false)&&((!!!bif t then !jc str Sh.bool v13.1 false x.2.2.1 else false)||!!bif t then !jc str Sh.bool v13.1 false x.2.2.1 else false) then ah (bif !!bif t then !jc str Sh.bool v13.1 false x.2.2.1 else false then fy x0 v13 else some false) fun (t_1:Bool)=>bif (!!!bif t then !jc str Sh.bool v13.1 false x.2.2.1 else false)||!!bif t then !jc str Sh.bool v13.1 false x.2.2.1 else false then bif (!bif t then !jc str Sh.bool v13.1 false x.2.2.1 else false)||!!bif t then !jc str Sh.bool v13.1 false x.2.2.1 else false then bif bif !bif t then !jc str Sh.bool v13.1 false x.2.2.1 else false then true else !t_1 then some false else bif v13.2.2 then again (IntKind.wrap .i64 (x.1+1),IntKind.wrap .i64 (x.2.1+1),qV str Sh.bool v13.1 true x.2.2.1,PUnit.unit) else again (x.1,IntKind.wrap .i64 (x.2.1+1),qV str Sh.bool v13.1 true x.2.2.1,PUnit.unit) else none else none else none else none else none else none else none else some (decide (x.1<=1))) (0,0,x.2.1,PUnit.unit)) (0,[],PUnit.unit) else none else none else none else none else none
def ba (x0:(List (ByteArray×Int))×List (ByteArray×(List (ByteArray×Int×Int×Int))×Bool)):Option Bool:=mf lpK jnK bB dx fy x0
abbrev t50:=((List (ByteArray×Int))×List (ByteArray×(List (ByteArray×Int×Int×Int))×Bool))->Option (Bool)
def k50 (ba:t50):Ctr:=⟨[T25],[],[],.one .bool,fun x _ _=>ba x.1⟩
def c50:Ctr:=k50 ba
theorem e50 (lp:Lp) (jn:Jn) (bB:t88) (dx:t90) (fy:t91):∀(x:TsS c50.as) (F:TsF c50.fs) (y:TsS c50.cs),mf lp jn bB dx fy x.1=bI lp jn (cx [(91,⟨[T25,T72],[],[],.one .bool,fun x _ _=>fy x.1 x.2.1⟩),(90,⟨[.str],[],[],.one .bool,fun x _ _=>dx x.1⟩),(88,k88 bB)] [(32,r32),(92,r92),(112,bi)]) aj 4 50 f50 c50 x F y:=fun x F y=>by kernel_rfl
theorem TA:c50.ok prog 50:=Ctr.of_den (ao (aa (aa (aa (q32) (by kernel_rfl) Va) (by kernel_rfl) YF) (by kernel_rfl) YE)) aF (hl:=aj) (d:=4) func50 rfl (by decide) (e50 lpK jnK bB dx fy)
def oZ (lp:Lp) (_:Jn) (cb:Mj) (ba:t50) (x0:(List (ByteArray×Int))×List (ByteArray×(List (ByteArray×Int×Int×Int))×Bool)):Option ((List (List Int))×Int×Unit) :=
 ah (ba x0) fun (t:Bool)=>bif !t then some ([],1,PUnit.unit) else bif decide (0<=(↑x0.1.length:Int))&&dM (Int.toNat (↑x0.1.length : Int)) 24 then lp (Int×(List Nat×List (Option (List Int)))×PUnit) (List (List Int)×Int×PUnit) (fun (again:Int×(List Nat×List (Option (List Int)))×PUnit -> Option (List (List Int)×Int×PUnit)) (x:Int×(List Nat×List (Option (List Int)))×PUnit)=>bif decide (x.1<(↑(List.length (Nat.brecOn (motive:=fun (x:Nat)=>Nat->List Nat) (Int.toNat (↑x0.1.length:Int)) (fun (x:Nat) (f:Nat.below (motive:=fun (x:Nat)=>Nat->List (T ref)) x) (x_1:Nat)=>(match (motive:=(x:Nat)->Nat->Nat.below (motive:=fun (x:Nat)=>Nat->List (T ref)) x->List Nat) x,x_1 with | 0,x=>fun (_:PUnit)=>[] | Nat.succ n,k=>fun (x:(Nat->List Nat) ×' Nat.rec PUnit (fun (n:Nat) (n_ih:Type)=>(fun (x:Nat)=>Nat->List (T ref)) n ×' n_ih) n)=>(k+0) ::x.1 (k+1)) f) 0)):Int)) then bif decide (0 <= (↑x0.2.length:Int))&&dM (Int.toNat (↑x0.2.length:Int)) 8 then bif inB x.1 x.2.1.1.length then bif Nat.ble (Nat.succ x.1.toNat) x.2.1.1.length then again (IntKind.wrap .i64 (x.1+1),(x.2.1.1.set x.1.toNat x.2.1.2.length,x.2.1.2++[some (List.replicate (Int.toNat (↑x0.2.length:Int)) 0)]),PUnit.unit) else none else none else none else lp (Int×(List Nat×List (Option (List Int)))×PUnit) (List (List Int)×Int×PUnit) (fun (again:Int×(List Nat×List (Option (List Int)))×PUnit->Option (List (List Int)×Int×PUnit)) (x:Int×(List Nat×List (Option (List Int))) × PUnit)=>bif decide (x.1<(↑x0.2.length:Int)) then bif inB x.1 x0.2.length then lp (Int×(List Nat×List (Option (List Int)))×PUnit) (List (List Int)×Int × PUnit) (fun (again_1:Int×(List Nat×List (Option (List Int)))×PUnit->Option (List (List Int)×Int×PUnit)) (x_1:Int×(List Nat×List (Option (List Int)))×PUnit) =>
 let v10:Int:=IntKind.wrap .i64 (x_1.1+1);
 let v11:(List Nat×List (Option (List Int)))×PUnit:=(x_1.2.1,PUnit.unit);
 let v12:ByteArray×Int×Int×Int:=List.getD (x0.2.getD x.1.toNat ({ data:={ toList:=[] } },[],false)).2.1 x_1.1.toNat ({ data:={ toList:=[] } },0,0,0);bif decide (x_1.1<(↑(List.length (x0.2.getD x.1.toNat ({ data:={ toList:=[] } },[],false)).2.1):Int)) then bif inB x_1.1 (List.length (x0.2.getD x.1.toNat ({ data:={ toList:=[] } },[],false)).2.1) then ah (cb x0 v12.1) fun (t:Int)=>bif decide (t>=(0 : Int)) then bif inB t x_1.2.1.1.length then bif Nat.ble (Nat.succ t.toNat) x_1.2.1.1.length then bif inB x.1 (List.length (bq x_1.2.1.2 (x_1.2.1.1.getD t.toNat 0))) then bif Nat.ble (Nat.succ x.1.toNat) (List.length (bq x_1.2.1.2 (x_1.2.1.1.getD t.toNat (0 : Nat)))) then bif inB x.1 (List.length (bq x_1.2.1.2 (x_1.2.1.1.getD t.toNat 0))) then bif Nat.ble (Nat.succ x.1.toNat) (List.length (bq x_1.2.1.2 (x_1.2.1.1.getD t.toNat 0))) then again_1 (v10,(x_1.2.1.1,x_1.2.1.2.set (x_1.2.1.1.getD t.toNat 0) (some (List.set (bq x_1.2.1.2 (x_1.2.1.1.getD t.toNat 0)) x.1.toNat (IntKind.wrap .i64 (List.getD (bq x_1.2.1.2 (x_1.2.1.1.getD t.toNat 0)) x.1.toNat 0+v12.2.1))))),PUnit.unit) else none else none else none else none else none else none else again_1 (v10,v11) else none else again (IntKind.wrap .i64 (x.1+1),v11)) (0,x.2.1,PUnit.unit) else none else bif List.all x.2.1.1 fun (x_1:Nat)=>fE x.2.1.2 x_1 then some (List.map (fun (x_1:Nat)=>bq x.2.1.2 x_1) x.2.1.1,0,PUnit.unit) else none) (0,x.2.1,PUnit.unit)) (0, (Nat.brecOn (motive:=fun (x:Nat)=>Nat->List Nat) (Int.toNat (↑x0.1.length:Int)) (fun (x:Nat) (f:Nat.below (motive:=fun (x:Nat)=>Nat->List (T ref)) x) (x_1:Nat)=>(match (motive:=(x:Nat)->Nat->Nat.below (motive:=fun (x:Nat)=>Nat->List (T ref)) x->List Nat) x,x_1 with | 0,x=>fun (_:PUnit)=>[] | Nat.succ n,k=>fun (x:(Nat->List Nat) ×' Nat.rec PUnit (fun (n:Nat) (n_ih:Type)=>(fun (x:Nat)=>Nat->List (T ref)) n ×' n_ih) n)=>(k+0) ::x.1 (k+1)) f) 0,List.replicate (Int.toNat (↑x0.1.length:Int)) (some [])),PUnit.unit) else none
def aY (x0:(List (ByteArray×Int))×List (ByteArray×(List (ByteArray×Int×Int×Int))×Bool)):Option ((List (List Int))×Int×Unit):=oZ lpK jnK cb ba x0
abbrev t72:=((List (ByteArray×Int))×List (ByteArray×(List (ByteArray×Int×Int×Int))×Bool))->Option ((List (List Int))×Int×Unit)
def k72 (aY:t72):Ctr:=⟨[T25],[],[],.tup [(.sl (.sl i64)),i64],fun x _ _=>aY x.1⟩
def c72:Ctr:=k72 aY
theorem e72 (lp:Lp) (jn:Jn) (cb:Mj) (ba:t50):∀(x:TsS c72.as) (F:TsF c72.fs) (y:TsS c72.cs),oZ lp jn cb ba x.1=bI lp jn (cx [(50,k50 ba),(109,Tw cb)] [(32,r32),(92,r92),(112,bi)]) aj 4 72 f72 c72 x F y:=fun x F y=>by kernel_rfl
theorem Ub:c72.ok prog 72:=Ctr.of_den (ao (aa (aa (q32) (by kernel_rfl) Sk) (by kernel_rfl) TA)) aF (hl:=aj) (d:=4) func72 rfl (by decide) (e72 lpK jnK cb ba)
def kC (lp:Lp) (_:Jn) (ba:t50) (x0:(List (ByteArray×Int))×List (ByteArray×(List (ByteArray×Int×Int×Int))×Bool)):Option ((List Int)×Int×Unit) :=
 ah (ba x0) fun (t:Bool)=>bif !t then some ([],1,PUnit.unit) else lp (List Int×Int×PUnit) (List Int×Int×PUnit) (fun (again:List Int×Int×PUnit -> Option (List Int×Int×PUnit)) (x:List Int×Int×PUnit)=>bif decide (x.2.1<(↑x0.1.length:Int)) then bif inB x.2.1 x0.1.length then bif dM (List.length x.1+1) 8 then again (x.1++[(x0.1.getD x.2.1.toNat ({ data:={ toList:=[] } },0)).2],IntKind.wrap .i64 (x.2.1+1),PUnit.unit) else none else none else some (x.1,0,PUnit.unit)) ([],0,PUnit.unit)
def bD (x0:(List (ByteArray×Int))×List (ByteArray×(List (ByteArray×Int×Int×Int))×Bool)):Option ((List Int)×Int×Unit):=kC lpK jnK ba x0
abbrev t73:=((List (ByteArray×Int))×List (ByteArray×(List (ByteArray×Int×Int×Int))×Bool))->Option ((List Int)×Int×Unit)
def k73 (bD:t73):Ctr:=⟨[T25],[],[],.tup [(.sl i64),i64],fun x _ _=>bD x.1⟩
def c73:Ctr:=k73 bD
theorem e73 (lp:Lp) (jn:Jn) (ba:t50):∀(x:TsS c73.as) (F:TsF c73.fs) (y:TsS c73.cs),kC lp jn ba x.1=bI lp jn (cx [(50,k50 ba)] [(32,r32),(92,r92),(112,bi)]) aj 4 73 f73 c73 x F y:=fun x F y=>by kernel_rfl
theorem Wj:c73.ok prog 73:=Ctr.of_den (ao (aa (q32) (by kernel_rfl) TA)) aF (hl:=aj) (d:=4) func73 rfl (by decide) (e73 lpK jnK ba)
def pJ (lp:Lp) (_:Jn) (aY:t72) (bD:t73) (x0:(List (ByteArray×Int))×List (ByteArray×(List (ByteArray×Int×Int×Int))×Bool)) (x1:List Int):Option (((List Int)×List ((List Int)×Int×Int))×Int×Unit) :=
 ah (aY x0) fun (t:List (List Int)×Int×PUnit)=>bif !decide (t.2.1=0) then some (([],[]),t.2.1,PUnit.unit) else ah (bD x0) fun (t_1 : List Int×Int×PUnit)=>bif !decide (t_1.2.1=0) then some (([],[]),t_1.2.1,PUnit.unit) else lp (Int×List Int×List (List Int×Int×Int)×PUnit) ((List Int×List (List Int×Int×Int))×Int×PUnit) (fun (again:Int×List Int×List (List Int×Int×Int)×PUnit->Option ((List Int×List (List Int×Int×Int))×Int×PUnit)) (x:Int×List Int×List (List Int×Int×Int)×PUnit)=>bif decide (x.1<(↑t.1.length:Int)) then bif inB x.1 t.1.length then bif inB x.1 t_1.1.length then bif dM (List.length x.2.2.1+1) 40 then again (IntKind.wrap .i64 (x.1+1),x.2.1,x.2.2.1++[(t.1.getD x.1.toNat [],3,t_1.1.getD x.1.toNat 0)],PUnit.unit) else none else none else none else some ((x.2.1,x.2.2.1),0, PUnit.unit)) (0,x1,[],PUnit.unit)
def gD (x0:(List (ByteArray×Int))×List (ByteArray×(List (ByteArray×Int×Int×Int))×Bool)) (x1:List Int):Option (((List Int)×List ((List Int)×Int×Int))×Int×Unit):=pJ lpK jnK aY bD x0 x1
abbrev t97:=((List (ByteArray×Int))×List (ByteArray×(List (ByteArray×Int×Int×Int))×Bool))->(List Int)->Option (((List Int)×List ((List Int)×Int×Int))×Int×Unit)
def c97:Ctr:=⟨[T25,(.sl i64)],[],[],.tup [T82,i64],fun x _ _=>gD x.1 x.2.1⟩
theorem e97 (lp:Lp) (jn:Jn) (aY:t72) (bD:t73):∀(x:TsS c97.as) (F:TsF c97.fs) (y:TsS c97.cs),pJ lp jn aY bD x.1 x.2.1=bI lp jn (cx [(73,k73 bD),(72,k72 aY)] [(32,r32),(92,r92),(112,bi)]) aj 4 97 f97 c97 x F y:=fun x F y=>by kernel_rfl
theorem W6:c97.ok prog 97:=Ctr.of_den (ao (aa (aa (q32) (by kernel_rfl) Ub) (by kernel_rfl) Wj)) aF (hl:=aj) (d:=4) func97 rfl (by decide) (e97 lpK jnK aY bD)
def qE (_:Lp) (_:Jn) (x0:Int) (x1:Int):Option (Int×Int×Unit) :=
 
 let v4:Int:=2 ^ 32;
 let v5:Int:=Int.fdiv x0 v4;
 let v6:Int:=Int.fdiv x1 v4;
 let v7:Bool:=decide ((0:Int)<=32);
 let v8:Int:=IntKind.wrap .u64 (↑(Nat.land (Int.toNat (x1 % Int.ofNat 18446744073709551616)) (Int.toNat (4294967295 % Int.ofNat 18446744073709551616))) : Int);
 let v9:Int:=IntKind.wrap .u64 (↑(Nat.land (Int.toNat (x0 % Int.ofNat 18446744073709551616)) (Int.toNat (4294967295 % Int.ofNat 18446744073709551616))) : Int);
 let v10:Int:=IntKind.wrap .u64 (IntKind.wrap .u64 (v5*v8)+Int.fdiv (IntKind.wrap .u64 (v9*v8)) v4);bif v7 then bif v7 then bif v7 then bif v7 then bif v7 then some (IntKind.wrap .u64 (IntKind.wrap .u64 (IntKind.wrap .u64 (v5*v6)+Int.fdiv v10 v4)+Int.fdiv (IntKind.wrap .u64 (IntKind.wrap .u64 (↑(Nat.land (Int.toNat (v10 % Int.ofNat 18446744073709551616)) (Int.toNat (4294967295 % Int.ofNat 18446744073709551616))):Int)+IntKind.wrap .u64 (v9 * v6))) v4),IntKind.wrap .u64 (x0*x1),PUnit.unit) else none else none else none else none else none
def bj (x0:Int) (x1:Int):Option (Int×Int×Unit):=qE lpK jnK x0 x1
abbrev Cy:=(Int)->(Int)->Option (Int×Int×Unit)
def MB (bj:Cy):Ctr:=⟨[(.int .u64),(.int .u64)],[],[],.tup [(.int .u64),(.int .u64)],fun x _ _=>bj x.1 x.2.1⟩
def MS:Ctr:=MB bj
theorem Yn (lp:Lp) (jn:Jn):∀(x:TsS MS.as) (F:TsF MS.fs) (y:TsS MS.cs),qE lp jn x.1 x.2.1=bI lp jn (cx [] [(32,r32),(92,r92),(112,bi)]) aj 4 107 f107 MS x F y:=fun x F y=>by kernel_rfl
theorem HC:MS.ok prog 107:=Ctr.of_den (ao (q32)) aF (hl:=aj) (d:=4) func107 rfl (by decide) (Yn lpK jnK)
def vM (_:Lp) (_:Jn) (x0:Int) (x1:Int):Option (Int×Int×Unit) :=
 
 let v4:Int:=IntKind.wrap .u64 (IntKind.wrap .u64 x0*IntKind.wrap .u64 x1);bif decide ((0:Int)<=32) then some (IntKind.wrap IntKind.u32 (Int.fdiv v4 (2 ^ 32)),IntKind.wrap IntKind.u32 v4,PUnit.unit) else none
def iO (x0:Int) (x1:Int):Option (Int×Int×Unit):=vM lpK jnK x0 x1
def VR (iO:(Int)->(Int)->Option (Int×Int×Unit)):Ctr:=⟨[(.int .u32),(.int .u32)],[],[],.tup [(.int .u32),(.int .u32)],fun x _ _=>iO x.1 x.2.1⟩
def M9:Ctr:=VR iO
theorem Y0 (lp:Lp) (jn:Jn):∀(x:TsS M9.as) (F:TsF M9.fs) (y:TsS M9.cs),vM lp jn x.1 x.2.1=bI lp jn (cx [] [(32,r32),(92,r92),(112,bi)]) aj 4 173 f173 M9 x F y:=fun x F y=>by kernel_rfl
theorem Wq:M9.ok prog 173:=Ctr.of_den (ao (q32)) aF (hl:=aj) (d:=4) func173 rfl (by decide) (Y0 lpK jnK)
def uA (_:Lp) (_:Jn) (bj:Cy) (_:(Int)->(Int)->Option (Int×Int×Unit)) (x0:Int) (x1:Int):Option (Int×Int×Unit) :=
 ah (bj x0 x1) fun (t:Int×Int×PUnit)=>some (t.1,t.2.1,PUnit.unit)
def iu (x0:Int) (x1:Int):Option (Int×Int×Unit):=uA lpK jnK bj iO x0 x1
abbrev SR:=(Int)->(Int)->Option (Int×Int×Unit)
def VJ (iu:SR):Ctr:=⟨[(.int .u64),(.int .u64)],[],[],.tup [(.int .u64),(.int .u64)],fun x _ _=>iu x.1 x.2.1⟩
def O9:Ctr:=VJ iu
theorem Xq (lp:Lp) (jn:Jn) (bj:Cy) (iO:(Int)->(Int)->Option (Int×Int×Unit)):∀(x:TsS O9.as) (F:TsF O9.fs) (y:TsS O9.cs),uA lp jn bj iO x.1 x.2.1=bI lp jn (cx [(173,VR iO),(107,MB bj)] [(32,r32),(92,r92),(112,bi)]) aj 4 140 f140 O9 x F y:=fun x F y=>by kernel_rfl
theorem Wd:O9.ok prog 140:=Ctr.of_den (ao (aa (aa (q32) (by kernel_rfl) HC) (by kernel_rfl) Wq)) aF (hl:=aj) (d:=4) func140 rfl (by decide) (Xq lpK jnK bj iO)
def jF (lp:Lp) (jn:Jn) (iu:SR) (x0:List Int) (x1:Int):Option (List Int) :=
 jn PUnit (List Int) (fun (_:PUnit)=>ah (iu (IntKind.wrap .u64 (↑x0.length:Int)) (IntKind.wrap .u64 x1)) fun (t:Int×Int×PUnit) =>
 let v6:List Int:=List.take (Int.toNat (IntKind.wrap .i64 t.2.1)) x0;
 let v7:List Int:=List.replicate (Int.toNat (IntKind.wrap .i64 t.2.1)) 0;
 let v8:Bool:=decide (t.1>0);
 let v9:Bool:=!v8;bif !v9||v9 then bif v8||v9 then jn PUnit (List Int) (fun (_:PUnit)=>bif decide (0<=IntKind.wrap .i64 t.2.1)&&dM (Int.toNat (IntKind.wrap .i64 t.2.1)) 8 then lp (Int×List Int×PUnit) (List Int) (fun (again:Int×List Int×PUnit->Option (List Int)) (x:Int×List Int×PUnit) =>
 let v13:List Int:=List.take x.1.toNat x.2.1;
 let v14:List Int:=List.take (Int.toNat (↑x.2.1.length:Int) - Int.toNat x.1) (List.drop 0 v13);bif decide (x.1<(↑x.2.1.length:Int)) then bif slB x.1 (↑x.2.1.length:Int) x.2.1.length then bif slB 0 x.1 x.2.1.length then bif Nat.ble x.1.toNat (Int.toNat (↑x.2.1.length:Int))&&(Nat.ble (Int.toNat (↑x.2.1.length:Int)) x.2.1.length&&Nat.ble x.1.toNat x.2.1.length) then again (IntKind.wrap IntKind.i64 (x.1+(↑v14.length:Int)),v13++v14++List.drop (Int.toNat x.1+List.length v14) x.2.1,PUnit.unit) else none else none else none else some x.2.1) ((↑v6.length:Int),List.take 0 v7++v6++List.drop (0+List.length v6) v7,PUnit.unit) else none) fun (j:PUnit->Option (List Int))=>bif bif v8 then true else decide (t.2.1>9223372036854775807) then none else j PUnit.unit else none else none) fun (j:PUnit->Option (List Int))=>bif decide (x1<0) then none else j PUnit.unit
def cP (x0:List Int) (x1:Int):Option (List Int):=jF lpK jnK iu x0 x1
abbrev t98:=(List Int)->(Int)->Option (List Int)
def k98 (cP:t98):Ctr:=⟨[(.sl i64),i64],[],[],.one (.sl i64),fun x _ _=>cP x.1 x.2.1⟩
def c98:Ctr:=k98 cP
theorem e98 (lp:Lp) (jn:Jn) (iu:SR):∀(x:TsS c98.as) (F:TsF c98.fs) (y:TsS c98.cs),jF lp jn iu x.1 x.2.1=bI lp jn (cx [(140,VJ iu)] [(32,r32),(92,r92),(112,bi)]) aj 4 98 f98 c98 x F y:=fun x F y=>by kernel_rfl
theorem Yh:c98.ok prog 98:=Ctr.of_den (ao (aa (q32) (by kernel_rfl) Wd)) aF (hl:=aj) (d:=4) func98 rfl (by decide) (e98 lpK jnK iu)
def me (_:Lp) (_:Jn) (gD:t97) (cP:t98) (x0:(List (ByteArray×Int))×List (ByteArray×(List (ByteArray×Int×Int×Int))×Bool)):Option (((List Int)×List ((List Int)×Int×Int))×Int×Unit) :=
 ah (cP [1] (↑x0.2.length:Int)) fun (t:List Int)=>ah (gD x0 t) fun (t:(List Int×List (List Int×Int×Int))×Int×PUnit)=>some (t.1,t.2.1,PUnit.unit)
def bh (x0:(List (ByteArray×Int))×List (ByteArray×(List (ByteArray×Int×Int×Int))×Bool)):Option (((List Int)×List ((List Int)×Int×Int))×Int×Unit):=me lpK jnK gD cP x0
abbrev t55:=((List (ByteArray×Int))×List (ByteArray×(List (ByteArray×Int×Int×Int))×Bool))->Option (((List Int)×List ((List Int)×Int×Int))×Int×Unit)
def k55 (bh:t55):Ctr:=⟨[T25],[],[],.tup [T82,i64],fun x _ _=>bh x.1⟩
def c55:Ctr:=k55 bh
theorem e55 (lp:Lp) (jn:Jn) (gD:t97) (cP:t98):∀(x:TsS c55.as) (F:TsF c55.fs) (y:TsS c55.cs),me lp jn gD cP x.1=bI lp jn (cx [(98,k98 cP),(97,⟨[T25,(.sl i64)],[],[],.tup [T82,i64],fun x _ _=>gD x.1 x.2.1⟩)] [(32,r32),(92,r92),(112,bi)]) aj 4 55 f55 c55 x F y:=fun x F y=>by kernel_rfl
theorem T9:c55.ok prog 55:=Ctr.of_den (ao (aa (aa (q32) (by kernel_rfl) W6) (by kernel_rfl) Yh)) aF (hl:=aj) (d:=4) func55 rfl (by decide) (e55 lpK jnK gD cP)
def jm (_:Lp) (_:Jn) (x0:Int) (y0:Int):Option Bool :=
 
 let v4:Bool:=decide (x0<IntKind.wrap .i64 (0 - y0));
 let v5:Bool:=!v4;
 let v6:Bool:=!v5||v5;bif v6&&v6 then bif v4||v5 then some (bif v4 then true else decide (x0>y0)) else none else none
def ce (x0:Int) (y0:Int):Option Bool:=jm lpK jnK x0 y0
abbrev UZ:=(Int)->(Int)->Option (Bool)
def KN:Ctr:=⟨[i64],[],[i64],.one .bool,fun x _ y=>ce x.1 y.1⟩
theorem Xk (lp:Lp) (jn:Jn):∀(x:TsS KN.as) (F:TsF KN.fs) (y:TsS KN.cs),jm lp jn x.1 y.1=bI lp jn (cx [] [(32,r32),(92,r92),(112,bi)]) aj 4 142 f142 KN x F y:=fun x F y=>by kernel_rfl
theorem U1:KN.ok prog 142:=Ctr.of_den (ao (q32)) aF (hl:=aj) (d:=4) func142 rfl (by decide) (Xk lpK jnK)
def jY (_:Lp) (_:Jn) (ce:UZ) (x0:Int):Option ((Int×Unit)->Option Bool) :=
 some fun (x:Int×PUnit)=>ce x.1 x0
def dn (x0:Int):Option ((Int×Unit)->Option Bool):=jY lpK jnK ce x0
abbrev UC:=(Int)->Option ((Int×Unit)->Option Bool)
def TM:FCtr:=⟨[i64],[i64],.bool,fun x=>dn x.1⟩
theorem Yd (lp:Lp) (jn:Jn) (ce:UZ):∀x:TsS TM.as,jY lp jn ce x.1=Td lp jn (cx [(142,⟨[i64],[],[i64],.one .bool,fun x _ y=>ce x.1 y.1⟩)] [(32,r32),(92,r92),(112,bi)]) aj 4 141 f141 TM x:=fun x=>by kernel_rfl
theorem Tk:TM.ok prog 141:=FCtr.of_den (ao (aa (q32) (by kernel_rfl) U1)) aF (hl:=aj) (d:=4) func141 rfl (by decide) (Yd lpK jnK ce)
def ib (lp:Lp) (_:Jn) (x0:List Int) (f0:((Int×Unit)->Option Bool)):Option Int :=
 lp (Int×PUnit) Int (fun (again:Int×PUnit->Option Int) (x:Int×PUnit)=>bif decide (x.1<(↑x0.length:Int)) then bif inB x.1 x0.length then ah (f0 (x0.getD x.1.toNat 0,PUnit.unit)) fun (t:Bool)=>bif t then some x.1 else again (IntKind.wrap .i64 (x.1+1),PUnit.unit) else none else some (-1)) (0,PUnit.unit)
def bN (x0:List Int) (f0:((Int×Unit)->Option Bool)):Option Int:=ib lpK jnK x0 f0
abbrev Tg:=(List Int)->(((Int×Unit)->Option Bool))->Option (Int)
def Un (bN:Tg):Ctr:=⟨[(.sl i64)],[([i64],.bool)],[],.one i64,fun x F _=>bN x.1 F.1⟩
def KZ:Ctr:=Un bN
theorem Yf (lp:Lp) (jn:Jn):∀(x:TsS KZ.as) (F:TsF KZ.fs) (y:TsS KZ.cs),ib lp jn x.1 F.1=bI lp jn (cx [] [(32,r32),(92,r92),(112,bi)]) aj 4 174 f174 KZ x F y:=fun x F y=>by kernel_rfl
theorem VG:KZ.ok prog 174:=Ctr.of_den (ao (q32)) aF (hl:=aj) (d:=4) func174 rfl (by decide) (Yf lpK jnK)
def gn (_:Lp) (_:Jn) (bN:Tg) (x0:List Int) (f0:((Int×Unit)->Option Bool)):Option Bool :=
 ah (bN x0 f0) fun (t:Int)=>some (decide (t>=0))
def ax (x0:List Int) (f0:((Int×Unit)->Option Bool)):Option Bool:=gn lpK jnK bN x0 f0
abbrev Od:=(List Int)->(((Int×Unit)->Option Bool))->Option (Bool)
def S1 (ax:Od):Ctr:=⟨[(.sl i64)],[([i64],.bool)],[],.one .bool,fun x F _=>ax x.1 F.1⟩
def Kr:Ctr:=S1 ax
theorem XM (lp:Lp) (jn:Jn) (bN:Tg):∀(x:TsS Kr.as) (F:TsF Kr.fs) (y:TsS Kr.cs),gn lp jn bN x.1 F.1=bI lp jn (cx [(174,Un bN)] [(32,r32),(92,r92),(112,bi)]) aj 4 143 f143 Kr x F y:=fun x F y=>by kernel_rfl
theorem R7:Kr.ok prog 143:=Ctr.of_den (ao (aa (q32) (by kernel_rfl) VG)) aF (hl:=aj) (d:=4) func143 rfl (by decide) (XM lpK jnK bN)
def jW (lp:Lp) (_:Jn) (x0:List ((List Int)×Int×Int)) (f0:((((List Int)×Int×Int)×Unit)->Option Bool)):Option Int :=
 lp (Int×PUnit) Int (fun (again:Int×PUnit->Option Int) (x:Int×PUnit)=>bif decide (x.1<(↑x0.length:Int)) then bif inB x.1 x0.length then ah (f0 (x0.getD x.1.toNat ([],0,0),PUnit.unit)) fun (t:Bool)=>bif t then some x.1 else again (IntKind.wrap .i64 (x.1+1),PUnit.unit) else none else some (-1)) (0,PUnit.unit)
def cE (x0:List ((List Int)×Int×Int)) (f0:((((List Int)×Int×Int)×Unit)->Option Bool)):Option Int:=jW lpK jnK x0 f0
abbrev SI:=(List ((List Int)×Int×Int))->(((((List Int)×Int×Int)×Unit)->Option Bool))->Option (Int)
def Vb (cE:SI):Ctr:=⟨[(.sl Ec)],[([Ec],.bool)],[],.one i64,fun x F _=>cE x.1 F.1⟩
def M2:Ctr:=Vb cE
theorem YV (lp:Lp) (jn:Jn):∀(x:TsS M2.as) (F:TsF M2.fs) (y:TsS M2.cs),jW lp jn x.1 F.1=bI lp jn (cx [] [(32,r32),(92,r92),(112,bi)]) aj 4 175 f175 M2 x F y:=fun x F y=>by kernel_rfl
theorem WL:M2.ok prog 175:=Ctr.of_den (ao (q32)) aF (hl:=aj) (d:=4) func175 rfl (by decide) (YV lpK jnK)
def jh (_:Lp) (_:Jn) (cE:SI) (x0:List ((List Int)×Int×Int)) (f0:((((List Int)×Int×Int)×Unit)->Option Bool)):Option Bool :=
 ah (cE x0 f0) fun (t:Int)=>some (decide (t>=0))
def cI (x0:List ((List Int)×Int×Int)) (f0:((((List Int)×Int×Int)×Unit)->Option Bool)):Option Bool:=jh lpK jnK cE x0 f0
def VU (cI:(List ((List Int)×Int×Int))->(((((List Int)×Int×Int)×Unit)->Option Bool))->Option (Bool)):Ctr:=⟨[(.sl Ec)],[([Ec],.bool)],[],.one .bool,fun x F _=>cI x.1 F.1⟩
def Nj:Ctr:=VU cI
theorem XV (lp:Lp) (jn:Jn) (cE:SI):∀(x:TsS Nj.as) (F:TsF Nj.fs) (y:TsS Nj.cs),jh lp jn cE x.1 F.1=bI lp jn (cx [(175,Vb cE)] [(32,r32),(92,r92),(112,bi)]) aj 4 144 f144 Nj x F y:=fun x F y=>by kernel_rfl
theorem U2:Nj.ok prog 144:=Ctr.of_den (ao (aa (q32) (by kernel_rfl) WL)) aF (hl:=aj) (d:=4) func144 rfl (by decide) (XV lpK jnK cE)
def mm (lp:Lp) (_:Jn) (ax:Od) (_:(List ((List Int)×Int×Int))->(((((List Int)×Int×Int)×Unit)->Option Bool))->Option (Bool)) (dn:UC) (x0:(List Int)×List ((List Int)×Int×Int)):Option Bool :=
 
 let v3:Bool:=decide ((↑x0.1.length:Int)<1);
 let v4:Bool:=!v3;
 let v5:Bool:=bif v3 then true else decide ((↑x0.1.length:Int)>12);
 let v6:Bool:=!v4||v4;
 let v7:Bool:=!v5;
 let v8:Bool:=bif v5 then true else decide ((↑x0.2.length:Int)>6);
 let v9:Bool:=!v8;
 let v10:Bool:=!v7||v7;
 let v11:Bool:=!v9||v9;bif v6 then bif v6 then bif v6 then bif v3||v4 then bif v10 then bif v10 then bif v10 then bif v5||v7 then bif v11 then bif v11 then ah (bif v9 then dn 1048576 else some fun (_:Int×PUnit)=>none) fun (t:Int×PUnit->Option Bool)=>bif v11&&v11 then ah (bif v9 then ax x0.1 t else some false) fun (t:Bool)=>bif v8||v9 then bif bif v8 then true else t then some false else lp (Int×PUnit) Bool (fun (again:Int×PUnit->Option Bool) (x:Int×PUnit) =>
 let v16:List Int×Int×Int:=x0.2.getD x.1.toNat ([],0,0);
 let v17:Bool:=decide (v16.2.1<1);
 let v18:Bool:=decide (v16.2.1>3);
 let v19:Bool:=!decide ((↑v16.1.length:Int)=(↑x0.1.length:Int));
 let v20:Bool:=!v19;
 let v21:Bool:=!v20||v20;bif decide (x.1<(↑x0.2.length:Int)) then bif inB x.1 x0.2.length then bif v21 then bif v21 then ah (bif v20 then dn 1048576 else some fun (_:Int×PUnit)=>none) fun (t:Int×PUnit->Option Bool)=>bif v21&&v21 then ah (bif v20 then ax v16.1 t else some false) fun (t:Bool) =>
 let v24:Bool:=bif v19 then true else t;
 let v25:Bool:=!v24;
 let v26:Bool:=bif v24 then true else v17;
 let v27:Bool:=!v26;
 let v28:Bool:=bif v26 then true else v18;
 let v29:Bool:=!v25||v25;
 let v30:Bool:=!v28;
 let v31:Bool:=!v27||v27;
 let v32:Bool:=!v30||v30;bif v19||v20 then bif v29 then bif v29 then bif v24||v25 then bif v31 then bif v31 then bif v26||v27 then bif v32 then ah (bif v30 then dn 1073741824 else some fun (_:Int×PUnit)=>none) fun (t:Int×PUnit->Option Bool)=>bif v32 then bif v32&&v32 then ah (bif v30 then t (v16.2.2, PUnit.unit) else some false) fun (t:Bool)=>bif v28||v30 then bif bif v28 then true else t then some !decide (x.1>=0) else again (IntKind.wrap .i64 (x.1+(1 : Int)),PUnit.unit) else none else none else none else none else none else none else none else none else none else none else none else none else none else none else none else some !decide ((-1:Int)>=0)) (0,PUnit.unit) else none else none else none else none else none else none else none else none else none else none else none else none
def bg (x0:(List Int)×List ((List Int)×Int×Int)):Option Bool:=mm lpK jnK ax cI dn x0
abbrev t99:=((List Int)×List ((List Int)×Int×Int))->Option (Bool)
def k99 (bg:t99):Ctr:=⟨[T82],[],[],.one .bool,fun x _ _=>bg x.1⟩
def c99:Ctr:=k99 bg
theorem e99 (lp:Lp) (jn:Jn) (ax:Od) (cI:(List ((List Int)×Int×Int))->(((((List Int)×Int×Int)×Unit)->Option Bool))->Option (Bool)) (dn:UC):∀(x:TsS c99.as) (F:TsF c99.fs) (y:TsS c99.cs),mm lp jn ax cI dn x.1=bI lp jn (yN Au Ap (WJ [(141,⟨[i64],[i64],.bool,fun x=>dn x.1⟩)] (jv prog shs tX its [(144,VU cI),(143,S1 ax)] [(32,r32),(92,r92),(112,bi)]))) aj 4 99 f99 c99 x F y:=fun x F y=>by kernel_rfl
theorem Ul:c99.ok prog 99:=Ctr.of_den (ao (Rv (aa (aa (q32) (by kernel_rfl) R7) (by kernel_rfl) U2) (J8 (by kernel_rfl) Tk (Lr)))) aF (hl:=aj) (d:=4) func99 rfl (by decide) (e99 lpK jnK ax cI dn)
def rS (_:Lp) (_:Jn) (x0:Int):Option Int :=
 
 let v3:Int:=IntKind.wrap .u64 x0;bif decide (x0<0) then some (IntKind.wrap .u64 (0 - v3)) else some v3
def cd (x0:Int):Option Int:=rS lpK jnK x0
abbrev Pb:=(Int)->Option (Int)
def Tt (cd:Pb):Ctr:=⟨[i64],[],[],.one (.int .u64),fun x _ _=>cd x.1⟩
def N3:Ctr:=Tt cd
theorem Y2 (lp:Lp) (jn:Jn):∀(x:TsS N3.as) (F:TsF N3.fs) (y:TsS N3.cs),rS lp jn x.1=bI lp jn (cx [] [(32,r32),(92,r92),(112,bi)]) aj 4 147 f147 N3 x F y:=fun x F y=>by kernel_rfl
theorem SD:N3.ok prog 147:=Ctr.of_den (ao (q32)) aF (hl:=aj) (d:=4) func147 rfl (by decide) (Y2 lpK jnK)
def lg (lp:Lp) (_:Jn) (cd:Pb) (x0:List Int) (x1:Int):Option Int :=
 ah (cd x1) fun (t:Int)=>lp (Int×Int×PUnit) Int (fun (again:Int×Int×PUnit->Option Int) (x:Int×Int×PUnit)=>bif decide (x.2.1<(↑x0.length : Int)) then bif inB x.2.1 x0.length then ah (cd (x0.getD x.2.1.toNat 0)) fun (t:Int)=>again (IntKind.wrap .i64 (x.1 + IntKind.wrap .i64 t),IntKind.wrap .i64 (x.2.1+1),PUnit.unit) else none else some x.1) (IntKind.wrap .i64 (1+IntKind.wrap .i64 t), 0,PUnit.unit)
def dH (x0:List Int) (x1:Int):Option Int:=lg lpK jnK cd x0 x1
abbrev V5:=(List Int)->(Int)->Option (Int)
def Oh:Ctr:=⟨[(.sl i64),i64],[],[],.one i64,fun x _ _=>dH x.1 x.2.1⟩
theorem XD (lp:Lp) (jn:Jn) (cd:Pb):∀(x:TsS Oh.as) (F:TsF Oh.fs) (y:TsS Oh.cs),lg lp jn cd x.1 x.2.1=bI lp jn (cx [(147,Tt cd)] [(32,r32),(92,r92),(112,bi)]) aj 4 146 f146 Oh x F y:=fun x F y=>by kernel_rfl
theorem WH:Oh.ok prog 146:=Ctr.of_den (ao (aa (q32) (by kernel_rfl) SD)) aF (hl:=aj) (d:=4) func146 rfl (by decide) (XD lpK jnK cd)
def kL (lp:Lp) (jn:Jn) (x0:List Int):Option Int :=
 jn PUnit Int (fun (_:PUnit)=>bif inB 0 x0.length then lp (Int×Int×PUnit) Int (fun (again:Int×Int×PUnit->Option Int) (x:Int×Int×PUnit)=>bif decide (x.2.1<(↑x0.length:Int)) then bif inB x.2.1 x0.length then again (if x0.getD x.2.1.toNat 0>x.1 then x0.getD x.2.1.toNat 0 else x.1,IntKind.wrap .i64 (x.2.1+1),PUnit.unit) else none else some x.1) (x0.getD 0 0,1,PUnit.unit) else none) fun (j:PUnit->Option Int)=>bif decide ((↑x0.length:Int)<1) then none else j PUnit.unit
def dW (x0:List Int):Option Int:=kL lpK jnK x0
abbrev UM:=(List Int)->Option (Int)
def OS:Ctr:=⟨[(.sl i64)],[],[],.one i64,fun x _ _=>dW x.1⟩
theorem XL (lp:Lp) (jn:Jn):∀(x:TsS OS.as) (F:TsF OS.fs) (y:TsS OS.cs),kL lp jn x.1=bI lp jn (cx [] [(32,r32),(92,r92),(112,bi)]) aj 4 148 f148 OS x F y:=fun x F y=>by kernel_rfl
theorem U6:OS.ok prog 148:=Ctr.of_den (ao (q32)) aF (hl:=aj) (d:=4) func148 rfl (by decide) (XL lpK jnK)
def nu (lp:Lp) (_:Jn) (dH:V5) (dW:UM) (x0:(List Int)×List ((List Int)×Int×Int)):Option Bool :=
 ah (dH x0.1 0) fun (t:Int)=>lp (List Int×Int×PUnit) Bool (fun (again:List Int×Int×PUnit->Option Bool) (x:List Int×Int×PUnit) =>
 let v6:List Int×Int×Int:=x0.2.getD x.2.1.toNat ([],0,0);bif decide (x.2.1<(↑x0.2.length:Int)) then bif inB x.2.1 x0.2.length then ah (dH v6.1 v6.2.2) fun (t:Int)=>bif dM (List.length x.1+1) 8 then again (x.1++[t],IntKind.wrap .i64 (x.2.1+1),PUnit.unit) else none else none else lp (Int×Int×PUnit) Bool (fun (again:Int×Int×PUnit->Option Bool) (x_1:Int×Int×PUnit) =>
 let v9:Int:=x.1.getD x_1.2.1.toNat 0;bif decide (x_1.2.1<(↑x.1.length:Int)) then bif inB x_1.2.1 x.1.length then bif Nat.ble (Nat.succ x_1.2.1.toNat) x.1.length then bif nzB v9 then bif decide (x_1.1>IntKind.wrap .i64 (Int.tdiv 17592186044416 v9)) then some false else again (IntKind.wrap .i64 (x_1.1*v9),IntKind.wrap .i64 (x_1.2.1+1),PUnit.unit) else none else none else none else ah (dW x.1) fun (t : Int)=>bif nzB t then some (decide (x_1.1<=IntKind.wrap .i64 (Int.tdiv 144115188075855872 t))) else none) (1,0,PUnit.unit)) ([t],0, PUnit.unit)
def cz (x0:(List Int)×List ((List Int)×Int×Int)):Option Bool:=nu lpK jnK dH dW x0
abbrev Lv:=((List Int)×List ((List Int)×Int×Int))->Option (Bool)
def To (cz:Lv):Ctr:=⟨[T82],[],[],.one .bool,fun x _ _=>cz x.1⟩
def LG:Ctr:=To cz
theorem Xa (lp:Lp) (jn:Jn) (dH:V5) (dW:UM):∀(x:TsS LG.as) (F:TsF LG.fs) (y:TsS LG.cs),nu lp jn dH dW x.1=bI lp jn (cx [(148,⟨[(.sl i64)],[],[],.one i64,fun x _ _=>dW x.1⟩),(146,⟨[(.sl i64),i64],[],[],.one i64,fun x _ _=>dH x.1 x.2.1⟩)] [(32,r32),(92,r92),(112,bi)]) aj 4 100 f100 LG x F y:=fun x F y=>by kernel_rfl
theorem Ss:LG.ok prog 100:=Ctr.of_den (ao (aa (aa (q32) (by kernel_rfl) WH) (by kernel_rfl) U6)) aF (hl:=aj) (d:=4) func100 rfl (by decide) (Xa lpK jnK dH dW)
def fZ (lp:Lp) (_:Jn) (x0:(List (List Int))×Int×(List Int)×(List Int)×(List Int)×Int×Int) (x1:Int):Option Int :=
 lp (Int×Int×PUnit) Int (fun (again:Int×Int×PUnit->Option Int) (x:Int×Int×PUnit) =>
 let v6:Int×PUnit:=(IntKind.wrap .i64 (x.2.1+1),PUnit.unit);
 let v7:List Int:=x0.1.getD x.2.1.toNat [];bif decide (x.2.1<(↑x0.1.length:Int)) then bif inB x.2.1 x0.1.length then bif inB x.2.1 x0.2.2.1.length then bif decide (x0.2.2.1.getD x.2.1.toNat 0>=x0.2.2.2.2.2.1) then bif inB x1 v7.length then again (IntKind.wrap .i64 (x.1+v7.getD x1.toNat 0),v6) else none else again (x.1,v6) else none else none else some x.1) (0,0,PUnit.unit)
def aw (x0:(List (List Int))×Int×(List Int)×(List Int)×(List Int)×Int×Int) (x1:Int):Option Int:=fZ lpK jnK x0 x1
abbrev Ou:=((List (List Int))×Int×(List Int)×(List Int)×(List Int)×Int×Int)->(Int)->Option (Int)
def SP (aw:Ou):PCtr:=⟨Js,[i64],.one i64,fun x y=>aw x y.1⟩
def Qb:PCtr:=SP aw
theorem Yw (lp:Lp) (jn:Jn):∀(x:Qb.s.T) (y:TsS Qb.as),fZ lp jn x y.1=GX lp jn (cx [] [(32,r32),(92,r92),(112,bi)]) aj 4 106 f106 Qb x y:=fun x y=>by kernel_rfl
theorem Sa:Qb.ok prog 106:=PCtr.of_den (ao (q32)) aF (hl:=aj) (d:=4) func106 rfl (by decide) (Yw lpK jnK)
def mj (_:Lp) (_:Jn) (bj:Cy) (cd:Pb) (x0:Int) (x1:Int):Option (Bool×Int×Int) :=
 
 let v4:Bool:=!decide (decide (x0<0)=decide (x1<0));
 let v5:Bool:=!v4;
 let v6:Bool:=v5||v4;ah (cd x0) fun (t:Int)=>ah (cd x1) fun (t_1:Int)=>ah (bj t t_1) fun (t:Int×Int×PUnit) =>
 let v10:Bool:=!decide (t.1=0);
 let v11:Bool:=v4&&!v10;bif v6 then bif v6 then bif !v11||v11 then bif (v5||v6)&&(v5||(v10||(v5||v11))) then bif v6 then some (bif v4 then bif v10 then true else !decide (t.2.1=0) else false,t.1,t.2.1) else none else none else none else none else none
def bL (x0:Int) (x1:Int):Option (Bool×Int×Int):=mj lpK jnK bj cd x0 x1
abbrev O7:=(Int)->(Int)->Option (Bool×Int×Int)
def S2 (bL:O7):Ctr:=⟨[i64,i64],[],[],.one vk,fun x _ _=>bL x.1 x.2.1⟩
def O6:Ctr:=S2 bL
theorem Xo (lp:Lp) (jn:Jn) (bj:Cy) (cd:Pb):∀(x:TsS O6.as) (F:TsF O6.fs) (y:TsS O6.cs),mj lp jn bj cd x.1 x.2.1=bI lp jn (cx [(147,Tt cd),(107,MB bj)] [(32,r32),(92,r92),(112,bi)]) aj 4 176 f176 O6 x F y:=fun x F y=>by kernel_rfl
theorem Su:O6.ok prog 176:=Ctr.of_den (ao (aa (aa (q32) (by kernel_rfl) HC) (by kernel_rfl) SD)) aF (hl:=aj) (d:=4) func176 rfl (by decide) (Xo lpK jnK bj cd)
def gq (_:Lp) (_:Jn) (x0:Bool×Int×Int) (x1:Bool×Int×Int):Option Int :=
 
 let v4:Bool:=decide (x0.2.1=x1.2.1);
 let v5:Bool:=!v4;
 let v6:Bool:=v5||v4;
 let v7:Bool:=!v5||v5;
 let v8:Bool:=bif v5 then decide (x0.2.1<x1.2.1) else false;
 let v9:Bool:=!v8;
 let v10:Bool:=!v9;
 let v11:Bool:=v9&&v4;
 let v12:Bool:=v10||v9;
 let v13:Bool:=!v11||v11;bif v7 then bif v7 then bif v7&&v7 then bif v7 then bif v12 then bif v12 then bif v12&&v12 then bif v12 then bif v13 then bif v13 then bif v13&&v13 then bif (v10||v12)&&(v10||(v5||(v10||v11))) then bif v8||v9 then bif bif v8 then true else bif v4 then decide (x0.2.2<x1.2.2) else false then some (-1) else bif v6 then bif v6 then bif v6&&v6 then bif v6 then bif bif v4 then decide (x0.2.2=x1.2.2) else false then some 0 else some 1 else none else none else none else none else none else none else none else none else none else none else none else none else none else none else none else none else none
def ay (x0:Bool×Int×Int) (x1:Bool×Int×Int):Option Int:=gq lpK jnK x0 x1
abbrev MQ:=(Bool×Int×Int)->(Bool×Int×Int)->Option (Int)
def Tm (ay:MQ):Ctr:=⟨[vk,vk],[],[],.one i64,fun x _ _=>ay x.1 x.2.1⟩
def Ob:Ctr:=Tm ay
theorem Xh (lp:Lp) (jn:Jn):∀(x:TsS Ob.as) (F:TsF Ob.fs) (y:TsS Ob.cs),gq lp jn x.1 x.2.1=bI lp jn (cx [] [(32,r32),(92,r92),(112,bi)]) aj 4 192 f192 Ob x F y:=fun x F y=>by kernel_rfl
theorem SA:Ob.ok prog 192:=Ctr.of_den (ao (q32)) aF (hl:=aj) (d:=4) func192 rfl (by decide) (Xh lpK jnK)
def gT (_:Lp) (jn:Jn) (ay:MQ) (x0:Bool×Int×Int) (x1:Bool×Int×Int):Option (Bool×Int×Int) :=
 
 let v4:Bool:=!x0.1;
 let v5:Bool:=!x1.1;
 let v6:Bool:=!v4;
 let v7:Bool:=v4&&v5;
 let v8:Bool:=v6||v4;
 let v9:Bool:=!v7;
 let v10:Bool:=v9||v7;
 let v11:Bool:=!decide (x1.2.1=0);
 let v12:Bool:=v7&&!v11;
 let v13:Bool:=decide ((0:Int)<=0)&&decide ((0:Int)<=1);
 let v14:Bool:=!v12||v12;bif !decide (x0.1=x1.1) then bif v13 then bif decide (0<=oS x0.2.2 x1.2.2 0)&&decide (oS x0.2.2 x1.2.2 (0 : Int)<=1) then bif v8 then bif v8 then bif v8 then bif v10 then bif v10 then bif v10 then bif v14 then bif v14 then bif (v9||v10)&&(v9||(v11||(v9||v12))) then bif (v6 || v8)&&(v6||(!v5||(v6||v7))) then bif x0.1||v4 then some (bif x0.1 then true else bif v5 then bif v11 then true else !decide (x1.2.2=0) else false,xC x0.2.1 x1.2.1 (oS x0.2.2 x1.2.2 0),xC x0.2.2 x1.2.2 0) else none else none else none else none else none else none else none else none else none else none else none else none else none else ah (ay x0 x1) fun (t:Int)=>jn (Bool×(Bool×Int×Int)×(Bool×Int×Int)×PUnit) (Bool×Int×Int) (fun (x:Bool×(Bool×Int×Int)×(Bool×Int×Int)×PUnit) =>
 let v17:Bool:=!x.1;
 let v18:Bool:=v17||x.1;
 let v19:Bool:=!decide (uG x.2.1.2.1 x.2.2.1.2.1 (nf x.2.1.2.2 x.2.2.1.2.2 0)=0);
 let v20:Bool:=x.1&&!v19;bif v13 then bif decide (0<=nf x.2.1.2.2 x.2.2.1.2.2 0)&&decide (nf x.2.1.2.2 x.2.2.1.2.2 (0 : Int)<=1) then bif v18 then bif v18 then bif !v20||v20 then bif (v17||v18)&&(v17||(v19||(v17||v20))) then bif v18 then some (bif x.1 then bif v19 then true else !decide (uG x.2.1.2.2 x.2.2.1.2.2 0=0) else false,uG x.2.1.2.1 x.2.2.1.2.1 (nf x.2.1.2.2 x.2.2.1.2.2 (0 : Int)),uG x.2.1.2.2 x.2.2.1.2.2 0) else none else none else none else none else none else none else none) fun (j:Bool×(Bool×Int×Int)×(Bool×Int × Int)×PUnit->Option (Bool×Int×Int))=>bif decide (t<0) then j (v4,x1,x0,PUnit.unit) else j (x0.1,x0,x1,PUnit.unit)
def bJ (x0:Bool×Int×Int) (x1:Bool×Int×Int):Option (Bool×Int×Int):=gT lpK jnK ay x0 x1
abbrev SX:=(Bool×Int×Int)->(Bool×Int×Int)->Option (Bool×Int×Int)
def U4 (bJ:SX):Ctr:=⟨[vk,vk],[],[],.one vk,fun x _ _=>bJ x.1 x.2.1⟩
def M5:Ctr:=U4 bJ
theorem W4 (lp:Lp) (jn:Jn) (ay:MQ):∀(x:TsS M5.as) (F:TsF M5.fs) (y:TsS M5.cs),gT lp jn ay x.1 x.2.1=bI lp jn (cx [(192,Tm ay)] [(32,r32),(92,r92),(112,bi)]) aj 4 177 f177 M5 x F y:=fun x F y=>by kernel_rfl
theorem U8:M5.ok prog 177:=Ctr.of_den (ao (aa (q32) (by kernel_rfl) SA)) aF (hl:=aj) (d:=4) func177 rfl (by decide) (W4 lpK jnK ay)
def uQ (_:Lp) (jn:Jn) (x0:Int):Option Int :=
 jn (Int×Int×PUnit) Int (fun (x:Int×Int×PUnit)=>jn (Int×Int×PUnit) Int (fun (x:Int×Int×PUnit) =>
 let v5:Int:=IntKind.wrap IntKind.u8 x.1;
 let v6:Int:=IntKind.wrap IntKind.u8 (Int.fdiv x.1 (2 ^ 8));bif decide (x.1>=256) then bif decide ((0:Int)<=8) then bif inB v6 256 then some (IntKind.wrap .i64 (IntKind.wrap .i64 (x.2.1+8)+IntKind.wrap .i64 (fL { data:=List.toArray (List.append (List.append [(0:UInt8),(1 : UInt8),(2:UInt8),(2:UInt8),(3:UInt8),(3:UInt8),(3:UInt8),(3:UInt8),(4:UInt8),(4:UInt8),(4:UInt8),(4:UInt8),(4:UInt8),(4:UInt8),(4:UInt8),(4 : UInt8),(5:UInt8),(5:UInt8),(5:UInt8),(5:UInt8),(5:UInt8),(5:UInt8),(5:UInt8),(5:UInt8),(5:UInt8),(5:UInt8),(5:UInt8),(5:UInt8),(5:UInt8),(5 : UInt8),(5:UInt8),(5:UInt8),(6:UInt8),(6:UInt8),(6:UInt8),(6:UInt8),(6:UInt8),(6:UInt8),(6:UInt8),(6:UInt8),(6:UInt8),(6:UInt8),(6:UInt8),(6 : UInt8),(6:UInt8),(6:UInt8),(6:UInt8),(6:UInt8),(6:UInt8),(6:UInt8),(6:UInt8),(6:UInt8),(6:UInt8),(6:UInt8),(6:UInt8),(6:UInt8),(6:UInt8),(6 : UInt8),(6:UInt8),(6:UInt8),(6:UInt8),(6:UInt8),(6:UInt8),(6:UInt8)] [(7:UInt8),(7:UInt8),(7:UInt8),(7:UInt8),(7:UInt8),(7:UInt8),(7:UInt8),(7 : UInt8),(7:UInt8),(7:UInt8),(7:UInt8),(7:UInt8),(7:UInt8),(7:UInt8),(7:UInt8),(7:UInt8),(7:UInt8),(7:UInt8),(7:UInt8),(7:UInt8),(7:UInt8),(7 : UInt8),(7:UInt8),(7:UInt8),(7:UInt8),(7:UInt8),(7:UInt8),(7:UInt8),(7:UInt8),(7:UInt8),(7:UInt8),(7:UInt8),(7:UInt8),(7:UInt8),(7:UInt8),(7 : UInt8),(7:UInt8),(7:UInt8),(7:UInt8),(7:UInt8),(7:UInt8),(7:UInt8),(7:UInt8),(7:UInt8),(7:UInt8),(7:UInt8),(7:UInt8),(7:UInt8),(7:UInt8),(7 : UInt8),(7:UInt8),(7:UInt8),(7:UInt8),(7:UInt8),(7:UInt8),(7:UInt8),(7:UInt8),(7:UInt8),(7:UInt8),(7:UInt8),(7:UInt8),(7:UInt8),(7:UInt8),(7 : UInt8)]) (List.append [(8:UInt8),(8:UInt8),(8:UInt8),(8:UInt8),(8:UInt8),(8:UInt8),(8:UInt8),(8:UInt8),(8:UInt8),(8:UInt8),(8:UInt8),(8:UInt8),(8 : UInt8),(8:UInt8),(8:UInt8),(8:UInt8),(8:UInt8),(8:UInt8),(8:UInt8),(8:UInt8),(8:UInt8),(8:UInt8),(8:UInt8),(8:UInt8),(8:UInt8),(8:UInt8),(8 : UInt8),(8:UInt8),(8:UInt8),(8:UInt8),(8:UInt8),(8:UInt8),(8:UInt8),(8:UInt8),(8:UInt8),(8:UInt8),(8:UInt8),(8:UInt8),(8:UInt8),(8:UInt8),(8 : UInt8),(8:UInt8),(8:UInt8),(8:UInt8),(8:UInt8),(8:UInt8),(8:UInt8),(8:UInt8),(8:UInt8),(8:UInt8),(8:UInt8),(8:UInt8),(8:UInt8),(8:UInt8),(8 : UInt8),(8:UInt8),(8:UInt8),(8:UInt8),(8:UInt8),(8:UInt8),(8:UInt8),(8:UInt8),(8:UInt8),(8:UInt8)] [(8:UInt8),(8:UInt8),(8:UInt8),(8:UInt8),(8 : UInt8),(8:UInt8),(8:UInt8),(8:UInt8),(8:UInt8),(8:UInt8),(8:UInt8),(8:UInt8),(8:UInt8),(8:UInt8),(8:UInt8),(8:UInt8),(8:UInt8),(8:UInt8),(8 : UInt8),(8:UInt8),(8:UInt8),(8:UInt8),(8:UInt8),(8:UInt8),(8:UInt8),(8:UInt8),(8:UInt8),(8:UInt8),(8:UInt8),(8:UInt8),(8:UInt8),(8:UInt8),(8 : UInt8),(8:UInt8),(8:UInt8),(8:UInt8),(8:UInt8),(8:UInt8),(8:UInt8),(8:UInt8),(8:UInt8),(8:UInt8),(8:UInt8),(8:UInt8),(8:UInt8),(8:UInt8),(8 : UInt8),(8:UInt8),(8:UInt8),(8:UInt8),(8:UInt8),(8:UInt8),(8:UInt8),(8:UInt8),(8:UInt8),(8:UInt8),(8:UInt8),(8:UInt8),(8:UInt8),(8:UInt8),(8 : UInt8),(8:UInt8),(8:UInt8),(8:UInt8)])) } v6.toNat))) else none else none else bif inB v5 256 then some (IntKind.wrap .i64 (x.2.1+IntKind.wrap IntKind.i64 (fL { data:=List.toArray (List.append (List.append [(0:UInt8),(1:UInt8),(2:UInt8),(2:UInt8),(3:UInt8),(3:UInt8),(3:UInt8),(3:UInt8),(4 : UInt8),(4:UInt8),(4:UInt8),(4:UInt8),(4:UInt8),(4:UInt8),(4:UInt8),(4:UInt8),(5:UInt8),(5:UInt8),(5:UInt8),(5:UInt8),(5:UInt8),(5:UInt8),(5 : UInt8),(5:UInt8),(5:UInt8),(5:UInt8),(5:UInt8),(5:UInt8),(5:UInt8),(5:UInt8),(5:UInt8),(5:UInt8),(6:UInt8),(6:UInt8),(6:UInt8),(6:UInt8),(6 : UInt8),(6:UInt8),(6:UInt8),(6:UInt8),(6:UInt8),(6:UInt8),(6:UInt8),(6:UInt8),(6:UInt8),(6:UInt8),(6:UInt8),(6:UInt8),(6:UInt8),(6:UInt8),(6 : UInt8),(6:UInt8),(6:UInt8),(6:UInt8),(6:UInt8),(6:UInt8),(6:UInt8),(6:UInt8),(6:UInt8),(6:UInt8),(6:UInt8),(6:UInt8),(6:UInt8),(6:UInt8)] [(7 : UInt8),(7:UInt8),(7:UInt8),(7:UInt8),(7:UInt8),(7:UInt8),(7:UInt8),(7:UInt8),(7:UInt8),(7:UInt8),(7:UInt8),(7:UInt8),(7:UInt8),(7:UInt8),(7 : UInt8),(7:UInt8),(7:UInt8),(7:UInt8),(7:UInt8),(7:UInt8),(7:UInt8),(7:UInt8),(7:UInt8),(7:UInt8),(7:UInt8),(7:UInt8),(7:UInt8),(7:UInt8),(7 : UInt8),(7:UInt8),(7:UInt8),(7:UInt8),(7:UInt8),(7:UInt8),(7:UInt8),(7:UInt8),(7:UInt8),(7:UInt8),(7:UInt8),(7:UInt8),(7:UInt8),(7:UInt8),(7 : UInt8),(7:UInt8),(7:UInt8),(7:UInt8),(7:UInt8),(7:UInt8),(7:UInt8),(7:UInt8),(7:UInt8),(7:UInt8),(7:UInt8),(7:UInt8),(7:UInt8),(7:UInt8),(7 : UInt8),(7:UInt8),(7:UInt8),(7:UInt8),(7:UInt8),(7:UInt8),(7:UInt8),(7:UInt8)]) (List.append [(8:UInt8),(8:UInt8),(8:UInt8),(8:UInt8),(8:UInt8),(8 : UInt8),(8:UInt8),(8:UInt8),(8:UInt8),(8:UInt8),(8:UInt8),(8:UInt8),(8:UInt8),(8:UInt8),(8:UInt8),(8:UInt8),(8:UInt8),(8:UInt8),(8:UInt8),(8 : UInt8),(8:UInt8),(8:UInt8),(8:UInt8),(8:UInt8),(8:UInt8),(8:UInt8),(8:UInt8),(8:UInt8),(8:UInt8),(8:UInt8),(8:UInt8),(8:UInt8),(8:UInt8),(8 : UInt8),(8:UInt8),(8:UInt8),(8:UInt8),(8:UInt8),(8:UInt8),(8:UInt8),(8:UInt8),(8:UInt8),(8:UInt8),(8:UInt8),(8:UInt8),(8:UInt8),(8:UInt8),(8 : UInt8),(8:UInt8),(8:UInt8),(8:UInt8),(8:UInt8),(8:UInt8),(8:UInt8),(8:UInt8),(8:UInt8),(8:UInt8),(8:UInt8),(8:UInt8),(8:UInt8),(8:UInt8),(8 : UInt8),(8:UInt8),(8:UInt8)] [(8:UInt8),(8:UInt8),(8:UInt8),(8:UInt8),(8:UInt8),(8:UInt8),(8:UInt8),(8:UInt8),(8:UInt8),(8:UInt8),(8:UInt8),(8 : UInt8),(8:UInt8),(8:UInt8),(8:UInt8),(8:UInt8),(8:UInt8),(8:UInt8),(8:UInt8),(8:UInt8),(8:UInt8),(8:UInt8),(8:UInt8),(8:UInt8),(8:UInt8),(8 : UInt8),(8:UInt8),(8:UInt8),(8:UInt8),(8:UInt8),(8:UInt8),(8:UInt8),(8:UInt8),(8:UInt8),(8:UInt8),(8:UInt8),(8:UInt8),(8:UInt8),(8:UInt8),(8 : UInt8),(8:UInt8),(8:UInt8),(8:UInt8),(8:UInt8),(8:UInt8),(8:UInt8),(8:UInt8),(8:UInt8),(8:UInt8),(8:UInt8),(8:UInt8),(8:UInt8),(8:UInt8),(8 : UInt8),(8:UInt8),(8:UInt8),(8:UInt8),(8:UInt8),(8:UInt8),(8:UInt8),(8:UInt8),(8:UInt8),(8:UInt8),(8:UInt8)])) } v5.toNat))) else none) fun (j:Int × Int×PUnit->Option Int)=>bif decide (x.1>=65536) then bif decide ((0:Int)<=16) then j (Int.fdiv x.1 (2 ^ 16),IntKind.wrap .i64 (x.2.1+16),PUnit.unit) else none else j (x.1,x.2.1,PUnit.unit)) fun (j:Int×Int×PUnit->Option Int)=>bif decide (x0>=4294967296) then bif decide (0<=32) then j (Int.fdiv x0 (2 ^ 32),32,PUnit.unit) else none else j (x0,0,PUnit.unit)
def gG (x0:Int):Option Int:=uQ lpK jnK x0
abbrev UJ:=(Int)->Option (Int)
def OG:Ctr:=⟨[(.int .u64)],[],[],.one i64,fun x _ _=>gG x.1⟩
theorem Yz (lp:Lp) (jn:Jn):∀(x:TsS OG.as) (F:TsF OG.fs) (y:TsS OG.cs),uQ lp jn x.1=bI lp jn (cx [] [(32,r32),(92,r92),(112,bi)]) aj 4 194 f194 OG x F y:=fun x F y=>by kernel_rfl
theorem WN:OG.ok prog 194:=Ctr.of_den (ao (q32)) aF (hl:=aj) (d:=4) func194 rfl (by decide) (Yz lpK jnK)
def iB (_:Lp) (_:Jn) (gG:UJ) (x0:Int):Option Int :=
 ah (gG x0) fun (t:Int)=>some (IntKind.wrap .i64 (64 - t))
def cV (x0:Int):Option Int:=iB lpK jnK gG x0
abbrev Vq:=(Int)->Option (Int)
def Mp:Ctr:=⟨[(.int .u64)],[],[],.one i64,fun x _ _=>cV x.1⟩
theorem W0 (lp:Lp) (jn:Jn) (gG:UJ):∀(x:TsS Mp.as) (F:TsF Mp.fs) (y:TsS Mp.cs),iB lp jn gG x.1=bI lp jn (cx [(194,⟨[(.int .u64)],[],[],.one i64,fun x _ _=>gG x.1⟩)] [(32,r32),(92,r92),(112,bi)]) aj 4 193 f193 Mp x F y:=fun x F y=>by kernel_rfl
theorem U5:Mp.ok prog 193:=Ctr.of_den (ao (aa (q32) (by kernel_rfl) WN)) aF (hl:=aj) (d:=4) func193 rfl (by decide) (W0 lpK jnK gG)
def pU (lp:Lp) (jn:Jn) (cV:Vq) (x0:Int) (x1:Int) (x2:Int):Option (Int×Int×Unit) :=
 
 let v5:Bool:=nzB x2;
 let v6:Int:=2 ^ 32;
 let v7:Bool:=decide ((0:Int)<=32);jn PUnit (Int×Int×PUnit) (fun (_:PUnit)=>jn PUnit (Int×Int×PUnit) (fun (_:PUnit)=>bif decide (x0=0) then bif v5 then bif v5 then some (IntKind.wrap .u64 (Int.tdiv x1 x2),Int.tmod x1 x2,PUnit.unit) else none else none else ah (cV x2) fun (t:Int) =>
 let v11:Int:=IntKind.wrap .u64 t;
 let v12:Bool:=decide (0<=v11);
 let v13:Int:=2 ^ min v11.toNat 64;
 let v14:Int:=IntKind.wrap .u64 (x2*v13);
 let v15:Int:=IntKind.wrap .u64 (x1*v13);
 let v16:Int:=Int.fdiv v14 v6;
 let v17:Int:=Int.fdiv v15 v6;
 let v18:Bool:=nzB v16;
 let v19:Int:=IntKind.wrap .u64 (↑(Nat.land (Int.toNat (v15 % Int.ofNat 18446744073709551616)) (Int.toNat (4294967295 % Int.ofNat 18446744073709551616))) : Int);
 let v20:Int:=IntKind.wrap .u64 (↑(Nat.land (Int.toNat (v14 % Int.ofNat 18446744073709551616)) (Int.toNat (4294967295 % Int.ofNat 18446744073709551616))) : Int);
 let v21:Int:=IntKind.wrap .u64 (↑(Nat.lor (Int.toNat (IntKind.wrap .u64 (x0*v13) % Int.ofNat 18446744073709551616)) (Int.toNat (Int.fdiv x1 (2 ^ min (Int.toNat (IntKind.wrap .u64 (64 - v11))) 64) % Int.ofNat 18446744073709551616))):Int);
 let v22:Int:=IntKind.wrap .u64 (Int.tdiv v21 v16);bif v12 then bif v7 then bif v12 then bif decide (0<=IntKind.wrap .u64 (64 - v11)) then bif v12 then bif v7 then bif v18 then jn (Int×PUnit) (Int×Int×PUnit) (fun (x:Int×PUnit) =>
 let v24:Int:=IntKind.wrap .u64 (IntKind.wrap .u64 (IntKind.wrap .u64 (v21*4294967296)+v17) - IntKind.wrap .u64 (x.1*v14));
 let v25:Int:=IntKind.wrap .u64 (Int.tdiv v24 v16);bif v18 then jn (Int×PUnit) (Int×Int×PUnit) (fun (x_1:Int×PUnit)=>bif v12 then some (IntKind.wrap .u64 (IntKind.wrap .u64 (x.1*4294967296)+x_1.1),Int.fdiv (IntKind.wrap .u64 (IntKind.wrap .u64 (IntKind.wrap .u64 (v24*4294967296) + v19) - IntKind.wrap .u64 (x_1.1*v14))) v13,PUnit.unit) else none) fun (j:Int×PUnit->Option (Int×Int×PUnit))=>lp (Int×Int×PUnit) (Int×Int×PUnit) (fun (again:Int×Int×PUnit->Option (Int×Int×PUnit)) (x:Int×Int×PUnit) =>
 let v29:Int×PUnit:=(IntKind.wrap .u64 (x.2.1 - 1),PUnit.unit);
 let v30:Bool:=decide (x.2.1>=4294967296);
 let v31:Bool:=!v30;
 let v32:Bool:=!v31||v31;
 let v33:Bool:=v32&&v32;bif v33 then bif v32 then bif v33 then bif v33 then bif v30||v31 then bif bif v30 then true else decide (IntKind.wrap .u64 (x.2.1*v20) > IntKind.wrap .u64 (IntKind.wrap .u64 (4294967296*x.1)+v19)) then bif decide (IntKind.wrap .u64 (x.1+v16)>=4294967296) then j v29 else again (IntKind.wrap .u64 (x.1+v16),v29) else j (x.2.1,PUnit.unit) else none else none else none else none else none) (IntKind.wrap .u64 (v24 - IntKind.wrap IntKind.u64 (v25*v16)),v25,PUnit.unit) else none) fun (j:Int×PUnit->Option (Int×Int×PUnit))=>lp (Int×Int×PUnit) (Int×Int×PUnit) (fun (again:Int×Int×PUnit -> Option (Int×Int×PUnit)) (x:Int×Int×PUnit) =>
 let v26:Int:=IntKind.wrap .u64 (x.1 - 1);
 let v27:Bool:=decide (x.1>=4294967296);
 let v28:Bool:=!v27;
 let v29:Bool:=!v28||v28;
 let v30:Bool:=v29&&v29;bif v30 then bif v29 then bif v30 then bif v30 then bif v27||v28 then bif bif v27 then true else decide (IntKind.wrap .u64 (x.1*v20) > IntKind.wrap .u64 (IntKind.wrap .u64 (4294967296*x.2.1)+v17)) then bif decide (IntKind.wrap .u64 (x.2.1+v16)>=4294967296) then j (v26,PUnit.unit) else again (v26,IntKind.wrap .u64 (x.2.1+v16),PUnit.unit) else j (x.1,PUnit.unit) else none else none else none else none else none) (v22, IntKind.wrap .u64 (v21 - IntKind.wrap .u64 (v22*v16)),PUnit.unit) else none else none else none else none else none else none else none) fun (j:PUnit->Option (Int × Int×PUnit))=>bif decide (x2<=x0) then none else j PUnit.unit) fun (j:PUnit->Option (Int×Int×PUnit))=>bif decide (x2=0) then none else j PUnit.unit
def bS (x0:Int) (x1:Int) (x2:Int):Option (Int×Int×Unit):=pU lpK jnK cV x0 x1 x2
abbrev F5:=(Int)->(Int)->(Int)->Option (Int×Int×Unit)
def Q3 (bS:F5):Ctr:=⟨[(.int .u64),(.int .u64),(.int .u64)],[],[],.tup [(.int .u64),(.int .u64)],fun x _ _=>bS x.1 x.2.1 x.2.2.1⟩
def M3:Ctr:=Q3 bS
theorem X5 (lp:Lp) (jn:Jn) (cV:Vq):∀(x:TsS M3.as) (F:TsF M3.fs) (y:TsS M3.cs),pU lp jn cV x.1 x.2.1 x.2.2.1=bI lp jn (cx [(193,⟨[(.int .u64)],[],[],.one i64,fun x _ _=>cV x.1⟩)] [(32,r32),(92,r92),(112,bi)]) aj 4 185 f185 M3 x F y:=fun x F y=>by kernel_rfl
theorem K5:M3.ok prog 185:=Ctr.of_den (ao (aa (q32) (by kernel_rfl) U5)) aF (hl:=aj) (d:=4) func185 rfl (by decide) (X5 lpK jnK cV)
def ig (_:Lp) (_:Jn) (bS:F5) (x0:Bool×Int×Int) (x1:Int):Option Int :=
 ah (bS x0.2.1 x0.2.2 (IntKind.wrap .u64 x1)) fun (t:Int×Int×PUnit) =>
 let v5:Int:=IntKind.wrap .i64 t.1;bif x0.1 then some (IntKind.wrap .i64 (0 - v5)) else some v5
def ca (x0:Bool×Int×Int) (x1:Int):Option Int:=ig lpK jnK bS x0 x1
abbrev UQ:=(Bool×Int×Int)->(Int)->Option (Int)
def Mg:Ctr:=⟨[vk,i64],[],[],.one i64,fun x _ _=>ca x.1 x.2.1⟩
theorem YB (lp:Lp) (jn:Jn) (bS:F5):∀(x:TsS Mg.as) (F:TsF Mg.fs) (y:TsS Mg.cs),ig lp jn bS x.1 x.2.1=bI lp jn (cx [(185,Q3 bS)] [(32,r32),(92,r92),(112,bi)]) aj 4 178 f178 Mg x F y:=fun x F y=>by kernel_rfl
theorem Ws:Mg.ok prog 178:=Ctr.of_den (ao (aa (q32) (by kernel_rfl) K5)) aF (hl:=aj) (d:=4) func178 rfl (by decide) (YB lpK jnK bS)
def iG (lp:Lp) (_:Jn) (bL:O7) (bJ:SX) (ca:UQ) (x0:List Nat×List (Option (List Int))) (x1:Int) (x2:List Int) (x3:List Int) (x4:List Int) (x5:Int) (x6:Int) (x7:Int) (x8:Int):Option ((List Nat×List (Option (List Int)))×Int×(List Int)×(List Int)×(List Int)×Int×Int×Unit) :=
 
 let v11:List Int×List Int×List Int×Int×Int×PUnit:=(x2.set x7.toNat x8,x3,x4,x5,x6,PUnit.unit);bif inB x7 x0.1.length then bif Nat.ble (Nat.succ x7.toNat) x0.1.length then bif inB x8 (List.length (bq x0.2 (x0.1.getD x7.toNat 0))) then bif Nat.ble (Nat.succ x8.toNat) (List.length (bq x0.2 (x0.1.getD x7.toNat 0))) then lp (Int×(List Nat×List (Option (List Int)))×PUnit) ((List Nat×List (Option (List Int)))×Int×List Int×List Int×List Int×Int×Int×PUnit) (fun (again:Int×(List Nat×List (Option (List Int)))×PUnit->Option ((List Nat×List (Option (List Int)))×Int×List Int×List Int×List Int×Int×Int×PUnit)) (x:Int×(List Nat×List (Option (List Int)))×PUnit) =>
 let v14:Int:=IntKind.wrap .i64 (x.1+1);
 let v15:(List Nat×List (Option (List Int)))×PUnit:=(x.2.1,PUnit.unit);
 let v16:Int×(List Nat×List (Option (List Int)))×PUnit:=(0,v15);bif decide (x.1<(↑x0.1.length:Int)) then bif inB x.1 x.2.1.1.length then bif Nat.ble (Nat.succ x.1.toNat) x.2.1.1.length then bif decide (x.1=x7) then again (v14,v15) else bif inB x8 (List.length (bq x.2.1.2 (x.2.1.1.getD x.1.toNat 0))) then bif Nat.ble (Nat.succ x8.toNat) (List.length (bq x.2.1.2 (x.2.1.1.getD x.1.toNat 0))) then bif fE x.2.1.2 (x.2.1.1.getD x.1.toNat 0) then lp (Int×(List Nat×List (Option (List Int)))×PUnit) ((List Nat×List (Option (List Int)))×Int × List Int×List Int×List Int×Int×Int×PUnit) (fun (again_1:Int×(List Nat×List (Option (List Int)))×PUnit->Option ((List Nat×List (Option (List Int)))×Int×List Int × List Int×List Int×Int×Int×PUnit)) (x_1:Int×(List Nat×List (Option (List Int)))×PUnit)=>bif decide (x_1.1<(↑(List.length (bq x.2.1.2 (x.2.1.1.getD x.1.toNat 0))):Int)) then bif inB x_1.1 (List.length (bq x_1.2.1.2 (x.2.1.1.getD x.1.toNat 0))) then bif Nat.ble (Nat.succ x_1.1.toNat) (List.length (bq x_1.2.1.2 (x.2.1.1.getD x.1.toNat 0))) then ah (bL (List.getD (bq x_1.2.1.2 (x.2.1.1.getD x.1.toNat 0)) x_1.1.toNat 0) (List.getD (bq x0.2 (x0.1.getD x7.toNat 0)) x8.toNat 0)) fun (t:Bool×Int×Int)=>bif inB x7 x_1.2.1.1.length then bif Nat.ble (Nat.succ x7.toNat) x_1.2.1.1.length then bif inB x_1.1 (List.length (bq x_1.2.1.2 (x_1.2.1.1.getD x7.toNat 0))) then bif Nat.ble (Nat.succ x_1.1.toNat) (List.length (bq x_1.2.1.2 (x_1.2.1.1.getD x7.toNat 0))) then ah (bL (List.getD (bq x.2.1.2 (x.2.1.1.getD x.1.toNat 0)) x8.toNat 0) (List.getD (bq x_1.2.1.2 (x_1.2.1.1.getD x7.toNat 0)) x_1.1.toNat 0)) fun (t_1:Bool×Int×Int)=>ah (bJ t t_1) fun (t:Bool × Int×Int)=>ah (ca t x1) fun (t:Int)=>bif inB x_1.1 (List.length (bq x_1.2.1.2 (x.2.1.1.getD x.1.toNat 0))) then bif Nat.ble (Nat.succ x_1.1.toNat) (List.length (bq x_1.2.1.2 (x.2.1.1.getD x.1.toNat 0))) then again_1 (IntKind.wrap .i64 (x_1.1+(1 : Int)),(x_1.2.1.1,x_1.2.1.2.set (x.2.1.1.getD x.1.toNat 0) (some (List.set (bq x_1.2.1.2 (x.2.1.1.getD x.1.toNat 0)) x_1.1.toNat t))),PUnit.unit) else none else none else none else none else none else none else none else none else again (v14,x_1.2.1,PUnit.unit)) v16 else none else none else none else none else none else bif inB x7 x2.length then bif Nat.ble (Nat.succ x7.toNat) x2.length then bif decide (List.getD (bq x0.2 (x0.1.getD x7.toNat 0)) x8.toNat 0<0) then lp (Int×(List Nat×List (Option (List Int)))×PUnit) ((List Nat×List (Option (List Int))) × Int×List Int×List Int×List Int×Int×Int×PUnit) (fun (again:Int×(List Nat×List (Option (List Int)))×PUnit->Option ((List Nat×List (Option (List Int)))×Int×List Int×List Int×List Int×Int×Int×PUnit)) (x_1:Int×(List Nat×List (Option (List Int)))×PUnit)=>bif decide (x_1.1<(↑x.2.1.1.length:Int)) then bif inB x_1.1 x_1.2.1.1.length then bif Nat.ble (Nat.succ x_1.1.toNat) x_1.2.1.1.length then bif fE x_1.2.1.2 (x_1.2.1.1.getD x_1.1.toNat 0) then lp (Int×(List Nat×List (Option (List Int)))×PUnit) ((List Nat×List (Option (List Int)))×Int×List Int×List Int×List Int×Int×Int×PUnit) (fun (again_1:Int×(List Nat×List (Option (List Int)))×PUnit->Option ((List Nat×List (Option (List Int)))×Int×List Int×List Int×List Int×Int×Int×PUnit)) (x:Int × (List Nat×List (Option (List Int)))×PUnit)=>bif decide (x.1<(↑(List.length (bq x_1.2.1.2 (x_1.2.1.1.getD x_1.1.toNat 0))):Int)) then bif inB x.1 (List.length (bq x.2.1.2 (x_1.2.1.1.getD x_1.1.toNat 0))) then bif Nat.ble (Nat.succ x.1.toNat) (List.length (bq x.2.1.2 (x_1.2.1.1.getD x_1.1.toNat 0))) then bif inB x.1 (List.length (bq x.2.1.2 (x_1.2.1.1.getD x_1.1.toNat 0))) then bif Nat.ble (Nat.succ x.1.toNat) (List.length (bq x.2.1.2 (x_1.2.1.1.getD x_1.1.toNat 0))) then again_1 (IntKind.wrap .i64 (x.1+(1 : Int)),(x.2.1.1,x.2.1.2.set (x_1.2.1.1.getD x_1.1.toNat 0) (some (List.set (bq x.2.1.2 (x_1.2.1.1.getD x_1.1.toNat 0)) x.1.toNat (IntKind.wrap .i64 (0 - List.getD (bq x.2.1.2 (x_1.2.1.1.getD x_1.1.toNat 0)) x.1.toNat 0))))),PUnit.unit) else none else none else none else none else again (IntKind.wrap .i64 (x_1.1+1),x.2.1,PUnit.unit)) (0,x_1.2.1, PUnit.unit) else none else none else none else some (x_1.2.1,IntKind.wrap .i64 (0 - List.getD (bq x0.2 (x0.1.getD x7.toNat 0)) x8.toNat 0),v11)) v16 else some (x.2.1,List.getD (bq x0.2 (x0.1.getD x7.toNat 0)) x8.toNat 0,v11) else none else none) (0,x0, PUnit.unit) else none else none else none else none
def aJ (x0:List Nat×List (Option (List Int))) (x1:Int) (x2:List Int) (x3:List Int) (x4:List Int) (x5:Int) (x6:Int) (x7:Int) (x8:Int):Option ((List Nat×List (Option (List Int)))×Int×(List Int)×(List Int)×(List Int)×Int×Int×Unit):=iG lpK jnK bL bJ ca x0 x1 x2 x3 x4 x5 x6 x7 x8
abbrev Ni:=(List Nat×List (Option (List Int)))->(Int)->(List Int)->(List Int)->(List Int)->(Int)->(Int)->(Int)->(Int)->Option ((List Nat×List (Option (List Int)))×Int×(List Int)×(List Int)×(List Int)×Int×Int×Unit)
def Tf (aJ:Ni):SCtr:=⟨[.b [.x (.tab 79 .ref 3 i64),.d i64,.row 3 i64,.row 3 i64,.row 3 i64,.d i64,.d i64],.d i64,.d i64],[],fun x=>aJ x.1 x.2.1 x.2.2.1 x.2.2.2.1 x.2.2.2.2.1 x.2.2.2.2.2.1 x.2.2.2.2.2.2.1 x.2.2.2.2.2.2.2.1 x.2.2.2.2.2.2.2.2.1⟩
def Tx:SCtr:=Tf aJ
theorem Xu (lp:Lp) (jn:Jn) (bL:O7) (bJ:SX) (ca:UQ):∀x:TsR (rhI 0 Tx.ks),iG lp jn bL bJ ca x.1 x.2.1 x.2.2.1 x.2.2.2.1 x.2.2.2.2.1 x.2.2.2.2.2.1 x.2.2.2.2.2.2.1 x.2.2.2.2.2.2.2.1 x.2.2.2.2.2.2.2.2.1=Nu lp jn (Dn.look []) (cx [(178,⟨[vk,i64],[],[],.one i64,fun x _ _=>ca x.1 x.2.1⟩),(177,U4 bJ),(176,S2 bL)] [(32,r32),(92,r92),(112,bi)]) aj 4 149 f149 Tx x:=fun x=>by kernel_rfl
theorem Sw:Tx.ok prog 149:=SCtr.of_den (ao (aa (aa (aa (q32) (by kernel_rfl) Su) (by kernel_rfl) U8) (by kernel_rfl) Ws)) aF (rM) (hl:=aj) (d:=4) func149 rfl (by decide) (Xu lpK jnK bL bJ ca)
def iz (_:Lp) (_:Jn) (ay:MQ) (x0:Bool×Int×Int) (x1:Bool×Int×Int):Option Int :=
 
 let v4:Bool:=!decide (x0.1=x1.1);
 let v5:Bool:=!v4||v4;bif v5 then bif v5 then bif bif v4 then x0.1 else false then some (-1) else bif v4 then some 1 else bif x0.1 then ah (ay x1 x0) fun (t:Int)=>some t else ah (ay x0 x1) fun (t:Int)=>some t else none else none
def cN (x0:Bool×Int×Int) (x1:Bool×Int×Int):Option Int:=iz lpK jnK ay x0 x1
abbrev Um:=(Bool×Int×Int)->(Bool×Int×Int)->Option (Int)
def Ow:Ctr:=⟨[vk,vk],[],[],.one i64,fun x _ _=>cN x.1 x.2.1⟩
theorem Xp (lp:Lp) (jn:Jn) (ay:MQ):∀(x:TsS Ow.as) (F:TsF Ow.fs) (y:TsS Ow.cs),iz lp jn ay x.1 x.2.1=bI lp jn (cx [(192,Tm ay)] [(32,r32),(92,r92),(112,bi)]) aj 4 179 f179 Ow x F y:=fun x F y=>by kernel_rfl
theorem U7:Ow.ok prog 179:=Ctr.of_den (ao (aa (q32) (by kernel_rfl) SA)) aF (hl:=aj) (d:=4) func179 rfl (by decide) (Xp lpK jnK ay)
def gU (lp:Lp) (_:Jn) (bL:O7) (cN:Um) (x0:(List (List Int))×Int×(List Int)×(List Int)×(List Int)×Int×Int) (x1:Int):Option Int :=
 lp (Int×Int×PUnit) Int (fun (again:Int×Int×PUnit->Option Int) (x:Int×Int×PUnit) =>
 let v6:Int×PUnit:=(IntKind.wrap .i64 (x.2.1+1),PUnit.unit);
 let v7:Bool:=inB x.1 x0.1.length;
 let v8:List Int:=x0.1.getD x.1.toNat [];
 let v9:List Int:=x0.1.getD x.2.1.toNat [];
 let v10:Bool:=inB x1 v9.length;bif decide (x.2.1<(↑x0.1.length:Int)) then bif inB x.2.1 x0.1.length then bif v10 then bif decide (v9.getD x1.toNat 0<=0) then again (x.1,v6) else bif decide (x.1<0) then again (x.2.1,v6) else bif inB x0.2.2.2.2.2.2 v9.length then bif v7 then bif inB x1 v8.length then ah (bL (v9.getD x0.2.2.2.2.2.2.toNat 0) (v8.getD x1.toNat 0)) fun (t:Bool × Int×Int)=>bif v7 then bif inB x0.2.2.2.2.2.2 v8.length then bif v10 then ah (bL (v8.getD x0.2.2.2.2.2.2.toNat 0) (v9.getD x1.toNat 0)) fun (t_1:Bool×Int×Int)=>ah (cN t t_1) fun (t:Int) =>
 let v14:Bool:=decide (t=0);
 let v15:Bool:=decide (t<0);
 let v16:Bool:=!v15;
 let v17:Bool:=!v16;
 let v18:Bool:=v16&&v14;
 let v19:Bool:=!v18;
 let v20:Bool:=v17||v16;
 let v21:Bool:=v19||v18;bif v20 then bif v20 then bif v21 then bif v21 then bif v21 then bif v21&&(v21&&(v19||inB x.2.1 x0.2.2.1.length)) then bif v21 then bif v21 then bif v21 then bif v21 then bif v21&&(v21&&(v19||inB x.1 x0.2.2.1.length)) then bif v21 then bif v21&&v21 then bif (v17||v20)&&(v17||(!v14 || (v17||v18))) then bif v15||v16 then bif bif v15 then true else bif v14 then decide (x0.2.2.1.getD x.2.1.toNat 0<x0.2.2.1.getD x.1.toNat 0) else false then again (x.2.1,v6) else again (x.1,v6) else none else none else none else none else none else none else none else none else none else none else none else none else none else none else none else none else none else none else none else none else none else none else none else some x.1) ((-1),0,PUnit.unit)
def aE (x0:(List (List Int))×Int×(List Int)×(List Int)×(List Int)×Int×Int) (x1:Int):Option Int:=gU lpK jnK bL cN x0 x1
abbrev O4:=((List (List Int))×Int×(List Int)×(List Int)×(List Int)×Int×Int)->(Int)->Option (Int)
def TN (aE:O4):PCtr:=⟨Js,[i64],.one i64,fun x y=>aE x y.1⟩
def Qu:PCtr:=TN aE
theorem Ya (lp:Lp) (jn:Jn) (bL:O7) (cN:Um):∀(x:Qu.s.T) (y:TsS Qu.as),gU lp jn bL cN x y.1=GX lp jn (cx [(179,⟨[vk,vk],[],[],.one i64,fun x _ _=>cN x.1 x.2.1⟩),(176,S2 bL)] [(32,r32),(92,r92),(112,bi)]) aj 4 150 f150 Qu x y:=fun x y=>by kernel_rfl
theorem Sf:Qu.ok prog 150:=PCtr.of_den (ao (aa (aa (q32) (by kernel_rfl) Su) (by kernel_rfl) U7)) aF (hl:=aj) (d:=4) func150 rfl (by decide) (Ya lpK jnK bL cN)
def iC (lp:Lp) (_:Jn) (aJ:Ni) (aw:Ou) (aE:O4) (x0:List Nat×List (Option (List Int))) (x1:Int) (x2:List Int) (x3:List Int) (x4:List Int) (x5:Int) (x6:Int):Option ((List Nat×List (Option (List Int)))×Int×(List Int)×(List Int)×(List Int)×Int×Int×Bool×Unit) :=
 lp ((List Nat×List (Option (List Int)))×Int×List Int×List Int×List Int×Int×Int×PUnit) ((List Nat×List (Option (List Int)))×Int×List Int×List Int×List Int×Int × Int×Bool×PUnit) (fun (again:(List Nat×List (Option (List Int)))×Int×List Int×List Int×List Int×Int×Int×PUnit->Option ((List Nat×List (Option (List Int)))×Int × List Int×List Int×List Int×Int×Int×Bool×PUnit)) (x:(List Nat×List (Option (List Int)))×Int×List Int×List Int×List Int×Int×Int×PUnit)=>lp (Int×Int × PUnit) ((List Nat×List (Option (List Int)))×Int×List Int×List Int×List Int×Int×Int×Bool×PUnit) (fun (again_1:Int×Int×PUnit->Option ((List Nat×List (Option (List Int)))×Int×List Int×List Int×List Int×Int×Int×Bool×PUnit)) (x_1:Int×Int×PUnit) =>
 let v13:Bool:=decide (x_1.1<0);
 let v14:Int×PUnit:=(IntKind.wrap .i64 (x_1.2.1+1),PUnit.unit);
 let v15:Bool:=decide (x_1.2.1<x.2.2.2.2.2.1);
 let v16:Bool:=!v15||v15;bif v16 then bif v16 then bif bif v15 then v13 else false then ah (bif List.all x.1.1 fun (x_2:Nat)=>fE x.1.2 x_2 then aw (List.map (fun (x_2:Nat)=>bq x.1.2 x_2) x.1.1,x.2.1,x.2.2.1,x.2.2.2.1,x.2.2.2.2.1,x.2.2.2.2.2.1, x.2.2.2.2.2.2.1) x_1.2.1 else none) fun (t:Int)=>bif decide (t>0) then again_1 (x_1.2.1,v14) else again_1 (x_1.1,v14) else bif v13 then ah (bif List.all x.1.1 fun (x_2:Nat)=>fE x.1.2 x_2 then aw (List.map (fun (x_2:Nat)=>bq x.1.2 x_2) x.1.1,x.2.1,x.2.2.1, x.2.2.2.1,x.2.2.2.2.1,x.2.2.2.2.2.1,x.2.2.2.2.2.2.1) x.2.2.2.2.2.2.1 else none) fun (t:Int)=>bif decide (t>0) then some (x.1,x.2.1,x.2.2.1,x.2.2.2.1,x.2.2.2.2.1,x.2.2.2.2.2.1,x.2.2.2.2.2.2.1,false,PUnit.unit) else lp (Int×(List Nat×List (Option (List Int)))×Int×List Int×List Int×List Int×Int×Int×PUnit) ((List Nat×List (Option (List Int)))×Int×List Int×List Int×List Int×Int×Int × Bool×PUnit) (fun (again:Int×(List Nat×List (Option (List Int)))×Int×List Int×List Int×List Int×Int×Int×PUnit->Option ((List Nat×List (Option (List Int)))×Int × List Int×List Int×List Int×Int×Int×Bool×PUnit)) (x_2:Int×(List Nat×List (Option (List Int)))×Int×List Int×List Int×List Int×Int×Int×PUnit)=>bif decide (x_2.1<(↑x.1.1.length:Int)) then lp (Int×(List Nat×List (Option (List Int)))×Int×List Int×List Int×List Int×Int×Int×PUnit) ((List Nat×List (Option (List Int)))×Int×List Int×List Int×List Int×Int×Int×Bool×PUnit) (fun (again_2:Int×(List Nat×List (Option (List Int)))×Int×List Int×List Int×List Int×Int×Int×PUnit->Option ((List Nat×List (Option (List Int)))×Int×List Int×List Int×List Int×Int×Int×Bool×PUnit)) (x:Int×(List Nat×List (Option (List Int)))×Int×List Int×List Int×List Int×Int×Int×PUnit) =>
 let v22:Int:=IntKind.wrap .i64 (x.1+1);
 let v23:Bool:=decide (x.1<x.2.2.2.2.2.2.1);
 let v24:Bool:=!v23;
 let v25:Bool:=v24||v23;
 let v26:(List Nat×List (Option (List Int)))×Int×List Int×List Int×List Int×Int×Int×PUnit:=(x.2.1,x.2.2.1,x.2.2.2.1,x.2.2.2.2.1, x.2.2.2.2.2.1,x.2.2.2.2.2.2.1,x.2.2.2.2.2.2.2.1,PUnit.unit);bif v25 then bif v25 then bif v25 then bif v25&&(v25&&(v24||inB x_2.1 x.2.2.2.1.length)) then bif v25&&(v24||Nat.ble (Nat.succ x_2.1.toNat) x.2.2.2.1.length) then bif v25 then bif v25 then bif v25 then bif v25 && v25 then bif v25 then bif bif v23 then decide (x.2.2.2.1.getD x_2.1.toNat 0>=x.2.2.2.2.2.2.1) else false then bif inB x_2.1 x.2.1.1.length then bif Nat.ble (Nat.succ x_2.1.toNat) x.2.1.1.length then bif inB x.1 (List.length (bq x.2.1.2 (x.2.1.1.getD x_2.1.toNat 0))) then bif Nat.ble (Nat.succ x.1.toNat) (List.length (bq x.2.1.2 (x.2.1.1.getD x_2.1.toNat 0))) then bif !decide (List.getD (bq x.2.1.2 (x.2.1.1.getD x_2.1.toNat 0)) x.1.toNat 0=0) then ah (aJ x.2.1 x.2.2.1 x.2.2.2.1 x.2.2.2.2.1 x.2.2.2.2.2.1 x.2.2.2.2.2.2.1 x.2.2.2.2.2.2.2.1 x_2.1 x.1) fun (y:(List Nat×List (Option (List Int)))×Int×List Int×List Int×List Int×Int×Int×PUnit)=>again_2 (v22,y.1,y.2.1,y.2.2.1,y.2.2.2.1,y.2.2.2.2.1,y.2.2.2.2.2.1, y.2.2.2.2.2.2.1,PUnit.unit) else again_2 (v22,v26) else none else none else none else none else again (IntKind.wrap .i64 (x_2.1+1),v26) else none else none else none else none else none else none else none else none else none else none) (0,x_2.2.1,x_2.2.2.1,x_2.2.2.2.1,x_2.2.2.2.2.1, x_2.2.2.2.2.2.1,x_2.2.2.2.2.2.2.1,x_2.2.2.2.2.2.2.2.1,PUnit.unit) else some (x_2.2.1,x_2.2.2.1,x_2.2.2.2.1, x_2.2.2.2.2.1,x_2.2.2.2.2.2.1,x_2.2.2.2.2.2.2.1,x_2.2.2.2.2.2.2.2.1,true,PUnit.unit)) (0,x.1,x.2.1, x.2.2.1,x.2.2.2.1,x.2.2.2.2.1,x.2.2.2.2.2.1,x.2.2.2.2.2.2.1,PUnit.unit) else ah (bif List.all x.1.1 fun (x_2:Nat) => fE x.1.2 x_2 then aE (List.map (fun (x_2:Nat)=>bq x.1.2 x_2) x.1.1,x.2.1,x.2.2.1,x.2.2.2.1,x.2.2.2.2.1, x.2.2.2.2.2.1,x.2.2.2.2.2.2.1) x_1.1 else none) fun (t:Int)=>ah (aJ x.1 x.2.1 x.2.2.1 x.2.2.2.1 x.2.2.2.2.1 x.2.2.2.2.2.1 x.2.2.2.2.2.2.1 t x_1.1) fun (y:(List Nat×List (Option (List Int)))×Int×List Int×List Int×List Int×Int × Int×PUnit)=>again (y.1,y.2.1,y.2.2.1,y.2.2.2.1,y.2.2.2.2.1,y.2.2.2.2.2.1,y.2.2.2.2.2.2.1,PUnit.unit) else none else none) ((-1),0,PUnit.unit)) (x0,x1,x2,x3,x4,x5,x6,PUnit.unit)
def aU (x0:List Nat×List (Option (List Int))) (x1:Int) (x2:List Int) (x3:List Int) (x4:List Int) (x5:Int) (x6:Int):Option ((List Nat×List (Option (List Int)))×Int×(List Int)×(List Int)×(List Int)×Int×Int×Bool×Unit):=iC lpK jnK aJ aw aE x0 x1 x2 x3 x4 x5 x6
abbrev NK:=(List Nat×List (Option (List Int)))->(Int)->(List Int)->(List Int)->(List Int)->(Int)->(Int)->Option ((List Nat×List (Option (List Int)))×Int×(List Int)×(List Int)×(List Int)×Int×Int×Bool×Unit)
def TV (aU:NK):SCtr:=⟨[.b [.x (.tab 79 .ref 3 i64),.d i64,.row 3 i64,.row 3 i64,.row 3 i64,.d i64,.d i64]],[(false,[.d .bool])],fun x=>aU x.1 x.2.1 x.2.2.1 x.2.2.2.1 x.2.2.2.2.1 x.2.2.2.2.2.1 x.2.2.2.2.2.2.1⟩
def TY:SCtr:=TV aU
theorem Y5 (lp:Lp) (jn:Jn) (aJ:Ni) (aw:Ou) (aE:O4):∀x:TsR (rhI 0 TY.ks),iC lp jn aJ aw aE x.1 x.2.1 x.2.2.1 x.2.2.2.1 x.2.2.2.2.1 x.2.2.2.2.2.1 x.2.2.2.2.2.2.1=Nu lp jn (Dn.look [(149,Tf aJ)]) (yN Au Ap (Gx [(150,TN aE),(106,SP aw)] [] (jv prog shs tX its [] [(32,r32),(92,r92),(112,bi)]))) aj 4 102 f102 TY x:=fun x=>by kernel_rfl
theorem R8:TY.ok prog 102:=SCtr.of_den (ao (sP (q32) (je (by kernel_rfl) Sf (je (by kernel_rfl) Sa (pr))) (pq))) aF (oU Sw (rM)) (hl:=aj) (d:=4) func102 rfl (by decide) (Y5 lpK jnK aJ aw aE)
def iV (_:Lp) (_:Jn) (x0:(List (List Int))×Int×(List Int)×(List Int)×(List Int)×Int×Int) (x1:Int):Option Int :=
 bif decide (x1<(↑x0.2.2.2.2.1.length:Int)) then bif inB x1 x0.2.2.2.2.1.length then some (x0.2.2.2.2.1.getD x1.toNat 0) else none else some 0
def aL (x0:(List (List Int))×Int×(List Int)×(List Int)×(List Int)×Int×Int) (x1:Int):Option Int:=iV lpK jnK x0 x1
abbrev Pf:=((List (List Int))×Int×(List Int)×(List Int)×(List Int)×Int×Int)->(Int)->Option (Int)
def S8 (aL:Pf):PCtr:=⟨Js,[i64],.one i64,fun x y=>aL x y.1⟩
def QE:PCtr:=S8 aL
theorem Xn (lp:Lp) (jn:Jn):∀(x:QE.s.T) (y:TsS QE.as),iV lp jn x y.1=GX lp jn (cx [] [(32,r32),(92,r92),(112,bi)]) aj 4 104 f104 QE x y:=fun x y=>by kernel_rfl
theorem Sd:QE.ok prog 104:=PCtr.of_den (ao (q32)) aF (hl:=aj) (d:=4) func104 rfl (by decide) (Xn lpK jnK)
def gV (lp:Lp) (_:Jn) (aL:Pf) (x0:(List (List Int))×Int×(List Int)×(List Int)×(List Int)×Int×Int) (x1:Int):Option Int :=
 ah (aL x0 x1) fun (t:Int)=>lp (Int×Int×PUnit) Int (fun (again:Int×Int×PUnit->Option Int) (x:Int×Int×PUnit) =>
 let v7:List Int:=x0.1.getD x.2.1.toNat [];bif decide (x.2.1<(↑x0.1.length:Int)) then bif inB x.2.1 x0.1.length then bif inB x.2.1 x0.2.2.1.length then ah (aL x0 (x0.2.2.1.getD x.2.1.toNat 0)) fun (t:Int)=>bif inB x1 v7.length then again (IntKind.wrap .i64 (x.1 - IntKind.wrap .i64 (t*v7.getD x1.toNat 0)),IntKind.wrap .i64 (x.2.1+1),PUnit.unit) else none else none else none else some x.1) (IntKind.wrap .i64 (t*x0.2.1),0,PUnit.unit)
def bQ (x0:(List (List Int))×Int×(List Int)×(List Int)×(List Int)×Int×Int) (x1:Int):Option Int:=gV lpK jnK aL x0 x1
abbrev WE:=((List (List Int))×Int×(List Int)×(List Int)×(List Int)×Int×Int)->(Int)->Option (Int)
def Qz:PCtr:=⟨Js,[i64],.one i64,fun x y=>bQ x y.1⟩
theorem Xz (lp:Lp) (jn:Jn) (aL:Pf):∀(x:Qz.s.T) (y:TsS Qz.as),gV lp jn aL x y.1=GX lp jn (yN Au Ap (Gx [(104,S8 aL)] [] (jv prog shs tX its [] [(32,r32),(92,r92),(112,bi)]))) aj 4 151 f151 Qz x y:=fun x y=>by kernel_rfl
theorem VH:Qz.ok prog 151:=PCtr.of_den (ao (sP (q32) (je (by kernel_rfl) Sd (pr)) (pq))) aF (hl:=aj) (d:=4) func151 rfl (by decide) (Xz lpK jnK aL)
def gX (lp:Lp) (_:Jn) (aJ:Ni) (aE:O4) (bQ:WE) (x0:List Nat×List (Option (List Int))) (x1:Int) (x2:List Int) (x3:List Int) (x4:List Int) (x5:Int) (x6:Int):Option ((List Nat×List (Option (List Int)))×Int×(List Int)×(List Int)×(List Int)×Int×Int×Bool×Unit) :=
 lp ((List Nat×List (Option (List Int)))×Int×List Int×List Int×List Int×Int×Int×PUnit) ((List Nat×List (Option (List Int)))×Int×List Int×List Int×List Int×Int × Int×Bool×PUnit) (fun (again:(List Nat×List (Option (List Int)))×Int×List Int×List Int×List Int×Int×Int×PUnit->Option ((List Nat×List (Option (List Int)))×Int × List Int×List Int×List Int×Int×Int×Bool×PUnit)) (x:(List Nat×List (Option (List Int)))×Int×List Int×List Int×List Int×Int×Int×PUnit)=>lp (Int×Int × PUnit) ((List Nat×List (Option (List Int)))×Int×List Int×List Int×List Int×Int×Int×Bool×PUnit) (fun (again_1:Int×Int×PUnit->Option ((List Nat×List (Option (List Int)))×Int×List Int×List Int×List Int×Int×Int×Bool×PUnit)) (x_1:Int×Int×PUnit) =>
 let v13:Bool:=decide (x_1.1<0);
 let v14:Int×PUnit:=(IntKind.wrap .i64 (x_1.2.1+1),PUnit.unit);
 let v15:Bool:=decide (x_1.2.1<x.2.2.2.2.2.1);
 let v16:Bool:=!v15||v15;bif v16 then bif v16 then bif bif v15 then v13 else false then ah (bif List.all x.1.1 fun (x_2:Nat)=>fE x.1.2 x_2 then bQ (List.map (fun (x_2:Nat)=>bq x.1.2 x_2) x.1.1,x.2.1,x.2.2.1,x.2.2.2.1,x.2.2.2.2.1,x.2.2.2.2.2.1, x.2.2.2.2.2.2.1) x_1.2.1 else none) fun (t:Int)=>bif decide (t<0) then again_1 (x_1.2.1,v14) else again_1 (x_1.1,v14) else bif v13 then some (x.1,x.2.1,x.2.2.1,x.2.2.2.1,x.2.2.2.2.1,x.2.2.2.2.2.1,x.2.2.2.2.2.2.1,true,PUnit.unit) else ah (bif List.all x.1.1 fun (x_2:Nat)=>fE x.1.2 x_2 then aE (List.map (fun (x_2:Nat)=>bq x.1.2 x_2) x.1.1,x.2.1,x.2.2.1,x.2.2.2.1, x.2.2.2.2.1,x.2.2.2.2.2.1,x.2.2.2.2.2.2.1) x_1.1 else none) fun (t:Int)=>bif decide (t<0) then some (x.1,x.2.1, x.2.2.1,x.2.2.2.1,x.2.2.2.2.1,x.2.2.2.2.2.1,x.2.2.2.2.2.2.1,false,PUnit.unit) else ah (aJ x.1 x.2.1 x.2.2.1 x.2.2.2.1 x.2.2.2.2.1 x.2.2.2.2.2.1 x.2.2.2.2.2.2.1 t x_1.1) fun (y:(List Nat×List (Option (List Int)))×Int×List Int × List Int×List Int×Int×Int×PUnit)=>again (y.1,y.2.1,y.2.2.1,y.2.2.2.1,y.2.2.2.2.1,y.2.2.2.2.2.1,y.2.2.2.2.2.2.1, PUnit.unit) else none else none) ((-1),0,PUnit.unit)) (x0,x1,x2,x3,x4,x5,x6,PUnit.unit)
def bK (x0:List Nat×List (Option (List Int))) (x1:Int) (x2:List Int) (x3:List Int) (x4:List Int) (x5:Int) (x6:Int):Option ((List Nat×List (Option (List Int)))×Int×(List Int)×(List Int)×(List Int)×Int×Int×Bool×Unit):=gX lpK jnK aJ aE bQ x0 x1 x2 x3 x4 x5 x6
abbrev T1:=(List Nat×List (Option (List Int)))->(Int)->(List Int)->(List Int)->(List Int)->(Int)->(Int)->Option ((List Nat×List (Option (List Int)))×Int×(List Int)×(List Int)×(List Int)×Int×Int×Bool×Unit)
def WS (bK:T1):SCtr:=⟨[.b [.x (.tab 79 .ref 3 i64),.d i64,.row 3 i64,.row 3 i64,.row 3 i64,.d i64,.d i64]],[(false,[.d .bool])],fun x=>bK x.1 x.2.1 x.2.2.1 x.2.2.2.1 x.2.2.2.2.1 x.2.2.2.2.2.1 x.2.2.2.2.2.2.1⟩
def S9:SCtr:=WS bK
theorem YM (lp:Lp) (jn:Jn) (aJ:Ni) (aE:O4) (bQ:WE):∀x:TsR (rhI 0 S9.ks),gX lp jn aJ aE bQ x.1 x.2.1 x.2.2.1 x.2.2.2.1 x.2.2.2.2.1 x.2.2.2.2.2.1 x.2.2.2.2.2.2.1=Nu lp jn (Dn.look [(149,Tf aJ)]) (yN Au Ap (Gx [(151,⟨Js,[i64],.one i64,fun x y=>bQ x y.1⟩),(150,TN aE)] [] (jv prog shs tX its [] [(32,r32),(92,r92),(112,bi)]))) aj 4 103 f103 S9 x:=fun x=>by kernel_rfl
theorem WK:S9.ok prog 103:=SCtr.of_den (ao (sP (q32) (je (by kernel_rfl) VH (je (by kernel_rfl) Sf (pr))) (pq))) aF (oU Sw (rM)) (hl:=aj) (d:=4) func103 rfl (by decide) (YM lpK jnK aJ aE bQ)
def nt (_:Lp) (_:Jn) (x0:Bool) (x1:Int) (x2:Int):Option ((Int×Int)×Int×Unit) :=
 
 let v5:Int:=IntKind.wrap .i64 x1;
 let v6:Int:=IntKind.wrap .i64 x2;
 let v7:Bool:=decide (x1>1152921504606846976);
 let v8:Bool:=!v7;bif !v8||v8 then bif v7||v8 then bif bif v7 then true else decide (x2>1152921504606846976) then some ((0,0),5,PUnit.unit) else bif x0 then some ((IntKind.wrap .i64 (0 - v5),v6),0,PUnit.unit) else some ((v5,v6),0,PUnit.unit) else none else none
def bo (x0:Bool) (x1:Int) (x2:Int):Option ((Int×Int)×Int×Unit):=nt lpK jnK x0 x1 x2
abbrev t62:=(Bool)->(Int)->(Int)->Option ((Int×Int)×Int×Unit)
def k62 (bo:t62):Ctr:=⟨[.bool,(.int .u64),(.int .u64)],[],[],.tup [T47,i64],fun x _ _=>bo x.1 x.2.1 x.2.2.1⟩
def c62:Ctr:=k62 bo
theorem e62 (lp:Lp) (jn:Jn):∀(x:TsS c62.as) (F:TsF c62.fs) (y:TsS c62.cs),nt lp jn x.1 x.2.1 x.2.2.1=bI lp jn (cx [] [(32,r32),(92,r92),(112,bi)]) aj 4 62 f62 c62 x F y:=fun x F y=>by kernel_rfl
theorem SY:c62.ok prog 62:=Ctr.of_den (ao (q32)) aF (hl:=aj) (d:=4) func62 rfl (by decide) (e62 lpK jnK)
def qD (_:Lp) (_:Jn) (bE:t59) (aH:t60) (bo:t62) (x0:Int) (x1:Int):Option ((Int×Int)×Int×Unit) :=
 
 let v4:Bool:=!decide (x0=0);
 let v5:Bool:=!v4||v4;bif decide (x1=0) then some ((0,0),16,PUnit.unit) else ah (aH x0) fun (t:Int)=>ah (aH x1) fun (t_1:Int)=>ah (bE t t_1) fun (t_2:Int) =>
 let v9:Bool:=nzB t_2;bif v5 then bif v5 then bif v5&&v5 then bif v5 then bif v9 then bif v9 then ah (bo (bif v4 then !decide (decide (x0<0)=decide (x1<(0 : Int))) else false) (IntKind.wrap .u64 (Int.tdiv t t_2)) (IntKind.wrap .u64 (Int.tdiv t_1 t_2))) fun (t:(Int×Int)×Int×PUnit)=>some (t.1,t.2.1, PUnit.unit) else none else none else none else none else none else none
def dj (x0:Int) (x1:Int):Option ((Int×Int)×Int×Unit):=qD lpK jnK bE aH bo x0 x1
abbrev NM:=(Int)->(Int)->Option ((Int×Int)×Int×Unit)
def TS (dj:NM):Ctr:=⟨[i64,i64],[],[],.tup [T47,i64],fun x _ _=>dj x.1 x.2.1⟩
def NI:Ctr:=TS dj
theorem Yk (lp:Lp) (jn:Jn) (bE:t59) (aH:t60) (bo:t62):∀(x:TsS NI.as) (F:TsF NI.fs) (y:TsS NI.cs),qD lp jn bE aH bo x.1 x.2.1=bI lp jn (cx [(62,k62 bo),(60,k60 aH),(59,k59 bE)] [(32,r32),(92,r92),(112,bi)]) aj 4 114 f114 NI x F y:=fun x F y=>by kernel_rfl
theorem R5:NI.ok prog 114:=Ctr.of_den (ao (aa (aa (aa (q32) (by kernel_rfl) PZ) (by kernel_rfl) Ls) (by kernel_rfl) SY)) aF (hl:=aj) (d:=4) func114 rfl (by decide) (Yk lpK jnK bE aH bo)
def iL (_:Lp) (_:Jn) (dj:NM) (x0:(List (List Int))×Int×(List Int)×(List Int)×(List Int)×Int×Int) (x1:Int):Option (Int×Int) :=
 ah (dj x1 x0.2.1) fun (t:(Int×Int)×Int×PUnit)=>some t.1
def aM (x0:(List (List Int))×Int×(List Int)×(List Int)×(List Int)×Int×Int) (x1:Int):Option (Int×Int):=iL lpK jnK dj x0 x1
abbrev KG:=((List (List Int))×Int×(List Int)×(List Int)×(List Int)×Int×Int)->(Int)->Option (Int×Int)
def T5 (aM:KG):PCtr:=⟨Js,[i64],.one T47,fun x y=>aM x y.1⟩
def RP:PCtr:=T5 aM
theorem YL (lp:Lp) (jn:Jn) (dj:NM):∀(x:RP.s.T) (y:TsS RP.as),iL lp jn dj x y.1=GX lp jn (cx [(114,TS dj)] [(32,r32),(92,r92),(112,bi)]) aj 4 105 f105 RP x y:=fun x y=>by kernel_rfl
theorem SB:RP.ok prog 105:=PCtr.of_den (ao (aa (q32) (by kernel_rfl) R5)) aF (hl:=aj) (d:=4) func105 rfl (by decide) (YL lpK jnK dj)
def jz (lp:Lp) (jn:Jn) (bg:t99) (cz:Lv) (av:B9) (aU:NK) (bK:T1) (aL:Pf) (aM:KG) (x0:(List Int)×List ((List Int)×Int×Int)):Option (((Int×Int)×(List (Int×Int))×List (Int×Int))×Int×Unit) :=
 ah (bg x0) fun (t:Bool)=>bif !t then some (((0,0),[],[]),1,PUnit.unit) else ah (cz x0) fun (t:Bool)=>bif !t then some ((((0 : Int),0),[],[]),5,PUnit.unit) else lp (Int×Int×PUnit) (((Int×Int)×List (Int×Int)×List (Int×Int))×Int×PUnit) (fun (again:Int×Int×PUnit -> Option (((Int×Int)×List (Int×Int)×List (Int×Int))×Int×PUnit)) (x:Int×Int×PUnit) =>
 let v7:Int×PUnit:=(IntKind.wrap .i64 (x.2.1+1),PUnit.unit);
 let v8:Int:=IntKind.wrap .i64 ((↑x0.1.length:Int)+x.1);bif decide (x.2.1<(↑x0.2.length:Int)) then bif inB x.2.1 x0.2.length then bif !decide ((x0.2.getD x.2.1.toNat ([],0,0)).2.1=3) then again (IntKind.wrap .i64 (x.1+1),v7) else again (x.1, v7) else none else ah (av x0.1) fun (t:List Int)=>lp (Int×Int×(List Nat×List (Option (List Int)))×Int×List Int×List Int×List Int×Int×Int × PUnit) (((Int×Int)×List (Int×Int)×List (Int×Int))×Int×PUnit) (fun (again:Int×Int×(List Nat×List (Option (List Int)))×Int×List Int×List Int×List Int×Int × Int×PUnit->Option (((Int×Int)×List (Int×Int)×List (Int×Int))×Int×PUnit)) (x:Int×Int×(List Nat×List (Option (List Int)))×Int×List Int×List Int×List Int × Int×Int×PUnit) =>
 let v12:Int:=IntKind.wrap .i64 (x.1+1);
 let v13:List Int×Int×Int:=x0.2.getD x.2.1.toNat ([],0,0);
 let v14:List Int:=List.replicate (Int.toNat (IntKind.wrap .i64 (x.2.2.2.2.2.2.2.2.1+1))) 0;
 let v15:Bool:=inB x.1 (Int.toNat (IntKind.wrap .i64 (x.2.2.2.2.2.2.2.2.1+1)));
 let v16:Bool:=Nat.ble (Nat.succ x.1.toNat) (Int.toNat (IntKind.wrap .i64 (x.2.2.2.2.2.2.2.2.1+1)));
 let v17:Int:=IntKind.wrap .i64 (x.2.2.2.2.2.2.2.1+x.2.1);
 let v18:List Int:=List.take (Int.toNat (IntKind.wrap .i64 (x.2.2.2.2.2.2.2.2.1+1))) v13.1;
 let v19:List Int:=List.set (List.take 0 v14++v18++List.drop (0+List.length v18) v14) x.2.2.2.2.2.2.2.2.1.toNat v13.2.2;bif decide (x.2.1<(↑x0.2.length:Int)) then bif inB x.2.1 x0.2.length then bif decide (0<=IntKind.wrap .i64 (x.2.2.2.2.2.2.2.2.1+(1 : Int)))&&dM (Int.toNat (IntKind.wrap .i64 (x.2.2.2.2.2.2.2.2.1+1))) 8 then bif inB x.2.2.2.2.2.2.2.2.1 (Int.toNat (IntKind.wrap .i64 (x.2.2.2.2.2.2.2.2.1+1))) then bif Nat.ble (Nat.succ x.2.2.2.2.2.2.2.2.1.toNat) (Int.toNat (IntKind.wrap IntKind.i64 (x.2.2.2.2.2.2.2.2.1+1))) then jn (Int×List Int×PUnit) (((Int×Int)×List (Int×Int)×List (Int×Int))×Int×PUnit) (fun (x_1:Int × List Int×PUnit) =>
 let v21:List Int×PUnit:=(x_1.2.1,PUnit.unit);jn (Int×List Int×PUnit) (((Int×Int)×List (Int×Int)×List (Int×Int))×Int×PUnit) (fun (x_2:Int×List Int × PUnit)=>bif inB v17 x_2.2.1.length then bif Nat.ble (Nat.succ v17.toNat) x_2.2.1.length then bif dM (List.length x.2.2.1.1+1) (24 : Nat) then bif dM (List.length x.2.2.2.2.2.1+1) 8 then bif dM (List.length x.2.2.2.2.1+1) 8 then again (x_1.1, IntKind.wrap .i64 (x.2.1+1),(x.2.2.1.1++[List.length x.2.2.1.2+0],x.2.2.1.2++[some (x_2.2.1.set v17.toNat (1 : Int))]),x.2.2.2.1,x.2.2.2.2.1++[v17],x.2.2.2.2.2.1++[x_2.1],x.2.2.2.2.2.2.1,x.2.2.2.2.2.2.2.1, x.2.2.2.2.2.2.2.2.1,PUnit.unit) else none else none else none else none else none) fun (j:Int×List Int×PUnit->Option (((Int×Int)×List (Int×Int)×List (Int×Int))×Int×PUnit))=>bif decide (v13.2.2<0) then lp (Int×List Int×PUnit) (((Int×Int)×List (Int×Int)×List (Int×Int))×Int×PUnit) (fun (again : Int×List Int×PUnit->Option (((Int×Int)×List (Int×Int)×List (Int×Int))×Int×PUnit)) (x:Int×List Int×PUnit) =>
 let v25:Bool:=inB x.1 x.2.1.length;
 let v26:Bool:=Nat.ble (Nat.succ x.1.toNat) x.2.1.length;bif decide (x.1<(↑x_1.2.1.length:Int)) then bif v25 then bif v26 then bif v25 then bif v26 then again (IntKind.wrap .i64 (x.1+1),x.2.1.set x.1.toNat (IntKind.wrap .i64 (0 - x.2.1.getD x.1.toNat 0)), PUnit.unit) else none else none else none else none else j ((-1),x.2.1,PUnit.unit)) (0,v21) else j (1,v21)) fun (j:Int×List Int×PUnit->Option (((Int × Int)×List (Int×Int)×List (Int×Int))×Int×PUnit))=>bif decide (v13.2.1=1) then bif v15 then bif v16 then j (v12,v19.set x.1.toNat 1, PUnit.unit) else none else none else jn (Int×List Int×PUnit) (((Int×Int)×List (Int×Int)×List (Int×Int))×Int×PUnit) (fun (x:Int×List Int×PUnit)=>j (x.1, x.2.1,PUnit.unit)) fun (j:Int×List Int×PUnit->Option (((Int×Int)×List (Int×Int)×List (Int×Int))×Int×PUnit))=>bif decide (v13.2.1=2) then bif v15 then bif v16 then j (v12,v19.set x.1.toNat (-1),PUnit.unit) else none else none else j (x.1,v19,PUnit.unit) else none else none else none else none else ah (aU x.2.2.1 x.2.2.2.1 x.2.2.2.2.1 x.2.2.2.2.2.1 x.2.2.2.2.2.2.1 x.2.2.2.2.2.2.2.1 x.2.2.2.2.2.2.2.2.1) fun (y:(List Nat×List (Option (List Int)))×Int×List Int×List Int×List Int×Int×Int×Bool×PUnit)=>bif !y.2.2.2.2.2.2.2.1 then some (((0,0),[],[]),22,PUnit.unit) else ah (bK y.1 y.2.1 y.2.2.1 y.2.2.2.1 y.2.2.2.2.1 y.2.2.2.2.2.1 y.2.2.2.2.2.2.1) fun (y:(List Nat×List (Option (List Int)))×Int×List Int×List Int×List Int×Int×Int×Bool × PUnit)=>bif !y.2.2.2.2.2.2.2.1 then some (((0,0),[],[]),21,PUnit.unit) else bif decide (0<=(↑x0.1.length:Int))&&dM (Int.toNat (↑x0.1.length:Int)) 8 then lp (Int×Int×List Int×PUnit) (((Int×Int)×List (Int×Int)×List (Int×Int))×Int×PUnit) (fun (again:Int×Int × List Int×PUnit->Option (((Int×Int)×List (Int×Int)×List (Int×Int))×Int×PUnit)) (x:Int×Int×List Int×PUnit) =>
 let v24:Int:=IntKind.wrap .i64 (x.2.1+1);
 let v25:Bool:=inB x.2.1 y.1.1.length;
 let v26:Bool:=Nat.ble (Nat.succ x.2.1.toNat) y.1.1.length;
 let v27:Int:=y.2.2.1.getD x.2.1.toNat 0;bif decide (x.2.1<(↑y.2.2.1.length:Int)) then bif inB x.2.1 y.2.2.1.length then bif Nat.ble (Nat.succ x.2.1.toNat) y.2.2.1.length then ah (bif List.all y.1.1 fun (x:Nat)=>fE y.1.2 x then aL (List.map (fun (x:Nat)=>bq y.1.2 x) y.1.1,y.2.1,y.2.2.1,y.2.2.2.1,y.2.2.2.2.1,y.2.2.2.2.2.1,y.2.2.2.2.2.2.1) v27 else none) fun (t:Int)=>bif v25 then bif v26 then bif inB y.2.2.2.2.2.2.1 (List.length (bq y.1.2 (y.1.1.getD x.2.1.toNat 0))) then bif Nat.ble (Nat.succ y.2.2.2.2.2.2.1.toNat) (List.length (bq y.1.2 (y.1.1.getD x.2.1.toNat 0))) then bif decide (v27<(↑x.2.2.1.length:Int)) then bif v25 then bif v26 then bif inB y.2.2.2.2.2.2.1 (List.length (bq y.1.2 (y.1.1.getD x.2.1.toNat 0))) then bif Nat.ble (Nat.succ y.2.2.2.2.2.2.1.toNat) (List.length (bq y.1.2 (y.1.1.getD x.2.1.toNat 0))) then bif inB v27 x.2.2.1.length then bif Nat.ble (Nat.succ v27.toNat) x.2.2.1.length then again (IntKind.wrap .i64 (x.1+IntKind.wrap .i64 (t*List.getD (bq y.1.2 (y.1.1.getD x.2.1.toNat 0)) y.2.2.2.2.2.2.1.toNat 0)),v24,x.2.2.1.set v27.toNat (List.getD (bq y.1.2 (y.1.1.getD x.2.1.toNat 0)) y.2.2.2.2.2.2.1.toNat 0),PUnit.unit) else none else none else none else none else none else none else again (IntKind.wrap .i64 (x.1+IntKind.wrap .i64 (t*List.getD (bq y.1.2 (y.1.1.getD x.2.1.toNat 0)) y.2.2.2.2.2.2.1.toNat 0)),v24,x.2.2.1,PUnit.unit) else none else none else none else none else none else none else ah (bif List.all y.1.1 fun (x:Nat) =>fE y.1.2 x then aM (List.map (fun (x:Nat)=>bq y.1.2 x) y.1.1,y.2.1,y.2.2.1,y.2.2.2.1,y.2.2.2.2.1, y.2.2.2.2.2.1,y.2.2.2.2.2.2.1) x.1 else none) fun (t:Int×Int)=>lp (Int×(Int×Int)×List (Int×Int)×List (Int×Int)×PUnit) (((Int×Int) × List (Int×Int)×List (Int×Int))×Int×PUnit) (fun (again:Int×(Int×Int)×List (Int×Int)×List (Int×Int)×PUnit->Option (((Int×Int)×List (Int×Int)×List (Int × Int))×Int×PUnit)) (x_1:Int×(Int×Int)×List (Int×Int)×List (Int×Int)×PUnit) =>
 let v31:List (Int×Int)×PUnit:=(x_1.2.2.2.1,PUnit.unit);bif decide (x_1.1<(↑x.2.2.1.length:Int)) then bif inB x_1.1 x.2.2.1.length then bif Nat.ble (Nat.succ x_1.1.toNat) x.2.2.1.length then ah (bif List.all y.1.1 fun (x:Nat)=>fE y.1.2 x then aM (List.map (fun (x : Nat)=>bq y.1.2 x) y.1.1,y.2.1,y.2.2.1,y.2.2.2.1,y.2.2.2.2.1,y.2.2.2.2.2.1,y.2.2.2.2.2.2.1) (x.2.2.1.getD x_1.1.toNat 0) else none) fun (t:Int×Int)=>bif dM (List.length x_1.2.2.1+1) 16 then again (IntKind.wrap .i64 (x_1.1+1),x_1.2.1,x_1.2.2.1++[t],v31) else none else none else none else lp (Int×(Int×Int)×List (Int×Int)×List (Int×Int)×PUnit) (((Int×Int) × List (Int×Int)×List (Int×Int))×Int×PUnit) (fun (again:Int×(Int×Int)×List (Int×Int)×List (Int×Int)×PUnit->Option (((Int×Int)×List (Int×Int)×List (Int × Int))×Int×PUnit)) (x:Int×(Int×Int)×List (Int×Int)×List (Int×Int)×PUnit) =>
 let v34:Int:=IntKind.wrap .i64 (y.2.2.2.2.2.1+x.1);bif decide (x.1<(↑x0.2.length:Int)) then lp (Int×Int×PUnit) (((Int×Int)×List (Int × Int)×List (Int×Int))×Int×PUnit) (fun (again_1:Int×Int×PUnit->Option (((Int×Int)×List (Int×Int)×List (Int×Int))×Int×PUnit)) (x_2:Int×Int×PUnit)=>bif decide (x_2.2.1<(↑y.2.2.1.length:Int)) then bif inB x_2.2.1 y.2.2.1.length then bif Nat.ble (Nat.succ x_2.2.1.toNat) y.2.2.1.length then ah (bif List.all y.1.1 fun (x:Nat)=>fE y.1.2 x then aL (List.map (fun (x:Nat)=>bq y.1.2 x) y.1.1,y.2.1, y.2.2.1,y.2.2.2.1,y.2.2.2.2.1,y.2.2.2.2.2.1,y.2.2.2.2.2.2.1) (y.2.2.1.getD x_2.2.1.toNat 0) else none) fun (t:Int)=>bif inB x_2.2.1 y.1.1.length then bif Nat.ble (Nat.succ x_2.2.1.toNat) y.1.1.length then bif inB v34 (List.length (bq y.1.2 (y.1.1.getD x_2.2.1.toNat 0))) then bif Nat.ble (Nat.succ v34.toNat) (List.length (bq y.1.2 (y.1.1.getD x_2.2.1.toNat (0 : Nat)))) then again_1 (IntKind.wrap .i64 (x_2.1+IntKind.wrap .i64 (t*List.getD (bq y.1.2 (y.1.1.getD x_2.2.1.toNat 0)) v34.toNat 0)),IntKind.wrap .i64 (x_2.2.1+1),PUnit.unit) else none else none else none else none else none else none else bif inB x.1 y.2.2.2.1.length then bif Nat.ble (Nat.succ x.1.toNat) y.2.2.2.1.length then ah (bif List.all y.1.1 fun (x:Nat)=>fE y.1.2 x then aM (List.map (fun (x:Nat)=>bq y.1.2 x) y.1.1,y.2.1,y.2.2.1,y.2.2.2.1,y.2.2.2.2.1,y.2.2.2.2.2.1, y.2.2.2.2.2.2.1) (IntKind.wrap .i64 (y.2.2.2.1.getD x.1.toNat 0*x_2.1)) else none) fun (t:Int×Int)=>bif dM (List.length x.2.2.2.1+1) 16 then again (IntKind.wrap .i64 (x.1+1),x.2.1,x.2.2.1,x.2.2.2.1++[t],PUnit.unit) else none else none else none) (0,0,PUnit.unit) else some ((x.2.1,x.2.2.1,x.2.2.2.1),0,PUnit.unit)) (0,x_1.2.1,x_1.2.2.1,v31)) ((0 : Int),t,[],[],PUnit.unit)) (0,0,List.replicate (Int.toNat (↑x0.1.length:Int)) 0,PUnit.unit) else none) ((↑x0.1.length:Int),(0 : Int),([],[]),1,[],[],t,v8,IntKind.wrap .i64 (v8+(↑x0.2.length:Int)),PUnit.unit)) (0,0,PUnit.unit)
def dh (x0:(List Int)×List ((List Int)×Int×Int)):Option (((Int×Int)×(List (Int×Int))×List (Int×Int))×Int×Unit):=jz lpK jnK bg cz av aU bK aL aM x0
abbrev t56:=((List Int)×List ((List Int)×Int×Int))->Option (((Int×Int)×(List (Int×Int))×List (Int×Int))×Int×Unit)
def c56:Ctr:=⟨[T82],[],[],.tup [T94,i64],fun x _ _=>dh x.1⟩
theorem e56 (lp:Lp) (jn:Jn) (bg:t99) (cz:Lv) (av:B9) (aU:NK) (bK:T1) (aL:Pf) (aM:KG):∀(x:TsS c56.as) (F:TsF c56.fs) (y:TsS c56.cs),jz lp jn bg cz av aU bK aL aM x.1=Oo lp jn (Dn.look [(103,WS bK),(102,TV aU)]) (yN Au Ap (Gx [(105,T5 aM),(104,S8 aL)] [] (jv prog shs tX its [(100,To cz),(99,k99 bg)] [(32,r32),(92,r92),(112,M1 av)]))) aj 4 56 f56 c56 x F y:=fun x F y=>by kernel_rfl
theorem Yq:c56.ok prog 56:=Ctr.of_denS (ao (sP (aa (aa (q32) (by kernel_rfl) Ul) (by kernel_rfl) Ss) (je (by kernel_rfl) SB (je (by kernel_rfl) Sd (pr))) (pq))) aF (oU WK (oU R8 (rM))) (hl:=aj) (d:=4) func56 rfl (by decide) (e56 lpK jnK bg cz av aU bK aL aM)
set_option maxRecDepth 100000
def qd (_:Lp) (_:Jn) (bh:t55) (dh:t56) (x0:(List (ByteArray×Int))×List (ByteArray×(List (ByteArray×Int×Int×Int))×Bool)):Option ((List (Int×Int))×Int×Unit) :=
 ah (bh x0) fun (t:(List Int×List (List Int×Int×Int))×Int×PUnit)=>bif !decide (t.2.1=0) then some ([],t.2.1,PUnit.unit) else ah (dh t.1) fun (t:((Int×Int)×List (Int×Int)×List (Int×Int))×Int×PUnit)=>bif !decide (t.2.1=0) then some ([],t.2.1,PUnit.unit) else some (t.1.2.1,0,PUnit.unit)
def cZ (x0:(List (ByteArray×Int))×List (ByteArray×(List (ByteArray×Int×Int×Int))×Bool)):Option ((List (Int×Int))×Int×Unit):=qd lpK jnK bh dh x0
abbrev t20:=((List (ByteArray×Int))×List (ByteArray×(List (ByteArray×Int×Int×Int))×Bool))->Option ((List (Int×Int))×Int×Unit)
def k20 (cZ:t20):Ctr:=⟨[T25],[],[],.tup [(.sl T47),i64],fun x _ _=>cZ x.1⟩
def c20:Ctr:=k20 cZ
theorem e20 (lp:Lp) (jn:Jn) (bh:t55) (dh:t56):∀(x:TsS c20.as) (F:TsF c20.fs) (y:TsS c20.cs),qd lp jn bh dh x.1=bI lp jn (cx [(56,⟨[T82],[],[],.tup [T94,i64],fun x _ _=>dh x.1⟩),(55,k55 bh)] [(32,r32),(92,r92),(112,bi)]) aj 4 20 f20 c20 x F y:=fun x F y=>by kernel_rfl
theorem YQ:c20.ok prog 20:=Ctr.of_den (ao (aa (aa (q32) (by kernel_rfl) T9) (by kernel_rfl) Yq)) aF (hl:=aj) (d:=4) func20 rfl (by decide) (e20 lpK jnK bh dh)
def gY (lp:Lp) (jn:Jn) (bg:t99) (cz:Lv) (av:B9) (aU:NK) (aw:Ou) (aM:KG) (x0:(List Int)×List ((List Int)×Int×Int)):Option ((List (Int×Int))×Int×Unit) :=
 ah (bg x0) fun (t:Bool)=>bif !t then some ([],1,PUnit.unit) else ah (cz x0) fun (t:Bool)=>bif !t then some ([],5,PUnit.unit) else lp (Int×Int×PUnit) (List (Int×Int)×Int×PUnit) (fun (again:Int×Int×PUnit->Option (List (Int×Int)×Int×PUnit)) (x:Int×Int×PUnit) =>
 let v7:Int×PUnit:=(IntKind.wrap .i64 (x.2.1+1),PUnit.unit);
 let v8:Int:=IntKind.wrap .i64 ((↑x0.1.length:Int)+x.1);bif decide (x.2.1<(↑x0.2.length:Int)) then bif inB x.2.1 x0.2.length then bif !decide ((x0.2.getD x.2.1.toNat ([],0,0)).2.1=3) then again (IntKind.wrap .i64 (x.1+1),v7) else again (x.1, v7) else none else ah (av x0.1) fun (t:List Int)=>lp (Int×Int×(List Nat×List (Option (List Int)))×Int×List Int×List Int×List Int×Int×Int × PUnit) (List (Int×Int)×Int×PUnit) (fun (again:Int×Int×(List Nat×List (Option (List Int)))×Int×List Int×List Int×List Int×Int×Int×PUnit->Option (List (Int × Int)×Int×PUnit)) (x:Int×Int×(List Nat×List (Option (List Int)))×Int×List Int×List Int×List Int×Int×Int×PUnit) =>
 let v12:Int:=IntKind.wrap .i64 (x.1+1);
 let v13:List Int×Int×Int:=x0.2.getD x.2.1.toNat ([],0,0);
 let v14:List Int:=List.replicate (Int.toNat (IntKind.wrap .i64 (x.2.2.2.2.2.2.2.2.1+1))) 0;
 let v15:Bool:=inB x.1 (Int.toNat (IntKind.wrap .i64 (x.2.2.2.2.2.2.2.2.1+1)));
 let v16:Bool:=Nat.ble (Nat.succ x.1.toNat) (Int.toNat (IntKind.wrap .i64 (x.2.2.2.2.2.2.2.2.1+1)));
 let v17:Int:=IntKind.wrap .i64 (x.2.2.2.2.2.2.2.1+x.2.1);
 let v18:List Int:=List.take (Int.toNat (IntKind.wrap .i64 (x.2.2.2.2.2.2.2.2.1+1))) v13.1;
 let v19:List Int:=List.set (List.take 0 v14++v18++List.drop (0+List.length v18) v14) x.2.2.2.2.2.2.2.2.1.toNat v13.2.2;bif decide (x.2.1<(↑x0.2.length:Int)) then bif inB x.2.1 x0.2.length then bif decide (0<=IntKind.wrap .i64 (x.2.2.2.2.2.2.2.2.1+(1 : Int)))&&dM (Int.toNat (IntKind.wrap .i64 (x.2.2.2.2.2.2.2.2.1+1))) 8 then bif inB x.2.2.2.2.2.2.2.2.1 (Int.toNat (IntKind.wrap .i64 (x.2.2.2.2.2.2.2.2.1+1))) then bif Nat.ble (Nat.succ x.2.2.2.2.2.2.2.2.1.toNat) (Int.toNat (IntKind.wrap IntKind.i64 (x.2.2.2.2.2.2.2.2.1+1))) then jn (Int×List Int×PUnit) (List (Int×Int)×Int×PUnit) (fun (x_1:Int×List Int×PUnit) =>
 let v21:List Int×PUnit:=(x_1.2.1,PUnit.unit);jn (Int×List Int×PUnit) (List (Int×Int)×Int×PUnit) (fun (x_2:Int×List Int×PUnit)=>bif inB v17 x_2.2.1.length then bif Nat.ble (Nat.succ v17.toNat) x_2.2.1.length then bif dM (List.length x.2.2.1.1+1) 24 then bif dM (List.length x.2.2.2.2.2.1+1) 8 then bif dM (List.length x.2.2.2.2.1+1) 8 then again (x_1.1,IntKind.wrap .i64 (x.2.1+(1 : Int)),(x.2.2.1.1++[List.length x.2.2.1.2+0],x.2.2.1.2++[some (x_2.2.1.set v17.toNat 1)]),x.2.2.2.1, x.2.2.2.2.1++[v17],x.2.2.2.2.2.1++[x_2.1],x.2.2.2.2.2.2.1,x.2.2.2.2.2.2.2.1,x.2.2.2.2.2.2.2.2.1, PUnit.unit) else none else none else none else none else none) fun (j:Int×List Int×PUnit->Option (List (Int×Int)×Int×PUnit))=>bif decide (v13.2.2<0) then lp (Int×List Int×PUnit) (List (Int×Int)×Int×PUnit) (fun (again:Int×List Int×PUnit->Option (List (Int×Int)×Int×PUnit)) (x:Int×List Int×PUnit) =>
 let v25:Bool:=inB x.1 x.2.1.length;
 let v26:Bool:=Nat.ble (Nat.succ x.1.toNat) x.2.1.length;bif decide (x.1<(↑x_1.2.1.length:Int)) then bif v25 then bif v26 then bif v25 then bif v26 then again (IntKind.wrap .i64 (x.1+1),x.2.1.set x.1.toNat (IntKind.wrap .i64 (0 - x.2.1.getD x.1.toNat 0)), PUnit.unit) else none else none else none else none else j ((-1),x.2.1,PUnit.unit)) (0,v21) else j (1,v21)) fun (j:Int×List Int×PUnit->Option (List (Int×Int)×Int×PUnit))=>bif decide (v13.2.1=1) then bif v15 then bif v16 then j (v12,v19.set x.1.toNat 1,PUnit.unit) else none else none else jn (Int×List Int×PUnit) (List (Int×Int)×Int×PUnit) (fun (x:Int×List Int×PUnit)=>j (x.1,x.2.1,PUnit.unit)) fun (j:Int×List Int×PUnit->Option (List (Int × Int)×Int×PUnit))=>bif decide (v13.2.1=2) then bif v15 then bif v16 then j (v12,v19.set x.1.toNat (-1),PUnit.unit) else none else none else j (x.1,v19,PUnit.unit) else none else none else none else none else ah (aU x.2.2.1 x.2.2.2.1 x.2.2.2.2.1 x.2.2.2.2.2.1 x.2.2.2.2.2.2.1 x.2.2.2.2.2.2.2.1 x.2.2.2.2.2.2.2.2.1) fun (y:(List Nat×List (Option (List Int)))×Int×List Int×List Int×List Int×Int×Int×Bool×PUnit)=>bif y.2.2.2.2.2.2.2.1 then some ([],12,PUnit.unit) else lp (List (Int×Int)×Int×PUnit) (List (Int×Int)×Int×PUnit) (fun (again:List (Int×Int)×Int×PUnit->Option (List (Int×Int)×Int×PUnit)) (x:List (Int×Int)×Int×PUnit)=>bif decide (x.2.1<(↑x0.2.length:Int)) then bif inB x.2.1 y.2.2.2.1.length then bif Nat.ble (Nat.succ x.2.1.toNat) y.2.2.2.1.length then ah (bif List.all y.1.1 fun (x:Nat) =>fE y.1.2 x then aw (List.map (fun (x:Nat)=>bq y.1.2 x) y.1.1,y.2.1,y.2.2.1,y.2.2.2.1,y.2.2.2.2.1, y.2.2.2.2.2.1,y.2.2.2.2.2.2.1) (IntKind.wrap .i64 (y.2.2.2.2.2.1+x.2.1)) else none) fun (t:Int)=>ah (bif List.all y.1.1 fun (x:Nat)=>fE y.1.2 x then aM (List.map (fun (x:Nat)=>bq y.1.2 x) y.1.1,y.2.1,y.2.2.1,y.2.2.2.1,y.2.2.2.2.1, y.2.2.2.2.2.1,y.2.2.2.2.2.2.1) (IntKind.wrap .i64 (y.2.2.2.1.getD x.2.1.toNat 0*t)) else none) fun (t:Int×Int) => bif dM (List.length x.1+1) 16 then again (x.1++[t],IntKind.wrap .i64 (x.2.1+1),PUnit.unit) else none else none else none else some (x.1,0,PUnit.unit)) ([],0,PUnit.unit)) ((↑x0.1.length:Int),0,([],[]),1,[],[],t,v8,IntKind.wrap .i64 (v8+(↑x0.2.length:Int)),PUnit.unit)) (0,0,PUnit.unit)
def cu (x0:(List Int)×List ((List Int)×Int×Int)):Option ((List (Int×Int))×Int×Unit):=gY lpK jnK bg cz av aU aw aM x0
abbrev t57:=((List Int)×List ((List Int)×Int×Int))->Option ((List (Int×Int))×Int×Unit)
def c57:Ctr:=⟨[T82],[],[],.tup [(.sl T47),i64],fun x _ _=>cu x.1⟩
theorem e57 (lp:Lp) (jn:Jn) (bg:t99) (cz:Lv) (av:B9) (aU:NK) (aw:Ou) (aM:KG):∀(x:TsS c57.as) (F:TsF c57.fs) (y:TsS c57.cs),gY lp jn bg cz av aU aw aM x.1=Oo lp jn (Dn.look [(102,TV aU)]) (yN Au Ap (Gx [(105,T5 aM),(106,SP aw)] [] (jv prog shs tX its [(100,To cz),(99,k99 bg)] [(32,r32),(92,r92),(112,M1 av)]))) aj 4 57 f57 c57 x F y:=fun x F y=>by kernel_rfl
theorem Yr:c57.ok prog 57:=Ctr.of_denS (ao (sP (aa (aa (q32) (by kernel_rfl) Ul) (by kernel_rfl) Ss) (je (by kernel_rfl) SB (je (by kernel_rfl) Sa (pr))) (pq))) aF (oU R8 (rM)) (hl:=aj) (d:=4) func57 rfl (by decide) (e57 lpK jnK bg cz av aU aw aM)
def nB (_:Lp) (_:Jn) (bh:t55) (cu:t57) (x0:(List (ByteArray×Int))×List (ByteArray×(List (ByteArray×Int×Int×Int))×Bool)):Option ((List (Int×Int))×Int×Unit) :=
 ah (bh x0) fun (t:(List Int×List (List Int×Int×Int))×Int×PUnit)=>bif !decide (t.2.1=0) then some ([],t.2.1,PUnit.unit) else ah (cu t.1) fun (t:List (Int×Int)×Int×PUnit)=>some (t.1,t.2.1,PUnit.unit)
def cf (x0:(List (ByteArray×Int))×List (ByteArray×(List (ByteArray×Int×Int×Int))×Bool)):Option ((List (Int×Int))×Int×Unit):=nB lpK jnK bh cu x0
abbrev t21:=((List (ByteArray×Int))×List (ByteArray×(List (ByteArray×Int×Int×Int))×Bool))->Option ((List (Int×Int))×Int×Unit)
def k21 (cf:t21):Ctr:=⟨[T25],[],[],.tup [(.sl T47),i64],fun x _ _=>cf x.1⟩
def c21:Ctr:=k21 cf
theorem e21 (lp:Lp) (jn:Jn) (bh:t55) (cu:t57):∀(x:TsS c21.as) (F:TsF c21.fs) (y:TsS c21.cs),nB lp jn bh cu x.1=bI lp jn (cx [(57,⟨[T82],[],[],.tup [(.sl T47),i64],fun x _ _=>cu x.1⟩),(55,k55 bh)] [(32,r32),(92,r92),(112,bi)]) aj 4 21 f21 c21 x F y:=fun x F y=>by kernel_rfl
theorem Yc:c21.ok prog 21:=Ctr.of_den (ao (aa (aa (q32) (by kernel_rfl) T9) (by kernel_rfl) Yr)) aF (hl:=aj) (d:=4) func21 rfl (by decide) (e21 lpK jnK bh cu)
def mh (_:Lp) (_:Jn) (cZ:t20) (cf:t21) (x0:(List (ByteArray×Int))×List (ByteArray×(List (ByteArray×Int×Int×Int))×Bool)):Option (((List (Int×Int))×Bool×List (Int×Int))×Int×Unit) :=
 ah (cZ x0) fun (t:List (Int×Int)×Int×PUnit)=>bif decide (t.2.1=0) then some ((t.1,false,[]),0,PUnit.unit) else bif decide (t.2.1=(22 : Int)) then ah (cf x0) fun (t:List (Int×Int)×Int×PUnit)=>bif !decide (t.2.1=0) then some (([],false,[]),t.2.1,PUnit.unit) else some (([], true,t.1),0,PUnit.unit) else some (([],false,[]),t.2.1,PUnit.unit)
def aI (x0:(List (ByteArray×Int))×List (ByteArray×(List (ByteArray×Int×Int×Int))×Bool)):Option (((List (Int×Int))×Bool×List (Int×Int))×Int×Unit):=mh lpK jnK cZ cf x0
abbrev t13:=((List (ByteArray×Int))×List (ByteArray×(List (ByteArray×Int×Int×Int))×Bool))->Option (((List (Int×Int))×Bool×List (Int×Int))×Int×Unit)
def k13 (aI:t13):Ctr:=⟨[T25],[],[],.tup [T30,i64],fun x _ _=>aI x.1⟩
def c13:Ctr:=k13 aI
theorem e13 (lp:Lp) (jn:Jn) (cZ:t20) (cf:t21):∀(x:TsS c13.as) (F:TsF c13.fs) (y:TsS c13.cs),mh lp jn cZ cf x.1=bI lp jn (cx [(21,k21 cf),(20,k20 cZ)] [(32,r32),(92,r92),(112,bi)]) aj 4 13 f13 c13 x F y:=fun x F y=>by kernel_rfl
theorem Vm:c13.ok prog 13:=Ctr.of_den (ao (aa (aa (q32) (by kernel_rfl) YQ) (by kernel_rfl) Yc)) aF (hl:=aj) (d:=4) func13 rfl (by decide) (e13 lpK jnK cZ cf)
def ka (lp:Lp) (_:Jn) (x0:List (Int×Int)) (x1:List (Int×Int)):Option Bool :=
 bif !decide ((↑x0.length:Int)=(↑x1.length:Int)) then some false else lp (Int×PUnit) Bool (fun (again:Int×PUnit->Option Bool) (x:Int×PUnit)=>bif decide (x.1<(↑x0.length:Int)) then bif inB x.1 x0.length then bif inB x.1 x1.length then bif !(decide ((x0.getD x.1.toNat (0,(0 : Int))).1=(x1.getD x.1.toNat (0,0)).1)&&(decide ((x0.getD x.1.toNat (0,0)).2=(x1.getD x.1.toNat ((0 : Int),0)).2)&&true)) then some false else again (IntKind.wrap .i64 (x.1+1),PUnit.unit) else none else none else some true) (0,PUnit.unit)
def bm (x0:List (Int×Int)) (x1:List (Int×Int)):Option Bool:=ka lpK jnK x0 x1
abbrev t36:=(List (Int×Int))->(List (Int×Int))->Option (Bool)
def k36 (bm:t36):Ctr:=⟨[(.sl T47),(.sl T47)],[],[],.one .bool,fun x _ _=>bm x.1 x.2.1⟩
def c36:Ctr:=k36 bm
theorem e36 (lp:Lp) (jn:Jn):∀(x:TsS c36.as) (F:TsF c36.fs) (y:TsS c36.cs),ka lp jn x.1 x.2.1=bI lp jn (cx [] [(32,r32),(92,r92),(112,bi)]) aj 4 36 f36 c36 x F y:=fun x F y=>by kernel_rfl
theorem Ww:c36.ok prog 36:=Ctr.of_den (ao (q32)) aF (hl:=aj) (d:=4) func36 rfl (by decide) (e36 lpK jnK)
def qZ (_:Lp) (_:Jn) (bm:t36) (x0:(List (Int×Int))×Bool×List (Int×Int)) (x1:(List (Int×Int))×Bool×List (Int×Int)):Option Bool :=
 
 let v4:Bool:=decide (x0.2.1=x1.2.1);
 let v5:Bool:=!v4||v4;bif v5 then bif v5 then bif v5&&v5 then ah (bif v4 then bm x0.1 x1.1 else some false) fun (t:Bool) =>
 let v7:Bool:=bif v4 then t else false;
 let v8:Bool:=!v7||v7;bif v5 then bif v8 then bif v8 then bif v8&&v8 then ah (bif v7 then bm x0.2.2 x1.2.2 else some false) fun (t:Bool)=>bif v8 then some (bif v7 then t else false) else none else none else none else none else none else none else none else none
def bH (x0:(List (Int×Int))×Bool×List (Int×Int)) (x1:(List (Int×Int))×Bool×List (Int×Int)):Option Bool:=qZ lpK jnK bm x0 x1
abbrev t15:=((List (Int×Int))×Bool×List (Int×Int))->((List (Int×Int))×Bool×List (Int×Int))->Option (Bool)
def k15 (bH:t15):Ctr:=⟨[T30,T30],[],[],.one .bool,fun x _ _=>bH x.1 x.2.1⟩
def c15:Ctr:=k15 bH
theorem e15 (lp:Lp) (jn:Jn) (bm:t36):∀(x:TsS c15.as) (F:TsF c15.fs) (y:TsS c15.cs),qZ lp jn bm x.1 x.2.1=bI lp jn (cx [(36,k36 bm)] [(32,r32),(92,r92),(112,bi)]) aj 4 15 f15 c15 x F y:=fun x F y=>by kernel_rfl
theorem Xd:c15.ok prog 15:=Ctr.of_den (ao (aa (q32) (by kernel_rfl) Ww)) aF (hl:=aj) (d:=4) func15 rfl (by decide) (e15 lpK jnK bm)
def gi (lp:Lp) (_:Jn) (x0:List (Int×Int)) (f0:(((Int×Int)×Unit)->Option Bool)):Option Int :=
 lp (Int×PUnit) Int (fun (again:Int×PUnit->Option Int) (x:Int×PUnit)=>bif decide (x.1<(↑x0.length:Int)) then bif inB x.1 x0.length then ah (f0 (x0.getD x.1.toNat (0,0),PUnit.unit)) fun (t:Bool)=>bif t then some x.1 else again (IntKind.wrap .i64 (x.1+1),PUnit.unit) else none else some (-1)) (0,PUnit.unit)
def bG (x0:List (Int×Int)) (f0:(((Int×Int)×Unit)->Option Bool)):Option Int:=gi lpK jnK x0 f0
abbrev t75:=(List (Int×Int))->((((Int×Int)×Unit)->Option Bool))->Option (Int)
def k75 (bG:t75):Ctr:=⟨[(.sl T47)],[([T47],.bool)],[],.one i64,fun x F _=>bG x.1 F.1⟩
def c75:Ctr:=k75 bG
theorem e75 (lp:Lp) (jn:Jn):∀(x:TsS c75.as) (F:TsF c75.fs) (y:TsS c75.cs),gi lp jn x.1 F.1=bI lp jn (cx [] [(32,r32),(92,r92),(112,bi)]) aj 4 75 f75 c75 x F y:=fun x F y=>by kernel_rfl
theorem Xy:c75.ok prog 75:=Ctr.of_den (ao (q32)) aF (hl:=aj) (d:=4) func75 rfl (by decide) (e75 lpK jnK)
def fz (_:Lp) (_:Jn) (bG:t75) (x0:List (Int×Int)) (f0:(((Int×Int)×Unit)->Option Bool)):Option Bool :=
 ah (bG x0 f0) fun (t:Int)=>some (decide (t>=0))
def ai (x0:List (Int×Int)) (f0:(((Int×Int)×Unit)->Option Bool)):Option Bool:=fz lpK jnK bG x0 f0
abbrev t34:=(List (Int×Int))->((((Int×Int)×Unit)->Option Bool))->Option (Bool)
def k34 (ai:t34):Ctr:=⟨[(.sl T47)],[([T47],.bool)],[],.one .bool,fun x F _=>ai x.1 F.1⟩
def c34:Ctr:=k34 ai
theorem e34 (lp:Lp) (jn:Jn) (bG:t75):∀(x:TsS c34.as) (F:TsF c34.fs) (y:TsS c34.cs),fz lp jn bG x.1 F.1=bI lp jn (cx [(75,k75 bG)] [(32,r32),(92,r92),(112,bi)]) aj 4 34 f34 c34 x F y:=fun x F y=>by kernel_rfl
theorem Ke:c34.ok prog 34:=Ctr.of_den (ao (aa (q32) (by kernel_rfl) Xy)) aF (hl:=aj) (d:=4) func34 rfl (by decide) (e34 lpK jnK bG)
def qT (_:Lp) (_:Jn) (x0:(List (Int×Int))×Bool×List (Int×Int)):Option ((List (Int×Int))×(List (Int×Int))×Unit) :=
 bif x0.2.1 then some (x0.2.2,x0.1,PUnit.unit) else some (x0.1,x0.2.2,PUnit.unit)
def cD (x0:(List (Int×Int))×Bool×List (Int×Int)):Option ((List (Int×Int))×(List (Int×Int))×Unit):=qT lpK jnK x0
abbrev t49:=((List (Int×Int))×Bool×List (Int×Int))->Option ((List (Int×Int))×(List (Int×Int))×Unit)
def k49 (cD:t49):Ctr:=⟨[T30],[],[],.tup [(.sl T47),(.sl T47)],fun x _ _=>cD x.1⟩
def c49:Ctr:=k49 cD
theorem e49 (lp:Lp) (jn:Jn):∀(x:TsS c49.as) (F:TsF c49.fs) (y:TsS c49.cs),qT lp jn x.1=bI lp jn (cx [] [(32,r32),(92,r92),(112,bi)]) aj 4 49 f49 c49 x F y:=fun x F y=>by kernel_rfl
theorem UG:c49.ok prog 49:=Ctr.of_den (ao (q32)) aF (hl:=aj) (d:=4) func49 rfl (by decide) (e49 lpK jnK)
def oe (_:Lp) (_:Jn) (ap:t58) (x0:Int×Int):Option Bool :=
 ah (ap x0) fun (t:Bool)=>some !t
def fh (x0:Int×Int):Option Bool:=oe lpK jnK ap x0
abbrev t93:=(Int×Int)->Option (Bool)
def c93:Ctr:=⟨[T47],[],[],.one .bool,fun x _ _=>fh x.1⟩
theorem e93 (lp:Lp) (jn:Jn) (ap:t58):∀(x:TsS c93.as) (F:TsF c93.fs) (y:TsS c93.cs),oe lp jn ap x.1=bI lp jn (cx [(58,k58 ap)] [(32,r32),(92,r92),(112,bi)]) aj 4 93 f93 c93 x F y:=fun x F y=>by kernel_rfl
theorem Xe:c93.ok prog 93:=Ctr.of_den (ao (aa (q32) (by kernel_rfl) E4)) aF (hl:=aj) (d:=4) func93 rfl (by decide) (e93 lpK jnK ap)
def qJ (_:Lp) (_:Jn) (ai:t34) (fh:t93) (eF:t92) (x0:(List (Int×Int))×Bool×List (Int×Int)):Option Bool :=
 ah (eF [x0.1,x0.2.2]) fun (t:List (Int×Int))=>ah (ai t fun (x:(Int×Int)×PUnit)=>fh x.1) fun (t:Bool)=>some !t
def cC (x0:(List (Int×Int))×Bool×List (Int×Int)):Option Bool:=qJ lpK jnK ai fh eF x0
abbrev t51:=((List (Int×Int))×Bool×List (Int×Int))->Option (Bool)
def k51 (cC:t51):Ctr:=⟨[T30],[],[],.one .bool,fun x _ _=>cC x.1⟩
def c51:Ctr:=k51 cC
theorem e51 (lp:Lp) (jn:Jn) (ai:t34) (fh:t93) (eF:t92):∀(x:TsS c51.as) (F:TsF c51.fs) (y:TsS c51.cs),qJ lp jn ai fh eF x.1=bI lp jn (cx [(93,⟨[T47],[],[],.one .bool,fun x _ _=>fh x.1⟩),(34,k34 ai)] [(32,r32),(92,⟨[(.sl (.sl T47))],47,T47,fun x=>eF x.1⟩),(112,bi)]) aj 4 51 f51 c51 x F y:=fun x F y=>by kernel_rfl
theorem VW:c51.ok prog 51:=Ctr.of_den (ao (aa (aa (q32) (by kernel_rfl) Ke) (by kernel_rfl) Xe)) aF (hl:=aj) (d:=4) func51 rfl (by decide) (e51 lpK jnK ai fh eF)
def jX (_:Lp) (_:Jn) (ap:t58) (x0:Int×Int):Option Bool :=
 ah (ap x0) fun (t:Bool)=>some !t
def dJ (x0:Int×Int):Option Bool:=jX lpK jnK ap x0
abbrev Wa:=(Int×Int)->Option (Bool)
def Kt:Ctr:=⟨[T47],[],[],.one .bool,fun x _ _=>dJ x.1⟩
theorem WX (lp:Lp) (jn:Jn) (ap:t58):∀(x:TsS Kt.as) (F:TsF Kt.fs) (y:TsS Kt.cs),jX lp jn ap x.1=bI lp jn (cx [(58,k58 ap)] [(32,r32),(92,r92),(112,bi)]) aj 4 168 f168 Kt x F y:=fun x F y=>by kernel_rfl
theorem UW:Kt.ok prog 168:=Ctr.of_den (ao (aa (q32) (by kernel_rfl) E4)) aF (hl:=aj) (d:=4) func168 rfl (by decide) (WX lpK jnK ap)
def lZ (_:Lp) (_:Jn) (ai:t34) (dJ:Wa) (x0:List (Int×Int)):Option Bool :=
 ah (ai x0 fun (x:(Int×Int)×PUnit)=>dJ x.1) fun (t:Bool)=>some !t
def eL (x0:List (Int×Int)):Option Bool:=lZ lpK jnK ai dJ x0
abbrev Vk:=(List (Int×Int))->Option (Bool)
def NP:Ctr:=⟨[(.sl T47)],[],[],.one .bool,fun x _ _=>eL x.1⟩
theorem Yt (lp:Lp) (jn:Jn) (ai:t34) (dJ:Wa):∀(x:TsS NP.as) (F:TsF NP.fs) (y:TsS NP.cs),lZ lp jn ai dJ x.1=bI lp jn (cx [(168,⟨[T47],[],[],.one .bool,fun x _ _=>dJ x.1⟩),(34,k34 ai)] [(32,r32),(92,r92),(112,bi)]) aj 4 130 f130 NP x F y:=fun x F y=>by kernel_rfl
theorem Uw:NP.ok prog 130:=Ctr.of_den (ao (aa (aa (q32) (by kernel_rfl) Ke) (by kernel_rfl) UW)) aF (hl:=aj) (d:=4) func130 rfl (by decide) (Yt lpK jnK ai dJ)
def mi (_:Lp) (_:Jn) (bj:Cy) (x0:Int) (x1:Int):Option (Int×Int) :=
 ah (bj x0 x1) fun (t:Int×Int×PUnit)=>some (t.1,t.2.1)
def aK (x0:Int) (x1:Int):Option (Int×Int):=mi lpK jnK bj x0 x1
abbrev t61:=(Int)->(Int)->Option (Int×Int)
def k61 (aK:t61):Ctr:=⟨[(.int .u64),(.int .u64)],[],[],.one oM,fun x _ _=>aK x.1 x.2.1⟩
def c61:Ctr:=k61 aK
theorem e61 (lp:Lp) (jn:Jn) (bj:Cy):∀(x:TsS c61.as) (F:TsF c61.fs) (y:TsS c61.cs),mi lp jn bj x.1 x.2.1=bI lp jn (cx [(107,MB bj)] [(32,r32),(92,r92),(112,bi)]) aj 4 61 f61 c61 x F y:=fun x F y=>by kernel_rfl
theorem Tp:c61.ok prog 61:=Ctr.of_den (ao (aa (q32) (by kernel_rfl) HC)) aF (hl:=aj) (d:=4) func61 rfl (by decide) (e61 lpK jnK bj)
def sC (_:Lp) (_:Jn) (bE:t59) (aH:t60) (ap:t58) (bo:t62) (aK:t61) (x0:Int×Int) (x1:Int×Int):Option ((Int×Int)×Int×Unit) :=
 
 let v4:Int:=IntKind.wrap .u64 x1.2;
 let v5:Int:=IntKind.wrap .u64 x0.2;ah (ap x0) fun (t:Bool) =>
 let v7:Bool:=!t;
 let v8:Bool:=!v7;
 let v9:Bool:=!v8||v8;bif v9 then ah (bif v8 then ap x1 else some false) fun (t:Bool)=>bif v9 then bif v7||v8 then bif bif v7 then true else !t then some (((0 : Int),0),1,PUnit.unit) else ah (aH x0.1) fun (t:Int)=>ah (bE t v4) fun (t:Int) =>
 let v13:Bool:=nzB t;ah (aH x1.1) fun (t_1:Int)=>ah (bE t_1 v5) fun (t_2:Int) =>
 let v16:Bool:=nzB t_2;ah (aH x0.1) fun (t_3:Int)=>bif v13 then ah (aH x1.1) fun (t_4:Int)=>bif v16 then ah (aK (IntKind.wrap IntKind.u64 (Int.tdiv t_3 t)) (IntKind.wrap .u64 (Int.tdiv t_4 t_2))) fun (t_5:Int×Int) =>
 let v20:Bool:=decide (t_5.1>0);
 let v21:Bool:=decide (t_5.2>0);
 let v22:Bool:=!v20;
 let v23:Bool:=!v21||v21;
 let v24:Bool:=!v22||v22;bif v16 then bif v13 then ah (aK (IntKind.wrap .u64 (Int.tdiv v5 t_2)) (IntKind.wrap .u64 (Int.tdiv v4 t))) fun (t:Int×Int) =>bif v24 then bif v24 then bif v20||v22 then bif bif v20 then true else decide (t.1>0) then some ((0,0),5,PUnit.unit) else bif v23 then bif v23 then bif v23 then bif v23 then bif v23&&v23 then bif v23 then ah (bo (bif v21 then !decide (decide (x0.1<0)=decide (x1.1<0)) else false) t_5.2 t.2) fun (t:(Int×Int)×Int×PUnit)=>some (t.1,t.2.1,PUnit.unit) else none else none else none else none else none else none else none else none else none else none else none else none else none else none else none else none
def cO (x0:Int×Int) (x1:Int×Int):Option ((Int×Int)×Int×Unit):=sC lpK jnK bE aH ap bo aK x0 x1
abbrev t23:=(Int×Int)->(Int×Int)->Option ((Int×Int)×Int×Unit)
def k23 (cO:t23):Ctr:=⟨[T47,T47],[],[],.tup [T47,i64],fun x _ _=>cO x.1 x.2.1⟩
def c23:Ctr:=k23 cO
theorem e23 (lp:Lp) (jn:Jn) (bE:t59) (aH:t60) (ap:t58) (bo:t62) (aK:t61):∀(x:TsS c23.as) (F:TsF c23.fs) (y:TsS c23.cs),sC lp jn bE aH ap bo aK x.1 x.2.1=bI lp jn (cx [(61,k61 aK),(62,k62 bo),(58,k58 ap),(60,k60 aH),(59,k59 bE)] [(32,r32),(92,r92),(112,bi)]) aj 4 23 f23 c23 x F y:=fun x F y=>by kernel_rfl
theorem Vs:c23.ok prog 23:=Ctr.of_den (ao (aa (aa (aa (aa (aa (q32) (by kernel_rfl) PZ) (by kernel_rfl) Ls) (by kernel_rfl) E4) (by kernel_rfl) SY) (by kernel_rfl) Tp)) aF (hl:=aj) (d:=4) func23 rfl (by decide) (e23 lpK jnK bE aH ap bo aK)
def mz (_:Lp) (_:Jn) (x0:Int×Int) (x1:Int×Int):Option (Int×Int) :=
 bif decide ((0:Int)<=0)&&decide ((0:Int)<=1) then bif decide (0<=oS x0.2 x1.2 0)&&decide (oS x0.2 x1.2 0<=1) then some (xC x0.1 x1.1 (oS x0.2 x1.2 0),xC x0.2 x1.2 0) else none else none
def gd (x0:Int×Int) (x1:Int×Int):Option (Int×Int):=mz lpK jnK x0 x1
abbrev UD:=(Int×Int)->(Int×Int)->Option (Int×Int)
def MX:Ctr:=⟨[oM,oM],[],[],.one oM,fun x _ _=>gd x.1 x.2.1⟩
theorem Yl (lp:Lp) (jn:Jn):∀(x:TsS MX.as) (F:TsF MX.fs) (y:TsS MX.cs),mz lp jn x.1 x.2.1=bI lp jn (cx [] [(32,r32),(92,r92),(112,bi)]) aj 4 188 f188 MX x F y:=fun x F y=>by kernel_rfl
theorem WM:MX.ok prog 188:=Ctr.of_den (ao (q32)) aF (hl:=aj) (d:=4) func188 rfl (by decide) (Yl lpK jnK)
def qa (_:Lp) (_:Jn) (x0:Int×Int) (x1:Int×Int):Option Bool :=
 
 let v4:Bool:=decide (x0.1=x1.1);
 let v5:Bool:=decide (x0.1<x1.1);
 let v6:Bool:=!v5;
 let v7:Bool:=!v6;
 let v8:Bool:=v6&&v4;
 let v9:Bool:=v7||v6;
 let v10:Bool:=!v8||v8;bif v9 then bif v9 then bif v9&&v9 then bif v9 then bif v10 then bif v10 then bif v10&&v10 then bif (v7||v9)&&(v7||(!v4||(v7||v8))) then bif v5 || v6 then some (bif v5 then true else bif v4 then decide (x0.2<x1.2) else false) else none else none else none else none else none else none else none else none else none
def cY (x0:Int×Int) (x1:Int×Int):Option Bool:=qa lpK jnK x0 x1
abbrev Oe:=(Int×Int)->(Int×Int)->Option (Bool)
def Uc (cY:Oe):Ctr:=⟨[oM,oM],[],[],.one .bool,fun x _ _=>cY x.1 x.2.1⟩
def Lw:Ctr:=Uc cY
theorem XG (lp:Lp) (jn:Jn):∀(x:TsS Lw.as) (F:TsF Lw.fs) (y:TsS Lw.cs),qa lp jn x.1 x.2.1=bI lp jn (cx [] [(32,r32),(92,r92),(112,bi)]) aj 4 189 f189 Lw x F y:=fun x F y=>by kernel_rfl
theorem So:Lw.ok prog 189:=Ctr.of_den (ao (q32)) aF (hl:=aj) (d:=4) func189 rfl (by decide) (XG lpK jnK)
def lx (_:Lp) (_:Jn) (x0:Int×Int) (x1:Int×Int):Option (Int×Int) :=
 bif decide ((0:Int)<=0)&&decide ((0:Int)<=1) then bif decide (0<=nf x0.2 x1.2 0)&&decide (nf x0.2 x1.2 0<=1) then some (uG x0.1 x1.1 (nf x0.2 x1.2 0),uG x0.2 x1.2 0) else none else none
def fe (x0:Int×Int) (x1:Int×Int):Option (Int×Int):=lx lpK jnK x0 x1
abbrev Us:=(Int×Int)->(Int×Int)->Option (Int×Int)
def Ma:Ctr:=⟨[oM,oM],[],[],.one oM,fun x _ _=>fe x.1 x.2.1⟩
theorem YH (lp:Lp) (jn:Jn):∀(x:TsS Ma.as) (F:TsF Ma.fs) (y:TsS Ma.cs),lx lp jn x.1 x.2.1=bI lp jn (cx [] [(32,r32),(92,r92),(112,bi)]) aj 4 190 f190 Ma x F y:=fun x F y=>by kernel_rfl
theorem Uv:Ma.ok prog 190:=Ctr.of_den (ao (q32)) aF (hl:=aj) (d:=4) func190 rfl (by decide) (YH lpK jnK)
def pR (_:Lp) (_:Jn) (bS:F5) (x0:Int×Int) (x1:Int):Option ((Int×Int)×Int×Unit) :=
 
 let v4:Bool:=nzB x1;bif v4 then ah (bS (Int.tmod x0.1 x1) x0.2 x1) fun (t:Int×Int×PUnit)=>bif v4 then some ((IntKind.wrap .u64 (Int.tdiv x0.1 x1), t.1),t.2.1,PUnit.unit) else none else none
def eC (x0:Int×Int) (x1:Int):Option ((Int×Int)×Int×Unit):=pR lpK jnK bS x0 x1
abbrev TQ:=(Int×Int)->(Int)->Option ((Int×Int)×Int×Unit)
def VM (eC:TQ):Ctr:=⟨[oM,(.int .u64)],[],[],.tup [oM,(.int .u64)],fun x _ _=>eC x.1 x.2.1⟩
def OT:Ctr:=VM eC
theorem Ym (lp:Lp) (jn:Jn) (bS:F5):∀(x:TsS OT.as) (F:TsF OT.fs) (y:TsS OT.cs),pR lp jn bS x.1 x.2.1=bI lp jn (cx [(185,Q3 bS)] [(32,r32),(92,r92),(112,bi)]) aj 4 191 f191 OT x F y:=fun x F y=>by kernel_rfl
theorem WU:OT.ok prog 191:=Ctr.of_den (ao (aa (q32) (by kernel_rfl) K5)) aF (hl:=aj) (d:=4) func191 rfl (by decide) (Ym lpK jnK bS)
def so (_:Lp) (jn:Jn) (bE:t59) (aH:t60) (ap:t58) (bo:t62) (aK:t61) (gd:UD) (cY:Oe) (fe:Us) (eC:TQ) (x0:Int×Int) (x1:Int×Int):Option ((Int×Int)×Int×Unit) :=
 
 let v4:Int:=IntKind.wrap .u64 x0.2;
 let v5:Int:=IntKind.wrap .u64 x1.2;
 let v6:Bool:=decide (x0.1<0);ah (ap x0) fun (t:Bool) =>
 let v8:Bool:=!t;
 let v9:Bool:=!v8;
 let v10:Bool:=!v9||v9;bif v10 then ah (bif v9 then ap x1 else some false) fun (t:Bool)=>bif v10 then bif v8||v9 then bif bif v8 then true else !t then some (((0 : Int),0),1,PUnit.unit) else ah (bE v4 v5) fun (t:Int) =>
 let v13:Bool:=nzB t;
 let v14:Int:=IntKind.wrap .u64 (Int.tdiv v4 t);ah (aH x0.1) fun (t_1:Int)=>bif v13 then ah (aK t_1 (IntKind.wrap .u64 (Int.tdiv v5 t))) fun (t_2:Int×Int)=>ah (aH x1.1) fun (t_3:Int)=>bif v13 then ah (aK t_3 v14) fun (t_4:Int×Int)=>jn (Bool×(Int×Int)×PUnit) ((Int×Int) × Int×PUnit) (fun (x:Bool×(Int×Int)×PUnit)=>bif decide (x.2.1.1=0)&&(decide (x.2.1.2=0)&&true) then some ((0,1),(0 : Int),PUnit.unit) else ah (eC x.2.1 t) fun (t_5:(Int×Int)×Int×PUnit)=>ah (bE t t_5.2.1) fun (t:Int)=>ah (eC x.2.1 t) fun (t_6 : (Int×Int)×Int×PUnit) =>
 let v23:Bool:=decide (t_6.1.1>0);
 let v24:Bool:=!v23;
 let v25:Bool:=!v24||v24;bif v13 then bif nzB t then ah (aK v14 (IntKind.wrap .u64 (Int.tdiv v5 t))) fun (t:Int×Int)=>bif v25 then bif v25 then bif v23 || v24 then bif bif v23 then true else decide (t.1>0) then some ((0,0),5,PUnit.unit) else ah (bo x.1 t_6.1.2 t.2) fun (t:(Int × Int)×Int×PUnit)=>some (t.1,t.2.1,PUnit.unit) else none else none else none else none else none) fun (j:Bool×(Int×Int)×PUnit->Option ((Int×Int)×Int×PUnit)) =>bif decide (v6=decide (x1.1<0)) then ah (gd t_2 t_4) fun (t:Int×Int)=>j (v6,t,PUnit.unit) else ah (cY t_2 t_4) fun (t:Bool)=>jn (Bool × (Int×Int)×PUnit) ((Int×Int)×Int×PUnit) (fun (x:Bool×(Int×Int)×PUnit)=>j (x.1,x.2.1,PUnit.unit)) fun (j:Bool×(Int×Int)×PUnit->Option ((Int×Int) × Int×PUnit))=>bif t then ah (fe t_4 t_2) fun (t:Int×Int)=>j (!v6,t,PUnit.unit) else ah (fe t_2 t_4) fun (t:Int×Int)=>j (v6,t,PUnit.unit) else none else none else none else none else none
def cK (x0:Int×Int) (x1:Int×Int):Option ((Int×Int)×Int×Unit):=so lpK jnK bE aH ap bo aK gd cY fe eC x0 x1
abbrev FX:=(Int×Int)->(Int×Int)->Option ((Int×Int)×Int×Unit)
def Q7 (cK:FX):Ctr:=⟨[T47,T47],[],[],.tup [T47,i64],fun x _ _=>cK x.1 x.2.1⟩
def KR:Ctr:=Q7 cK
theorem Yy (lp:Lp) (jn:Jn) (bE:t59) (aH:t60) (ap:t58) (bo:t62) (aK:t61) (gd:UD) (cY:Oe) (fe:Us) (eC:TQ):∀(x:TsS KR.as) (F:TsF KR.fs) (y:TsS KR.cs),so lp jn bE aH ap bo aK gd cY fe eC x.1 x.2.1=bI lp jn (cx [(191,VM eC),(190,⟨[oM,oM],[],[],.one oM,fun x _ _=>fe x.1 x.2.1⟩),(189,Uc cY),(188,⟨[oM,oM],[],[],.one oM,fun x _ _=>gd x.1 x.2.1⟩),(61,k61 aK),(62,k62 bo),(58,k58 ap),(60,k60 aH),(59,k59 bE)] [(32,r32),(92,r92),(112,bi)]) aj 4 171 f171 KR x F y:=fun x F y=>by kernel_rfl
theorem Pr:KR.ok prog 171:=Ctr.of_den (ao (aa (aa (aa (aa (aa (aa (aa (aa (aa (q32) (by kernel_rfl) PZ) (by kernel_rfl) Ls) (by kernel_rfl) E4) (by kernel_rfl) SY) (by kernel_rfl) Tp) (by kernel_rfl) WM) (by kernel_rfl) So) (by kernel_rfl) Uv) (by kernel_rfl) WU)) aF (hl:=aj) (d:=4) func171 rfl (by decide) (Yy lpK jnK bE aH ap bo aK gd cY fe eC)
def kD (lp:Lp) (jn:Jn) (cO:t23) (cK:FX) (x0:Int) (x1:List Int) (x2:List (Int×Int)):Option (Int×(Int×Int)) :=
 lp (Int×Int×(Int×Int)×(Int×Int)×PUnit) (Int×Int×Int) (fun (again:Int×Int×(Int×Int)×(Int×Int)×PUnit->Option (Int×Int×Int)) (x:Int×Int×(Int×Int) × (Int×Int)×PUnit)=>bif decide (x.1<(↑x1.length:Int)) then bif inB x.1 x1.length then bif inB x.1 x2.length then ah (cO (x1.getD x.1.toNat 0,1) (x2.getD x.1.toNat (0,0))) fun (t:(Int×Int)×Int×PUnit)=>jn (Int×(Int×Int)×PUnit) (Int×Int×Int) (fun (x_1:Int×(Int×Int)×PUnit)=>bif !decide (x_1.1=0) then some (x_1.1,0,1) else again (IntKind.wrap .i64 (x.1+1), x.2.1,x.2.2.1,x_1.2.1,PUnit.unit)) fun (j:Int×(Int×Int)×PUnit->Option (Int×Int×Int))=>bif decide (t.2.1=0) then ah (cK x.2.2.2.1 t.1) fun (t:(Int×Int)×Int×PUnit)=>j (t.2.1,t.1,PUnit.unit) else j (t.2.1,t.1,PUnit.unit) else none else none else some (x.2.1, x.2.2.2.1)) (0,x0,(0,0),(0,1),PUnit.unit)
def cg (x0:Int) (x1:List Int) (x2:List (Int×Int)):Option (Int×(Int×Int)):=kD lpK jnK cO cK x0 x1 x2
abbrev Ud:=(Int)->(List Int)->(List (Int×Int))->Option (Int×(Int×Int))
def VI (cg:Ud):MCtr:=⟨TB,[(.sl i64),(.sl T47)],.one T47,fun x y=>cg x y.1 y.2.1⟩
def QT:MCtr:=VI cg
theorem XU (lp:Lp) (jn:Jn) (cO:t23) (cK:FX):∀(x:QT.s.T) (y:TsS QT.as),kD lp jn cO cK x y.1 y.2.1=TP lp jn (cx [(171,Q7 cK),(23,k23 cO)] [(32,r32),(92,r92),(112,bi)]) aj 4 133 f133 QT x y:=fun x y=>by kernel_rfl
theorem VY:QT.ok prog 133:=MCtr.of_den (ao (aa (aa (q32) (by kernel_rfl) Vs) (by kernel_rfl) Pr)) aF (hl:=aj) (d:=4) func133 rfl (by decide) rfl (XU lpK jnK cO cK)
def rz (_:Lp) (jn:Jn) (aH:t60) (ap:t58) (aK:t61) (cY:Oe) (x0:Int×Int) (x1:Int×Int):Option (Int×Int×Unit) :=
 
 let v4:Bool:=decide (x0.1<0);ah (ap x0) fun (t:Bool) =>
 let v6:Bool:=!t;
 let v7:Bool:=!v6;
 let v8:Bool:=!v7||v7;bif v8 then ah (bif v7 then ap x1 else some false) fun (t:Bool)=>bif v8 then bif v6||v7 then bif bif v6 then true else !t then some ((0 : Int),1,PUnit.unit) else ah (aH x0.1) fun (t:Int)=>ah (aK t (IntKind.wrap .u64 x1.2)) fun (t:Int×Int)=>ah (aH x1.1) fun (t_1:Int)=>ah (aK t_1 (IntKind.wrap .u64 x0.2)) fun (t_2:Int×Int)=>bif !decide (v4=decide (x1.1<0)) then bif v4 then some ((-1), 0,PUnit.unit) else some (1,0,PUnit.unit) else jn ((Int×Int)×(Int×Int)×PUnit) (Int×Int×PUnit) (fun (x:(Int×Int)×(Int×Int)×PUnit)=>ah (cY x.1 x.2.1) fun (t:Bool)=>bif t then some ((-1),0,PUnit.unit) else ah (cY x.2.1 x.1) fun (t:Bool)=>bif t then some (1, 0,PUnit.unit) else some (0,0,PUnit.unit)) fun (j:(Int×Int)×(Int×Int)×PUnit->Option (Int×Int×PUnit))=>bif v4 then j (t_2,t,PUnit.unit) else j (t,t_2,PUnit.unit) else none else none else none
def iw (x0:Int×Int) (x1:Int×Int):Option (Int×Int×Unit):=rz lpK jnK aH ap aK cY x0 x1
abbrev Vj:=(Int×Int)->(Int×Int)->Option (Int×Int×Unit)
def KB:Ctr:=⟨[T47,T47],[],[],.tup [i64,i64],fun x _ _=>iw x.1 x.2.1⟩
theorem Xc (lp:Lp) (jn:Jn) (aH:t60) (ap:t58) (aK:t61) (cY:Oe):∀(x:TsS KB.as) (F:TsF KB.fs) (y:TsS KB.cs),rz lp jn aH ap aK cY x.1 x.2.1=bI lp jn (cx [(189,Uc cY),(61,k61 aK),(58,k58 ap),(60,k60 aH)] [(32,r32),(92,r92),(112,bi)]) aj 4 187 f187 KB x F y:=fun x F y=>by kernel_rfl
theorem V3:KB.ok prog 187:=Ctr.of_den (ao (aa (aa (aa (aa (q32) (by kernel_rfl) Ls) (by kernel_rfl) E4) (by kernel_rfl) Tp) (by kernel_rfl) So)) aF (hl:=aj) (d:=4) func187 rfl (by decide) (Xc lpK jnK aH ap aK cY)
def oG (_:Lp) (_:Jn) (iw:Vj) (x0:Int×Int) (x1:Int):Option Int :=
 ah (iw x0 (x1,1)) fun (t:Int×Int×PUnit)=>some t.1
def fR (x0:Int×Int) (x1:Int):Option Int:=oG lpK jnK iw x0 x1
abbrev VV:=(Int×Int)->(Int)->Option (Int)
def OU:Ctr:=⟨[T47,i64],[],[],.one i64,fun x _ _=>fR x.1 x.2.1⟩
theorem W9 (lp:Lp) (jn:Jn) (iw:Vj):∀(x:TsS OU.as) (F:TsF OU.fs) (y:TsS OU.cs),oG lp jn iw x.1 x.2.1=bI lp jn (cx [(187,⟨[T47,T47],[],[],.tup [i64,i64],fun x _ _=>iw x.1 x.2.1⟩)] [(32,r32),(92,r92),(112,bi)]) aj 4 169 f169 OU x F y:=fun x F y=>by kernel_rfl
theorem Wh:OU.ok prog 169:=Ctr.of_den (ao (aa (q32) (by kernel_rfl) V3)) aF (hl:=aj) (d:=4) func169 rfl (by decide) (W9 lpK jnK iw)
def kJ (lp:Lp) (_:Jn) (x0:(List Int)×List ((List Int)×Int×Int)) (x1:Int):Option (List Int) :=
 lp (List Int×Int×PUnit) (List Int) (fun (again:List Int×Int×PUnit->Option (List Int)) (x:List Int×Int×PUnit)=>bif decide (x.2.1<(↑x0.2.length:Int)) then bif inB x.2.1 x0.2.length then bif inB x1 (List.length (x0.2.getD x.2.1.toNat ([],0,0)).1) then bif dM (List.length x.1+(1 : Nat)) 8 then again (x.1++[List.getD (x0.2.getD x.2.1.toNat ([],0,0)).1 x1.toNat 0],IntKind.wrap .i64 (x.2.1 + 1),PUnit.unit) else none else none else none else some x.1) ([],0,PUnit.unit)
def dX (x0:(List Int)×List ((List Int)×Int×Int)) (x1:Int):Option (List Int):=kJ lpK jnK x0 x1
abbrev Vr:=((List Int)×List ((List Int)×Int×Int))->(Int)->Option (List Int)
def L4:Ctr:=⟨[T82,i64],[],[],.one (.sl i64),fun x _ _=>dX x.1 x.2.1⟩
theorem YJ (lp:Lp) (jn:Jn):∀(x:TsS L4.as) (F:TsF L4.fs) (y:TsS L4.cs),kJ lp jn x.1 x.2.1=bI lp jn (cx [] [(32,r32),(92,r92),(112,bi)]) aj 4 170 f170 L4 x F y:=fun x F y=>by kernel_rfl
theorem WO:L4.ok prog 170:=Ctr.of_den (ao (q32)) aF (hl:=aj) (d:=4) func170 rfl (by decide) (YJ lpK jnK)
def jk (_:Lp) (_:Jn) (_:Int):Option Int :=
 some 0
def dw (x0:Int):Option Int:=jk lpK jnK x0
abbrev US:=(Int)->Option (Int)
def My:Ctr:=⟨[i64],[],[],.one i64,fun x _ _=>dw x.1⟩
theorem W5 (lp:Lp) (jn:Jn):∀(x:TsS My.as) (F:TsF My.fs) (y:TsS My.cs),jk lp jn x.1=bI lp jn (cx [] [(32,r32),(92,r92),(112,bi)]) aj 4 132 f132 My x F y:=fun x F y=>by kernel_rfl
theorem We:My.ok prog 132:=Ctr.of_den (ao (q32)) aF (hl:=aj) (d:=4) func132 rfl (by decide) (W5 lpK jnK)
def kU (lp:Lp) (_:Jn) (x0:(List Int)×List ((List Int)×Int×Int)):Option (List Int) :=
 lp (List Int×Int×PUnit) (List Int) (fun (again:List Int×Int×PUnit->Option (List Int)) (x:List Int×Int×PUnit)=>bif decide (x.2.1<(↑x0.2.length:Int)) then bif inB x.2.1 x0.2.length then bif dM (List.length x.1+1) 8 then again (x.1++[(x0.2.getD x.2.1.toNat ([],0,(0 : Int))).2.2],IntKind.wrap .i64 (x.2.1+1),PUnit.unit) else none else none else some x.1) ([],0,PUnit.unit)
def dZ (x0:(List Int)×List ((List Int)×Int×Int)):Option (List Int):=kU lpK jnK x0
abbrev U0:=((List Int)×List ((List Int)×Int×Int))->Option (List Int)
def Lo:Ctr:=⟨[T82],[],[],.one (.sl i64),fun x _ _=>dZ x.1⟩
theorem YY (lp:Lp) (jn:Jn):∀(x:TsS Lo.as) (F:TsF Lo.fs) (y:TsS Lo.cs),kU lp jn x.1=bI lp jn (cx [] [(32,r32),(92,r92),(112,bi)]) aj 4 134 f134 Lo x F y:=fun x F y=>by kernel_rfl
theorem Vg:Lo.ok prog 134:=Ctr.of_den (ao (q32)) aF (hl:=aj) (d:=4) func134 rfl (by decide) (YY lpK jnK)
def kW (lp:Lp) (_:Jn) (x0:(List Int)×List ((List Int)×Int×Int)) (x1:List (Int×Int)):Option Bool :=
 lp (Int×PUnit) Bool (fun (again:Int×PUnit->Option Bool) (x:Int×PUnit) =>
 let v6:Bool:=inB x.1 x1.length;
 let v7:Bool:=decide ((x0.2.getD x.1.toNat ([],0,0)).2.1=1);
 let v8:Bool:=decide ((x0.2.getD x.1.toNat ([],0,0)).2.1=2);
 let v9:Bool:=!v7;
 let v10:Bool:=bif v7 then decide ((x1.getD x.1.toNat (0,0)).1>0) else false;
 let v11:Bool:=!v10;
 let v12:Bool:=!v11;
 let v13:Bool:=v9||v7;
 let v14:Bool:=v11&&v8;
 let v15:Bool:=!v14;
 let v16:Bool:=v12||v11;
 let v17:Bool:=v15||v14;bif decide (x.1<(↑x0.2.length:Int)) then bif inB x.1 x0.2.length then bif v13&&(v13&&(v9||v6)) then bif v13 then bif v13 then bif v13 then bif v13 then bif v16 then bif v16 then bif v16 then bif v17&&(v17&&(v15||v6)) then bif v17 then bif v17 then bif v17 then bif (v12||v16)&&(v12||(!v8||(v12 || v14))) then bif v10||v11 then bif bif v10 then true else bif v8 then decide ((x1.getD x.1.toNat (0,0)).1<0) else false then some false else again (IntKind.wrap .i64 (x.1+1),PUnit.unit) else none else none else none else none else none else none else none else none else none else none else none else none else none else none else none else some true) (0,PUnit.unit)
def dU (x0:(List Int)×List ((List Int)×Int×Int)) (x1:List (Int×Int)):Option Bool:=kW lpK jnK x0 x1
abbrev VS:=((List Int)×List ((List Int)×Int×Int))->(List (Int×Int))->Option (Bool)
def Mf:Ctr:=⟨[T82,(.sl T47)],[],[],.one .bool,fun x _ _=>dU x.1 x.2.1⟩
theorem WZ (lp:Lp) (jn:Jn):∀(x:TsS Mf.as) (F:TsF Mf.fs) (y:TsS Mf.cs),kW lp jn x.1 x.2.1=bI lp jn (cx [] [(32,r32),(92,r92),(112,bi)]) aj 4 135 f135 Mf x F y:=fun x F y=>by kernel_rfl
theorem Wv:Mf.ok prog 135:=Ctr.of_den (ao (q32)) aF (hl:=aj) (d:=4) func135 rfl (by decide) (WZ lpK jnK)
def kg (lp:Lp) (_:Jn) (bg:t99) (eL:Vk) (fR:VV) (dX:Vr) (dw:US) (dZ:U0) (dU:VS) (cg:Ud) (x0:(List Int)×List ((List Int)×Int×Int)) (x1:List (Int×Int)):Option (Bool×Int×Unit) :=
 ah (bg x0) fun (t:Bool) =>
 let v5:Bool:=!t;
 let v6:Bool:=!v5;
 let v7:Bool:=!v6||v6;bif v7 then ah (bif v6 then eL x1 else some false) fun (t:Bool)=>bif v7 then bif v5||v6 then bif bif v5 then true else !t then some (false, 1,PUnit.unit) else bif !decide ((↑x1.length:Int)=(↑x0.2.length:Int)) then some (false,3,PUnit.unit) else lp (Bool×Int×Int×PUnit) (Bool × Int×PUnit) (fun (again:Bool×Int×Int×PUnit->Option (Bool×Int×PUnit)) (x:Bool×Int×Int×PUnit)=>bif decide (x.2.1<(↑x0.1.length:Int)) then ah (dX x0 x.2.1) fun (t:List Int)=>ah (cg x.2.2.1 t x1) fun (t:Int×Int×Int)=>ah (dw x.2.1) fun (t_1:Int)=>ah (fR t.2 t_1) fun (t_2:Int) =>
 let v15:Bool:=decide (t_2<=0);bif !v15||v15 then again (bif v15 then x.1 else false,IntKind.wrap .i64 (x.2.1+1),t.1,PUnit.unit) else none else ah (dZ x0) fun (t:List Int)=>ah (cg x.2.2.1 t x1) fun (t:Int×Int×Int) =>
 let v13:Bool:=decide (t.2.1>0);
 let v14:Bool:=!v13||v13;bif v14&&v14 then ah (bif v13 then dU x0 x1 else some false) fun (t_1:Bool) =>
 let v16:Bool:=bif v13 then t_1 else false;
 let v17:Bool:=bif v16 then x.1 else false;
 let v18:Bool:=!v17||v17;bif v14 then bif !v16||v16 then bif v18 then bif v18 then bif v18 then some (bif v17 then decide (t.1=0) else false,t.1,PUnit.unit) else none else none else none else none else none else none) (true,0,0,PUnit.unit) else none else none else none
def cm (x0:(List Int)×List ((List Int)×Int×Int)) (x1:List (Int×Int)):Option (Bool×Int×Unit):=kg lpK jnK bg eL fR dX dw dZ dU cg x0 x1
abbrev t94:=((List Int)×List ((List Int)×Int×Int))->(List (Int×Int))->Option (Bool×Int×Unit)
def k94 (cm:t94):Ctr:=⟨[T82,(.sl T47)],[],[],.tup [.bool,i64],fun x _ _=>cm x.1 x.2.1⟩
def c94:Ctr:=k94 cm
theorem e94 (lp:Lp) (jn:Jn) (bg:t99) (eL:Vk) (fR:VV) (dX:Vr) (dw:US) (dZ:U0) (dU:VS) (cg:Ud):∀(x:TsS c94.as) (F:TsF c94.fs) (y:TsS c94.cs),kg lp jn bg eL fR dX dw dZ dU cg x.1 x.2.1=bI lp jn (yN Au Ap (Gx [] [(133,VI cg)] (jv prog shs tX its [(135,⟨[T82,(.sl T47)],[],[],.one .bool,fun x _ _=>dU x.1 x.2.1⟩),(134,⟨[T82],[],[],.one (.sl i64),fun x _ _=>dZ x.1⟩),(132,⟨[i64],[],[],.one i64,fun x _ _=>dw x.1⟩),(170,⟨[T82,i64],[],[],.one (.sl i64),fun x _ _=>dX x.1 x.2.1⟩),(169,⟨[T47,i64],[],[],.one i64,fun x _ _=>fR x.1 x.2.1⟩),(130,⟨[(.sl T47)],[],[],.one .bool,fun x _ _=>eL x.1⟩),(99,k99 bg)] [(32,r32),(92,r92),(112,bi)]))) aj 4 94 f94 c94 x F y:=fun x F y=>by kernel_rfl
theorem X7:c94.ok prog 94:=Ctr.of_den (ao (sP (aa (aa (aa (aa (aa (aa (aa (q32) (by kernel_rfl) Ul) (by kernel_rfl) Uw) (by kernel_rfl) Wh) (by kernel_rfl) WO) (by kernel_rfl) We) (by kernel_rfl) Vg) (by kernel_rfl) Wv) (pr) (JG (by kernel_rfl) VY (pq)))) aF (hl:=aj) (d:=4) func94 rfl (by decide) (e94 lpK jnK bg eL fR dX dw dZ dU cg)
def rZ (_:Lp) (_:Jn) (bh:t55) (cm:t94) (x0:(List (ByteArray×Int))×List (ByteArray×(List (ByteArray×Int×Int×Int))×Bool)) (x1:List (Int×Int)):Option (Bool×Int×Unit) :=
 ah (bh x0) fun (t:(List Int×List (List Int×Int×Int))×Int×PUnit)=>bif !decide (t.2.1=0) then some (false,t.2.1,PUnit.unit) else ah (cm t.1 x1) fun (t:Bool×Int×PUnit)=>some (t.1,t.2.1,PUnit.unit)
def fA (x0:(List (ByteArray×Int))×List (ByteArray×(List (ByteArray×Int×Int×Int))×Bool)) (x1:List (Int×Int)):Option (Bool×Int×Unit):=rZ lpK jnK bh cm x0 x1
abbrev t52:=((List (ByteArray×Int))×List (ByteArray×(List (ByteArray×Int×Int×Int))×Bool))->(List (Int×Int))->Option (Bool×Int×Unit)
def k52 (fA:t52):Ctr:=⟨[T25,(.sl T47)],[],[],.tup [.bool,i64],fun x _ _=>fA x.1 x.2.1⟩
def c52:Ctr:=k52 fA
theorem e52 (lp:Lp) (jn:Jn) (bh:t55) (cm:t94):∀(x:TsS c52.as) (F:TsF c52.fs) (y:TsS c52.cs),rZ lp jn bh cm x.1 x.2.1=bI lp jn (cx [(94,k94 cm),(55,k55 bh)] [(32,r32),(92,r92),(112,bi)]) aj 4 52 f52 c52 x F y:=fun x F y=>by kernel_rfl
theorem Xw:c52.ok prog 52:=Ctr.of_den (ao (aa (aa (q32) (by kernel_rfl) T9) (by kernel_rfl) X7)) aF (hl:=aj) (d:=4) func52 rfl (by decide) (e52 lpK jnK bh cm)
def ot (_:Lp) (_:Jn) (ap:t58) (x0:Int×Int):Option Bool :=
 ah (ap x0) fun (t:Bool)=>some !t
def fj (x0:Int×Int):Option Bool:=ot lpK jnK ap x0
abbrev WG:=(Int×Int)->Option (Bool)
def Ll:Ctr:=⟨[T47],[],[],.one .bool,fun x _ _=>fj x.1⟩
theorem Xi (lp:Lp) (jn:Jn) (ap:t58):∀(x:TsS Ll.as) (F:TsF Ll.fs) (y:TsS Ll.cs),ot lp jn ap x.1=bI lp jn (cx [(58,k58 ap)] [(32,r32),(92,r92),(112,bi)]) aj 4 172 f172 Ll x F y:=fun x F y=>by kernel_rfl
theorem UF:Ll.ok prog 172:=Ctr.of_den (ao (aa (q32) (by kernel_rfl) E4)) aF (hl:=aj) (d:=4) func172 rfl (by decide) (Xi lpK jnK ap)
def qL (_:Lp) (_:Jn) (aY:t72) (ai:t34) (fj:WG) (x0:(List (ByteArray×Int))×List (ByteArray×(List (ByteArray×Int×Int×Int))×Bool)) (x1:List (Int×Int)):Option ((List (List Int))×Int×Unit) :=
 ah (aY x0) fun (t:List (List Int)×Int×PUnit)=>bif !decide (t.2.1=0) then some ([],t.2.1,PUnit.unit) else ah (ai x1 fun (x : (Int×Int)×PUnit)=>fj x.1) fun (t_1:Bool)=>bif t_1 then some ([],1,PUnit.unit) else bif !decide ((↑x1.length:Int)=(↑x0.2.length : Int)) then some ([],3,PUnit.unit) else some (t.1,0,PUnit.unit)
def eK (x0:(List (ByteArray×Int))×List (ByteArray×(List (ByteArray×Int×Int×Int))×Bool)) (x1:List (Int×Int)):Option ((List (List Int))×Int×Unit):=qL lpK jnK aY ai fj x0 x1
abbrev Tu:=((List (ByteArray×Int))×List (ByteArray×(List (ByteArray×Int×Int×Int))×Bool))->(List (Int×Int))->Option ((List (List Int))×Int×Unit)
def Uy (eK:Tu):Ctr:=⟨[T25,(.sl T47)],[],[],.tup [(.sl (.sl i64)),i64],fun x _ _=>eK x.1 x.2.1⟩
def Ny:Ctr:=Uy eK
theorem X6 (lp:Lp) (jn:Jn) (aY:t72) (ai:t34) (fj:WG):∀(x:TsS Ny.as) (F:TsF Ny.fs) (y:TsS Ny.cs),qL lp jn aY ai fj x.1 x.2.1=bI lp jn (cx [(172,⟨[T47],[],[],.one .bool,fun x _ _=>fj x.1⟩),(34,k34 ai),(72,k72 aY)] [(32,r32),(92,r92),(112,bi)]) aj 4 136 f136 Ny x F y:=fun x F y=>by kernel_rfl
theorem Wy:Ny.ok prog 136:=Ctr.of_den (ao (aa (aa (aa (q32) (by kernel_rfl) Ub) (by kernel_rfl) Ke) (by kernel_rfl) UF)) aF (hl:=aj) (d:=4) func136 rfl (by decide) (X6 lpK jnK aY ai fj)
def vK (_:Lp) (_:Jn) (x0:Int):Option (Int×Int) :=
 some (x0,1)
def dq (x0:Int):Option (Int×Int):=vK lpK jnK x0
abbrev M6:=(Int)->Option (Int×Int)
def TW (dq:M6):Ctr:=⟨[i64],[],[],.one T47,fun x _ _=>dq x.1⟩
def L9:Ctr:=TW dq
theorem W7 (lp:Lp) (jn:Jn):∀(x:TsS L9.as) (F:TsF L9.fs) (y:TsS L9.cs),vK lp jn x.1=bI lp jn (cx [] [(32,r32),(92,r92),(112,bi)]) aj 4 137 f137 L9 x F y:=fun x F y=>by kernel_rfl
theorem Sp:L9.ok prog 137:=Ctr.of_den (ao (q32)) aF (hl:=aj) (d:=4) func137 rfl (by decide) (W7 lpK jnK)
def se (_:Lp) (_:Jn) (cO:t23) (cK:FX) (dq:M6) (x0:Int×Int) (x1:Int) (x2:Int×Int):Option ((Int×Int)×Int×Unit) :=
 ah (dq x1) fun (t:Int×Int)=>ah (cO t x2) fun (t:(Int×Int)×Int×PUnit)=>bif !decide (t.2.1=0) then some ((0,0),t.2.1, PUnit.unit) else ah (cK x0 t.1) fun (t:(Int×Int)×Int×PUnit)=>some (t.1,t.2.1,PUnit.unit)
def fx (x0:Int×Int) (x1:Int) (x2:Int×Int):Option ((Int×Int)×Int×Unit):=se lpK jnK cO cK dq x0 x1 x2
abbrev SL:=(Int×Int)->(Int)->(Int×Int)->Option ((Int×Int)×Int×Unit)
def UH (fx:SL):Ctr:=⟨[T47,i64,T47],[],[],.tup [T47,i64],fun x _ _=>fx x.1 x.2.1 x.2.2.1⟩
def K2:Ctr:=UH fx
theorem XX (lp:Lp) (jn:Jn) (cO:t23) (cK:FX) (dq:M6):∀(x:TsS K2.as) (F:TsF K2.fs) (y:TsS K2.cs),se lp jn cO cK dq x.1 x.2.1 x.2.2.1=bI lp jn (cx [(137,TW dq),(171,Q7 cK),(23,k23 cO)] [(32,r32),(92,r92),(112,bi)]) aj 4 138 f138 K2 x F y:=fun x F y=>by kernel_rfl
theorem UV:K2.ok prog 138:=Ctr.of_den (ao (aa (aa (aa (q32) (by kernel_rfl) Vs) (by kernel_rfl) Pr) (by kernel_rfl) Sp)) aF (hl:=aj) (d:=4) func138 rfl (by decide) (XX lpK jnK cO cK dq)
def wU (_:Lp) (_:Jn) (ap:t58) (cK:FX) (x0:Int×Int) (x1:Int×Int):Option ((Int×Int)×Int×Unit) :=
 ah (ap x0) fun (t:Bool) =>
 let v5:Bool:=!t;
 let v6:Bool:=!v5;
 let v7:Bool:=!v6||v6;bif v7 then ah (bif v6 then ap x1 else some false) fun (t:Bool)=>bif v7 then bif v5||v6 then bif bif v5 then true else !t then some (((0 : Int),0),1,PUnit.unit) else ah (cK x0 (IntKind.wrap .i64 (0 - x1.1),x1.2)) fun (t:(Int×Int)×Int×PUnit)=>some (t.1,t.2.1, PUnit.unit) else none else none else none
def jR (x0:Int×Int) (x1:Int×Int):Option ((Int×Int)×Int×Unit):=wU lpK jnK ap cK x0 x1
abbrev WV:=(Int×Int)->(Int×Int)->Option ((Int×Int)×Int×Unit)
def Pp:Ctr:=⟨[T47,T47],[],[],.tup [T47,i64],fun x _ _=>jR x.1 x.2.1⟩
theorem X8 (lp:Lp) (jn:Jn) (ap:t58) (cK:FX):∀(x:TsS Pp.as) (F:TsF Pp.fs) (y:TsS Pp.cs),wU lp jn ap cK x.1 x.2.1=bI lp jn (cx [(171,Q7 cK),(58,k58 ap)] [(32,r32),(92,r92),(112,bi)]) aj 4 139 f139 Pp x F y:=fun x F y=>by kernel_rfl
theorem Vt:Pp.ok prog 139:=Ctr.of_den (ao (aa (aa (q32) (by kernel_rfl) E4) (by kernel_rfl) Pr)) aF (hl:=aj) (d:=4) func139 rfl (by decide) (X8 lpK jnK ap cK)
def mr (lp:Lp) (_:Jn) (eK:Tu) (dq:M6) (fx:SL) (jR:WV) (x0:(List (ByteArray×Int))×List (ByteArray×(List (ByteArray×Int×Int×Int))×Bool)) (x1:List (Int×Int)):Option ((List (Int×Int))×Int×Unit) :=
 ah (eK x0 x1) fun (t:List (List Int)×Int×PUnit)=>bif !decide (t.2.1=0) then some ([],t.2.1,PUnit.unit) else lp (List (Int×Int)×Int×Int × PUnit) (List (Int×Int)×Int×PUnit) (fun (again:List (Int×Int)×Int×Int×PUnit->Option (List (Int×Int)×Int×PUnit)) (x:List (Int×Int)×Int×Int×PUnit) =>
 let v7:List Int:=t.1.getD x.2.2.1.toNat [];bif decide (x.2.2.1<(↑t.1.length:Int)) then ah (dq 0) fun (t_1:Int×Int)=>lp (Int×(Int×Int)×PUnit) (List (Int×Int)×Int×PUnit) (fun (again_1:Int×(Int×Int)×PUnit->Option (List (Int×Int)×Int×PUnit)) (x_1:Int×(Int×Int)×PUnit) => bif decide (x_1.1<(↑x1.length:Int)) then bif inB x.2.2.1 t.1.length then bif inB x_1.1 v7.length then bif inB x_1.1 x1.length then ah (fx x_1.2.1 (v7.getD x_1.1.toNat 0) (x1.getD x_1.1.toNat (0,0))) fun (t:(Int×Int)×Int×PUnit) =>
 let v12:Bool:=!decide (t.2.1=0);bif v12 then bif v12 then some ([],t.2.1,PUnit.unit) else some (x.1,0,PUnit.unit) else again_1 (IntKind.wrap IntKind.i64 (x_1.1+1),t.1,PUnit.unit) else none else none else none else bif inB x.2.2.1 x0.1.length then ah (dq (x0.1.getD x.2.2.1.toNat ({ data:={ toList:=[] } },0)).2) fun (t:Int×Int)=>ah (jR t x_1.2.1) fun (t:(Int×Int)×Int×PUnit) =>
 let v13:Bool:=!decide (t.2.1=0);bif v13 then bif v13 then some ([],t.2.1,PUnit.unit) else some (x.1,0,PUnit.unit) else bif dM (List.length x.1 + 1) 16 then again (x.1++[t.1],t.2.1,IntKind.wrap .i64 (x.2.2.1+1),PUnit.unit) else none else none) (0,t_1,PUnit.unit) else bif !decide (x.2.1=0) then some ([],x.2.1,PUnit.unit) else some (x.1,0,PUnit.unit)) ([],0,0,PUnit.unit)
def df (x0:(List (ByteArray×Int))×List (ByteArray×(List (ByteArray×Int×Int×Int))×Bool)) (x1:List (Int×Int)):Option ((List (Int×Int))×Int×Unit):=mr lpK jnK eK dq fx jR x0 x1
abbrev t95:=((List (ByteArray×Int))×List (ByteArray×(List (ByteArray×Int×Int×Int))×Bool))->(List (Int×Int))->Option ((List (Int×Int))×Int×Unit)
def k95 (df:t95):Ctr:=⟨[T25,(.sl T47)],[],[],.tup [(.sl T47),i64],fun x _ _=>df x.1 x.2.1⟩
def c95:Ctr:=k95 df
theorem e95 (lp:Lp) (jn:Jn) (eK:Tu) (dq:M6) (fx:SL) (jR:WV):∀(x:TsS c95.as) (F:TsF c95.fs) (y:TsS c95.cs),mr lp jn eK dq fx jR x.1 x.2.1=bI lp jn (cx [(139,⟨[T47,T47],[],[],.tup [T47,i64],fun x _ _=>jR x.1 x.2.1⟩),(138,UH fx),(137,TW dq),(136,Uy eK)] [(32,r32),(92,r92),(112,bi)]) aj 4 95 f95 c95 x F y:=fun x F y=>by kernel_rfl
theorem XA:c95.ok prog 95:=Ctr.of_den (ao (aa (aa (aa (aa (q32) (by kernel_rfl) Wy) (by kernel_rfl) Sp) (by kernel_rfl) UV) (by kernel_rfl) Vt)) aF (hl:=aj) (d:=4) func95 rfl (by decide) (e95 lpK jnK eK dq fx jR)
def nW (_:Lp) (_:Jn) (x0:Int×Int):Option Bool :=
 some !decide (x0.1=0)
def fc (x0:Int×Int):Option Bool:=nW lpK jnK x0
abbrev t96:=(Int×Int)->Option (Bool)
def c96:Ctr:=⟨[T47],[],[],.one .bool,fun x _ _=>fc x.1⟩
theorem e96 (lp:Lp) (jn:Jn):∀(x:TsS c96.as) (F:TsF c96.fs) (y:TsS c96.cs),nW lp jn x.1=bI lp jn (cx [] [(32,r32),(92,r92),(112,bi)]) aj 4 96 f96 c96 x F y:=fun x F y=>by kernel_rfl
theorem XC:c96.ok prog 96:=Ctr.of_den (ao (q32)) aF (hl:=aj) (d:=4) func96 rfl (by decide) (e96 lpK jnK)
def qN (_:Lp) (_:Jn) (ai:t34) (df:t95) (fc:t96) (x0:(List (ByteArray×Int))×List (ByteArray×(List (ByteArray×Int×Int×Int))×Bool)) (x1:List (Int×Int)):Option (Bool×Int×Unit) :=
 ah (df x0 x1) fun (t:List (Int×Int)×Int×PUnit)=>bif !decide (t.2.1=0) then some (false,t.2.1,PUnit.unit) else ah (ai t.1 fun (x:(Int×Int)×PUnit)=>fc x.1) fun (t:Bool)=>some (!t,0,PUnit.unit)
def eQ (x0:(List (ByteArray×Int))×List (ByteArray×(List (ByteArray×Int×Int×Int))×Bool)) (x1:List (Int×Int)):Option (Bool×Int×Unit):=qN lpK jnK ai df fc x0 x1
abbrev t53:=((List (ByteArray×Int))×List (ByteArray×(List (ByteArray×Int×Int×Int))×Bool))->(List (Int×Int))->Option (Bool×Int×Unit)
def k53 (eQ:t53):Ctr:=⟨[T25,(.sl T47)],[],[],.tup [.bool,i64],fun x _ _=>eQ x.1 x.2.1⟩
def c53:Ctr:=k53 eQ
theorem e53 (lp:Lp) (jn:Jn) (ai:t34) (df:t95) (fc:t96):∀(x:TsS c53.as) (F:TsF c53.fs) (y:TsS c53.cs),qN lp jn ai df fc x.1 x.2.1=bI lp jn (cx [(96,⟨[T47],[],[],.one .bool,fun x _ _=>fc x.1⟩),(95,k95 df),(34,k34 ai)] [(32,r32),(92,r92),(112,bi)]) aj 4 53 f53 c53 x F y:=fun x F y=>by kernel_rfl
theorem X9:c53.ok prog 53:=Ctr.of_den (ao (aa (aa (aa (q32) (by kernel_rfl) Ke) (by kernel_rfl) XA) (by kernel_rfl) XC)) aF (hl:=aj) (d:=4) func53 rfl (by decide) (e53 lpK jnK ai df fc)
def oo (_:Lp) (_:Jn) (x0:Int×Int):Option Bool :=
 some (decide (x0.1<0))
def fm (x0:Int×Int):Option Bool:=oo lpK jnK x0
abbrev t54:=(Int×Int)->Option (Bool)
def c54:Ctr:=⟨[T47],[],[],.one .bool,fun x _ _=>fm x.1⟩
theorem e54 (lp:Lp) (jn:Jn):∀(x:TsS c54.as) (F:TsF c54.fs) (y:TsS c54.cs),oo lp jn x.1=bI lp jn (cx [] [(32,r32),(92,r92),(112,bi)]) aj 4 54 f54 c54 x F y:=fun x F y=>by kernel_rfl
theorem Y4:c54.ok prog 54:=Ctr.of_den (ao (q32)) aF (hl:=aj) (d:=4) func54 rfl (by decide) (e54 lpK jnK)
def qI (_:Lp) (jn:Jn) (ba:t50) (ai:t34) (cD:t49) (cC:t51) (fA:t52) (eQ:t53) (fm:t54) (x0:(List (ByteArray×Int))×List (ByteArray×(List (ByteArray×Int×Int×Int))×Bool)) (x1:(List (Int×Int))×Bool×List (Int×Int)):Option (Bool×Int×Unit) :=
 ah (cD x1) fun (t:List (Int×Int)×List (Int×Int)×PUnit)=>jn (Int×PUnit) (Bool×Int×PUnit) (fun (x:Int×PUnit)=>ah (ba x0) fun (t_1:Bool) =>
 let v7:Bool:=!t_1;
 let v8:Bool:=!v7;
 let v9:Bool:=!v8||v8;bif v9 then ah (bif v8 then cC x1 else some false) fun (t_2:Bool)=>bif v9 then bif v7||v8 then bif bif v7 then true else !t_2 then some (false,1,PUnit.unit) else bif decide ((↑t.2.1.length:Int)>0) then some (false,19,PUnit.unit) else bif !decide ((↑t.1.length:Int) = x.1) then some (false,3,PUnit.unit) else bif x1.2.1 then ah (fA x0 t.1) fun (t:Bool×Int×PUnit)=>some (t.1,t.2.1,PUnit.unit) else ah (eQ x0 t.1) fun (t_3:Bool×Int×PUnit) =>
 let v12:Bool:=decide (t_3.2.1=0);
 let v13:Bool:=bif v12 then t_3.1 else false;
 let v14:Bool:=!v13||v13;bif !v12||v12 then bif v14 then ah (bif v13 then ai t.1 fun (x:(Int×Int)×PUnit)=>fm x.1 else some false) fun (t:Bool)=>bif v14 then bif v14 then some (bif v13 then !t else false,t_3.2.1,PUnit.unit) else none else none else none else none else none else none else none) fun (j : Int×PUnit->Option (Bool×Int×PUnit))=>bif x1.2.1 then j ((↑x0.1.length:Int),PUnit.unit) else j ((↑x0.2.length:Int),PUnit.unit)
def aR (x0:(List (ByteArray×Int))×List (ByteArray×(List (ByteArray×Int×Int×Int))×Bool)) (x1:(List (Int×Int))×Bool×List (Int×Int)):Option (Bool×Int×Unit):=qI lpK jnK ba ai cD cC fA eQ fm x0 x1
abbrev t19:=((List (ByteArray×Int))×List (ByteArray×(List (ByteArray×Int×Int×Int))×Bool))->((List (Int×Int))×Bool×List (Int×Int))->Option (Bool×Int×Unit)
def k19 (aR:t19):Ctr:=⟨[T25,T30],[],[],.tup [.bool,i64],fun x _ _=>aR x.1 x.2.1⟩
def c19:Ctr:=k19 aR
theorem e19 (lp:Lp) (jn:Jn) (ba:t50) (ai:t34) (cD:t49) (cC:t51) (fA:t52) (eQ:t53) (fm:t54):∀(x:TsS c19.as) (F:TsF c19.fs) (y:TsS c19.cs),qI lp jn ba ai cD cC fA eQ fm x.1 x.2.1=bI lp jn (cx [(54,⟨[T47],[],[],.one .bool,fun x _ _=>fm x.1⟩),(53,k53 eQ),(52,k52 fA),(51,k51 cC),(49,k49 cD),(34,k34 ai),(50,k50 ba)] [(32,r32),(92,r92),(112,bi)]) aj 4 19 f19 c19 x F y:=fun x F y=>by kernel_rfl
theorem X2:c19.ok prog 19:=Ctr.of_den (ao (aa (aa (aa (aa (aa (aa (aa (q32) (by kernel_rfl) TA) (by kernel_rfl) Ke) (by kernel_rfl) UG) (by kernel_rfl) VW) (by kernel_rfl) Xw) (by kernel_rfl) X9) (by kernel_rfl) Y4)) aF (hl:=aj) (d:=4) func19 rfl (by decide) (e19 lpK jnK ba ai cD cC fA eQ fm)
def ym (_:Lp) (_:Jn) (x0:Int):Option (Int×Int) :=
 some (x0,1)
def aZ (x0:Int):Option (Int×Int):=ym lpK jnK x0
abbrev t24:=(Int)->Option (Int×Int)
def k24 (aZ:t24):Ctr:=⟨[i64],[],[],.one T47,fun x _ _=>aZ x.1⟩
def c24:Ctr:=k24 aZ
theorem e24 (lp:Lp) (jn:Jn):∀(x:TsS c24.as) (F:TsF c24.fs) (y:TsS c24.cs),ym lp jn x.1=bI lp jn (cx [] [(32,r32),(92,r92),(112,bi)]) aj 4 24 f24 c24 x F y:=fun x F y=>by kernel_rfl
theorem SK:c24.ok prog 24:=Ctr.of_den (ao (q32)) aF (hl:=aj) (d:=4) func24 rfl (by decide) (e24 lpK jnK)
def tU (lp:Lp) (_:Jn) (x0:List Int) (x1:Int) (x2:Int):Option (List Int) :=
 lp (List Int×Int×PUnit) (List Int) (fun (again:List Int×Int×PUnit->Option (List Int)) (x:List Int×Int×PUnit)=>bif decide (x.2.1>=0) then bif decide ((0 : Int)<=IntKind.wrap .i64 (8*x.2.1)) then bif dM (List.length x.1+1) 1 then again (x.1++[IntKind.wrap IntKind.u8 (Int.fdiv x1 (2 ^ min (Int.toNat (IntKind.wrap .i64 (8*x.2.1))) 64))],IntKind.wrap .i64 (x.2.1 - 1),PUnit.unit) else none else none else bif Nat.ble (1 : Nat) x.1.length then some x.1 else none) (x0,IntKind.wrap .i64 (x2 - 1),PUnit.unit)
def fQ (x0:List Int) (x1:Int) (x2:Int):Option (List Int):=tU lpK jnK x0 x1 x2
def a63:ACtr:=⟨[i64,i64],5,(.int .u8),fun l x=>fQ l x.1 x.2.1⟩
theorem e63 (lp:Lp) (jn:Jn):∀(l:List a63.e.T) (x:TsS a63.as),tU lp jn l x.1 x.2.1=Tj lp jn (cx [] [(32,r32),(92,r92),(112,bi)]) aj 4 63 f63 a63 l x:=fun l x=>by kernel_rfl
theorem Yj:a63.ok prog 63:=ACtr.of_den (ao (q32)) aF (hl:=aj) (d:=4) func63 rfl (by decide) (e63 lpK jnK)
def tJ (lp:Lp) (_:Jn) (x0:List Int):Option Int :=
 lp (Int×Int×PUnit) Int (fun (again:Int×Int×PUnit->Option Int) (x:Int×Int×PUnit)=>bif decide (x.2.1<(↑x0.length:Int)) then bif inB x.2.1 x0.length then again (IntKind.wrap IntKind.u32 (IntKind.wrap IntKind.u32 (IntKind.wrap IntKind.u32 (31*x.1)+IntKind.wrap IntKind.u32 (x0.getD x.2.1.toNat (0 : Int)))+1),IntKind.wrap .i64 (x.2.1+1),PUnit.unit) else none else some (IntKind.wrap .i64 x.1)) (0,0,PUnit.unit)
def eG (x0:List Int):Option Int:=tJ lpK jnK x0
abbrev t64:=(List Int)->Option (Int)
def k64 (eG:t64):Ctr:=⟨[(.sl (.int .u8))],[],[],.one i64,fun x _ _=>eG x.1⟩
def c64:Ctr:=k64 eG
theorem e64 (lp:Lp) (jn:Jn):∀(x:TsS c64.as) (F:TsF c64.fs) (y:TsS c64.cs),tJ lp jn x.1=bI lp jn (cx [] [(32,r32),(92,r92),(112,bi)]) aj 4 64 f64 c64 x F y:=fun x F y=>by kernel_rfl
theorem W3:c64.ok prog 64:=Ctr.of_den (ao (q32)) aF (hl:=aj) (d:=4) func64 rfl (by decide) (e64 lpK jnK)
def pt (lp:Lp) (jn:Jn) (cD:t49) (cC:t51) (eG:t64) (fQ:(List Int)->(Int)->(Int)->Option (List Int)) (x0:(List (Int×Int))×Bool×List (Int×Int)):Option ((List Int)×Int×Unit) :=
 ah (cD x0) fun (t:List (Int×Int)×List (Int×Int)×PUnit) =>
 let v4:List Int:=[IntKind.wrap IntKind.u8 (↑t.1.length:Int)];ah (cC x0) fun (t_1:Bool)=>bif !t_1 then some ([],1,PUnit.unit) else bif decide ((↑t.2.1.length:Int)>0) then some ([],19,PUnit.unit) else bif decide ((↑t.1.length:Int)>20) then some ([],4,PUnit.unit) else jn (List Int×PUnit) (List Int×Int×PUnit) (fun (x:List Int×PUnit)=>lp (List Int×Int×PUnit) (List Int×Int×PUnit) (fun (again:List Int×Int×PUnit->Option (List Int×Int×PUnit)) (x:List Int×Int×PUnit) =>
 let v9:Int×Int:=t.1.getD x.2.1.toNat (0,0);bif decide (x.2.1<(↑t.1.length:Int)) then bif inB x.2.1 t.1.length then ah (fQ x.1 v9.1 8) fun (t:List Int)=>ah (fQ t v9.2 8) fun (t:List Int)=>again (t,IntKind.wrap .i64 (x.2.1+1), PUnit.unit) else none else ah (eG x.1) fun (t:Int)=>ah (fQ x.1 t 4) fun (t:List Int)=>some (t,0,PUnit.unit)) (x.1,0, PUnit.unit)) fun (j:List Int×PUnit->Option (List Int×Int×PUnit))=>bif x0.2.1 then j (84 ::67 ::1 ::v4,PUnit.unit) else j (84 ::(67 : Int) ::0 ::v4,PUnit.unit)
def cv (x0:(List (Int×Int))×Bool×List (Int×Int)):Option ((List Int)×Int×Unit):=pt lpK jnK cD cC eG fQ x0
abbrev t25:=((List (Int×Int))×Bool×List (Int×Int))->Option ((List Int)×Int×Unit)
def k25 (cv:t25):Ctr:=⟨[T30],[],[],.tup [(.sl (.int .u8)),i64],fun x _ _=>cv x.1⟩
def c25:Ctr:=k25 cv
theorem e25 (lp:Lp) (jn:Jn) (cD:t49) (cC:t51) (eG:t64) (fQ:(List Int)->(Int)->(Int)->Option (List Int)):∀(x:TsS c25.as) (F:TsF c25.fs) (y:TsS c25.cs),pt lp jn cD cC eG fQ x.1=bI lp jn (yN Au Ap (U9 [(63,⟨[i64,i64],5,(.int .u8),fun l x=>fQ l x.1 x.2.1⟩)] (jv prog shs tX its [(64,k64 eG),(51,k51 cC),(49,k49 cD)] [(32,r32),(92,r92),(112,bi)]))) aj 4 25 f25 c25 x F y:=fun x F y=>by kernel_rfl
theorem XE:c25.ok prog 25:=Ctr.of_den (ao (Q9 (aa (aa (aa (q32) (by kernel_rfl) UG) (by kernel_rfl) VW) (by kernel_rfl) W3) (JL (by kernel_rfl) Yj (KS)))) aF (hl:=aj) (d:=4) func25 rfl (by decide) (e25 lpK jnK cD cC eG fQ)
def qP (_:Lp) (_:Jn) (aZ:t24) (x0:Int):Option ((List (ByteArray×Int))×List (ByteArray×(List (ByteArray×Int×Int×Int))×Bool)) :=
 ah (aZ 1) fun (t:Int×Int) =>
 let v4:ByteArray×Int×Int×Int:=({ data:=#[] },0,t);some ([({ data:=#[(98:UInt8)] },300)],[({ data:=#[(114:UInt8)] },[v4,({ data:=#[(98 : UInt8)] },x0,t),v4],true)])
def eO (x0:Int):Option ((List (ByteArray×Int))×List (ByteArray×(List (ByteArray×Int×Int×Int))×Bool)):=qP lpK jnK aZ x0
abbrev t37:=(Int)->Option ((List (ByteArray×Int))×List (ByteArray×(List (ByteArray×Int×Int×Int))×Bool))
def c37:Ctr:=⟨[i64],[],[],.one T25,fun x _ _=>eO x.1⟩
theorem e37 (lp:Lp) (jn:Jn) (aZ:t24):∀(x:TsS c37.as) (F:TsF c37.fs) (y:TsS c37.cs),qP lp jn aZ x.1=bI lp jn (cx [(24,k24 aZ)] [(32,r32),(92,r92),(112,bi)]) aj 4 37 f37 c37 x F y:=fun x F y=>by kernel_rfl
theorem YA:c37.ok prog 37:=Ctr.of_den (ao (aa (q32) (by kernel_rfl) SK)) aF (hl:=aj) (d:=4) func37 rfl (by decide) (e37 lpK jnK aZ)
def zX (_:Lp) (_:Jn) (x0:Bool) (x1:List (Int×Int)):Option ((List (Int×Int))×Bool×List (Int×Int)) :=
 bif x0 then some ([],true,x1) else some (x1,false,[])
def iT (x0:Bool) (x1:List (Int×Int)):Option ((List (Int×Int))×Bool×List (Int×Int)):=zX lpK jnK x0 x1
abbrev t38:=(Bool)->(List (Int×Int))->Option ((List (Int×Int))×Bool×List (Int×Int))
def k38 (iT:t38):Ctr:=⟨[.bool,(.sl T47)],[],[],.one T30,fun x _ _=>iT x.1 x.2.1⟩
def c38:Ctr:=k38 iT
theorem e38 (lp:Lp) (jn:Jn):∀(x:TsS c38.as) (F:TsF c38.fs) (y:TsS c38.cs),zX lp jn x.1 x.2.1=bI lp jn (cx [] [(32,r32),(92,r92),(112,bi)]) aj 4 38 f38 c38 x F y:=fun x F y=>by kernel_rfl
theorem Y3:c38.ok prog 38:=Ctr.of_den (ao (q32)) aF (hl:=aj) (d:=4) func38 rfl (by decide) (e38 lpK jnK)
def tV (_:Lp) (_:Jn) (aI:t13) (bH:t15) (aR:t19) (aZ:t24) (cv:t25) (eO:t37) (iT:t38):Option Bool :=
 ah (eO 2) fun (t:List (ByteArray×Int)×List (ByteArray×List (ByteArray×Int×Int×Int)×Bool))=>ah (aI t) fun (t:(List (Int×Int)×Bool × List (Int×Int))×Int×PUnit) =>
 let v4:Bool:=decide (t.2.1=0);
 let v5:Bool:=!v4||v4;ah (eO (-2)) fun (t_1:List (ByteArray×Int)×List (ByteArray×List (ByteArray×Int×Int×Int)×Bool))=>ah (aI t_1) fun (t_2:(List (Int×Int)×Bool×List (Int×Int))×Int×PUnit)=>ah (eO (-2)) fun (t_3:List (ByteArray×Int)×List (ByteArray×List (ByteArray×Int × Int×Int)×Bool))=>ah (aZ 1) fun (t_4:Int×Int)=>ah (iT true [t_4]) fun (t_5:List (Int×Int)×Bool×List (Int×Int))=>ah (aR t_3 t_5) fun (t_6:Bool×Int×PUnit)=>ah (cv ([],false,[])) fun (t_7:List Int×Int×PUnit)=>ah (bif v4 then aZ 150 else some (0,(0 : Int))) fun (t_8:Int×Int)=>bif v5 then bif v5 then ah (bif v4 then iT false [t_8] else some ([],false,[])) fun (t_9:List (Int×Int)×Bool×List (Int×Int))=>bif v5&&v5 then ah (bif v4 then bH t.1 t_9 else some false) fun (t:Bool) =>
 let v16:Bool:=bif v4 then t else false;
 let v17:Bool:=!v16||v16;
 let v18:Bool:=bif v16 then decide (t_2.2.1=0) else false;
 let v19:Bool:=bif v18 then t_2.1.2.1 else false;
 let v20:Bool:=!v18||v18;
 let v21:Bool:=bif v19 then decide ((↑t_2.1.2.2.length:Int)=1) else false;
 let v22:Bool:=!v19||v19;
 let v23:Bool:=bif v21 then decide (t_6.2.1=0) else false;
 let v24:Bool:=bif v23 then t_6.1 else false;
 let v25:Bool:=bif v24 then decide (t_7.2.1=0) else false;
 let v26:Bool:=!v21||v21;
 let v27:Bool:=!v24||v24;
 let v28:Bool:=!v25||v25;bif v5 then bif v17 then bif v17 then bif v20 then bif v20 then bif v22 then bif v22 then bif v22 then bif v22 then bif v26 then bif v26 then bif !v23 || v23 then bif v27 then bif v27 then bif v28 then bif v28 then bif v28 then some (bif v25 then decide ((↑t_7.1.length:Int)=8) else false) else none else none else none else none else none else none else none else none else none else none else none else none else none else none else none else none else none else none else none else none
def aG:Option Bool:=tV lpK jnK aI bH aR aZ cv eO iT
abbrev t11:=Option (Bool)
def k11 (aG:t11):Ctr:=⟨[],[],[],.one .bool,fun _ _ _=>aG⟩
def c11:Ctr:=k11 aG
theorem e11 (lp:Lp) (jn:Jn) (aI:t13) (bH:t15) (aR:t19) (aZ:t24) (cv:t25) (eO:t37) (iT:t38):∀(x:TsS c11.as) (F:TsF c11.fs) (y:TsS c11.cs),tV lp jn aI bH aR aZ cv eO iT=bI lp jn (cx [(38,k38 iT),(37,⟨[i64],[],[],.one T25,fun x _ _=>eO x.1⟩),(25,k25 cv),(24,k24 aZ),(19,k19 aR),(15,k15 bH),(13,k13 aI)] [(32,r32),(92,r92),(112,bi)]) aj 4 11 f11 c11 x F y:=fun x F y=>by kernel_rfl
theorem XZ:c11.ok prog 11:=Ctr.of_den (ao (aa (aa (aa (aa (aa (aa (aa (q32) (by kernel_rfl) Vm) (by kernel_rfl) Xd) (by kernel_rfl) X2) (by kernel_rfl) SK) (by kernel_rfl) XE) (by kernel_rfl) YA) (by kernel_rfl) Y3)) aF (hl:=aj) (d:=4) func11 rfl (by decide) (e11 lpK jnK aI bH aR aZ cv eO iT)
def oA (lp:Lp) (_:Jn) (x0:(List (ByteArray×Int))×List (ByteArray×(List (ByteArray×Int×Int×Int))×Bool)):Option Bool :=
 
 let v3:Bool:=decide ((↑x0.1.length:Int)>9);
 let v4:Bool:=!v3;
 let v5:Bool:=!v4||v4;bif v5 then bif v5 then bif v5 then bif v3||v4 then bif bif v3 then true else decide ((↑x0.2.length:Int)>9) then some false else lp (Int × PUnit) Bool (fun (again:Int×PUnit->Option Bool) (x:Int×PUnit)=>bif decide (x.1<(↑x0.1.length:Int)) then bif inB x.1 x0.1.length then bif decide ((↑(ByteArray.size (x0.1.getD x.1.toNat ({ data:={ toList:=[] } },0)).1):Int)>60) then some false else again (IntKind.wrap .i64 (x.1 + 1),PUnit.unit) else none else lp (Int×PUnit) Bool (fun (again:Int×PUnit->Option Bool) (x:Int×PUnit) =>
 let v10:Bool:=inB x.1 x0.2.length;
 let v11:Bool:=decide ((↑(ByteArray.size (x0.2.getD x.1.toNat ({ data:={ toList:=[] } },[],false)).1):Int)>60);
 let v12:Bool:=!v11;
 let v13:Bool:=!v12;
 let v14:Bool:=v13||v12;bif decide (x.1<(↑x0.2.length:Int)) then bif v10 then bif v14 then bif v14&&(v14&&(v13||v10)) then bif v14 then bif v14 then bif v14 then bif v14 then bif v11||v12 then bif bif v11 then true else decide ((↑(List.length (x0.2.getD x.1.toNat ({ data:={ toList:=[] } },[],false)).2.1):Int) > 13) then some false else lp (Int×PUnit) Bool (fun (again_1:Int×PUnit->Option Bool) (x_1:Int×PUnit)=>bif v10 then bif decide (x_1.1<(↑(List.length (x0.2.getD x.1.toNat ({ data:={ toList:=[] } },[],false)).2.1):Int)) then bif v10 then bif inB x_1.1 (List.length (x0.2.getD x.1.toNat ({ data:={ toList:=[] } },[],false)).2.1) then bif decide ((↑(ByteArray.size (List.getD (x0.2.getD x.1.toNat ({ data:={ toList:=[] } },[],false)).2.1 x_1.1.toNat ({ data:={ toList:=[] } },0,0,0)).1):Int)>60) then some false else again_1 (IntKind.wrap .i64 (x_1.1+1), PUnit.unit) else none else none else again (IntKind.wrap .i64 (x.1+1),PUnit.unit) else none) (0,PUnit.unit) else none else none else none else none else none else none else none else none else some true) (0,PUnit.unit)) (0,PUnit.unit) else none else none else none else none
def aX (x0:(List (ByteArray×Int))×List (ByteArray×(List (ByteArray×Int×Int×Int))×Bool)):Option Bool:=oA lpK jnK x0
abbrev t12:=((List (ByteArray×Int))×List (ByteArray×(List (ByteArray×Int×Int×Int))×Bool))->Option (Bool)
def k12 (aX:t12):Ctr:=⟨[T25],[],[],.one .bool,fun x _ _=>aX x.1⟩
def c12:Ctr:=k12 aX
theorem e12 (lp:Lp) (jn:Jn):∀(x:TsS c12.as) (F:TsF c12.fs) (y:TsS c12.cs),oA lp jn x.1=bI lp jn (cx [] [(32,r32),(92,r92),(112,bi)]) aj 4 12 f12 c12 x F y:=fun x F y=>by kernel_rfl
theorem Y1:c12.ok prog 12:=Ctr.of_den (ao (q32)) aF (hl:=aj) (d:=4) func12 rfl (by decide) (e12 lpK jnK)
def ru (_:Lp) (_:Jn) (x0:Int):Option Bool :=
 
 let v3:Bool:=decide (x0>=97);
 let v4:Bool:=decide (x0>=65);
 let v5:Bool:=!v3||v3;
 let v6:Bool:=bif v3 then decide (x0<=122) else false;
 let v7:Bool:=!v6;
 let v8:Bool:=!v7;
 let v9:Bool:=v7&&v4;
 let v10:Bool:=v8||v7;bif v5 then bif v5 then bif v10 then bif v10 then bif !v9||v9 then bif (v8||v10)&&(v8||(!v4||(v8||v9))) then bif v6||v7 then some (bif v6 then true else bif v4 then decide (x0<=90) else false) else none else none else none else none else none else none else none
def cH (x0:Int):Option Bool:=ru lpK jnK x0
abbrev t76:=(Int)->Option (Bool)
def k76 (cH:t76):Ctr:=⟨[(.int .u8)],[],[],.one .bool,fun x _ _=>cH x.1⟩
def c76:Ctr:=k76 cH
theorem e76 (lp:Lp) (jn:Jn):∀(x:TsS c76.as) (F:TsF c76.fs) (y:TsS c76.cs),ru lp jn x.1=bI lp jn (cx [] [(32,r32),(92,r92),(112,bi)]) aj 4 76 f76 c76 x F y:=fun x F y=>by kernel_rfl
theorem V1:c76.ok prog 76:=Ctr.of_den (ao (q32)) aF (hl:=aj) (d:=4) func76 rfl (by decide) (e76 lpK jnK)
def tD (_:Lp) (_:Jn) (x0:Int):Option Bool :=
 
 let v3:Bool:=decide (x0>=48);
 let v4:Bool:=!v3||v3;bif v4 then bif v4 then some (bif v3 then decide (x0<=57) else false) else none else none
def gw (x0:Int):Option Bool:=tD lpK jnK x0
abbrev WC:=(Int)->Option (Bool)
def NC:Ctr:=⟨[(.int .u8)],[],[],.one .bool,fun x _ _=>gw x.1⟩
theorem XR (lp:Lp) (jn:Jn):∀(x:TsS NC.as) (F:TsF NC.fs) (y:TsS NC.cs),tD lp jn x.1=bI lp jn (cx [] [(32,r32),(92,r92),(112,bi)]) aj 4 115 f115 NC x F y:=fun x F y=>by kernel_rfl
theorem Vi:NC.ok prog 115:=Ctr.of_den (ao (q32)) aF (hl:=aj) (d:=4) func115 rfl (by decide) (XR lpK jnK)
def qB (lp:Lp) (_:Jn) (cH:t76) (gw:WC) (x0:ByteArray) (x1:Int):Option Int :=
 lp (Int×PUnit) Int (fun (again:Int×PUnit->Option Int) (x:Int×PUnit) =>
 let v6:Bool:=inB x.1 (ByteArray.size x0);
 let v7:Int:=fL x0 x.1.toNat;
 let v8:Bool:=decide (x.1<(↑(ByteArray.size x0):Int));
 let v9:Bool:=!v8;
 let v10:Bool:=v9||v8;
 let v11:Bool:=v9||v10;bif v10&&(v10&&(v9||v6)) then bif v10 then ah (bif v8 then cH v7 else some false) fun (t:Bool) =>
 let v13:Bool:=v8&&!t;
 let v14:Bool:=!v13;
 let v15:Bool:=v14||v13;bif v10 then bif v15&&(v15&&(v14||v6)) then bif v15 then ah (bif v13 then gw v7 else some false) fun (t_1:Bool) =>
 let v17:Bool:=bif t then true else t_1;
 let v18:Bool:=v8&&!v17;
 let v19:Bool:=!v18;
 let v20:Bool:=v19||v18;bif v11&&(v9||(t||(v9||v13))) then bif v10 then bif v20&&(v20&&(v19||v6)) then bif v20 then bif v11&&(v9||(v17||(v9||v18))) then bif v10 then bif bif v8 then bif v17 then true else decide (v7=95) else false then again (IntKind.wrap .i64 (x.1+1),PUnit.unit) else some x.1 else none else none else none else none else none else none else none else none else none else none else none) (x1,PUnit.unit)
def gF (x0:ByteArray) (x1:Int):Option Int:=qB lpK jnK cH gw x0 x1
abbrev t77:=(ByteArray)->(Int)->Option (Int)
def c77:Ctr:=⟨[.str,i64],[],[],.one i64,fun x _ _=>gF x.1 x.2.1⟩
theorem e77 (lp:Lp) (jn:Jn) (cH:t76) (gw:WC):∀(x:TsS c77.as) (F:TsF c77.fs) (y:TsS c77.cs),qB lp jn cH gw x.1 x.2.1=bI lp jn (cx [(115,⟨[(.int .u8)],[],[],.one .bool,fun x _ _=>gw x.1⟩),(76,k76 cH)] [(32,r32),(92,r92),(112,bi)]) aj 4 77 f77 c77 x F y:=fun x F y=>by kernel_rfl
theorem Xr:c77.ok prog 77:=Ctr.of_den (ao (aa (aa (q32) (by kernel_rfl) V1) (by kernel_rfl) Vi)) aF (hl:=aj) (d:=4) func77 rfl (by decide) (e77 lpK jnK cH gw)
def nI (_:Lp) (_:Jn) (cH:t76) (gF:t77) (x0:ByteArray):Option Bool :=
 
 let v3:Bool:=decide ((↑(ByteArray.size x0):Int)=0);
 let v4:Bool:=!v3;
 let v5:Bool:=!v4||v4;
 let v6:Bool:=bif v3 then true else decide ((↑(ByteArray.size x0):Int)>20);
 let v7:Bool:=!v6;
 let v8:Bool:=!v7;
 let v9:Bool:=v8||v7;bif v5 then bif v5 then bif v3||v4 then bif v9&&(v8||inB 0 (ByteArray.size x0)) then bif v9 then ah (bif v7 then cH (fL x0 (0 : Nat)) else some false) fun (t:Bool)=>bif v9 then bif v6||v7 then bif bif v6 then true else !t then some false else ah (gF x0 0) fun (t:Int)=>some (decide (t = (↑(ByteArray.size x0):Int))) else none else none else none else none else none else none else none
def eW (x0:ByteArray):Option Bool:=nI lpK jnK cH gF x0
abbrev t39:=(ByteArray)->Option (Bool)
def c39:Ctr:=⟨[.str],[],[],.one .bool,fun x _ _=>eW x.1⟩
theorem e39 (lp:Lp) (jn:Jn) (cH:t76) (gF:t77):∀(x:TsS c39.as) (F:TsF c39.fs) (y:TsS c39.cs),nI lp jn cH gF x.1=bI lp jn (cx [(77,⟨[.str,i64],[],[],.one i64,fun x _ _=>gF x.1 x.2.1⟩),(76,k76 cH)] [(32,r32),(92,r92),(112,bi)]) aj 4 39 f39 c39 x F y:=fun x F y=>by kernel_rfl
theorem Yx:c39.ok prog 39:=Ctr.of_den (ao (aa (aa (q32) (by kernel_rfl) V1) (by kernel_rfl) Xr)) aF (hl:=aj) (d:=4) func39 rfl (by decide) (e39 lpK jnK cH gF)
def kh (lp:Lp) (_:Jn) (x0:(List (ByteArray×Int))×List (ByteArray×(List (ByteArray×Int×Int×Int))×Bool)) (x1:ByteArray):Option Int :=
 lp (Int×PUnit) Int (fun (again:Int×PUnit->Option Int) (x:Int×PUnit)=>bif decide (x.1<(↑x0.1.length:Int)) then bif inB x.1 x0.1.length then bif List.beq (ByteArray.toList (x0.1.getD x.1.toNat ({ data:={ toList:=[] } },0)).1) (ByteArray.toList x1) then some x.1 else again (IntKind.wrap .i64 (x.1+1),PUnit.unit) else none else some (-1)) (0,PUnit.unit)
def bu (x0:(List (ByteArray×Int))×List (ByteArray×(List (ByteArray×Int×Int×Int))×Bool)) (x1:ByteArray):Option Int:=kh lpK jnK x0 x1
abbrev t40:=((List (ByteArray×Int))×List (ByteArray×(List (ByteArray×Int×Int×Int))×Bool))->(ByteArray)->Option (Int)
def k40 (bu:t40):Ctr:=⟨[T25,.str],[],[],.one i64,fun x _ _=>bu x.1 x.2.1⟩
def c40:Ctr:=k40 bu
theorem e40 (lp:Lp) (jn:Jn):∀(x:TsS c40.as) (F:TsF c40.fs) (y:TsS c40.cs),kh lp jn x.1 x.2.1=bI lp jn (cx [] [(32,r32),(92,r92),(112,bi)]) aj 4 40 f40 c40 x F y:=fun x F y=>by kernel_rfl
theorem U3:c40.ok prog 40:=Ctr.of_den (ao (q32)) aF (hl:=aj) (d:=4) func40 rfl (by decide) (e40 lpK jnK)
def kR (lp:Lp) (_:Jn) (x0:(List (ByteArray×Int))×List (ByteArray×(List (ByteArray×Int×Int×Int))×Bool)) (x1:ByteArray):Option Int :=
 lp (Int×PUnit) Int (fun (again:Int×PUnit->Option Int) (x:Int×PUnit)=>bif decide (x.1<(↑x0.2.length:Int)) then bif inB x.1 x0.2.length then bif List.beq (ByteArray.toList (x0.2.getD x.1.toNat ({ data:={ toList:=[] } },[],false)).1) (ByteArray.toList x1) then some x.1 else again (IntKind.wrap .i64 (x.1+1),PUnit.unit) else none else some (-1)) (0,PUnit.unit)
def eh (x0:(List (ByteArray×Int))×List (ByteArray×(List (ByteArray×Int×Int×Int))×Bool)) (x1:ByteArray):Option Int:=kR lpK jnK x0 x1
abbrev t41:=((List (ByteArray×Int))×List (ByteArray×(List (ByteArray×Int×Int×Int))×Bool))->(ByteArray)->Option (Int)
def c41:Ctr:=⟨[T25,.str],[],[],.one i64,fun x _ _=>eh x.1 x.2.1⟩
theorem e41 (lp:Lp) (jn:Jn):∀(x:TsS c41.as) (F:TsF c41.fs) (y:TsS c41.cs),kR lp jn x.1 x.2.1=bI lp jn (cx [] [(32,r32),(92,r92),(112,bi)]) aj 4 41 f41 c41 x F y:=fun x F y=>by kernel_rfl
theorem XO:c41.ok prog 41:=Ctr.of_den (ao (q32)) aF (hl:=aj) (d:=4) func41 rfl (by decide) (e41 lpK jnK)
def qn (_:Lp) (_:Jn) (x0:Int×Int) (x1:Int×Int):Option Bool :=
 
 let v4:Bool:=decide (x0.1=x1.1);
 let v5:Bool:=decide (x0.1<x1.1);
 let v6:Bool:=!v5;
 let v7:Bool:=!v6;
 let v8:Bool:=v6&&v4;
 let v9:Bool:=v7||v6;
 let v10:Bool:=!v8||v8;bif v9 then bif v9 then bif v9&&v9 then bif v9 then bif v10 then bif v10 then bif v10&&v10 then bif (v7||v9)&&(v7||(!v4||(v7||v8))) then bif v5 || v6 then some (bif v5 then true else bif v4 then decide (x0.2<x1.2) else false) else none else none else none else none else none else none else none else none else none
def cR (x0:Int×Int) (x1:Int×Int):Option Bool:=qn lpK jnK x0 x1
abbrev IE:=(Int×Int)->(Int×Int)->Option (Bool)
def VP (cR:IE):Ctr:=⟨[lW,lW],[],[],.one .bool,fun x _ _=>cR x.1 x.2.1⟩
def Ml:Ctr:=VP cR
theorem Yg (lp:Lp) (jn:Jn):∀(x:TsS Ml.as) (F:TsF Ml.fs) (y:TsS Ml.cs),qn lp jn x.1 x.2.1=bI lp jn (cx [] [(32,r32),(92,r92),(112,bi)]) aj 4 161 f161 Ml x F y:=fun x F y=>by kernel_rfl
theorem VQ:Ml.ok prog 161:=Ctr.of_den (ao (q32)) aF (hl:=aj) (d:=4) func161 rfl (by decide) (Yg lpK jnK)
def qm (_:Lp) (_:Jn) (x0:Int×Int) (x1:Int×Int):Option (Int×Int) :=
 
 let v4:Int:=IntKind.wrap .u64 (x0.1+x1.1);
 let v5:Int:=IntKind.wrap .u64 (x0.2+x1.2);bif decide (v5<x0.2) then some (IntKind.wrap .u64 (v4+1),v5) else some (v4,v5)
def eD (x0:Int×Int) (x1:Int×Int):Option (Int×Int):=qm lpK jnK x0 x1
abbrev Q2:=(Int×Int)->(Int×Int)->Option (Int×Int)
def Ux (eD:Q2):Ctr:=⟨[lW,lW],[],[],.one lW,fun x _ _=>eD x.1 x.2.1⟩
def Pn:Ctr:=Ux eD
theorem Yo (lp:Lp) (jn:Jn):∀(x:TsS Pn.as) (F:TsF Pn.fs) (y:TsS Pn.cs),qm lp jn x.1 x.2.1=bI lp jn (cx [] [(32,r32),(92,r92),(112,bi)]) aj 4 163 f163 Pn x F y:=fun x F y=>by kernel_rfl
theorem Vn:Pn.ok prog 163:=Ctr.of_den (ao (q32)) aF (hl:=aj) (d:=4) func163 rfl (by decide) (Yo lpK jnK)
def oC (_:Lp) (_:Jn) (x0:Int×Int) (x1:Int×Int):Option (Int×Int) :=
 
 let v4:Int:=IntKind.wrap .u64 (x0.1 - x1.1);
 let v5:Int:=IntKind.wrap .u64 (x0.2 - x1.2);bif decide (x0.2<x1.2) then some (IntKind.wrap .u64 (v4 - 1),v5) else some (v4,v5)
def cJ (x0:Int×Int) (x1:Int×Int):Option (Int×Int):=oC lpK jnK x0 x1
abbrev OW:=(Int×Int)->(Int×Int)->Option (Int×Int)
def Vh (cJ:OW):Ctr:=⟨[lW,lW],[],[],.one lW,fun x _ _=>cJ x.1 x.2.1⟩
def OC:Ctr:=Vh cJ
theorem X1 (lp:Lp) (jn:Jn):∀(x:TsS OC.as) (F:TsF OC.fs) (y:TsS OC.cs),oC lp jn x.1 x.2.1=bI lp jn (cx [] [(32,r32),(92,r92),(112,bi)]) aj 4 164 f164 OC x F y:=fun x F y=>by kernel_rfl
theorem UE:OC.ok prog 164:=Ctr.of_den (ao (q32)) aF (hl:=aj) (d:=4) func164 rfl (by decide) (X1 lpK jnK)
def qA (_:Lp) (_:Jn) (x0:Int×Int):Option (Int×Int) :=
 
 let v3:Int:=2 ^ 1;
 let v4:Bool:=decide ((0:Int)<=1);bif v4 then bif v4 then bif decide ((0:Int)<=63) then some (Int.fdiv x0.1 v3,IntKind.wrap .u64 (Int.fdiv x0.2 v3 + IntKind.wrap .u64 (x0.1*2 ^ 63))) else none else none else none
def fq (x0:Int×Int):Option (Int×Int):=qA lpK jnK x0
abbrev WA:=(Int×Int)->Option (Int×Int)
def OQ:Ctr:=⟨[lW],[],[],.one lW,fun x _ _=>fq x.1⟩
theorem Xb (lp:Lp) (jn:Jn):∀(x:TsS OQ.as) (F:TsF OQ.fs) (y:TsS OQ.cs),qA lp jn x.1=bI lp jn (cx [] [(32,r32),(92,r92),(112,bi)]) aj 4 180 f180 OQ x F y:=fun x F y=>by kernel_rfl
theorem WT:OQ.ok prog 180:=Ctr.of_den (ao (q32)) aF (hl:=aj) (d:=4) func180 rfl (by decide) (Xb lpK jnK)
def rL (lp:Lp) (_:Jn) (cR:IE) (eD:Q2) (cJ:OW) (fq:WA) (x0:Int×Int) (x1:Int×Int):Option (Int×Int) :=
 bif decide (x0.1=0)&&(decide (x0.2=0)&&true) then some x1 else lp (Int×(Int×Int)×(Int×Int)×PUnit) (Int×Int) (fun (again:Int×(Int×Int)×(Int × Int)×PUnit->Option (Int×Int)) (x:Int×(Int×Int)×(Int×Int)×PUnit) =>
 let v6:Bool:=decide (IntKind.wrap .u64 (↑(Nat.land (Int.toNat (x.2.1.2 % Int.ofNat 18446744073709551616)) (Int.toNat (1 % Int.ofNat (18446744073709551616 : Nat)))):Int)=0);
 let v7:Bool:=!v6||v6;bif v7 then bif v7 then bif v7 then bif v7 then bif bif v6 then decide (IntKind.wrap .u64 (↑(Nat.land (Int.toNat (x.2.2.1.2 % Int.ofNat 18446744073709551616)) (Int.toNat (1 % Int.ofNat 18446744073709551616))):Int)=0) else false then ah (fq x.2.1) fun (t:Int×Int) => ah (fq x.2.2.1) fun (t_1:Int×Int)=>again (IntKind.wrap .i64 (x.1+1),t,t_1,PUnit.unit) else lp ((Int×Int)×(Int×Int)×PUnit) (Int × Int) (fun (again:(Int×Int)×(Int×Int)×PUnit->Option (Int×Int)) (x_1:(Int×Int)×(Int×Int)×PUnit) =>
 let v10:(Int×Int)×PUnit:=(x_1.2.1,PUnit.unit);bif !(decide (x_1.1.1=0)&&(decide (x_1.1.2=0)&&true)) then lp ((Int×Int)×PUnit) (Int×Int) (fun (again_1:(Int×Int)×PUnit->Option (Int×Int)) (x:(Int×Int)×PUnit)=>bif decide (IntKind.wrap .u64 (↑(Nat.land (Int.toNat (x.1.2 % Int.ofNat 18446744073709551616)) (Int.toNat (1 % Int.ofNat 18446744073709551616))):Int)=0) then ah (fq x.1) fun (t:Int×Int)=>again_1 (t, PUnit.unit) else lp ((Int×Int)×PUnit) (Int×Int) (fun (again_2:(Int×Int)×PUnit->Option (Int×Int)) (x_2:(Int×Int)×PUnit)=>bif decide (IntKind.wrap .u64 (↑(Nat.land (Int.toNat (x_2.1.2 % Int.ofNat 18446744073709551616)) (Int.toNat (1 % Int.ofNat 18446744073709551616))):Int)=0) then ah (fq x_2.1) fun (t:Int×Int)=>again_2 (t,PUnit.unit) else ah (cR x.1 x_2.1) fun (t:Bool)=>bif t then ah (cJ x_2.1 x.1) fun (t:Int × Int)=>again (t,x.1,PUnit.unit) else ah (cJ x.1 x_2.1) fun (t:Int×Int)=>again (t,x_2.1,PUnit.unit)) v10) (x_1.1,PUnit.unit) else lp (Int×(Int×Int) × PUnit) (Int×Int) (fun (again:Int×(Int×Int)×PUnit->Option (Int×Int)) (x:Int×(Int×Int)×PUnit)=>bif decide (x.1>0) then ah (eD x.2.1 x.2.1) fun (t:Int×Int)=>again (IntKind.wrap .i64 (x.1 - 1),t,PUnit.unit) else some x.2.1) (x.1,v10)) (x.2.1,x.2.2.1,PUnit.unit) else none else none else none else none) (0,x0,x1,PUnit.unit)
def fo (x0:Int×Int) (x1:Int×Int):Option (Int×Int):=rL lpK jnK cR eD cJ fq x0 x1
abbrev PD:=(Int×Int)->(Int×Int)->Option (Int×Int)
def V9 (fo:PD):Ctr:=⟨[lW,lW],[],[],.one lW,fun x _ _=>fo x.1 x.2.1⟩
def NH:Ctr:=V9 fo
theorem XK (lp:Lp) (jn:Jn) (cR:IE) (eD:Q2) (cJ:OW) (fq:WA):∀(x:TsS NH.as) (F:TsF NH.fs) (y:TsS NH.cs),rL lp jn cR eD cJ fq x.1 x.2.1=bI lp jn (cx [(180,⟨[lW],[],[],.one lW,fun x _ _=>fq x.1⟩),(164,Vh cJ),(163,Ux eD),(161,VP cR)] [(32,r32),(92,r92),(112,bi)]) aj 4 152 f152 NH x F y:=fun x F y=>by kernel_rfl
theorem Uu:NH.ok prog 152:=Ctr.of_den (ao (aa (aa (aa (aa (q32) (by kernel_rfl) VQ) (by kernel_rfl) Vn) (by kernel_rfl) UE) (by kernel_rfl) WT)) aF (hl:=aj) (d:=4) func152 rfl (by decide) (XK lpK jnK cR eD cJ fq)
def pN (_:Lp) (_:Jn) (x0:Int):Option Int :=
 
 let v3:Int:=IntKind.wrap .u64 x0;bif decide (x0<0) then some (IntKind.wrap .u64 (0 - v3)) else some v3
def bw (x0:Int):Option Int:=pN lpK jnK x0
abbrev JQ:=(Int)->Option (Int)
def Wt (bw:JQ):Ctr:=⟨[i64],[],[],.one (.int .u64),fun x _ _=>bw x.1⟩
def Ns:Ctr:=Wt bw
theorem Ys (lp:Lp) (jn:Jn):∀(x:TsS Ns.as) (F:TsF Ns.fs) (y:TsS Ns.cs),pN lp jn x.1=bI lp jn (cx [] [(32,r32),(92,r92),(112,bi)]) aj 4 153 f153 Ns x F y:=fun x F y=>by kernel_rfl
theorem V6:Ns.ok prog 153:=Ctr.of_den (ao (q32)) aF (hl:=aj) (d:=4) func153 rfl (by decide) (Ys lpK jnK)
def oQ (_:Lp) (_:Jn) (fo:PD) (bw:JQ) (x0:Int×Int):Option Bool :=
 
 let v3:Bool:=decide (x0.2<1);
 let v4:Bool:=!v3;
 let v5:Bool:=bif v3 then true else decide (x0.2>1152921504606846976);
 let v6:Bool:=!v4||v4;
 let v7:Bool:=!v5;
 let v8:Bool:=bif v5 then true else decide (x0.1<(-1152921504606846976));
 let v9:Bool:=!v8;
 let v10:Bool:=!v7||v7;
 let v11:Bool:=!v9||v9;bif v6 then bif v6 then bif v3||v4 then bif v10 then bif v10 then bif v5||v7 then bif v11 then bif v11 then bif v8||v9 then bif bif v8 then true else decide (x0.1>1152921504606846976) then some false else ah (bw x0.1) fun (t:Int)=>ah (bw x0.2) fun (t_1:Int)=>ah (fo (0, t) (0,t_1)) fun (t:Int×Int)=>some (decide (t.1=0)&&(decide (t.2=1)&&true)) else none else none else none else none else none else none else none else none else none
def dz (x0:Int×Int):Option Bool:=oQ lpK jnK fo bw x0
abbrev QD:=(Int×Int)->Option (Bool)
def Wm (dz:QD):Ctr:=⟨[T47],[],[],.one .bool,fun x _ _=>dz x.1⟩
def Ms:Ctr:=Wm dz
theorem X3 (lp:Lp) (jn:Jn) (fo:PD) (bw:JQ):∀(x:TsS Ms.as) (F:TsF Ms.fs) (y:TsS Ms.cs),oQ lp jn fo bw x.1=bI lp jn (cx [(153,Wt bw),(152,V9 fo)] [(32,r32),(92,r92),(112,bi)]) aj 4 108 f108 Ms x F y:=fun x F y=>by kernel_rfl
theorem Ve:Ms.ok prog 108:=Ctr.of_den (ao (aa (aa (q32) (by kernel_rfl) Uu) (by kernel_rfl) V6)) aF (hl:=aj) (d:=4) func108 rfl (by decide) (X3 lpK jnK fo bw)
def kj (_:Lp) (_:Jn) (dz:QD) (x0:Int×Int):Option Bool :=
 ah (dz x0) fun (t:Bool) =>
 let v4:Bool:=!t||t;
 let v5:Bool:=bif t then decide (x0.1>=x0.2) else false;
 let v6:Bool:=!v5||v5;bif v4 then bif v4 then bif v4&&v4 then bif v4 then bif v6 then bif v6 then bif v6 then some (bif v5 then decide (x0.1<=100) else false) else none else none else none else none else none else none else none
def dI (x0:Int×Int):Option Bool:=kj lpK jnK dz x0
abbrev UT:=(Int×Int)->Option (Bool)
def LI:Ctr:=⟨[T47],[],[],.one .bool,fun x _ _=>dI x.1⟩
theorem XT (lp:Lp) (jn:Jn) (dz:QD):∀(x:TsS LI.as) (F:TsF LI.fs) (y:TsS LI.cs),kj lp jn dz x.1=bI lp jn (cx [(108,Wm dz)] [(32,r32),(92,r92),(112,bi)]) aj 4 116 f116 LI x F y:=fun x F y=>by kernel_rfl
theorem WI:LI.ok prog 116:=Ctr.of_den (ao (aa (q32) (by kernel_rfl) Ve)) aF (hl:=aj) (d:=4) func116 rfl (by decide) (XT lpK jnK dz)
def qu (_:Lp) (_:Jn) (aZ:t24) (bu:t40) (dI:UT) (x0:(List (ByteArray×Int))×List (ByteArray×(List (ByteArray×Int×Int×Int))×Bool)) (x1:ByteArray×Int×Int×Int) (x2:Bool):Option Bool :=
 
 let v5:Bool:=!x2||x2;
 let v6:Bool:=decide (x1.2.1=0);
 let v7:Bool:=decide (x1.2.1=1);
 let v8:Bool:=decide (x1.2.1=2);
 let v9:Bool:=!v7;
 let v10:Bool:=!v8;
 let v11:Bool:=bif v8 then true else v6;
 let v12:Bool:=!v9||v9;
 let v13:Bool:=!v10||v10;
 let v14:Bool:=!v11;
 let v15:Bool:=!v14||v14;bif v5 then ah (bif x2 then aZ 1 else some (0,0)) fun (t:Int×Int) =>
 let v17:Bool:=bif x2 then !(decide (x1.2.2.1=t.1)&&(decide (x1.2.2.2=t.2)&&true)) else false;
 let v18:Bool:=!v17;
 let v19:Bool:=!v18||v18;bif v5&&v5 then bif v5 then bif v19 then bif v19 then ah (bif v18 then dI x1.2.2 else some false) fun (t:Bool)=>bif v19 then bif v17||v18 then bif bif v17 then true else !t then some false else bif List.beq (ByteArray.toList x1.1) (ByteArray.toList { data:=#[] }) then some v6 else ah (bu x0 x1.1) fun (t:Int)=>bif decide (t<0) then some false else bif x2 then bif v12 then bif v12 then bif v7||v9 then some (bif v7 then true else decide (x1.2.1=(-1 : Int))) else none else none else none else bif v13 then bif v13 then bif v8||v10 then bif v15 then bif v15 then bif v11||v14 then some (bif v11 then true else decide (x1.2.1 = (-2))) else none else none else none else none else none else none else none else none else none else none else none else none else none
def fN (x0:(List (ByteArray×Int))×List (ByteArray×(List (ByteArray×Int×Int×Int))×Bool)) (x1:ByteArray×Int×Int×Int) (x2:Bool):Option Bool:=qu lpK jnK aZ bu dI x0 x1 x2
abbrev t78:=((List (ByteArray×Int))×List (ByteArray×(List (ByteArray×Int×Int×Int))×Bool))->(ByteArray×Int×Int×Int)->(Bool)->Option (Bool)
def k78 (fN:t78):Ctr:=⟨[T25,T74,.bool],[],[],.one .bool,fun x _ _=>fN x.1 x.2.1 x.2.2.1⟩
def c78:Ctr:=k78 fN
theorem e78 (lp:Lp) (jn:Jn) (aZ:t24) (bu:t40) (dI:UT):∀(x:TsS c78.as) (F:TsF c78.fs) (y:TsS c78.cs),qu lp jn aZ bu dI x.1 x.2.1 x.2.2.1=bI lp jn (cx [(116,⟨[T47],[],[],.one .bool,fun x _ _=>dI x.1⟩),(40,k40 bu),(24,k24 aZ)] [(32,r32),(92,r92),(112,bi)]) aj 4 78 f78 c78 x F y:=fun x F y=>by kernel_rfl
theorem YK:c78.ok prog 78:=Ctr.of_den (ao (aa (aa (aa (q32) (by kernel_rfl) SK) (by kernel_rfl) U3) (by kernel_rfl) WI)) aF (hl:=aj) (d:=4) func78 rfl (by decide) (e78 lpK jnK aZ bu dI)
def pV (lp:Lp) (_:Jn) (fN:t78) (x0:(List (ByteArray×Int))×List (ByteArray×(List (ByteArray×Int×Int×Int))×Bool)) (x1:ByteArray×(List (ByteArray×Int×Int×Int))×Bool):Option Bool :=
 
 let v4:Bool:=!x1.2.2;
 let v5:Bool:=!v4;
 let v6:Bool:=!v5;
 let v7:Int:=IntKind.wrap .i64 ((↑x1.2.1.length:Int) - 1);
 let v8:Bool:=v6||v5;
 let v9:Bool:=decide ((↑x1.2.1.length:Int)<2);
 let v10:Bool:=!v9;
 let v11:Bool:=!v10||v10;bif v11 then bif v11 then bif v11 then bif v9||v10 then bif bif v9 then true else decide ((↑x1.2.1.length:Int)>10) then some false else lp (Int×PUnit) Bool (fun (again:Int×PUnit->Option Bool) (x:Int×PUnit) =>
 let v14:Bool:=decide (x.1=0);
 let v15:Bool:=!v14;
 let v16:Bool:=!v15||v15;bif decide (x.1<(↑x1.2.1.length:Int)) then bif inB x.1 x1.2.1.length then bif v16 then bif v16 then bif v16 then bif v16 && v16 then bif v14||v15 then ah (fN x0 (x1.2.1.getD x.1.toNat ({ data:={ toList:=[] } },0,0,0)) (bif v14 then true else decide (x.1=v7))) fun (t:Bool)=>bif !t then some false else again (IntKind.wrap .i64 (x.1+1),PUnit.unit) else none else none else none else none else none else none else bif v8 then bif v8 then bif v8 then bif v8 then bif v8&&(v8&&(v6||inB v7 x1.2.1.length)) then bif v8 then bif v8 then bif v8 then bif v4||v5 then some (bif v4 then true else List.beq (ByteArray.toList (x1.2.1.getD v7.toNat ({ data:={ toList:=[] } },0,0,0)).1) (ByteArray.toList { data:=#[] })) else none else none else none else none else none else none else none else none else none) (0,PUnit.unit) else none else none else none else none
def gI (x0:(List (ByteArray×Int))×List (ByteArray×(List (ByteArray×Int×Int×Int))×Bool)) (x1:ByteArray×(List (ByteArray×Int×Int×Int))×Bool):Option Bool:=pV lpK jnK fN x0 x1
abbrev t42:=((List (ByteArray×Int))×List (ByteArray×(List (ByteArray×Int×Int×Int))×Bool))->(ByteArray×(List (ByteArray×Int×Int×Int))×Bool)->Option (Bool)
def c42:Ctr:=⟨[T25,T72],[],[],.one .bool,fun x _ _=>gI x.1 x.2.1⟩
theorem e42 (lp:Lp) (jn:Jn) (fN:t78):∀(x:TsS c42.as) (F:TsF c42.fs) (y:TsS c42.cs),pV lp jn fN x.1 x.2.1=bI lp jn (cx [(78,k78 fN)] [(32,r32),(92,r92),(112,bi)]) aj 4 42 f42 c42 x F y:=fun x F y=>by kernel_rfl
theorem YD:c42.ok prog 42:=Ctr.of_den (ao (aa (q32) (by kernel_rfl) YK)) aF (hl:=aj) (d:=4) func42 rfl (by decide) (e42 lpK jnK fN)
def oH (lp:Lp) (_:Jn) (eW:t39) (bu:t40) (eh:t41) (gI:t42) (x0:(List (ByteArray×Int))×List (ByteArray×(List (ByteArray×Int×Int×Int))×Bool)):Option Bool :=
 
 let v3:Bool:=decide ((↑x0.1.length:Int)<1);
 let v4:Bool:=!v3;
 let v5:Bool:=bif v3 then true else decide ((↑x0.1.length:Int)>6);
 let v6:Bool:=!v4||v4;
 let v7:Bool:=!v5;
 let v8:Bool:=bif v5 then true else decide ((↑x0.2.length:Int)<1);
 let v9:Bool:=!v8;
 let v10:Bool:=!v7||v7;
 let v11:Bool:=!v9||v9;bif v6 then bif v6 then bif v6 then bif v3||v4 then bif v10 then bif v10 then bif v10 then bif v5||v7 then bif v11 then bif v11 then bif v11 then bif v8 || v9 then bif bif v8 then true else decide ((↑x0.2.length:Int)>6) then some false else lp (Int×PUnit) Bool (fun (again:Int×PUnit->Option Bool) (x:Int × PUnit)=>bif decide (x.1<(↑x0.1.length:Int)) then bif inB x.1 x0.1.length then ah (eW (x0.1.getD x.1.toNat ({ data:={ toList := [] } },0)).1) fun (t:Bool) =>
 let v15:Bool:=!t;
 let v16:Bool:=!v15;
 let v17:Bool:=!v16||v16;
 let v18:Bool:=v17&&v17;bif v17 then bif v18 then ah (bif v16 then bu x0 (x0.1.getD x.1.toNat ({ data:={ toList:=[] } },0)).1 else some 0) fun (t:Int) =>
 let v20:Bool:=bif v15 then true else !decide (t=x.1);
 let v21:Bool:=!v20;
 let v22:Bool:=!v21||v21;
 let v23:Bool:=bif v20 then true else decide ((x0.1.getD x.1.toNat ({ data:={ toList:=[] } },0)).2<0);
 let v24:Bool:=!v23;
 let v25:Bool:=!v24||v24;bif v18 then bif v15||v16 then bif v22 then bif v22 then bif v20||v21 then bif v25 then bif v25 then bif v23||v24 then bif bif v23 then true else decide ((x0.1.getD x.1.toNat ({ data:={ toList:=[] } },0)).2>16777216) then some false else again (IntKind.wrap .i64 (x.1+1), PUnit.unit) else none else none else none else none else none else none else none else none else none else none else none else lp (Int×Int×PUnit) Bool (fun (again:Int×Int × PUnit->Option Bool) (x:Int×Int×PUnit) =>
 let v16:Int×PUnit:=(IntKind.wrap .i64 (x.2.1+1),PUnit.unit);
 let v17:ByteArray×List (ByteArray×Int×Int×Int)×Bool:=x0.2.getD x.2.1.toNat ({ data:={ toList:=[] } },[],false);bif decide (x.2.1<(↑x0.2.length:Int)) then bif inB x.2.1 x0.2.length then ah (eW v17.1) fun (t:Bool) =>
 let v19:Bool:=!t;
 let v20:Bool:=!v19;
 let v21:Bool:=!v20||v20;
 let v22:Bool:=v21&&v21;bif v21 then bif v22 then ah (bif v20 then eh x0 v17.1 else some 0) fun (t:Int) =>
 let v24:Bool:=bif v19 then true else !decide (t=x.2.1);
 let v25:Bool:=!v24;
 let v26:Bool:=!v25||v25;bif v22 then bif v19||v20 then bif v26 then bif v26&&v26 then ah (bif v25 then bu x0 v17.1 else some 0) fun (t:Int) =>
 let v28:Bool:=bif v24 then true else decide (t>=0);
 let v29:Bool:=!v28;
 let v30:Bool:=!v29||v29;bif v26 then bif v24||v25 then bif v30&&v30 then ah (bif v29 then gI x0 v17 else some false) fun (t:Bool)=>bif v30 then bif v28||v29 then bif bif v28 then true else !t then some false else bif v17.2.2 then again (IntKind.wrap .i64 (x.1+1),v16) else again (x.1,v16) else none else none else none else none else none else none else none else none else none else none else none else none else some (decide (x.1<=1))) (0,0,PUnit.unit)) (0, PUnit.unit) else none else none else none else none else none else none else none else none else none else none else none else none
def aP (x0:(List (ByteArray×Int))×List (ByteArray×(List (ByteArray×Int×Int×Int))×Bool)):Option Bool:=oH lpK jnK eW bu eh gI x0
abbrev t14:=((List (ByteArray×Int))×List (ByteArray×(List (ByteArray×Int×Int×Int))×Bool))->Option (Bool)
def k14 (aP:t14):Ctr:=⟨[T25],[],[],.one .bool,fun x _ _=>aP x.1⟩
def c14:Ctr:=k14 aP
theorem e14 (lp:Lp) (jn:Jn) (eW:t39) (bu:t40) (eh:t41) (gI:t42):∀(x:TsS c14.as) (F:TsF c14.fs) (y:TsS c14.cs),oH lp jn eW bu eh gI x.1=bI lp jn (cx [(42,⟨[T25,T72],[],[],.one .bool,fun x _ _=>gI x.1 x.2.1⟩),(41,⟨[T25,.str],[],[],.one i64,fun x _ _=>eh x.1 x.2.1⟩),(40,k40 bu),(39,⟨[.str],[],[],.one .bool,fun x _ _=>eW x.1⟩)] [(32,r32),(92,r92),(112,bi)]) aj 4 14 f14 c14 x F y:=fun x F y=>by kernel_rfl
theorem XQ:c14.ok prog 14:=Ctr.of_den (ao (aa (aa (aa (aa (q32) (by kernel_rfl) Yx) (by kernel_rfl) U3) (by kernel_rfl) XO) (by kernel_rfl) YD)) aF (hl:=aj) (d:=4) func14 rfl (by decide) (e14 lpK jnK eW bu eh gI)
def B8 (_:Lp) (_:Jn) (x0:Int):Option Int :=
 some (if IntKind.wrap .i64 (0 - x0)>x0 then IntKind.wrap .i64 (0 - x0) else x0)
def nM (x0:Int):Option Int:=B8 lpK jnK x0
abbrev Xf:=(Int)->Option (Int)
def xx (lp:Lp) (_:Jn) (nM:Xf) (x0:(List Int)×List ((List Int)×Int×Int)):Option (List Int) :=
 lp (Int×Int×PUnit) (List Int) (fun (again:Int×Int×PUnit->Option (List Int)) (x:Int×Int×PUnit)=>bif decide (x.2.1<(↑x0.1.length:Int)) then bif inB x.2.1 x0.1.length then ah (nM (x0.1.getD x.2.1.toNat 0)) fun (t:Int)=>again (IntKind.wrap .i64 (x.1+t),IntKind.wrap IntKind.i64 (x.2.1+1),PUnit.unit) else none else lp (List Int×Int×PUnit) (List Int) (fun (again:List Int×Int×PUnit->Option (List Int)) (x:List Int×Int × PUnit) =>
 let v7:Bool:=inB x.2.1 x0.2.length;
 let v8:List Int×Int×Int:=x0.2.getD x.2.1.toNat ([],0,0);bif decide (x.2.1<(↑x0.2.length:Int)) then bif v7 then ah (nM v8.2.2) fun (t:Int)=>lp (Int×Int×PUnit) (List Int) (fun (again_1:Int×Int×PUnit->Option (List Int)) (x_1:Int×Int×PUnit)=>bif decide (x_1.2.1 < (↑x0.1.length:Int)) then bif v7 then bif inB x_1.2.1 v8.1.length then ah (nM (v8.1.getD x_1.2.1.toNat 0)) fun (t:Int) => again_1 (IntKind.wrap .i64 (x_1.1+t),IntKind.wrap .i64 (x_1.2.1+1),PUnit.unit) else none else none else bif dM (List.length x.1+1) (8 : Nat) then again (x.1++[x_1.1],IntKind.wrap .i64 (x.2.1+1),PUnit.unit) else none) (IntKind.wrap .i64 (1+t),0,PUnit.unit) else none else some x.1) ([x.1],0,PUnit.unit)) (1,0,PUnit.unit)
def oE (x0:(List Int)×List ((List Int)×Int×Int)):Option (List Int):=xx lpK jnK nM x0
abbrev t79:=((List Int)×List ((List Int)×Int×Int))->Option (List Int)
end
end Go.Proofs.YtegbncajloeepaaGreat
