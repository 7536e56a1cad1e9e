/- r50: the shapes of its types, and the places of its loops. r50: what its functions answer (printed by a program), and that they do. r50: what its functions answer (printed by a program), and that they do; part 2. -/
import Derived.Test.YtegbncajloeepaaGreatProg
import Derived.KernelRfl
import Derived.Test.YtegbncajloeepaaGreatMgL

namespace Go.Proofs.YtegbncajloeepaaGreat
open Tryz Dn Dn.Sh
abbrev i64:Sh:=.int .i64
abbrev T45:Sh:=.agg (.pair .str i64)
abbrev T47:Sh:=.agg (.pair i64 i64)
abbrev T74:Sh:=.agg (.pair .str (.pair i64 T47))
abbrev T72:Sh:=.agg (.pair .str (.pair (.sl T74) .bool))
abbrev T25:Sh:=.agg (.pair (.sl T45) (.sl T72))
abbrev T30:Sh:=.agg (.pair (.sl T47) (.pair .bool (.sl T47)))
abbrev B3:Sh:=.agg (.pair (.sl i64) (.pair i64 i64))
abbrev T82:Sh:=.agg (.pair (.sl i64) (.sl B3))
abbrev T94:Sh:=.agg (.pair T47 (.pair (.sl T47) (.sl T47)))
abbrev oc:Sh:=.agg (.pair (.int .u64) (.int .u64))
abbrev Ja:Sh:=.agg (.pair (.sl (.sl i64)) (.pair i64 (.pair (.sl i64) (.pair (.sl i64) (.pair (.sl i64) (.pair i64 i64))))))
abbrev Sp:Sh:=.agg i64
abbrev iW:Sh:=.agg (.pair (.int .u64) (.int .u64))
abbrev ux:Sh:=.agg (.pair .bool (.pair (.int .u64) (.int .u64)))
def shs:TypeId->Option Sh
 | 3=>some i64
 | 4=>some .bool
 | 5=>some (.int .u8)
 | 9=>some .str
 | 28=>some (.sl T47)
 | 45=>some T45
 | 47=>some T47
 | 72=>some T72
 | 74=>some T74
 | 79=>some (.sl i64)
 | 124=>some B3
 | _=>none
def P8:Nat->Option Hd
 | 3=>some ⟨[(3,false,[.d i64]),(11,false,[.d i64])],[],[]⟩
 | 11=>some ⟨[(6,false,[.row 47 T47]),(27,false,[.d i64])],[],[]⟩
 | _=>none
def JN:Nat->Option Hd
 | 2=>some ⟨[(3,false,[.d i64])],[],[]⟩
 | _=>none
def Ko:Nat->Option Hd
 | 2=>some ⟨[(8,false,[.d i64])],[],[]⟩
 | _=>none
def Pn:Nat->Option Hd
 | 1=>some ⟨[(0,false,[.d (.int .u64)]),(1,false,[.d (.int .u64)])],[],[]⟩
 | _=>none
def Px:Nat->Option Hd
 | 5=>some ⟨[(17,false,[.d i64])],[],[]⟩
 | _=>none
def OS:Nat->Option Hd
 | 6=>some ⟨[(27,false,[.d i64])],[],[(3,some 0,.x (.map 133 .str .bool))]⟩
 | 13=>some ⟨[(7,false,[.d i64]),(46,false,[.d i64])],[],[(3,some 0,.x (.map 133 .str .bool))]⟩
 | _=>none
def Qp:Nat->Option Hd
 | 5=>some ⟨[(20,false,[.d i64])],[],[(4,none,.x (.tab 79 .ref 3 i64))]⟩
 | 10=>some ⟨[(34,false,[.d i64])],[],[(4,none,.x (.tab 79 .ref 3 i64))]⟩
 | 13=>some ⟨[(42,false,[.d i64])],[],[(4,none,.x (.tab 79 .ref 3 i64))]⟩
 | _=>none
def O3:Nat->Option Hd
 | 5=>some ⟨[(4,false,[.row 3 i64]),(13,false,[.d i64])],[],[]⟩
 | _=>none
def Ql:Nat->Option Hd
 | 9=>some ⟨[(34,false,[.d i64])],[(9,[.d (.sl i64),.row 124 B3])],[]⟩
 | _=>none
def OZ:Nat->Option Hd
 | 8=>some ⟨[(8,false,[.d i64])],[],[(7,none,.row 3 i64)]⟩
 | _=>none
def OY:Nat->Option Hd
 | 1000002=>some ⟨[],[],[]⟩
 | 1000005=>some ⟨[],[],[]⟩
 | _=>none
def JP:Nat->Option Hd
 | 2=>some ⟨[(8,false,[.d i64])],[],[]⟩
 | _=>none
def Ln:Nat->Option Hd
 | 2=>some ⟨[(8,false,[.d i64])],[],[]⟩
 | _=>none
def Jo:Nat->Option Hd
 | 3=>some ⟨[(5,false,[.d i64]),(14,false,[.d i64])],[],[]⟩
 | _=>none
def KJ:Nat->Option Hd
 | 5=>some ⟨[(3,false,[.d i64]),(4,false,[.d i64])],[],[]⟩
 | _=>none
def MQ:Nat->Option Hd
 | 1000002=>some ⟨[],[],[]⟩
 | _=>none
def K7:Nat->Option Hd
 | 4=>some ⟨[(4,false,[.row 3 i64]),(18,false,[.d i64])],[],[]⟩
 | 10=>some ⟨[(7,false,[.d i64]),(34,false,[.d i64])],[],[]⟩
 | _=>none
def Kv:Nat->Option Hd
 | 4=>some ⟨[(5,false,[.d i64]),(24,false,[.d i64])],[],[]⟩
 | 12=>some ⟨[(9,false,[.d i64]),(51,false,[.d i64])],[(46,[.x (.tab 79 .ref 3 i64),.d i64,.row 3 i64,.row 3 i64,.row 3 i64,.d i64,.d i64])],[]⟩
 | 28=>some ⟨[(95,false,[.d i64])],[],[(12,none,.row 3 i64)]⟩
 | _=>none
def JQ:Nat->Option Hd
 | 1000019=>some ⟨[(9,false,[.d i64])],[],[(12,none,.row 3 i64)]⟩
 | 1000022=>some ⟨[(9,false,[.d i64])],[],[(12,none,.row 3 i64)]⟩
 | 1000026=>some ⟨[(13,false,[.d i64])],[],[(12,none,.row 3 i64)]⟩
 | _=>none
def ME:Nat->Option Hd
 | 3=>some ⟨[(5,false,[.d i64]),(13,false,[.d i64])],[],[]⟩
 | _=>none
def Jz:Nat->Option Hd
 | 1000008=>some ⟨[(10,false,[.d .bool])],[(2,[.d ux]),(3,[.d ux])],[]⟩
 | _=>none
def MN:Nat->Option Hd
 | 1000002=>some ⟨[(0,false,[.d (.int .u64)]),(2,false,[.d i64])],[],[]⟩
 | 1000005=>some ⟨[(0,false,[.d (.int .u64)]),(2,false,[.d i64])],[],[]⟩
 | _=>none
def KZ:Nat->Option Hd
 | 17=>some ⟨[(15,false,[.d (.int .u64)]),(16,false,[.d (.int .u64)])],[],[]⟩
 | 24=>some ⟨[(16,false,[.d (.int .u64)]),(18,false,[.d (.int .u64)])],[],[]⟩
 | _=>none
def MX:Nat->Option Hd
 | 0=>some ⟨[(15,false,[.d (.int .u64)])],[],[]⟩
 | 2=>some ⟨[(18,false,[.d (.int .u64)])],[],[]⟩
 | 1000002=>some ⟨[],[],[]⟩
 | 1000004=>some ⟨[],[],[]⟩
 | _=>none
def Nc:Nat->Option Hd
 | 2=>some ⟨[(29,false,[.d i64])],[],[(0,some 0,.x (.tab 79 .ref 3 i64))]⟩
 | 7=>some ⟨[(43,false,[.d i64])],[],[(0,some 0,.x (.tab 79 .ref 3 i64))]⟩
 | 17=>some ⟨[(98,false,[.d i64])],[],[(0,some 0,.x (.tab 79 .ref 3 i64))]⟩
 | 20=>some ⟨[(104,false,[.d i64])],[],[(0,some 0,.x (.tab 79 .ref 3 i64))]⟩
 | _=>none
def LU:Nat->Option Hd
 | 3=>some ⟨[(5,false,[.d i64]),(14,false,[.d i64])],[],[]⟩
 | _=>none
def KE:Nat->Option Hd
 | 1=>some ⟨[],[(0,[.x (.tab 79 .ref 3 i64),.d i64,.row 3 i64,.row 3 i64,.row 3 i64,.d i64,.d i64])],[]⟩
 | 3=>some ⟨[(3,false,[.d i64]),(4,false,[.d i64])],[],[]⟩
 | 12=>some ⟨[(44,false,[.d i64])],[(0,[.x (.tab 79 .ref 3 i64),.d i64,.row 3 i64,.row 3 i64,.row 3 i64,.d i64,.d i64])],[]⟩
 | 15=>some ⟨[(6,false,[.d i64])],[(0,[.x (.tab 79 .ref 3 i64),.d i64,.row 3 i64,.row 3 i64,.row 3 i64,.d i64,.d i64])],[]⟩
 | _=>none
def Od:Nat->Option Hd
 | 3=>some ⟨[(5,false,[.d i64]),(21,false,[.d i64])],[],[]⟩
 | _=>none
def NP:Nat->Option Hd
 | 1=>some ⟨[],[(0,[.x (.tab 79 .ref 3 i64),.d i64,.row 3 i64,.row 3 i64,.row 3 i64,.d i64,.d i64])],[]⟩
 | 3=>some ⟨[(3,false,[.d i64]),(4,false,[.d i64])],[],[]⟩
 | _=>none
def Py:Nat->Option Hd
 | 14=>some ⟨[(6,false,[.d i64]),(43,false,[.d i64])],[],[(7,none,.row 3 i64)]⟩
 | 22=>some ⟨[(94,false,[.d i64])],[(5,[.d T47,.row 47 T47,.row 47 T47])],[]⟩
 | 27=>some ⟨[(110,false,[.d i64])],[(5,[.d T47,.row 47 T47,.row 47 T47])],[]⟩
 | 31=>some ⟨[(13,false,[.d i64]),(118,false,[.d i64])],[],[]⟩
 | _=>none
def OI:Nat->Option Hd
 | 10=>some ⟨[(5,false,[.row 47 T47]),(20,false,[.d i64])],[],[]⟩
 | _=>none
def PE:Nat->Option Hd
 | 4=>some ⟨[(13,false,[.d i64])],[],[]⟩
 | _=>none
def Qe:Nat->Option Hd
 | 2=>some ⟨[(8,false,[.d i64])],[],[]⟩
 | _=>none
def Kn:Nat->Option Hd
 | 1000002=>some ⟨[],[],[]⟩
 | _=>none
def K9:Nat->Option Hd
 | 1000008=>some ⟨[(9,false,[.d .bool])],[(10,[.d oc])],[]⟩
 | 1000010=>some ⟨[(9,false,[.d .bool])],[(10,[.d oc])],[]⟩
 | _=>none
def KD:Nat->Option Hd
 | 3=>some ⟨[(15,false,[.d i64])],[(0,[.d Sp]),(6,[.d T47]),(7,[.d T47])],[]⟩
 | _=>none
def Jl:Nat->Option Hd
 | 1000007=>some ⟨[(11,false,[.d i64])],[(10,[.d T47])],[]⟩
 | _=>none
def Kh:Nat->Option Hd
 | 1000009=>some ⟨[],[(6,[.d oc]),(7,[.d oc])],[]⟩
 | _=>none
def KN:Nat->Option Hd
 | 3=>some ⟨[(5,false,[.row 3 i64]),(11,false,[.d i64])],[],[]⟩
 | _=>none
def NW:Nat->Option Hd
 | 3=>some ⟨[(9,false,[.d .bool]),(14,false,[.d i64])],[(0,[.d Sp])],[]⟩
 | _=>none
def KC:Nat->Option Hd
 | 3=>some ⟨[(3,false,[.row 3 i64]),(9,false,[.d i64])],[],[]⟩
 | _=>none
def Kl:Nat->Option Hd
 | 2=>some ⟨[(10,false,[.d i64])],[],[]⟩
 | _=>none
def PV:Nat->Option Hd
 | 7=>some ⟨[(8,false,[.row 47 T47]),(9,false,[.d i64]),(25,false,[.d i64])],[],[]⟩
 | 11=>some ⟨[(31,false,[.d i64])],[(11,[.d T47])],[]⟩
 | _=>none
def OL:Nat->Option Hd
 | 1000004=>some ⟨[(8,false,[.d i64])],[],[]⟩
 | _=>none
def O9:Nat->Option Hd
 | 2=>some ⟨[(0,false,[.row 5 (.int .u8)]),(7,false,[.d i64])],[],[]⟩
 | _=>none
def P5:Nat->Option Hd
 | 3=>some ⟨[(3,false,[.d (.int .u32)]),(8,false,[.d i64])],[],[]⟩
 | _=>none
def QY:Nat->Option Hd
 | 12=>some ⟨[(6,false,[.row 5 (.int .u8)]),(36,false,[.d i64])],[],[]⟩
 | _=>none
def PR:Nat->Option Hd
 | 1000010=>some ⟨[],[],[(6,none,.row 5 (.int .u8))]⟩
 | _=>none
def OX:Nat->Option Hd
 | 4=>some ⟨[(3,false,[.d i64])],[],[]⟩
 | 9=>some ⟨[(4,false,[.d i64])],[],[]⟩
 | 14=>some ⟨[(5,false,[.d i64])],[],[]⟩
 | _=>none
def QT:Nat->Option Hd
 | 1=>some ⟨[(1,false,[.d i64])],[],[]⟩
 | _=>none
def Q1:Nat->Option Hd
 | 2=>some ⟨[(5,false,[.d i64])],[],[]⟩
 | _=>none
def O7:Nat->Option Hd
 | 2=>some ⟨[(5,false,[.d i64])],[],[]⟩
 | _=>none
def Li:Nat->Option Hd
 | 4=>some ⟨[(5,false,[.d i64])],[(2,[.d iW]),(3,[.d iW])],[]⟩
 | 6=>some ⟨[],[(2,[.d iW]),(3,[.d iW])],[]⟩
 | 7=>some ⟨[],[(2,[.d iW])],[]⟩
 | 9=>some ⟨[],[(3,[.d iW])],[]⟩
 | 14=>some ⟨[(5,false,[.d i64])],[(3,[.d iW])],[]⟩
 | _=>none
def QX:Nat->Option Hd
 | 4=>some ⟨[(5,false,[.d i64])],[],[]⟩
 | _=>none
def O0:Nat->Option Hd
 | 4=>some ⟨[(3,false,[.d i64])],[],[]⟩
 | 11=>some ⟨[(5,false,[.d i64]),(6,false,[.d i64])],[],[]⟩
 | _=>none
def QQ:Nat->Option Hd
 | 3=>some ⟨[(3,false,[.d i64]),(4,false,[.d i64])],[],[]⟩
 | 8=>some ⟨[(5,false,[.row 3 i64]),(6,false,[.d i64])],[],[]⟩
 | 12=>some ⟨[(7,false,[.d i64]),(8,false,[.d i64])],[],[]⟩
 | _=>none
def Pd:Nat->Option Hd
 | 3=>some ⟨[(6,false,[.d i64]),(7,false,[.d i64])],[],[]⟩
 | _=>none
def QG:Nat->Option Hd
 | 5=>some ⟨[(6,false,[.d i64]),(7,false,[.d i64])],[],[]⟩
 | _=>none
def Mb:Nat->Option Hd
 | 3=>some ⟨[(5,false,[.d i64]),(6,false,[.d i64])],[],[]⟩
 | _=>none
def QS:Nat->Option Hd
 | 3=>some ⟨[(3,false,[.x (.tab 79 .ref 3 i64)]),(4,false,[.d i64])],[],[]⟩
 | 7=>some ⟨[(5,false,[.row 3 i64]),(6,false,[.d i64])],[],[]⟩
 | _=>none
def Qx:Nat->Option Hd
 | 4=>some ⟨[(7,false,[.d i64])],[(5,[.d (.sl i64),.row 124 B3])],[]⟩
 | _=>none
def Pw:Nat->Option Hd
 | 3=>some ⟨[(3,false,[.row 3 i64]),(4,false,[.d i64])],[],[]⟩
 | _=>none
def QO:Nat->Option Hd
 | 2=>some ⟨[(3,false,[.d i64])],[],[]⟩
 | _=>none
def Om:Nat->Option Hd
 | 5=>some ⟨[(8,false,[.d i64])],[(2,[.d iW]),(6,[.d iW]),(7,[.d iW])],[]⟩
 | _=>none
def O1:Nat->Option Hd
 | 3=>some ⟨[(7,false,[.d i64])],[(4,[.d T47]),(6,[.d T47])],[]⟩
 | _=>none
def Mm:Nat->Option Hd
 | 3=>some ⟨[(5,false,[.row 3 i64]),(6,false,[.d i64])],[],[]⟩
 | _=>none
def Pu:Nat->Option Hd
 | 3=>some ⟨[(8,false,[.d .bool]),(9,false,[.d i64])],[],[]⟩
 | _=>none
def PO:Nat->Option Hd
 | 3=>some ⟨[(3,false,[.row 3 i64]),(4,false,[.d i64])],[],[]⟩
 | _=>none
def QM:Nat->Option Hd
 | 2=>some ⟨[(5,false,[.d i64])],[],[]⟩
 | _=>none
def M6:Nat->Option Hd
 | 3=>some ⟨[(7,false,[.d i64])],[(4,[.d T47]),(6,[.d T47])],[]⟩
 | _=>none
def Pj:Nat->Option Hd
 | 7=>some ⟨[(8,false,[.row 47 T47]),(9,false,[.d i64])],[],[]⟩
 | _=>none
def PP:Nat->Option Hd
 | 5=>some ⟨[(8,false,[.d i64])],[],[]⟩
 | _=>none
def QV:Nat->Option Hd
 | 18=>some ⟨[(9,false,[.d .bool]),(10,false,[.d i64])],[],[]⟩
 | _=>none
def Oz:Nat->Option Hd
 | 1000009=>some ⟨[(8,false,[.d i64])],[],[]⟩
 | _=>none
def PY:Nat->Option Hd
 | 3=>some ⟨[(4,false,[.d i64])],[(3,[.row 45 T45,.row 72 T72])],[]⟩
 | _=>none
def SP:Nat->Option Hd
 | 10=>some ⟨[(45,false,[.d i64])],[],[(7,some 0,.row 45 T45)]⟩
 | 20=>some ⟨[(69,false,[.d i64])],[(9,[.row 47 T47,.d .bool,.d (.sl T47)])],[]⟩
 | _=>none
def R2:Nat->Option Hd
 | 1000018=>some ⟨[],[(9,[.row 47 T47,.d .bool,.d (.sl T47)])],[]⟩
 | _=>none
def OO:Nat->Option Hd
 | 2=>some ⟨[(0,false,[.row 5 (.int .u8)]),(7,false,[.d i64])],[],[]⟩
 | _=>none
def OJ:Nat->Option Hd
 | 3=>some ⟨[(3,false,[.d i64]),(4,false,[.d i64])],[],[]⟩
 | _=>none
def Qv:Nat->Option Hd
 | 11=>some ⟨[(6,false,[.row 5 (.int .u8)]),(7,false,[.d i64])],[],[]⟩
 | _=>none
def QD:Nat->Option Hd
 | 1000009=>some ⟨[],[],[(6,none,.row 5 (.int .u8))]⟩
 | _=>none
def PQ:Nat->Option Hd
 | 4=>some ⟨[(13,false,[.d i64])],[],[]⟩
 | _=>none
def Pp:Nat->Option Hd
 | 4=>some ⟨[(5,false,[.d i64])],[],[]⟩
 | _=>none
def QB:Nat->Option Hd
 | 3=>some ⟨[(3,false,[.d i64]),(8,false,[.d i64])],[],[]⟩
 | _=>none
def OW:Nat->Option Hd
 | 12=>some ⟨[(5,false,[.row 47 T47]),(6,false,[.d i64])],[(2,[.d T30])],[]⟩
 | _=>none
def Pe:Nat->Option Hd
 | 3=>some ⟨[(3,false,[.d i64]),(4,false,[.d i64])],[],[]⟩
 | _=>none
def Qm:Nat->Option Hd
 | 12=>some ⟨[(5,false,[.row 47 T47]),(6,false,[.d i64])],[],[]⟩
 | _=>none
def M1:Nat->Option Hd
 | 2=>some ⟨[(8,false,[.d i64])],[],[]⟩
 | _=>none
def LW:Nat->Option Hd
 | 1000007=>some ⟨[(12,false,[.d (.int .u64)]),(13,false,[.d (.int .u64)]),(18,false,[.d .bool])],[],[]⟩
 | 1000008=>some ⟨[(12,false,[.d (.int .u64)]),(13,false,[.d (.int .u64)]),(14,false,[.d (.int .u64)]),(15,false,[.d (.int .u64)]),(18,false,[.d .bool])],[],[]⟩
 | _=>none
def Ol:Nat->Option Hd
 | 3=>some ⟨[(20,false,[.d i64])],[(5,[.x (.tab 79 .ref 3 i64),.d i64,.row 3 i64,.row 3 i64,.d .bool])],[]⟩
 | 9=>some ⟨[(40,false,[.d i64])],[(5,[.x (.tab 79 .ref 3 i64),.d i64,.row 3 i64,.row 3 i64,.d .bool])],[]⟩
 | 14=>some ⟨[(10,false,[.d i64]),(11,false,[.d i64])],[],[]⟩
 | 19=>some ⟨[(10,false,[.d i64])],[(5,[.x (.tab 79 .ref 3 i64),.d i64,.row 3 i64,.row 3 i64,.d .bool])],[]⟩
 | 26=>some ⟨[(130,false,[.d i64])],[],[(5,some 0,.x (.tab 79 .ref 3 i64))]⟩
 | 31=>some ⟨[(144,false,[.d i64])],[],[(5,some 0,.x (.tab 79 .ref 3 i64))]⟩
 | _=>none
def Pz:Nat->Option Hd
 | 10=>some ⟨[(7,false,[.x (.tab 79 .ref 3 i64)]),(37,false,[.d i64])],[],[]⟩
 | 16=>some ⟨[(64,false,[.d i64])],[],[]⟩
 | 25=>some ⟨[(13,false,[.row 47 T47]),(80,false,[.d i64])],[],[]⟩
 | _=>none
def SH:Nat->List Nat
 | 2000014=>[7]
 | _=>[]
def ai:FuncId->Hint
 | 92=>{loop:=P8}
 | 127=>{loop:=JN}
 | 154=>{loop:=Ko}
 | 59=>{loop:=Pn}
 | 91=>{loop:=Px}
 | 50=>{loop:=OS}
 | 72=>{loop:=Qp}
 | 73=>{loop:=O3}
 | 97=>{loop:=Ql}
 | 98=>{loop:=OZ,join:=OY}
 | 174=>{loop:=JP}
 | 175=>{loop:=Ln}
 | 146=>{loop:=Jo}
 | 148=>{loop:=KJ,join:=MQ}
 | 100=>{loop:=K7}
 | 101=>{loop:=Kv,join:=JQ}
 | 106=>{loop:=ME}
 | 177=>{join:=Jz}
 | 194=>{join:=MN}
 | 185=>{loop:=KZ,join:=MX}
 | 149=>{loop:=Nc}
 | 150=>{loop:=LU}
 | 102=>{loop:=KE}
 | 151=>{loop:=Od}
 | 103=>{loop:=NP}
 | 56=>{loop:=Py}
 | 57=>{loop:=OI}
 | 36=>{loop:=PE}
 | 75=>{loop:=Qe}
 | 129=>{join:=Kn}
 | 171=>{join:=K9}
 | 133=>{loop:=KD,join:=Jl}
 | 187=>{join:=Kh}
 | 170=>{loop:=KN}
 | 131=>{loop:=NW}
 | 134=>{loop:=KC}
 | 135=>{loop:=Kl}
 | 95=>{loop:=PV}
 | 19=>{join:=OL}
 | 63=>{loop:=O9}
 | 64=>{loop:=P5}
 | 25=>{loop:=QY,join:=PR}
 | 12=>{loop:=OX}
 | 77=>{loop:=QT}
 | 40=>{loop:=Q1}
 | 41=>{loop:=O7}
 | 152=>{loop:=Li}
 | 42=>{loop:=QX}
 | 14=>{loop:=O0}
 | 79=>{loop:=QQ}
 | 80=>{loop:=Pd}
 | 43=>{loop:=QG}
 | 118=>{loop:=Mb}
 | 81=>{loop:=QS}
 | 44=>{loop:=Qx}
 | 45=>{loop:=Pw}
 | 70=>{loop:=QO}
 | 186=>{loop:=Om}
 | 83=>{loop:=O1}
 | 119=>{loop:=Mm}
 | 82=>{loop:=Pu}
 | 84=>{loop:=PO}
 | 86=>{loop:=QM}
 | 124=>{loop:=M6}
 | 87=>{loop:=Pj}
 | 48=>{loop:=PP}
 | 18=>{loop:=QV,join:=Oz}
 | 22=>{loop:=PY}
 | 6=>{loop:=SP,join:=R2,thaw:=SH}
 | 65=>{loop:=OO}
 | 66=>{loop:=OJ}
 | 26=>{loop:=Qv,join:=QD}
 | 27=>{loop:=PQ}
 | 67=>{loop:=Pp}
 | 68=>{loop:=QB}
 | 29=>{loop:=OW}
 | 69=>{loop:=Pe}
 | 30=>{loop:=Qm}
 | 181=>{loop:=M1}
 | 159=>{join:=LW}
 | 113=>{loop:=Ol}
 | 74=>{loop:=Pz}
 | _=>{}
def yX (p : String) : Bool := p == "program.go:104" || p == "ref.go:45" || p == "tension.go:104" || p == "ref.go:107"
def yU:TypeId->Option XP
 | 108=>some (.tab 79 .ref 3 i64)
 | 109=>some (.tab 79 .ref 3 i64)
 | _=>none
def tQ:List Nat:=[89,175,144,145,101,149,102,103,129,131]
def its:List (Nat×ICtr):=[]
theorem Uc:Lw prog its:=HT
end Go.Proofs.YtegbncajloeepaaGreat

namespace Go.Proofs.YtegbncajloeepaaGreat
noncomputable section
open Tryz Dn Dn.Sh
set_option maxRecDepth 100000
theorem aB:prog.follows .mixedOrders=true:=by kernel_rfl
theorem SU:DW prog tQ=true:=by kernel_rfl
theorem q0:(jD prog shs tQ its [] []).ok:=Ic SU Uc
abbrev cx (l) (r):=xr yU yX (jD prog shs tQ its l r)
def iv (_:Lp) (_:Jn) (x0:List Int):Option (List Int) :=
 bif eC (0+List.length x0) 8 then some x0 else none
def bi (x0:List Int):Option (List Int):=iv lpK jnK x0
abbrev NX:=(List Int)->Option (List Int)
def RN (bi:NX):RCtr:=⟨[(.sl i64)],3,i64,fun x=>bi x.1⟩
def aV:RCtr:=RN bi
theorem Wg (lp:Lp) (jn:Jn):∀x:TsS aV.as,iv lp jn x.1=B8 lp jn (cx [] []) ai 4 112 f112 aV.t aV.e (Am aV.as x true):=fun x=>by kernel_rfl
theorem S6:aV.ok prog 112:=RCtr.of_den_nil (c:=aV) (al (q0)) aB (hl:=ai) (d:=4) rfl func112 rfl (by decide) (Wg lpK jnK) fun x h=>by
 obtain ⟨l,u⟩:=x
 simp only at h
 subst h
 kernel_rfl
theorem U8:(jD prog shs tQ its [] [(112,aV)]).ok:=vB q0 (by kernel_rfl) S6
def nu (lp:Lp) (jn:Jn) (x0:List (List (Int×Int))):Option (List (Int×Int)) :=
 lp (Int×Int×PUnit) (List (Int×Int)) (fun (again:Int×Int×PUnit->Option (List (Int×Int))) (x:Int×Int×PUnit)=>bif decide (x.2.1<(↑x0.length:Int)) then bif inB x.2.1 x0.length then bif decide (IntKind.wrap .i64 (x.1+(↑(List.length (x0.getD x.2.1.toNat [])):Int))<0) then none else again (IntKind.wrap .i64 (x.1+(↑(List.length (x0.getD x.2.1.toNat [])):Int)),IntKind.wrap .i64 (x.2.1+1),PUnit.unit) else none else jn PUnit (List (Int×Int)) (fun (_:PUnit)=>bif decide (IntKind.wrap .i64 (x.1 - IntKind.wrap .i64 ((↑0:Int) - (↑0:Int)))>0) then bif slB (0 : Int) (↑0:Int) 0 then bif decide (0<IntKind.wrap .i64 (x.1 - IntKind.wrap .i64 ((↑0:Int) - (↑0:Int))))&&eC (Int.toNat (IntKind.wrap .i64 (x.1 - IntKind.wrap .i64 ((↑0:Int) - (↑0:Int))))) 16 then bif slB 0 (↑0:Int) (Int.toNat (IntKind.wrap IntKind.i64 (x.1 - IntKind.wrap .i64 ((↑0:Int) - (↑0:Int)))))&&decide (0<Int.toNat (IntKind.wrap .i64 (x.1 - IntKind.wrap .i64 ((↑0:Int) - (↑0:Int))))) then lp (List (Int×Int)×Int×PUnit) (List (Int×Int)) (fun (again:List (Int×Int)×Int×PUnit->Option (List (Int×Int))) (x : List (Int×Int)×Int×PUnit) =>
 let v8:List (Int×Int):=x0.getD x.2.1.toNat [];bif decide (x.2.1<(↑x0.length:Int)) then bif inB x.2.1 x0.length then bif eC (List.length x.1+List.length v8) 16 then again (x.1++v8,IntKind.wrap .i64 (x.2.1+1),PUnit.unit) else none else none else some x.1) (List.take (Int.toNat (↑(0 : Nat):Int)) (List.replicate (Int.toNat (IntKind.wrap .i64 (x.1 - IntKind.wrap .i64 ((↑0:Int) - (↑0:Int))))) (0,0)),0, PUnit.unit) else none else none else none else lp (List (Int×Int)×Int×PUnit) (List (Int×Int)) (fun (again:List (Int×Int)×Int×PUnit->Option (List (Int×Int))) (x:List (Int×Int)×Int×PUnit) =>
 let v8:List (Int×Int):=x0.getD x.2.1.toNat [];bif decide (x.2.1<(↑x0.length:Int)) then bif inB x.2.1 x0.length then bif eC (List.length x.1+List.length v8) 16 then again (x.1++v8,IntKind.wrap .i64 (x.2.1+1),PUnit.unit) else none else none else some x.1) ([],0, PUnit.unit)) fun (j:PUnit->Option (List (Int×Int)))=>bif decide (x.1<0) then none else j PUnit.unit) (0,0,PUnit.unit)
def eI (x0:List (List (Int×Int))):Option (List (Int×Int)):=nu lpK jnK x0
abbrev t92:=(List (List (Int×Int)))->Option (List (Int×Int))
def r92:RCtr:=⟨[(.sl (.sl T47))],47,T47,fun x=>eI x.1⟩
theorem e92 (lp:Lp) (jn:Jn):∀x:TsS r92.as,nu lp jn x.1=B8 lp jn (cx [] [(112,aV)]) ai 4 92 f92 r92.t r92.e (kh r92.as x 0):=fun x=>by kernel_rfl
theorem U6:r92.ok prog 92:=RCtr.of_den (c:=r92) (al (U8)) aB (hl:=ai) (d:=4) func92 rfl (by decide) (e92 lpK jnK)
theorem q92:(jD prog shs tQ its [] [(92,r92),(112,aV)]).ok:=vB U8 (by kernel_rfl) U6
def nD (_:Lp) (_:Jn) (x0:List Int):Option (List Int) :=
 bif eC (0+List.length x0) 1 then some x0 else none
def ww (x0:List Int):Option (List Int):=nD lpK jnK x0
def r32:RCtr:=⟨[(.sl (.int .u8))],5,(.int .u8),fun x=>ww x.1⟩
theorem e32 (lp:Lp) (jn:Jn):∀x:TsS r32.as,nD lp jn x.1=B8 lp jn (cx [] [(92,r92),(112,aV)]) ai 4 32 f32 r32.t r32.e (Am r32.as x true):=fun x=>by kernel_rfl
theorem TQ:r32.ok prog 32:=RCtr.of_den_nil (c:=r32) (al (q92)) aB (hl:=ai) (d:=4) rfl func32 rfl (by decide) (e32 lpK jnK) fun x h=>by
 obtain ⟨l,u⟩:=x
 simp only at h
 subst h
 kernel_rfl
theorem q32:(jD prog shs tQ its [] [(32,r32),(92,r92),(112,aV)]).ok:=vB q92 (by kernel_rfl) TQ
def kR (_:Lp) (_:Jn) (x0:Int) (x1:Int) (x2:Int):Option Bool :=
 
 let v5:Bool:=decide (x0>=x1);
 let v6:Bool:=!v5||v5;bif v6&&v6 then bif v6 then some (bif v5 then decide (x0<=x2) else false) else none else none
def bv (x0:Int) (x1:Int) (x2:Int):Option Bool:=kR lpK jnK x0 x1 x2
abbrev t88:=(Int)->(Int)->(Int)->Option (Bool)
def k88 (bv:t88):Ctr:=⟨[i64,i64,i64],[],[],.one .bool,fun x _ _=>bv x.1 x.2.1 x.2.2.1⟩
def c88:Ctr:=k88 bv
theorem e88 (lp:Lp) (jn:Jn):∀(x:TsS c88.as) (F:TsF c88.fs) (y:TsS c88.cs),kR lp jn x.1 x.2.1 x.2.2.1=bg lp jn (cx [] [(32,r32),(92,r92),(112,aV)]) ai 4 88 f88 c88 x F y:=fun x F y=>by kernel_rfl
theorem UI:c88.ok prog 88:=Ctr.of_den (al (q32)) aB (hl:=ai) (d:=4) func88 rfl (by decide) (e88 lpK jnK)
def kN (_:Lp) (_:Jn) (x0:Int):Option Bool :=
 
 let v3:Bool:=decide (x0>=97);
 let v4:Bool:=decide (x0>=65);
 let v5:Bool:=!v3||v3;
 let v6:Bool:=bif v3 then decide (x0<=122) else false;
 let v7:Bool:=!v6;
 let v8:Bool:=!v7;
 let v9:Bool:=v7&&v4;
 let v10:Bool:=v8||v7;bif v5 then bif v5 then bif v10 then bif v10 then bif !v9||v9 then bif (v8||v10)&&(v8||(!v4||(v8||v9))) then bif v6||v7 then some (bif v6 then true else bif v4 then decide (x0<=90) else false) else none else none else none else none else none else none else none
def bu (x0:Int):Option Bool:=kN lpK jnK x0
abbrev Lr:=(Int)->Option (Bool)
def RZ (bu:Lr):Ctr:=⟨[(.int .u8)],[],[],.one .bool,fun x _ _=>bu x.1⟩
def Nx:Ctr:=RZ bu
theorem X2 (lp:Lp) (jn:Jn):∀(x:TsS Nx.as) (F:TsF Nx.fs) (y:TsS Nx.cs),kN lp jn x.1=bg lp jn (cx [] [(32,r32),(92,r92),(112,aV)]) ai 4 126 f126 Nx x F y:=fun x F y=>by kernel_rfl
theorem Q2:Nx.ok prog 126:=Ctr.of_den (al (q32)) aB (hl:=ai) (d:=4) func126 rfl (by decide) (X2 lpK jnK)
def lZ (_:Lp) (_:Jn) (x0:Int):Option Bool :=
 
 let v3:Bool:=decide (x0>=48);
 let v4:Bool:=!v3||v3;bif v4 then bif v4 then some (bif v3 then decide (x0<=57) else false) else none else none
def eh (x0:Int):Option Bool:=lZ lpK jnK x0
abbrev UC:=(Int)->Option (Bool)
def Kr:Ctr:=⟨[(.int .u8)],[],[],.one .bool,fun x _ _=>eh x.1⟩
theorem WW (lp:Lp) (jn:Jn):∀(x:TsS Kr.as) (F:TsF Kr.fs) (y:TsS Kr.cs),lZ lp jn x.1=bg lp jn (cx [] [(32,r32),(92,r92),(112,aV)]) ai 4 166 f166 Kr x F y:=fun x F y=>by kernel_rfl
theorem TK:Kr.ok prog 166:=Ctr.of_den (al (q32)) aB (hl:=ai) (d:=4) func166 rfl (by decide) (WW lpK jnK)
def j8 (lp:Lp) (_:Jn) (bu:Lr) (eh:UC) (x0:ByteArray):Option Int :=
 lp (Int×PUnit) Int (fun (again:Int×PUnit->Option Int) (x:Int×PUnit) =>
 let v5:Bool:=inB x.1 (ByteArray.size x0);
 let v6:Int:=fK x0 x.1.toNat;
 let v7:Bool:=decide (x.1<(↑(ByteArray.size x0):Int));
 let v8:Bool:=!v7;
 let v9:Bool:=v8||v7;
 let v10:Bool:=v8||v9;bif v9&&(v9&&(v8||v5)) then bif v9 then ah (bif v7 then bu v6 else some false) fun (t:Bool) =>
 let v12:Bool:=v7&&!t;
 let v13:Bool:=!v12;
 let v14:Bool:=v13||v12;bif v9 then bif v14&&(v14&&(v13||v5)) then bif v14 then ah (bif v12 then eh v6 else some false) fun (t_1:Bool) =>
 let v16:Bool:=bif t then true else t_1;
 let v17:Bool:=v7&&!v16;
 let v18:Bool:=!v17;
 let v19:Bool:=v18||v17;bif v10&&(v8||(t||(v8||v12))) then bif v9 then bif v19&&(v19&&(v18||v5)) then bif v19 then bif v10&&(v8||(v16||(v8||v17))) then bif v9 then bif bif v7 then bif v16 then true else decide (v6=95) else false then again (IntKind.wrap .i64 (x.1+1),PUnit.unit) else some x.1 else none else none else none else none else none else none else none else none else none else none else none) (0,PUnit.unit)
def dM (x0:ByteArray):Option Int:=j8 lpK jnK bu eh x0
abbrev Ua:=(ByteArray)->Option (Int)
def NA:Ctr:=⟨[.str],[],[],.one i64,fun x _ _=>dM x.1⟩
theorem Xu (lp:Lp) (jn:Jn) (bu:Lr) (eh:UC):∀(x:TsS NA.as) (F:TsF NA.fs) (y:TsS NA.cs),j8 lp jn bu eh x.1=bg lp jn (cx [(166,⟨[(.int .u8)],[],[],.one .bool,fun x _ _=>eh x.1⟩),(126,RZ bu)] [(32,r32),(92,r92),(112,aV)]) ai 4 127 f127 NA x F y:=fun x F y=>by kernel_rfl
theorem T9:NA.ok prog 127:=Ctr.of_den (al (af (af (q32) (by kernel_rfl) Q2) (by kernel_rfl) TK)) aB (hl:=ai) (d:=4) func127 rfl (by decide) (Xu lpK jnK bu eh)
def kP (_:Lp) (_:Jn) (bu:Lr) (dM:Ua) (x0:ByteArray):Option Bool :=
 
 let v3:Bool:=!List.beq (ByteArray.toList x0) (ByteArray.toList { data:=#[] });
 let v4:Bool:=!v3||v3;
 let v5:Bool:=bif v3 then decide ((↑(ByteArray.size x0):Int)<=20) else false;
 let v6:Bool:=!v5;
 let v7:Bool:=v6||v5;bif v4 then bif v4 then bif v4 then bif v7&&(v6||inB 0 (ByteArray.size x0)) then bif v7 then ah (bif v5 then bu (fK x0 0) else some false) fun (t:Bool) =>
 let v9:Bool:=bif v5 then t else false;
 let v10:Bool:=!v9||v9;bif v7 then bif v10 then ah (bif v9 then dM x0 else some 0) fun (t:Int)=>bif v10 then bif v10&&v10 then bif v10 then some (bif v9 then decide (t=(↑(ByteArray.size x0):Int)) else false) else none else none else none else none else none else none else none else none else none else none
def du (x0:ByteArray):Option Bool:=kP lpK jnK bu dM x0
abbrev t90:=(ByteArray)->Option (Bool)
def c90:Ctr:=⟨[.str],[],[],.one .bool,fun x _ _=>du x.1⟩
theorem e90 (lp:Lp) (jn:Jn) (bu:Lr) (dM:Ua):∀(x:TsS c90.as) (F:TsF c90.fs) (y:TsS c90.cs),kP lp jn bu dM x.1=bg lp jn (cx [(127,⟨[.str],[],[],.one i64,fun x _ _=>dM x.1⟩),(126,RZ bu)] [(32,r32),(92,r92),(112,aV)]) ai 4 90 f90 c90 x F y:=fun x F y=>by kernel_rfl
theorem Xx:c90.ok prog 90:=Ctr.of_den (al (af (af (q32) (by kernel_rfl) Q2) (by kernel_rfl) T9)) aB (hl:=ai) (d:=4) func90 rfl (by decide) (e90 lpK jnK bu dM)
def iw (lp:Lp) (_:Jn) (x0:List (ByteArray×Int)) (f0:(((ByteArray×Int)×Unit)->Option Bool)):Option Int :=
 lp (Int×PUnit) Int (fun (again:Int×PUnit->Option Int) (x:Int×PUnit)=>bif decide (x.1<(↑x0.length:Int)) then bif inB x.1 x0.length then ah (f0 (x0.getD x.1.toNat ({ data:={ toList:=[] } },0),PUnit.unit)) fun (t:Bool)=>bif t then some x.1 else again (IntKind.wrap .i64 (x.1+1), PUnit.unit) else none else some (-1)) (0,PUnit.unit)
def bS (x0:List (ByteArray×Int)) (f0:(((ByteArray×Int)×Unit)->Option Bool)):Option Int:=iw lpK jnK x0 f0
abbrev SY:=(List (ByteArray×Int))->((((ByteArray×Int)×Unit)->Option Bool))->Option (Int)
def Ub (bS:SY):Ctr:=⟨[(.sl T45)],[([T45],.bool)],[],.one i64,fun x F _=>bS x.1 F.1⟩
def Ng:Ctr:=Ub bS
theorem XU (lp:Lp) (jn:Jn):∀(x:TsS Ng.as) (F:TsF Ng.fs) (y:TsS Ng.cs),iw lp jn x.1 F.1=bg lp jn (cx [] [(32,r32),(92,r92),(112,aV)]) ai 4 154 f154 Ng x F y:=fun x F y=>by kernel_rfl
theorem Us:Ng.ok prog 154:=Ctr.of_den (al (q32)) aB (hl:=ai) (d:=4) func154 rfl (by decide) (XU lpK jnK)
def kL (_:Lp) (_:Jn) (x0:ByteArray×Int) (y0:ByteArray):Option Bool :=
 some (List.beq (ByteArray.toList x0.1) (ByteArray.toList y0))
def fb (x0:ByteArray×Int) (y0:ByteArray):Option Bool:=kL lpK jnK x0 y0
abbrev UA:=(ByteArray×Int)->(ByteArray)->Option (Bool)
def LC:Ctr:=⟨[T45],[],[.str],.one .bool,fun x _ y=>fb x.1 y.1⟩
theorem Wa (lp:Lp) (jn:Jn):∀(x:TsS LC.as) (F:TsF LC.fs) (y:TsS LC.cs),kL lp jn x.1 y.1=bg lp jn (cx [] [(32,r32),(92,r92),(112,aV)]) ai 4 155 f155 LC x F y:=fun x F y=>by kernel_rfl
theorem Vh:LC.ok prog 155:=Ctr.of_den (al (q32)) aB (hl:=ai) (d:=4) func155 rfl (by decide) (Wa lpK jnK)
def mX (_:Lp) (_:Jn) (bS:SY) (fb:UA) (x0:(List (ByteArray×Int))×List (ByteArray×(List (ByteArray×Int×Int×Int))×Bool)) (x1:ByteArray):Option Int :=
 ah (bS x0.1 fun (x:(ByteArray×Int)×PUnit)=>fb x.1 x1) fun (t:Int)=>some t
def b6 (x0:(List (ByteArray×Int))×List (ByteArray×(List (ByteArray×Int×Int×Int))×Bool)) (x1:ByteArray):Option Int:=mX lpK jnK bS fb x0 x1
abbrev Jt:=((List (ByteArray×Int))×List (ByteArray×(List (ByteArray×Int×Int×Int))×Bool))->(ByteArray)->Option (Int)
def Sb (b6:Jt):Ctr:=⟨[T25,.str],[],[],.one i64,fun x _ _=>b6 x.1 x.2.1⟩
def K2:Ctr:=Sb b6
theorem Wj (lp:Lp) (jn:Jn) (bS:SY) (fb:UA):∀(x:TsS K2.as) (F:TsF K2.fs) (y:TsS K2.cs),mX lp jn bS fb x.1 x.2.1=bg lp jn (cx [(155,⟨[T45],[],[.str],.one .bool,fun x _ y=>fb x.1 y.1⟩),(154,Ub bS)] [(32,r32),(92,r92),(112,aV)]) ai 4 109 f109 K2 x F y:=fun x F y=>by kernel_rfl
theorem Q6:K2.ok prog 109:=Ctr.of_den (al (af (af (q32) (by kernel_rfl) Us) (by kernel_rfl) Vh)) aB (hl:=ai) (d:=4) func109 rfl (by decide) (Wj lpK jnK bS fb)
def rF (lp:Lp) (_:Jn) (x0:Int) (x1:Int):Option Int :=
 lp (Int×Int×PUnit) Int (fun (again:Int×Int×PUnit->Option Int) (x:Int×Int×PUnit)=>bif !decide (x.2.1=0) then bif nzB x.2.1 then again (x.2.1, Int.tmod x.1 x.2.1,PUnit.unit) else none else some x.1) (x0,x1,PUnit.unit)
def bw (x0:Int) (x1:Int):Option Int:=rF lpK jnK x0 x1
abbrev t59:=(Int)->(Int)->Option (Int)
def k59 (bw:t59):Ctr:=⟨[(.int .u64),(.int .u64)],[],[],.one (.int .u64),fun x _ _=>bw x.1 x.2.1⟩
def c59:Ctr:=k59 bw
theorem e59 (lp:Lp) (jn:Jn):∀(x:TsS c59.as) (F:TsF c59.fs) (y:TsS c59.cs),rF lp jn x.1 x.2.1=bg lp jn (cx [] [(32,r32),(92,r92),(112,aV)]) ai 4 59 f59 c59 x F y:=fun x F y=>by kernel_rfl
theorem Qn:c59.ok prog 59:=Ctr.of_den (al (q32)) aB (hl:=ai) (d:=4) func59 rfl (by decide) (e59 lpK jnK)
def pB (_:Lp) (_:Jn) (x0:Int):Option Int :=
 
 let v3:Int:=IntKind.wrap .u64 x0;bif decide (x0<0) then some (IntKind.wrap .u64 (0 - v3)) else some v3
def aG (x0:Int):Option Int:=pB lpK jnK x0
abbrev t60:=(Int)->Option (Int)
def k60 (aG:t60):Ctr:=⟨[i64],[],[],.one (.int .u64),fun x _ _=>aG x.1⟩
def c60:Ctr:=k60 aG
theorem e60 (lp:Lp) (jn:Jn):∀(x:TsS c60.as) (F:TsF c60.fs) (y:TsS c60.cs),pB lp jn x.1=bg lp jn (cx [] [(32,r32),(92,r92),(112,aV)]) ai 4 60 f60 c60 x F y:=fun x F y=>by kernel_rfl
theorem Jm:c60.ok prog 60:=Ctr.of_den (al (q32)) aB (hl:=ai) (d:=4) func60 rfl (by decide) (e60 lpK jnK)
def oa (_:Lp) (_:Jn) (bw:t59) (aG:t60) (x0:Int×Int):Option Bool :=
 
 let v3:Bool:=decide (x0.2>=1);
 let v4:Bool:=!v3||v3;
 let v5:Bool:=bif v3 then decide (x0.2<=1152921504606846976) else false;
 let v6:Bool:=bif v5 then decide (x0.1>=(-1152921504606846976)) else false;
 let v7:Bool:=!v5||v5;
 let v8:Bool:=bif v6 then decide (x0.1<=1152921504606846976) else false;
 let v9:Bool:=!v6||v6;
 let v10:Bool:=!v8||v8;bif v4 then bif v4 then bif v4 then bif v7 then bif v7 then bif v7 then bif v9 then bif v9 then bif v9 then bif v10 then bif v10 then ah (bif v8 then aG x0.1 else some 0) fun (t:Int)=>bif v10 then bif v10 then bif v10&&v10 then ah (bif v8 then bw t (IntKind.wrap .u64 x0.2) else some (0 : Int)) fun (t:Int)=>bif v10 then bif v10 then some (bif v8 then decide (t=1) else false) else none else none else none else none else none else none else none else none else none else none else none else none else none else none else none else none
def ap (x0:Int×Int):Option Bool:=oa lpK jnK bw aG x0
abbrev t58:=(Int×Int)->Option (Bool)
def k58 (ap:t58):Ctr:=⟨[T47],[],[],.one .bool,fun x _ _=>ap x.1⟩
def c58:Ctr:=k58 ap
theorem e58 (lp:Lp) (jn:Jn) (bw:t59) (aG:t60):∀(x:TsS c58.as) (F:TsF c58.fs) (y:TsS c58.cs),oa lp jn bw aG x.1=bg lp jn (cx [(60,k60 aG),(59,k59 bw)] [(32,r32),(92,r92),(112,aV)]) ai 4 58 f58 c58 x F y:=fun x F y=>by kernel_rfl
theorem DX:c58.ok prog 58:=Ctr.of_den (al (af (af (q32) (by kernel_rfl) Qn) (by kernel_rfl) Jm)) aB (hl:=ai) (d:=4) func58 rfl (by decide) (e58 lpK jnK bw aG)
def l8 (_:Lp) (_:Jn) (ap:t58) (x0:Int×Int):Option Bool :=
 ah (ap x0) fun (t:Bool) =>
 let v4:Bool:=!t||t;
 let v5:Bool:=bif t then decide (x0.1>=x0.2) else false;
 let v6:Bool:=!v5||v5;bif v4 then bif v4 then bif v4&&v4 then bif v4 then bif v6 then bif v6 then bif v6 then some (bif v5 then decide (x0.1<=100) else false) else none else none else none else none else none else none else none
def eT (x0:Int×Int):Option Bool:=l8 lpK jnK ap x0
abbrev Uu:=(Int×Int)->Option (Bool)
def Lz:Ctr:=⟨[T47],[],[],.one .bool,fun x _ _=>eT x.1⟩
theorem Yf (lp:Lp) (jn:Jn) (ap:t58):∀(x:TsS Lz.as) (F:TsF Lz.fs) (y:TsS Lz.cs),l8 lp jn ap x.1=bg lp jn (cx [(58,k58 ap)] [(32,r32),(92,r92),(112,aV)]) ai 4 167 f167 Lz x F y:=fun x F y=>by kernel_rfl
theorem Uf:Lz.ok prog 167:=Ctr.of_den (al (af (q32) (by kernel_rfl) DX)) aB (hl:=ai) (d:=4) func167 rfl (by decide) (Yf lpK jnK ap)
def nj (_:Lp) (_:Jn) (b6:Jt) (eT:Uu) (x0:(List (ByteArray×Int))×List (ByteArray×(List (ByteArray×Int×Int×Int))×Bool)) (x1:ByteArray×Int×Int×Int) (x2:Bool):Option Bool :=
 
 let v5:Bool:=!x2;
 let v6:Bool:=v5||x2;
 let v7:Bool:=decide (x1.2.1=0);
 let v8:Bool:=decide (x1.2.1=1);
 let v9:Bool:=decide (x1.2.1=2);
 let v10:Bool:=!v8;
 let v11:Bool:=!v9;
 let v12:Bool:=bif v9 then true else v7;
 let v13:Bool:=!v10||v10;
 let v14:Bool:=!v11||v11;
 let v15:Bool:=!v12;
 let v16:Bool:=bif x2 then !(decide (x1.2.2.1=1)&&(decide (x1.2.2.2=1)&&true)) else false;
 let v17:Bool:=!v16;
 let v18:Bool:=!v17;
 let v19:Bool:=v17&&v5;
 let v20:Bool:=!v15||v15;
 let v21:Bool:=v18||v17;
 let v22:Bool:=!v19||v19;bif v6 then bif v6&&v6 then bif v6 then bif v21 then bif v21 then bif v22 then bif v22 then ah (bif v19 then eT x1.2.2 else some false) fun (t:Bool)=>bif v22 then bif (v18||v21)&&(v18||(!v5||(v18||v19))) then bif v16||v17 then bif bif v16 then true else bif v5 then !t else false then some false else bif List.beq (ByteArray.toList x1.1) (ByteArray.toList { data:=#[] }) then some v7 else ah (b6 x0 x1.1) fun (t:Int)=>bif decide (t<0) then some false else bif x2 then bif v13 then bif v13 then bif v8||v10 then some (bif v8 then true else decide (x1.2.1=(-1))) else none else none else none else bif v14 then bif v14 then bif v9||v11 then bif v20 then bif v20 then bif v12||v15 then some (bif v12 then true else decide (x1.2.1=(-2))) else none else none else none else none else none else none else none else none else none else none else none else none else none else none else none else none
def eu (x0:(List (ByteArray×Int))×List (ByteArray×(List (ByteArray×Int×Int×Int))×Bool)) (x1:ByteArray×Int×Int×Int) (x2:Bool):Option Bool:=nj lpK jnK b6 eT x0 x1 x2
abbrev S2:=((List (ByteArray×Int))×List (ByteArray×(List (ByteArray×Int×Int×Int))×Bool))->(ByteArray×Int×Int×Int)->(Bool)->Option (Bool)
def T3 (eu:S2):Ctr:=⟨[T25,T74,.bool],[],[],.one .bool,fun x _ _=>eu x.1 x.2.1 x.2.2.1⟩
def N3:Ctr:=T3 eu
theorem Wi (lp:Lp) (jn:Jn) (b6:Jt) (eT:Uu):∀(x:TsS N3.as) (F:TsF N3.fs) (y:TsS N3.cs),nj lp jn b6 eT x.1 x.2.1 x.2.2.1=bg lp jn (cx [(167,⟨[T47],[],[],.one .bool,fun x _ _=>eT x.1⟩),(109,Sb b6)] [(32,r32),(92,r92),(112,aV)]) ai 4 128 f128 N3 x F y:=fun x F y=>by kernel_rfl
theorem UL:N3.ok prog 128:=Ctr.of_den (al (af (af (q32) (by kernel_rfl) Q6) (by kernel_rfl) Uf)) aB (hl:=ai) (d:=4) func128 rfl (by decide) (Wi lpK jnK b6 eT)
def m8 (lp:Lp) (_:Jn) (bv:t88) (eu:S2) (x0:(List (ByteArray×Int))×List (ByteArray×(List (ByteArray×Int×Int×Int))×Bool)) (x1:ByteArray×(List (ByteArray×Int×Int×Int))×Bool):Option Bool :=
 
 let v4:Bool:=!x1.2.2;
 let v5:Bool:=!v4;
 let v6:Bool:=!v5;
 let v7:Int:=IntKind.wrap .i64 ((↑x1.2.1.length:Int) - 1);
 let v8:Bool:=v6||v5;ah (bv (↑x1.2.1.length:Int) 2 10) fun (t:Bool)=>bif !t then some false else lp (Int×PUnit) Bool (fun (again : Int×PUnit->Option Bool) (x:Int×PUnit) =>
 let v12:Bool:=decide (x.1=0);
 let v13:Bool:=!v12;
 let v14:Bool:=!v13||v13;bif decide (x.1<(↑x1.2.1.length:Int)) then bif inB x.1 x1.2.1.length then bif v14 then bif v14&&v14 then bif v12||v13 then ah (eu x0 (x1.2.1.getD x.1.toNat ({ data:={ toList:=[] } },0,0,0)) (bif v12 then true else decide (x.1=v7))) fun (t : Bool)=>bif !t then some false else again (IntKind.wrap .i64 (x.1+1),PUnit.unit) else none else none else none else none else bif v8 then bif v8 then bif v8&&(v8 && (v6||inB v7 x1.2.1.length)) then bif v8 then bif v8 then bif v8 then bif v4||v5 then some (bif v4 then true else List.beq (ByteArray.toList (x1.2.1.getD v7.toNat ({ data:={ toList:=[] } },0,0,0)).1) (ByteArray.toList { data:=#[] })) else none else none else none else none else none else none else none) (0,PUnit.unit)
def fu (x0:(List (ByteArray×Int))×List (ByteArray×(List (ByteArray×Int×Int×Int))×Bool)) (x1:ByteArray×(List (ByteArray×Int×Int×Int))×Bool):Option Bool:=m8 lpK jnK bv eu x0 x1
abbrev t91:=((List (ByteArray×Int))×List (ByteArray×(List (ByteArray×Int×Int×Int))×Bool))->(ByteArray×(List (ByteArray×Int×Int×Int))×Bool)->Option (Bool)
def c91:Ctr:=⟨[T25,T72],[],[],.one .bool,fun x _ _=>fu x.1 x.2.1⟩
theorem e91 (lp:Lp) (jn:Jn) (bv:t88) (eu:S2):∀(x:TsS c91.as) (F:TsF c91.fs) (y:TsS c91.cs),m8 lp jn bv eu x.1 x.2.1=bg lp jn (cx [(128,T3 eu),(88,k88 bv)] [(32,r32),(92,r92),(112,aV)]) ai 4 91 f91 c91 x F y:=fun x F y=>by kernel_rfl
theorem Ya:c91.ok prog 91:=Ctr.of_den (al (af (af (q32) (by kernel_rfl) UI) (by kernel_rfl) UL)) aB (hl:=ai) (d:=4) func91 rfl (by decide) (e91 lpK jnK bv eu)
def l7 (lp:Lp) (_:Jn) (bv:t88) (du:t90) (fu:t91) (x0:(List (ByteArray×Int))×List (ByteArray×(List (ByteArray×Int×Int×Int))×Bool)):Option Bool :=
 ah (bv (↑x0.1.length:Int) 1 6) fun (t:Bool) =>
 let v4:Bool:=!t;
 let v5:Bool:=!v4;
 let v6:Bool:=!v5||v5;bif v6 then bif v6 then bif v6 then ah (bif v5 then bv (↑x0.2.length:Int) 1 6 else some false) fun (t:Bool)=>bif v6 then bif v4||v5 then bif bif v4 then true else !t then some false else lp (Int×List (ByteArray×Bool)×PUnit) Bool (fun (again:Int×List (ByteArray×Bool)×PUnit->Option Bool) (x:Int×List (ByteArray×Bool)×PUnit) =>
 let v10:ByteArray×Int:=x0.1.getD x.1.toNat ({ data:={ toList:=[] } },0);bif decide (x.1<(↑x0.1.length:Int)) then bif inB x.1 x0.1.length then ah (du v10.1) fun (t:Bool) =>
 let v12:Bool:=!t||t;bif v12&&v12 then bif v12 then bif v12 then bif (!!!bif t then !jl str Sh.bool v10.1 false x.2.1 else false)||!!bif t then !jl str Sh.bool v10.1 false x.2.1 else false then bif (!!!bif t then !jl str Sh.bool v10.1 false x.2.1 else false)||!!bif t then !jl str Sh.bool v10.1 false x.2.1 else false then ah (bif !!bif t then !jl str Sh.bool v10.1 false x.2.1 else false then bv v10.2 0 16777216 else some false) fun (t_1:Bool)=>bif (!!!bif t then !jl str Sh.bool v10.1 false x.2.1 else false)||!!bif t then !jl str Sh.bool v10.1 false x.2.1 else false then bif (!bif t then !jl str Sh.bool v10.1 false x.2.1 else false)||!!bif t then !jl str Sh.bool v10.1 false x.2.1 else false then bif bif !bif t then !jl str Sh.bool v10.1 false x.2.1 else false then true else !t_1 then some false else again (IntKind.wrap .i64 (x.1+1),qu str Sh.bool v10.1 true x.2.1,PUnit.unit) else none else none else none else none else none else none else none else none else lp (Int×Int×List (ByteArray×Bool)×PUnit) Bool (fun (again:Int×Int×List (ByteArray×Bool)×PUnit->Option Bool) (x:Int×Int×List (ByteArray×Bool)×PUnit) =>
 let v13:ByteArray×List (ByteArray×Int×Int×Int)×Bool:=x0.2.getD x.2.1.toNat ({ data:={ toList:=[] } },[],false);bif decide (x.2.1<(↑x0.2.length:Int)) then bif inB x.2.1 x0.2.length then ah (du v13.1) fun (t:Bool) =>
 let v15:Bool:=!t||t;bif v15&&v15 then bif v15 then bif v15 then bif ((!!!bif t then !jl str Sh.bool v13.1 false x.2.2.1 else false)||!!bif t then !jl str Sh.bool v13.1 false x.2.2.1 else false)&&((!!!bif t then !jl str Sh.bool v13.1 false x.2.2.1 else false)||!!bif t then !jl str Sh.bool v13.1 false x.2.2.1 else false) then ah (bif !!bif t then !jl str Sh.bool v13.1 false x.2.2.1 else false then fu x0 v13 else some false) fun (t_1:Bool)=>bif (!!!bif t then !jl str Sh.bool v13.1 false x.2.2.1 else false)||!!bif t then !jl str Sh.bool v13.1 false x.2.2.1 else false then bif (!bif t then !jl str Sh.bool v13.1 false x.2.2.1 else false)||!!bif t then !jl str Sh.bool v13.1 false x.2.2.1 else false then bif bif !bif t then !jl str Sh.bool v13.1 false x.2.2.1 else false then true else !t_1 then some false else bif v13.2.2 then again (IntKind.wrap .i64 (x.1+1),IntKind.wrap .i64 (x.2.1+1),qu str Sh.bool v13.1 true x.2.2.1,PUnit.unit) else again (x.1,IntKind.wrap .i64 (x.2.1+1),qu str Sh.bool v13.1 true x.2.2.1,PUnit.unit) else none else none else none else none else none else none else none else some (decide (x.1<=1))) (0,0,x.2.1,PUnit.unit)) (0,[],PUnit.unit) else none else none else none else none else none
def a8 (x0:(List (ByteArray×Int))×List (ByteArray×(List (ByteArray×Int×Int×Int))×Bool)):Option Bool:=l7 lpK jnK bv du fu x0
abbrev t50:=((List (ByteArray×Int))×List (ByteArray×(List (ByteArray×Int×Int×Int))×Bool))->Option (Bool)
def k50 (a8:t50):Ctr:=⟨[T25],[],[],.one .bool,fun x _ _=>a8 x.1⟩
def c50:Ctr:=k50 a8
theorem e50 (lp:Lp) (jn:Jn) (bv:t88) (du:t90) (fu:t91):∀(x:TsS c50.as) (F:TsF c50.fs) (y:TsS c50.cs),l7 lp jn bv du fu x.1=bg lp jn (cx [(91,⟨[T25,T72],[],[],.one .bool,fun x _ _=>fu x.1 x.2.1⟩),(90,⟨[.str],[],[],.one .bool,fun x _ _=>du x.1⟩),(88,k88 bv)] [(32,r32),(92,r92),(112,aV)]) ai 4 50 f50 c50 x F y:=fun x F y=>by kernel_rfl
theorem Sg:c50.ok prog 50:=Ctr.of_den (al (af (af (af (q32) (by kernel_rfl) UI) (by kernel_rfl) Xx) (by kernel_rfl) Ya)) aB (hl:=ai) (d:=4) func50 rfl (by decide) (e50 lpK jnK bv du fu)
def oD (lp:Lp) (_:Jn) (b6:Jt) (a8:t50) (x0:(List (ByteArray×Int))×List (ByteArray×(List (ByteArray×Int×Int×Int))×Bool)):Option ((List (List Int))×Int×Unit) :=
 ah (a8 x0) fun (t:Bool)=>bif !t then some ([],1,PUnit.unit) else bif decide (0<=(↑x0.1.length:Int))&&eC (Int.toNat (↑x0.1.length : Int)) 24 then lp (Int×(List Nat×List (Option (List Int)))×PUnit) (List (List Int)×Int×PUnit) (fun (again:Int×(List Nat×List (Option (List Int)))×PUnit -> Option (List (List Int)×Int×PUnit)) (x:Int×(List Nat×List (Option (List Int)))×PUnit)=>bif decide (x.1<(↑(List.length (Nat.brecOn (motive:=fun (x:Nat)=>Nat->List Nat) (Int.toNat (↑x0.1.length:Int)) (fun (x:Nat) (f:Nat.below (motive:=fun (x:Nat)=>Nat->List (T ref)) x) (x_1:Nat)=>(match (motive:=(x:Nat)->Nat->Nat.below (motive:=fun (x:Nat)=>Nat->List (T ref)) x->List Nat) x,x_1 with | 0,x=>fun (_:PUnit)=>[] | Nat.succ n,k=>fun (x:(Nat->List Nat) ×' Nat.rec PUnit (fun (n:Nat) (n_ih:Type)=>(fun (x:Nat)=>Nat->List (T ref)) n ×' n_ih) n)=>(k+0) ::x.1 (k+1)) f) 0)):Int)) then bif decide (0 <= (↑x0.2.length:Int))&&eC (Int.toNat (↑x0.2.length:Int)) 8 then bif inB x.1 x.2.1.1.length then bif Nat.ble (Nat.succ x.1.toNat) x.2.1.1.length then again (IntKind.wrap .i64 (x.1+1),(x.2.1.1.set x.1.toNat x.2.1.2.length,x.2.1.2++[some (List.replicate (Int.toNat (↑x0.2.length:Int)) 0)]),PUnit.unit) else none else none else none else lp (Int×(List Nat×List (Option (List Int)))×PUnit) (List (List Int)×Int×PUnit) (fun (again:Int×(List Nat×List (Option (List Int)))×PUnit->Option (List (List Int)×Int×PUnit)) (x:Int×(List Nat×List (Option (List Int))) × PUnit)=>bif decide (x.1<(↑x0.2.length:Int)) then bif inB x.1 x0.2.length then lp (Int×(List Nat×List (Option (List Int)))×PUnit) (List (List Int)×Int × PUnit) (fun (again_1:Int×(List Nat×List (Option (List Int)))×PUnit->Option (List (List Int)×Int×PUnit)) (x_1:Int×(List Nat×List (Option (List Int)))×PUnit) =>
 let v10:Int:=IntKind.wrap .i64 (x_1.1+1);
 let v11:(List Nat×List (Option (List Int)))×PUnit:=(x_1.2.1,PUnit.unit);
 let v12:ByteArray×Int×Int×Int:=List.getD (x0.2.getD x.1.toNat ({ data:={ toList:=[] } },[],false)).2.1 x_1.1.toNat ({ data:={ toList:=[] } },0,0,0);bif decide (x_1.1<(↑(List.length (x0.2.getD x.1.toNat ({ data:={ toList:=[] } },[],false)).2.1):Int)) then bif inB x_1.1 (List.length (x0.2.getD x.1.toNat ({ data:={ toList:=[] } },[],false)).2.1) then ah (b6 x0 v12.1) fun (t:Int)=>bif decide (t>=(0 : Int)) then bif inB t x_1.2.1.1.length then bif Nat.ble (Nat.succ t.toNat) x_1.2.1.1.length then bif inB x.1 (List.length (bI x_1.2.1.2 (x_1.2.1.1.getD t.toNat 0))) then bif Nat.ble (Nat.succ x.1.toNat) (List.length (bI x_1.2.1.2 (x_1.2.1.1.getD t.toNat (0 : Nat)))) then bif inB x.1 (List.length (bI x_1.2.1.2 (x_1.2.1.1.getD t.toNat 0))) then bif Nat.ble (Nat.succ x.1.toNat) (List.length (bI x_1.2.1.2 (x_1.2.1.1.getD t.toNat 0))) then again_1 (v10,(x_1.2.1.1,x_1.2.1.2.set (x_1.2.1.1.getD t.toNat 0) (some (List.set (bI x_1.2.1.2 (x_1.2.1.1.getD t.toNat 0)) x.1.toNat (IntKind.wrap .i64 (List.getD (bI x_1.2.1.2 (x_1.2.1.1.getD t.toNat 0)) x.1.toNat 0+v12.2.1))))),PUnit.unit) else none else none else none else none else none else none else again_1 (v10,v11) else none else again (IntKind.wrap .i64 (x.1+1),v11)) (0,x.2.1,PUnit.unit) else none else bif List.all x.2.1.1 fun (x_1:Nat)=>fW x.2.1.2 x_1 then some (List.map (fun (x_1:Nat)=>bI x.2.1.2 x_1) x.2.1.1,0,PUnit.unit) else none) (0,x.2.1,PUnit.unit)) (0, (Nat.brecOn (motive:=fun (x:Nat)=>Nat->List Nat) (Int.toNat (↑x0.1.length:Int)) (fun (x:Nat) (f:Nat.below (motive:=fun (x:Nat)=>Nat->List (T ref)) x) (x_1:Nat)=>(match (motive:=(x:Nat)->Nat->Nat.below (motive:=fun (x:Nat)=>Nat->List (T ref)) x->List Nat) x,x_1 with | 0,x=>fun (_:PUnit)=>[] | Nat.succ n,k=>fun (x:(Nat->List Nat) ×' Nat.rec PUnit (fun (n:Nat) (n_ih:Type)=>(fun (x:Nat)=>Nat->List (T ref)) n ×' n_ih) n)=>(k+0) ::x.1 (k+1)) f) 0,List.replicate (Int.toNat (↑x0.1.length:Int)) (some [])),PUnit.unit) else none
def bB (x0:(List (ByteArray×Int))×List (ByteArray×(List (ByteArray×Int×Int×Int))×Bool)):Option ((List (List Int))×Int×Unit):=oD lpK jnK b6 a8 x0
abbrev t72:=((List (ByteArray×Int))×List (ByteArray×(List (ByteArray×Int×Int×Int))×Bool))->Option ((List (List Int))×Int×Unit)
def k72 (bB:t72):Ctr:=⟨[T25],[],[],.tup [(.sl (.sl i64)),i64],fun x _ _=>bB x.1⟩
def c72:Ctr:=k72 bB
theorem e72 (lp:Lp) (jn:Jn) (b6:Jt) (a8:t50):∀(x:TsS c72.as) (F:TsF c72.fs) (y:TsS c72.cs),oD lp jn b6 a8 x.1=bg lp jn (cx [(50,k50 a8),(109,Sb b6)] [(32,r32),(92,r92),(112,aV)]) ai 4 72 f72 c72 x F y:=fun x F y=>by kernel_rfl
theorem VQ:c72.ok prog 72:=Ctr.of_den (al (af (af (q32) (by kernel_rfl) Q6) (by kernel_rfl) Sg)) aB (hl:=ai) (d:=4) func72 rfl (by decide) (e72 lpK jnK b6 a8)
def ky (lp:Lp) (_:Jn) (a8:t50) (x0:(List (ByteArray×Int))×List (ByteArray×(List (ByteArray×Int×Int×Int))×Bool)):Option ((List Int)×Int×Unit) :=
 ah (a8 x0) fun (t:Bool)=>bif !t then some ([],1,PUnit.unit) else lp (List Int×Int×PUnit) (List Int×Int×PUnit) (fun (again:List Int×Int×PUnit -> Option (List Int×Int×PUnit)) (x:List Int×Int×PUnit)=>bif decide (x.2.1<(↑x0.1.length:Int)) then bif inB x.2.1 x0.1.length then bif eC (List.length x.1+1) 8 then again (x.1++[(x0.1.getD x.2.1.toNat ({ data:={ toList:=[] } },0)).2],IntKind.wrap .i64 (x.2.1+1),PUnit.unit) else none else none else some (x.1,0,PUnit.unit)) ([],0,PUnit.unit)
def cO (x0:(List (ByteArray×Int))×List (ByteArray×(List (ByteArray×Int×Int×Int))×Bool)):Option ((List Int)×Int×Unit):=ky lpK jnK a8 x0
abbrev t73:=((List (ByteArray×Int))×List (ByteArray×(List (ByteArray×Int×Int×Int))×Bool))->Option ((List Int)×Int×Unit)
def k73 (cO:t73):Ctr:=⟨[T25],[],[],.tup [(.sl i64),i64],fun x _ _=>cO x.1⟩
def c73:Ctr:=k73 cO
theorem e73 (lp:Lp) (jn:Jn) (a8:t50):∀(x:TsS c73.as) (F:TsF c73.fs) (y:TsS c73.cs),ky lp jn a8 x.1=bg lp jn (cx [(50,k50 a8)] [(32,r32),(92,r92),(112,aV)]) ai 4 73 f73 c73 x F y:=fun x F y=>by kernel_rfl
theorem Wx:c73.ok prog 73:=Ctr.of_den (al (af (q32) (by kernel_rfl) Sg)) aB (hl:=ai) (d:=4) func73 rfl (by decide) (e73 lpK jnK a8)
def my (lp:Lp) (_:Jn) (bB:t72) (cO:t73) (x0:(List (ByteArray×Int))×List (ByteArray×(List (ByteArray×Int×Int×Int))×Bool)) (x1:List Int):Option (((List Int)×List ((List Int)×Int×Int))×Int×Unit) :=
 ah (bB x0) fun (t:List (List Int)×Int×PUnit)=>bif !decide (t.2.1=0) then some (([],[]),t.2.1,PUnit.unit) else ah (cO x0) fun (t_1 : List Int×Int×PUnit)=>bif !decide (t_1.2.1=0) then some (([],[]),t_1.2.1,PUnit.unit) else lp (Int×List Int×List (List Int×Int×Int)×PUnit) ((List Int×List (List Int×Int×Int))×Int×PUnit) (fun (again:Int×List Int×List (List Int×Int×Int)×PUnit->Option ((List Int×List (List Int×Int×Int))×Int×PUnit)) (x:Int×List Int×List (List Int×Int×Int)×PUnit)=>bif decide (x.1<(↑t.1.length:Int)) then bif inB x.1 t.1.length then bif inB x.1 t_1.1.length then bif eC (List.length x.2.2.1+1) 40 then again (IntKind.wrap .i64 (x.1+1),x.2.1,x.2.2.1++[(t.1.getD x.1.toNat [],3,t_1.1.getD x.1.toNat 0)],PUnit.unit) else none else none else none else some ((x.2.1,x.2.2.1),0, PUnit.unit)) (0,x1,[],PUnit.unit)
def fP (x0:(List (ByteArray×Int))×List (ByteArray×(List (ByteArray×Int×Int×Int))×Bool)) (x1:List Int):Option (((List Int)×List ((List Int)×Int×Int))×Int×Unit):=my lpK jnK bB cO x0 x1
abbrev t97:=((List (ByteArray×Int))×List (ByteArray×(List (ByteArray×Int×Int×Int))×Bool))->(List Int)->Option (((List Int)×List ((List Int)×Int×Int))×Int×Unit)
def c97:Ctr:=⟨[T25,(.sl i64)],[],[],.tup [T82,i64],fun x _ _=>fP x.1 x.2.1⟩
theorem e97 (lp:Lp) (jn:Jn) (bB:t72) (cO:t73):∀(x:TsS c97.as) (F:TsF c97.fs) (y:TsS c97.cs),my lp jn bB cO x.1 x.2.1=bg lp jn (cx [(73,k73 cO),(72,k72 bB)] [(32,r32),(92,r92),(112,aV)]) ai 4 97 f97 c97 x F y:=fun x F y=>by kernel_rfl
theorem Wh:c97.ok prog 97:=Ctr.of_den (al (af (af (q32) (by kernel_rfl) VQ) (by kernel_rfl) Wx)) aB (hl:=ai) (d:=4) func97 rfl (by decide) (e97 lpK jnK bB cO)
def o8 (_:Lp) (_:Jn) (x0:Int) (x1:Int):Option (Int×Int×Unit) :=
 
 let v4:Int:=2 ^ 32;
 let v5:Int:=Int.fdiv x0 v4;
 let v6:Int:=Int.fdiv x1 v4;
 let v7:Bool:=decide ((0:Int)<=32);
 let v8:Int:=IntKind.wrap .u64 (↑(Nat.land (Int.toNat (x1 % Int.ofNat 18446744073709551616)) (Int.toNat (4294967295 % Int.ofNat 18446744073709551616))) : Int);
 let v9:Int:=IntKind.wrap .u64 (↑(Nat.land (Int.toNat (x0 % Int.ofNat 18446744073709551616)) (Int.toNat (4294967295 % Int.ofNat 18446744073709551616))) : Int);
 let v10:Int:=IntKind.wrap .u64 (IntKind.wrap .u64 (v5*v8)+Int.fdiv (IntKind.wrap .u64 (v9*v8)) v4);bif v7 then bif v7 then bif v7 then bif v7 then bif v7 then some (IntKind.wrap .u64 (IntKind.wrap .u64 (IntKind.wrap .u64 (v5*v6)+Int.fdiv v10 v4)+Int.fdiv (IntKind.wrap .u64 (IntKind.wrap .u64 (↑(Nat.land (Int.toNat (v10 % Int.ofNat 18446744073709551616)) (Int.toNat (4294967295 % Int.ofNat 18446744073709551616))):Int)+IntKind.wrap .u64 (v9 * v6))) v4),IntKind.wrap .u64 (x0*x1),PUnit.unit) else none else none else none else none else none
def bU (x0:Int) (x1:Int):Option (Int×Int×Unit):=o8 lpK jnK x0 x1
abbrev E6:=(Int)->(Int)->Option (Int×Int×Unit)
def Qg (bU:E6):Ctr:=⟨[(.int .u64),(.int .u64)],[],[],.tup [(.int .u64),(.int .u64)],fun x _ _=>bU x.1 x.2.1⟩
def JJ:Ctr:=Qg bU
theorem Xo (lp:Lp) (jn:Jn):∀(x:TsS JJ.as) (F:TsF JJ.fs) (y:TsS JJ.cs),o8 lp jn x.1 x.2.1=bg lp jn (cx [] [(32,r32),(92,r92),(112,aV)]) ai 4 107 f107 JJ x F y:=fun x F y=>by kernel_rfl
theorem N1:JJ.ok prog 107:=Ctr.of_den (al (q32)) aB (hl:=ai) (d:=4) func107 rfl (by decide) (Xo lpK jnK)
def um (_:Lp) (_:Jn) (x0:Int) (x1:Int):Option (Int×Int×Unit) :=
 
 let v4:Int:=IntKind.wrap .u64 (IntKind.wrap .u64 x0*IntKind.wrap .u64 x1);bif decide ((0:Int)<=32) then some (IntKind.wrap IntKind.u32 (Int.fdiv v4 (2 ^ 32)),IntKind.wrap IntKind.u32 v4,PUnit.unit) else none
def jd (x0:Int) (x1:Int):Option (Int×Int×Unit):=um lpK jnK x0 x1
def Uq (jd:(Int)->(Int)->Option (Int×Int×Unit)):Ctr:=⟨[(.int .u32),(.int .u32)],[],[],.tup [(.int .u32),(.int .u32)],fun x _ _=>jd x.1 x.2.1⟩
def Ml:Ctr:=Uq jd
theorem Xj (lp:Lp) (jn:Jn):∀(x:TsS Ml.as) (F:TsF Ml.fs) (y:TsS Ml.cs),um lp jn x.1 x.2.1=bg lp jn (cx [] [(32,r32),(92,r92),(112,aV)]) ai 4 173 f173 Ml x F y:=fun x F y=>by kernel_rfl
theorem Vf:Ml.ok prog 173:=Ctr.of_den (al (q32)) aB (hl:=ai) (d:=4) func173 rfl (by decide) (Xj lpK jnK)
def tu (_:Lp) (_:Jn) (bU:E6) (_:(Int)->(Int)->Option (Int×Int×Unit)) (x0:Int) (x1:Int):Option (Int×Int×Unit) :=
 ah (bU x0 x1) fun (t:Int×Int×PUnit)=>some (t.1,t.2.1,PUnit.unit)
def iC (x0:Int) (x1:Int):Option (Int×Int×Unit):=tu lpK jnK bU jd x0 x1
abbrev RX:=(Int)->(Int)->Option (Int×Int×Unit)
def Vq (iC:RX):Ctr:=⟨[(.int .u64),(.int .u64)],[],[],.tup [(.int .u64),(.int .u64)],fun x _ _=>iC x.1 x.2.1⟩
def JK:Ctr:=Vq iC
theorem XN (lp:Lp) (jn:Jn) (bU:E6) (jd:(Int)->(Int)->Option (Int×Int×Unit)):∀(x:TsS JK.as) (F:TsF JK.fs) (y:TsS JK.cs),tu lp jn bU jd x.1 x.2.1=bg lp jn (cx [(173,Uq jd),(107,Qg bU)] [(32,r32),(92,r92),(112,aV)]) ai 4 140 f140 JK x F y:=fun x F y=>by kernel_rfl
theorem VT:JK.ok prog 140:=Ctr.of_den (al (af (af (q32) (by kernel_rfl) N1) (by kernel_rfl) Vf)) aB (hl:=ai) (d:=4) func140 rfl (by decide) (XN lpK jnK bU jd)
def jM (lp:Lp) (jn:Jn) (iC:RX) (x0:List Int) (x1:Int):Option (List Int) :=
 jn PUnit (List Int) (fun (_:PUnit)=>ah (iC (IntKind.wrap .u64 (↑x0.length:Int)) (IntKind.wrap .u64 x1)) fun (t:Int×Int×PUnit) =>
 let v6:List Int:=List.take (Int.toNat (IntKind.wrap .i64 t.2.1)) x0;
 let v7:List Int:=List.replicate (Int.toNat (IntKind.wrap .i64 t.2.1)) 0;
 let v8:Bool:=decide (t.1>0);
 let v9:Bool:=!v8;bif !v9||v9 then bif v8||v9 then jn PUnit (List Int) (fun (_:PUnit)=>bif decide (0<=IntKind.wrap .i64 t.2.1)&&eC (Int.toNat (IntKind.wrap .i64 t.2.1)) 8 then lp (Int×List Int×PUnit) (List Int) (fun (again:Int×List Int×PUnit->Option (List Int)) (x:Int×List Int×PUnit) =>
 let v13:List Int:=List.take x.1.toNat x.2.1;
 let v14:List Int:=List.take (Int.toNat (↑x.2.1.length:Int) - Int.toNat x.1) (List.drop 0 v13);bif decide (x.1<(↑x.2.1.length:Int)) then bif slB x.1 (↑x.2.1.length:Int) x.2.1.length then bif slB 0 x.1 x.2.1.length then bif Nat.ble x.1.toNat (Int.toNat (↑x.2.1.length:Int))&&(Nat.ble (Int.toNat (↑x.2.1.length:Int)) x.2.1.length&&Nat.ble x.1.toNat x.2.1.length) then again (IntKind.wrap IntKind.i64 (x.1+(↑v14.length:Int)),v13++v14++List.drop (Int.toNat x.1+List.length v14) x.2.1,PUnit.unit) else none else none else none else some x.2.1) ((↑v6.length:Int),List.take 0 v7++v6++List.drop (0+List.length v6) v7,PUnit.unit) else none) fun (j:PUnit->Option (List Int))=>bif bif v8 then true else decide (t.2.1>9223372036854775807) then none else j PUnit.unit else none else none) fun (j:PUnit->Option (List Int))=>bif decide (x1<0) then none else j PUnit.unit
def cD (x0:List Int) (x1:Int):Option (List Int):=jM lpK jnK iC x0 x1
abbrev t98:=(List Int)->(Int)->Option (List Int)
def k98 (cD:t98):Ctr:=⟨[(.sl i64),i64],[],[],.one (.sl i64),fun x _ _=>cD x.1 x.2.1⟩
def c98:Ctr:=k98 cD
theorem e98 (lp:Lp) (jn:Jn) (iC:RX):∀(x:TsS c98.as) (F:TsF c98.fs) (y:TsS c98.cs),jM lp jn iC x.1 x.2.1=bg lp jn (cx [(140,Vq iC)] [(32,r32),(92,r92),(112,aV)]) ai 4 98 f98 c98 x F y:=fun x F y=>by kernel_rfl
theorem Xf:c98.ok prog 98:=Ctr.of_den (al (af (q32) (by kernel_rfl) VT)) aB (hl:=ai) (d:=4) func98 rfl (by decide) (e98 lpK jnK iC)
def jI (_:Lp) (_:Jn) (fP:t97) (cD:t98) (x0:(List (ByteArray×Int))×List (ByteArray×(List (ByteArray×Int×Int×Int))×Bool)):Option (((List Int)×List ((List Int)×Int×Int))×Int×Unit) :=
 ah (cD [1] (↑x0.2.length:Int)) fun (t:List Int)=>ah (fP x0 t) fun (t:(List Int×List (List Int×Int×Int))×Int×PUnit)=>some (t.1,t.2.1,PUnit.unit)
def aZ (x0:(List (ByteArray×Int))×List (ByteArray×(List (ByteArray×Int×Int×Int))×Bool)):Option (((List Int)×List ((List Int)×Int×Int))×Int×Unit):=jI lpK jnK fP cD x0
abbrev t55:=((List (ByteArray×Int))×List (ByteArray×(List (ByteArray×Int×Int×Int))×Bool))->Option (((List Int)×List ((List Int)×Int×Int))×Int×Unit)
def k55 (aZ:t55):Ctr:=⟨[T25],[],[],.tup [T82,i64],fun x _ _=>aZ x.1⟩
def c55:Ctr:=k55 aZ
theorem e55 (lp:Lp) (jn:Jn) (fP:t97) (cD:t98):∀(x:TsS c55.as) (F:TsF c55.fs) (y:TsS c55.cs),jI lp jn fP cD x.1=bg lp jn (cx [(98,k98 cD),(97,⟨[T25,(.sl i64)],[],[],.tup [T82,i64],fun x _ _=>fP x.1 x.2.1⟩)] [(32,r32),(92,r92),(112,aV)]) ai 4 55 f55 c55 x F y:=fun x F y=>by kernel_rfl
theorem SS:c55.ok prog 55:=Ctr.of_den (al (af (af (q32) (by kernel_rfl) Wh) (by kernel_rfl) Xf)) aB (hl:=ai) (d:=4) func55 rfl (by decide) (e55 lpK jnK fP cD)
def jr (_:Lp) (_:Jn) (x0:Int) (y0:Int):Option Bool :=
 
 let v4:Bool:=decide (x0<IntKind.wrap .i64 (0 - y0));
 let v5:Bool:=!v4;
 let v6:Bool:=!v5||v5;bif v6&&v6 then bif v4||v5 then some (bif v4 then true else decide (x0>y0)) else none else none
def bZ (x0:Int) (y0:Int):Option Bool:=jr lpK jnK x0 y0
abbrev Vs:=(Int)->(Int)->Option (Bool)
def M7:Ctr:=⟨[i64],[],[i64],.one .bool,fun x _ y=>bZ x.1 y.1⟩
theorem Xp (lp:Lp) (jn:Jn):∀(x:TsS M7.as) (F:TsF M7.fs) (y:TsS M7.cs),jr lp jn x.1 y.1=bg lp jn (cx [] [(32,r32),(92,r92),(112,aV)]) ai 4 142 f142 M7 x F y:=fun x F y=>by kernel_rfl
theorem Ui:M7.ok prog 142:=Ctr.of_den (al (q32)) aB (hl:=ai) (d:=4) func142 rfl (by decide) (Xp lpK jnK)
def kE (_:Lp) (_:Jn) (bZ:Vs) (x0:Int):Option ((Int×Unit)->Option Bool) :=
 some fun (x:Int×PUnit)=>bZ x.1 x0
def c9 (x0:Int):Option ((Int×Unit)->Option Bool):=kE lpK jnK bZ x0
abbrev TW:=(Int)->Option ((Int×Unit)->Option Bool)
def Tr:FCtr:=⟨[i64],[i64],.bool,fun x=>c9 x.1⟩
theorem Xe (lp:Lp) (jn:Jn) (bZ:Vs):∀x:TsS Tr.as,kE lp jn bZ x.1=Sj lp jn (cx [(142,⟨[i64],[],[i64],.one .bool,fun x _ y=>bZ x.1 y.1⟩)] [(32,r32),(92,r92),(112,aV)]) ai 4 141 f141 Tr x:=fun x=>by kernel_rfl
theorem Ti:Tr.ok prog 141:=FCtr.of_den (al (af (q32) (by kernel_rfl) Ui)) aB (hl:=ai) (d:=4) func141 rfl (by decide) (Xe lpK jnK bZ)
def iz (lp:Lp) (_:Jn) (x0:List Int) (f0:((Int×Unit)->Option Bool)):Option Int :=
 lp (Int×PUnit) Int (fun (again:Int×PUnit->Option Int) (x:Int×PUnit)=>bif decide (x.1<(↑x0.length:Int)) then bif inB x.1 x0.length then ah (f0 (x0.getD x.1.toNat 0,PUnit.unit)) fun (t:Bool)=>bif t then some x.1 else again (IntKind.wrap .i64 (x.1+1),PUnit.unit) else none else some (-1)) (0,PUnit.unit)
def bH (x0:List Int) (f0:((Int×Unit)->Option Bool)):Option Int:=iz lpK jnK x0 f0
abbrev S8:=(List Int)->(((Int×Unit)->Option Bool))->Option (Int)
def Ug (bH:S8):Ctr:=⟨[(.sl i64)],[([i64],.bool)],[],.one i64,fun x F _=>bH x.1 F.1⟩
def NZ:Ctr:=Ug bH
theorem XJ (lp:Lp) (jn:Jn):∀(x:TsS NZ.as) (F:TsF NZ.fs) (y:TsS NZ.cs),iz lp jn x.1 F.1=bg lp jn (cx [] [(32,r32),(92,r92),(112,aV)]) ai 4 174 f174 NZ x F y:=fun x F y=>by kernel_rfl
theorem VV:NZ.ok prog 174:=Ctr.of_den (al (q32)) aB (hl:=ai) (d:=4) func174 rfl (by decide) (XJ lpK jnK)
def gx (_:Lp) (_:Jn) (bH:S8) (x0:List Int) (f0:((Int×Unit)->Option Bool)):Option Bool :=
 ah (bH x0 f0) fun (t:Int)=>some (decide (t>=0))
def a6 (x0:List Int) (f0:((Int×Unit)->Option Bool)):Option Bool:=gx lpK jnK bH x0 f0
abbrev RR:=(List Int)->(((Int×Unit)->Option Bool))->Option (Bool)
def Ud (a6:RR):Ctr:=⟨[(.sl i64)],[([i64],.bool)],[],.one .bool,fun x F _=>a6 x.1 F.1⟩
def MR:Ctr:=Ud a6
theorem XG (lp:Lp) (jn:Jn) (bH:S8):∀(x:TsS MR.as) (F:TsF MR.fs) (y:TsS MR.cs),gx lp jn bH x.1 F.1=bg lp jn (cx [(174,Ug bH)] [(32,r32),(92,r92),(112,aV)]) ai 4 143 f143 MR x F y:=fun x F y=>by kernel_rfl
theorem UJ:MR.ok prog 143:=Ctr.of_den (al (af (q32) (by kernel_rfl) VV)) aB (hl:=ai) (d:=4) func143 rfl (by decide) (XG lpK jnK bH)
def kl (lp:Lp) (_:Jn) (x0:List ((List Int)×Int×Int)) (f0:((((List Int)×Int×Int)×Unit)->Option Bool)):Option Int :=
 lp (Int×PUnit) Int (fun (again:Int×PUnit->Option Int) (x:Int×PUnit)=>bif decide (x.1<(↑x0.length:Int)) then bif inB x.1 x0.length then ah (f0 (x0.getD x.1.toNat ([],0,0),PUnit.unit)) fun (t:Bool)=>bif t then some x.1 else again (IntKind.wrap .i64 (x.1+1),PUnit.unit) else none else some (-1)) (0,PUnit.unit)
def cn (x0:List ((List Int)×Int×Int)) (f0:((((List Int)×Int×Int)×Unit)->Option Bool)):Option Int:=kl lpK jnK x0 f0
abbrev S1:=(List ((List Int)×Int×Int))->(((((List Int)×Int×Int)×Unit)->Option Bool))->Option (Int)
def TC (cn:S1):Ctr:=⟨[(.sl B3)],[([B3],.bool)],[],.one i64,fun x F _=>cn x.1 F.1⟩
def Ka:Ctr:=TC cn
theorem Xz (lp:Lp) (jn:Jn):∀(x:TsS Ka.as) (F:TsF Ka.fs) (y:TsS Ka.cs),kl lp jn x.1 F.1=bg lp jn (cx [] [(32,r32),(92,r92),(112,aV)]) ai 4 175 f175 Ka x F y:=fun x F y=>by kernel_rfl
theorem TM:Ka.ok prog 175:=Ctr.of_den (al (q32)) aB (hl:=ai) (d:=4) func175 rfl (by decide) (Xz lpK jnK)
def jp (_:Lp) (_:Jn) (cn:S1) (x0:List ((List Int)×Int×Int)) (f0:((((List Int)×Int×Int)×Unit)->Option Bool)):Option Bool :=
 ah (cn x0 f0) fun (t:Int)=>some (decide (t>=0))
def cu (x0:List ((List Int)×Int×Int)) (f0:((((List Int)×Int×Int)×Unit)->Option Bool)):Option Bool:=jp lpK jnK cn x0 f0
def VS (cu:(List ((List Int)×Int×Int))->(((((List Int)×Int×Int)×Unit)->Option Bool))->Option (Bool)):Ctr:=⟨[(.sl B3)],[([B3],.bool)],[],.one .bool,fun x F _=>cu x.1 F.1⟩
def Lm:Ctr:=VS cu
theorem WY (lp:Lp) (jn:Jn) (cn:S1):∀(x:TsS Lm.as) (F:TsF Lm.fs) (y:TsS Lm.cs),jp lp jn cn x.1 F.1=bg lp jn (cx [(175,TC cn)] [(32,r32),(92,r92),(112,aV)]) ai 4 144 f144 Lm x F y:=fun x F y=>by kernel_rfl
theorem Vj:Lm.ok prog 144:=Ctr.of_den (al (af (q32) (by kernel_rfl) TM)) aB (hl:=ai) (d:=4) func144 rfl (by decide) (WY lpK jnK cn)
def ma (lp:Lp) (_:Jn) (a6:RR) (_:(List ((List Int)×Int×Int))->(((((List Int)×Int×Int)×Unit)->Option Bool))->Option (Bool)) (c9:TW) (x0:(List Int)×List ((List Int)×Int×Int)):Option Bool :=
 
 let v3:Bool:=decide ((↑x0.1.length:Int)<1);
 let v4:Bool:=!v3;
 let v5:Bool:=bif v3 then true else decide ((↑x0.1.length:Int)>12);
 let v6:Bool:=!v4||v4;
 let v7:Bool:=!v5;
 let v8:Bool:=bif v5 then true else decide ((↑x0.2.length:Int)>6);
 let v9:Bool:=!v8;
 let v10:Bool:=!v7||v7;
 let v11:Bool:=!v9||v9;bif v6 then bif v6 then bif v6 then bif v3||v4 then bif v10 then bif v10 then bif v10 then bif v5||v7 then bif v11 then bif v11 then ah (bif v9 then c9 1048576 else some fun (_:Int×PUnit)=>none) fun (t:Int×PUnit->Option Bool)=>bif v11&&v11 then ah (bif v9 then a6 x0.1 t else some false) fun (t:Bool)=>bif v8||v9 then bif bif v8 then true else t then some false else lp (Int×PUnit) Bool (fun (again:Int×PUnit->Option Bool) (x:Int×PUnit) =>
 let v16:List Int×Int×Int:=x0.2.getD x.1.toNat ([],0,0);
 let v17:Bool:=decide (v16.2.1<1);
 let v18:Bool:=decide (v16.2.1>3);
 let v19:Bool:=!decide ((↑v16.1.length:Int)=(↑x0.1.length:Int));
 let v20:Bool:=!v19;
 let v21:Bool:=!v20||v20;bif decide (x.1<(↑x0.2.length:Int)) then bif inB x.1 x0.2.length then bif v21 then bif v21 then ah (bif v20 then c9 1048576 else some fun (_:Int×PUnit)=>none) fun (t:Int×PUnit->Option Bool)=>bif v21&&v21 then ah (bif v20 then a6 v16.1 t else some false) fun (t:Bool) =>
 let v24:Bool:=bif v19 then true else t;
 let v25:Bool:=!v24;
 let v26:Bool:=bif v24 then true else v17;
 let v27:Bool:=!v26;
 let v28:Bool:=bif v26 then true else v18;
 let v29:Bool:=!v25||v25;
 let v30:Bool:=!v28;
 let v31:Bool:=!v27||v27;
 let v32:Bool:=!v30||v30;bif v19||v20 then bif v29 then bif v29 then bif v24||v25 then bif v31 then bif v31 then bif v26||v27 then bif v32 then ah (bif v30 then c9 1073741824 else some fun (_:Int×PUnit)=>none) fun (t:Int×PUnit->Option Bool)=>bif v32 then bif v32&&v32 then ah (bif v30 then t (v16.2.2, PUnit.unit) else some false) fun (t:Bool)=>bif v28||v30 then bif bif v28 then true else t then some !decide (x.1>=0) else again (IntKind.wrap .i64 (x.1+(1 : Int)),PUnit.unit) else none else none else none else none else none else none else none else none else none else none else none else none else none else none else none else some !decide ((-1:Int)>=0)) (0,PUnit.unit) else none else none else none else none else none else none else none else none else none else none else none else none
def bf (x0:(List Int)×List ((List Int)×Int×Int)):Option Bool:=ma lpK jnK a6 cu c9 x0
abbrev t99:=((List Int)×List ((List Int)×Int×Int))->Option (Bool)
def k99 (bf:t99):Ctr:=⟨[T82],[],[],.one .bool,fun x _ _=>bf x.1⟩
def c99:Ctr:=k99 bf
theorem e99 (lp:Lp) (jn:Jn) (a6:RR) (cu:(List ((List Int)×Int×Int))->(((((List Int)×Int×Int)×Unit)->Option Bool))->Option (Bool)) (c9:TW):∀(x:TsS c99.as) (F:TsF c99.fs) (y:TsS c99.cs),ma lp jn a6 cu c9 x.1=bg lp jn (xr yU yX (Vx [(141,⟨[i64],[i64],.bool,fun x=>c9 x.1⟩)] (jD prog shs tQ its [(144,VS cu),(143,Ud a6)] [(32,r32),(92,r92),(112,aV)]))) ai 4 99 f99 c99 x F y:=fun x F y=>by kernel_rfl
theorem R7:c99.ok prog 99:=Ctr.of_den (al (P7 (af (af (q32) (by kernel_rfl) UJ) (by kernel_rfl) Vj) (IP (by kernel_rfl) Ti (NT)))) aB (hl:=ai) (d:=4) func99 rfl (by decide) (e99 lpK jnK a6 cu c9)
def qN (_:Lp) (_:Jn) (x0:Int):Option Int :=
 
 let v3:Int:=IntKind.wrap .u64 x0;bif decide (x0<0) then some (IntKind.wrap .u64 (0 - v3)) else some v3
def bV (x0:Int):Option Int:=qN lpK jnK x0
abbrev Kg:=(Int)->Option (Int)
def SC (bV:Kg):Ctr:=⟨[i64],[],[],.one (.int .u64),fun x _ _=>bV x.1⟩
def Oy:Ctr:=SC bV
theorem X3 (lp:Lp) (jn:Jn):∀(x:TsS Oy.as) (F:TsF Oy.fs) (y:TsS Oy.cs),qN lp jn x.1=bg lp jn (cx [] [(32,r32),(92,r92),(112,aV)]) ai 4 147 f147 Oy x F y:=fun x F y=>by kernel_rfl
theorem Rf:Oy.ok prog 147:=Ctr.of_den (al (q32)) aB (hl:=ai) (d:=4) func147 rfl (by decide) (X3 lpK jnK)
def kU (lp:Lp) (_:Jn) (bV:Kg) (x0:List Int) (x1:Int):Option Int :=
 ah (bV x1) fun (t:Int)=>lp (Int×Int×PUnit) Int (fun (again:Int×Int×PUnit->Option Int) (x:Int×Int×PUnit)=>bif decide (x.2.1<(↑x0.length : Int)) then bif inB x.2.1 x0.length then ah (bV (x0.getD x.2.1.toNat 0)) fun (t:Int)=>again (IntKind.wrap .i64 (x.1 + IntKind.wrap .i64 t),IntKind.wrap .i64 (x.2.1+1),PUnit.unit) else none else some x.1) (IntKind.wrap .i64 (1+IntKind.wrap .i64 t), 0,PUnit.unit)
def dx (x0:List Int) (x1:Int):Option Int:=kU lpK jnK bV x0 x1
abbrev TL:=(List Int)->(Int)->Option (Int)
def Ma:Ctr:=⟨[(.sl i64),i64],[],[],.one i64,fun x _ _=>dx x.1 x.2.1⟩
theorem Wu (lp:Lp) (jn:Jn) (bV:Kg):∀(x:TsS Ma.as) (F:TsF Ma.fs) (y:TsS Ma.cs),kU lp jn bV x.1 x.2.1=bg lp jn (cx [(147,SC bV)] [(32,r32),(92,r92),(112,aV)]) ai 4 146 f146 Ma x F y:=fun x F y=>by kernel_rfl
theorem TE:Ma.ok prog 146:=Ctr.of_den (al (af (q32) (by kernel_rfl) Rf)) aB (hl:=ai) (d:=4) func146 rfl (by decide) (Wu lpK jnK bV)
def kX (lp:Lp) (jn:Jn) (x0:List Int):Option Int :=
 jn PUnit Int (fun (_:PUnit)=>bif inB 0 x0.length then lp (Int×Int×PUnit) Int (fun (again:Int×Int×PUnit->Option Int) (x:Int×Int×PUnit)=>bif decide (x.2.1<(↑x0.length:Int)) then bif inB x.2.1 x0.length then again (if x0.getD x.2.1.toNat 0>x.1 then x0.getD x.2.1.toNat 0 else x.1,IntKind.wrap .i64 (x.2.1+1),PUnit.unit) else none else some x.1) (x0.getD 0 0,1,PUnit.unit) else none) fun (j:PUnit->Option Int)=>bif decide ((↑x0.length:Int)<1) then none else j PUnit.unit
def dU (x0:List Int):Option Int:=kX lpK jnK x0
abbrev Ty:=(List Int)->Option (Int)
def Mw:Ctr:=⟨[(.sl i64)],[],[],.one i64,fun x _ _=>dU x.1⟩
theorem Yh (lp:Lp) (jn:Jn):∀(x:TsS Mw.as) (F:TsF Mw.fs) (y:TsS Mw.cs),kX lp jn x.1=bg lp jn (cx [] [(32,r32),(92,r92),(112,aV)]) ai 4 148 f148 Mw x F y:=fun x F y=>by kernel_rfl
theorem TX:Mw.ok prog 148:=Ctr.of_den (al (q32)) aB (hl:=ai) (d:=4) func148 rfl (by decide) (Yh lpK jnK)
def nt (lp:Lp) (_:Jn) (dx:TL) (dU:Ty) (x0:(List Int)×List ((List Int)×Int×Int)):Option Bool :=
 ah (dx x0.1 0) fun (t:Int)=>lp (List Int×Int×PUnit) Bool (fun (again:List Int×Int×PUnit->Option Bool) (x:List Int×Int×PUnit) =>
 let v6:List Int×Int×Int:=x0.2.getD x.2.1.toNat ([],0,0);bif decide (x.2.1<(↑x0.2.length:Int)) then bif inB x.2.1 x0.2.length then ah (dx v6.1 v6.2.2) fun (t:Int)=>bif eC (List.length x.1+1) 8 then again (x.1++[t],IntKind.wrap .i64 (x.2.1+1),PUnit.unit) else none else none else lp (Int×Int×PUnit) Bool (fun (again:Int×Int×PUnit->Option Bool) (x_1:Int×Int×PUnit) =>
 let v9:Int:=x.1.getD x_1.2.1.toNat 0;bif decide (x_1.2.1<(↑x.1.length:Int)) then bif inB x_1.2.1 x.1.length then bif Nat.ble (Nat.succ x_1.2.1.toNat) x.1.length then bif nzB v9 then bif decide (x_1.1>IntKind.wrap .i64 (Int.tdiv 17592186044416 v9)) then some false else again (IntKind.wrap .i64 (x_1.1*v9),IntKind.wrap .i64 (x_1.2.1+1),PUnit.unit) else none else none else none else ah (dU x.1) fun (t : Int)=>bif nzB t then some (decide (x_1.1<=IntKind.wrap .i64 (Int.tdiv 144115188075855872 t))) else none) (1,0,PUnit.unit)) ([t],0, PUnit.unit)
def cg (x0:(List Int)×List ((List Int)×Int×Int)):Option Bool:=nt lpK jnK dx dU x0
abbrev LL:=((List Int)×List ((List Int)×Int×Int))->Option (Bool)
def SB (cg:LL):Ctr:=⟨[T82],[],[],.one .bool,fun x _ _=>cg x.1⟩
def MO:Ctr:=SB cg
theorem XB (lp:Lp) (jn:Jn) (dx:TL) (dU:Ty):∀(x:TsS MO.as) (F:TsF MO.fs) (y:TsS MO.cs),nt lp jn dx dU x.1=bg lp jn (cx [(148,⟨[(.sl i64)],[],[],.one i64,fun x _ _=>dU x.1⟩),(146,⟨[(.sl i64),i64],[],[],.one i64,fun x _ _=>dx x.1 x.2.1⟩)] [(32,r32),(92,r92),(112,aV)]) ai 4 100 f100 MO x F y:=fun x F y=>by kernel_rfl
theorem Q4:MO.ok prog 100:=Ctr.of_den (al (af (af (q32) (by kernel_rfl) TE) (by kernel_rfl) TX)) aB (hl:=ai) (d:=4) func100 rfl (by decide) (XB lpK jnK dx dU)
def gk (lp:Lp) (_:Jn) (x0:(List (List Int))×Int×(List Int)×(List Int)×(List Int)×Int×Int) (x1:Int):Option Int :=
 lp (Int×Int×PUnit) Int (fun (again:Int×Int×PUnit->Option Int) (x:Int×Int×PUnit) =>
 let v6:Int×PUnit:=(IntKind.wrap .i64 (x.2.1+1),PUnit.unit);
 let v7:List Int:=x0.1.getD x.2.1.toNat [];bif decide (x.2.1<(↑x0.1.length:Int)) then bif inB x.2.1 x0.1.length then bif inB x.2.1 x0.2.2.1.length then bif decide (x0.2.2.1.getD x.2.1.toNat 0>=x0.2.2.2.2.2.1) then bif inB x1 v7.length then again (IntKind.wrap .i64 (x.1+v7.getD x1.toNat 0),v6) else none else again (x.1,v6) else none else none else some x.1) (0,0,PUnit.unit)
def av (x0:(List (List Int))×Int×(List Int)×(List Int)×(List Int)×Int×Int) (x1:Int):Option Int:=gk lpK jnK x0 x1
abbrev Ms:=((List (List Int))×Int×(List Int)×(List Int)×(List Int)×Int×Int)->(Int)->Option (Int)
def RV (av:Ms):PCtr:=⟨Ja,[i64],.one i64,fun x y=>av x y.1⟩
def OT:PCtr:=RV av
theorem Xs (lp:Lp) (jn:Jn):∀(x:OT.s.T) (y:TsS OT.as),gk lp jn x y.1=FO lp jn (cx [] [(32,r32),(92,r92),(112,aV)]) ai 4 106 f106 OT x y:=fun x y=>by kernel_rfl
theorem RI:OT.ok prog 106:=PCtr.of_den (al (q32)) aB (hl:=ai) (d:=4) func106 rfl (by decide) (Xs lpK jnK)
def lU (_:Lp) (_:Jn) (bU:E6) (bV:Kg) (x0:Int) (x1:Int):Option (Bool×Int×Int) :=
 
 let v4:Bool:=!decide (decide (x0<0)=decide (x1<0));
 let v5:Bool:=!v4;
 let v6:Bool:=v5||v4;ah (bV x0) fun (t:Int)=>ah (bV x1) fun (t_1:Int)=>ah (bU t t_1) fun (t:Int×Int×PUnit) =>
 let v10:Bool:=!decide (t.1=0);
 let v11:Bool:=v4&&!v10;bif v6 then bif v6 then bif !v11||v11 then bif (v5||v6)&&(v5||(v10||(v5||v11))) then bif v6 then some (bif v4 then bif v10 then true else !decide (t.2.1=0) else false,t.1,t.2.1) else none else none else none else none else none
def bG (x0:Int) (x1:Int):Option (Bool×Int×Int):=lU lpK jnK bU bV x0 x1
abbrev LQ:=(Int)->(Int)->Option (Bool×Int×Int)
def Se (bG:LQ):Ctr:=⟨[i64,i64],[],[],.one ux,fun x _ _=>bG x.1 x.2.1⟩
def Mr:Ctr:=Se bG
theorem Xm (lp:Lp) (jn:Jn) (bU:E6) (bV:Kg):∀(x:TsS Mr.as) (F:TsF Mr.fs) (y:TsS Mr.cs),lU lp jn bU bV x.1 x.2.1=bg lp jn (cx [(147,SC bV),(107,Qg bU)] [(32,r32),(92,r92),(112,aV)]) ai 4 176 f176 Mr x F y:=fun x F y=>by kernel_rfl
theorem RJ:Mr.ok prog 176:=Ctr.of_den (al (af (af (q32) (by kernel_rfl) N1) (by kernel_rfl) Rf)) aB (hl:=ai) (d:=4) func176 rfl (by decide) (Xm lpK jnK bU bV)
def gu (_:Lp) (_:Jn) (x0:Bool×Int×Int) (x1:Bool×Int×Int):Option Int :=
 
 let v4:Bool:=decide (x0.2.1=x1.2.1);
 let v5:Bool:=!v4;
 let v6:Bool:=v5||v4;
 let v7:Bool:=!v5||v5;
 let v8:Bool:=bif v5 then decide (x0.2.1<x1.2.1) else false;
 let v9:Bool:=!v8;
 let v10:Bool:=!v9;
 let v11:Bool:=v9&&v4;
 let v12:Bool:=v10||v9;
 let v13:Bool:=!v11||v11;bif v7 then bif v7 then bif v7&&v7 then bif v7 then bif v12 then bif v12 then bif v12&&v12 then bif v12 then bif v13 then bif v13 then bif v13&&v13 then bif (v10||v12)&&(v10||(v5||(v10||v11))) then bif v8||v9 then bif bif v8 then true else bif v4 then decide (x0.2.2<x1.2.2) else false then some (-1) else bif v6 then bif v6 then bif v6&&v6 then bif v6 then bif bif v4 then decide (x0.2.2=x1.2.2) else false then some 0 else some 1 else none else none else none else none else none else none else none else none else none else none else none else none else none else none else none else none else none
def ax (x0:Bool×Int×Int) (x1:Bool×Int×Int):Option Int:=gu lpK jnK x0 x1
abbrev Md:=(Bool×Int×Int)->(Bool×Int×Int)->Option (Int)
def Tf (ax:Md):Ctr:=⟨[ux,ux],[],[],.one i64,fun x _ _=>ax x.1 x.2.1⟩
def J1:Ctr:=Tf ax
theorem W6 (lp:Lp) (jn:Jn):∀(x:TsS J1.as) (F:TsF J1.fs) (y:TsS J1.cs),gu lp jn x.1 x.2.1=bg lp jn (cx [] [(32,r32),(92,r92),(112,aV)]) ai 4 192 f192 J1 x F y:=fun x F y=>by kernel_rfl
theorem Rb:J1.ok prog 192:=Ctr.of_den (al (q32)) aB (hl:=ai) (d:=4) func192 rfl (by decide) (W6 lpK jnK)
def hO (_:Lp) (jn:Jn) (ax:Md) (x0:Bool×Int×Int) (x1:Bool×Int×Int):Option (Bool×Int×Int) :=
 
 let v4:Bool:=!x0.1;
 let v5:Bool:=!x1.1;
 let v6:Bool:=!v4;
 let v7:Bool:=v4&&v5;
 let v8:Bool:=v6||v4;
 let v9:Bool:=!v7;
 let v10:Bool:=v9||v7;
 let v11:Bool:=!decide (x1.2.1=0);
 let v12:Bool:=v7&&!v11;
 let v13:Bool:=decide ((0:Int)<=0)&&decide ((0:Int)<=1);
 let v14:Bool:=!v12||v12;bif !decide (x0.1=x1.1) then bif v13 then bif decide (0<=qt x0.2.2 x1.2.2 0)&&decide (qt x0.2.2 x1.2.2 (0 : Int)<=1) then bif v8 then bif v8 then bif v8 then bif v10 then bif v10 then bif v10 then bif v14 then bif v14 then bif (v9||v10)&&(v9||(v11||(v9||v12))) then bif (v6 || v8)&&(v6||(!v5||(v6||v7))) then bif x0.1||v4 then some (bif x0.1 then true else bif v5 then bif v11 then true else !decide (x1.2.2=0) else false,yV x0.2.1 x1.2.1 (qt x0.2.2 x1.2.2 0),yV x0.2.2 x1.2.2 0) else none else none else none else none else none else none else none else none else none else none else none else none else none else ah (ax x0 x1) fun (t:Int)=>jn (Bool×(Bool×Int×Int)×(Bool×Int×Int)×PUnit) (Bool×Int×Int) (fun (x:Bool×(Bool×Int×Int)×(Bool×Int×Int)×PUnit) =>
 let v17:Bool:=!x.1;
 let v18:Bool:=v17||x.1;
 let v19:Bool:=!decide (vA x.2.1.2.1 x.2.2.1.2.1 (oG x.2.1.2.2 x.2.2.1.2.2 0)=0);
 let v20:Bool:=x.1&&!v19;bif v13 then bif decide (0<=oG x.2.1.2.2 x.2.2.1.2.2 0)&&decide (oG x.2.1.2.2 x.2.2.1.2.2 (0 : Int)<=1) then bif v18 then bif v18 then bif !v20||v20 then bif (v17||v18)&&(v17||(v19||(v17||v20))) then bif v18 then some (bif x.1 then bif v19 then true else !decide (vA x.2.1.2.2 x.2.2.1.2.2 0=0) else false,vA x.2.1.2.1 x.2.2.1.2.1 (oG x.2.1.2.2 x.2.2.1.2.2 (0 : Int)),vA x.2.1.2.2 x.2.2.1.2.2 0) else none else none else none else none else none else none else none) fun (j:Bool×(Bool×Int×Int)×(Bool×Int × Int)×PUnit->Option (Bool×Int×Int))=>bif decide (t<0) then j (v4,x1,x0,PUnit.unit) else j (x0.1,x0,x1,PUnit.unit)
def bE (x0:Bool×Int×Int) (x1:Bool×Int×Int):Option (Bool×Int×Int):=hO lpK jnK ax x0 x1
abbrev Sn:=(Bool×Int×Int)->(Bool×Int×Int)->Option (Bool×Int×Int)
def T1 (bE:Sn):Ctr:=⟨[ux,ux],[],[],.one ux,fun x _ _=>bE x.1 x.2.1⟩
def LR:Ctr:=T1 bE
theorem XO (lp:Lp) (jn:Jn) (ax:Md):∀(x:TsS LR.as) (F:TsF LR.fs) (y:TsS LR.cs),hO lp jn ax x.1 x.2.1=bg lp jn (cx [(192,Tf ax)] [(32,r32),(92,r92),(112,aV)]) ai 4 177 f177 LR x F y:=fun x F y=>by kernel_rfl
theorem Vt:LR.ok prog 177:=Ctr.of_den (al (af (q32) (by kernel_rfl) Rb)) aB (hl:=ai) (d:=4) func177 rfl (by decide) (XO lpK jnK ax)
def t7 (_:Lp) (jn:Jn) (x0:Int):Option Int :=
 jn (Int×Int×PUnit) Int (fun (x:Int×Int×PUnit)=>jn (Int×Int×PUnit) Int (fun (x:Int×Int×PUnit) =>
 let v5:Int:=IntKind.wrap IntKind.u8 x.1;
 let v6:Int:=IntKind.wrap IntKind.u8 (Int.fdiv x.1 (2 ^ 8));bif decide (x.1>=256) then bif decide ((0:Int)<=8) then bif inB v6 256 then some (IntKind.wrap .i64 (IntKind.wrap .i64 (x.2.1+8)+IntKind.wrap .i64 (fK { data:=List.toArray (List.append (List.append [(0:UInt8),(1 : UInt8),(2:UInt8),(2:UInt8),(3:UInt8),(3:UInt8),(3:UInt8),(3:UInt8),(4:UInt8),(4:UInt8),(4:UInt8),(4:UInt8),(4:UInt8),(4:UInt8),(4:UInt8),(4 : UInt8),(5:UInt8),(5:UInt8),(5:UInt8),(5:UInt8),(5:UInt8),(5:UInt8),(5:UInt8),(5:UInt8),(5:UInt8),(5:UInt8),(5:UInt8),(5:UInt8),(5:UInt8),(5 : UInt8),(5:UInt8),(5:UInt8),(6:UInt8),(6:UInt8),(6:UInt8),(6:UInt8),(6:UInt8),(6:UInt8),(6:UInt8),(6:UInt8),(6:UInt8),(6:UInt8),(6:UInt8),(6 : UInt8),(6:UInt8),(6:UInt8),(6:UInt8),(6:UInt8),(6:UInt8),(6:UInt8),(6:UInt8),(6:UInt8),(6:UInt8),(6:UInt8),(6:UInt8),(6:UInt8),(6:UInt8),(6 : UInt8),(6:UInt8),(6:UInt8),(6:UInt8),(6:UInt8),(6:UInt8),(6:UInt8)] [(7:UInt8),(7:UInt8),(7:UInt8),(7:UInt8),(7:UInt8),(7:UInt8),(7:UInt8),(7 : UInt8),(7:UInt8),(7:UInt8),(7:UInt8),(7:UInt8),(7:UInt8),(7:UInt8),(7:UInt8),(7:UInt8),(7:UInt8),(7:UInt8),(7:UInt8),(7:UInt8),(7:UInt8),(7 : UInt8),(7:UInt8),(7:UInt8),(7:UInt8),(7:UInt8),(7:UInt8),(7:UInt8),(7:UInt8),(7:UInt8),(7:UInt8),(7:UInt8),(7:UInt8),(7:UInt8),(7:UInt8),(7 : UInt8),(7:UInt8),(7:UInt8),(7:UInt8),(7:UInt8),(7:UInt8),(7:UInt8),(7:UInt8),(7:UInt8),(7:UInt8),(7:UInt8),(7:UInt8),(7:UInt8),(7:UInt8),(7 : UInt8),(7:UInt8),(7:UInt8),(7:UInt8),(7:UInt8),(7:UInt8),(7:UInt8),(7:UInt8),(7:UInt8),(7:UInt8),(7:UInt8),(7:UInt8),(7:UInt8),(7:UInt8),(7 : UInt8)]) (List.append [(8:UInt8),(8:UInt8),(8:UInt8),(8:UInt8),(8:UInt8),(8:UInt8),(8:UInt8),(8:UInt8),(8:UInt8),(8:UInt8),(8:UInt8),(8:UInt8),(8 : UInt8),(8:UInt8),(8:UInt8),(8:UInt8),(8:UInt8),(8:UInt8),(8:UInt8),(8:UInt8),(8:UInt8),(8:UInt8),(8:UInt8),(8:UInt8),(8:UInt8),(8:UInt8),(8 : UInt8),(8:UInt8),(8:UInt8),(8:UInt8),(8:UInt8),(8:UInt8),(8:UInt8),(8:UInt8),(8:UInt8),(8:UInt8),(8:UInt8),(8:UInt8),(8:UInt8),(8:UInt8),(8 : UInt8),(8:UInt8),(8:UInt8),(8:UInt8),(8:UInt8),(8:UInt8),(8:UInt8),(8:UInt8),(8:UInt8),(8:UInt8),(8:UInt8),(8:UInt8),(8:UInt8),(8:UInt8),(8 : UInt8),(8:UInt8),(8:UInt8),(8:UInt8),(8:UInt8),(8:UInt8),(8:UInt8),(8:UInt8),(8:UInt8),(8:UInt8)] [(8:UInt8),(8:UInt8),(8:UInt8),(8:UInt8),(8 : UInt8),(8:UInt8),(8:UInt8),(8:UInt8),(8:UInt8),(8:UInt8),(8:UInt8),(8:UInt8),(8:UInt8),(8:UInt8),(8:UInt8),(8:UInt8),(8:UInt8),(8:UInt8),(8 : UInt8),(8:UInt8),(8:UInt8),(8:UInt8),(8:UInt8),(8:UInt8),(8:UInt8),(8:UInt8),(8:UInt8),(8:UInt8),(8:UInt8),(8:UInt8),(8:UInt8),(8:UInt8),(8 : UInt8),(8:UInt8),(8:UInt8),(8:UInt8),(8:UInt8),(8:UInt8),(8:UInt8),(8:UInt8),(8:UInt8),(8:UInt8),(8:UInt8),(8:UInt8),(8:UInt8),(8:UInt8),(8 : UInt8),(8:UInt8),(8:UInt8),(8:UInt8),(8:UInt8),(8:UInt8),(8:UInt8),(8:UInt8),(8:UInt8),(8:UInt8),(8:UInt8),(8:UInt8),(8:UInt8),(8:UInt8),(8 : UInt8),(8:UInt8),(8:UInt8),(8:UInt8)])) } v6.toNat))) else none else none else bif inB v5 256 then some (IntKind.wrap .i64 (x.2.1+IntKind.wrap IntKind.i64 (fK { data:=List.toArray (List.append (List.append [(0:UInt8),(1:UInt8),(2:UInt8),(2:UInt8),(3:UInt8),(3:UInt8),(3:UInt8),(3:UInt8),(4 : UInt8),(4:UInt8),(4:UInt8),(4:UInt8),(4:UInt8),(4:UInt8),(4:UInt8),(4:UInt8),(5:UInt8),(5:UInt8),(5:UInt8),(5:UInt8),(5:UInt8),(5:UInt8),(5 : UInt8),(5:UInt8),(5:UInt8),(5:UInt8),(5:UInt8),(5:UInt8),(5:UInt8),(5:UInt8),(5:UInt8),(5:UInt8),(6:UInt8),(6:UInt8),(6:UInt8),(6:UInt8),(6 : UInt8),(6:UInt8),(6:UInt8),(6:UInt8),(6:UInt8),(6:UInt8),(6:UInt8),(6:UInt8),(6:UInt8),(6:UInt8),(6:UInt8),(6:UInt8),(6:UInt8),(6:UInt8),(6 : UInt8),(6:UInt8),(6:UInt8),(6:UInt8),(6:UInt8),(6:UInt8),(6:UInt8),(6:UInt8),(6:UInt8),(6:UInt8),(6:UInt8),(6:UInt8),(6:UInt8),(6:UInt8)] [(7 : UInt8),(7:UInt8),(7:UInt8),(7:UInt8),(7:UInt8),(7:UInt8),(7:UInt8),(7:UInt8),(7:UInt8),(7:UInt8),(7:UInt8),(7:UInt8),(7:UInt8),(7:UInt8),(7 : UInt8),(7:UInt8),(7:UInt8),(7:UInt8),(7:UInt8),(7:UInt8),(7:UInt8),(7:UInt8),(7:UInt8),(7:UInt8),(7:UInt8),(7:UInt8),(7:UInt8),(7:UInt8),(7 : UInt8),(7:UInt8),(7:UInt8),(7:UInt8),(7:UInt8),(7:UInt8),(7:UInt8),(7:UInt8),(7:UInt8),(7:UInt8),(7:UInt8),(7:UInt8),(7:UInt8),(7:UInt8),(7 : UInt8),(7:UInt8),(7:UInt8),(7:UInt8),(7:UInt8),(7:UInt8),(7:UInt8),(7:UInt8),(7:UInt8),(7:UInt8),(7:UInt8),(7:UInt8),(7:UInt8),(7:UInt8),(7 : UInt8),(7:UInt8),(7:UInt8),(7:UInt8),(7:UInt8),(7:UInt8),(7:UInt8),(7:UInt8)]) (List.append [(8:UInt8),(8:UInt8),(8:UInt8),(8:UInt8),(8:UInt8),(8 : UInt8),(8:UInt8),(8:UInt8),(8:UInt8),(8:UInt8),(8:UInt8),(8:UInt8),(8:UInt8),(8:UInt8),(8:UInt8),(8:UInt8),(8:UInt8),(8:UInt8),(8:UInt8),(8 : UInt8),(8:UInt8),(8:UInt8),(8:UInt8),(8:UInt8),(8:UInt8),(8:UInt8),(8:UInt8),(8:UInt8),(8:UInt8),(8:UInt8),(8:UInt8),(8:UInt8),(8:UInt8),(8 : UInt8),(8:UInt8),(8:UInt8),(8:UInt8),(8:UInt8),(8:UInt8),(8:UInt8),(8:UInt8),(8:UInt8),(8:UInt8),(8:UInt8),(8:UInt8),(8:UInt8),(8:UInt8),(8 : UInt8),(8:UInt8),(8:UInt8),(8:UInt8),(8:UInt8),(8:UInt8),(8:UInt8),(8:UInt8),(8:UInt8),(8:UInt8),(8:UInt8),(8:UInt8),(8:UInt8),(8:UInt8),(8 : UInt8),(8:UInt8),(8:UInt8)] [(8:UInt8),(8:UInt8),(8:UInt8),(8:UInt8),(8:UInt8),(8:UInt8),(8:UInt8),(8:UInt8),(8:UInt8),(8:UInt8),(8:UInt8),(8 : UInt8),(8:UInt8),(8:UInt8),(8:UInt8),(8:UInt8),(8:UInt8),(8:UInt8),(8:UInt8),(8:UInt8),(8:UInt8),(8:UInt8),(8:UInt8),(8:UInt8),(8:UInt8),(8 : UInt8),(8:UInt8),(8:UInt8),(8:UInt8),(8:UInt8),(8:UInt8),(8:UInt8),(8:UInt8),(8:UInt8),(8:UInt8),(8:UInt8),(8:UInt8),(8:UInt8),(8:UInt8),(8 : UInt8),(8:UInt8),(8:UInt8),(8:UInt8),(8:UInt8),(8:UInt8),(8:UInt8),(8:UInt8),(8:UInt8),(8:UInt8),(8:UInt8),(8:UInt8),(8:UInt8),(8:UInt8),(8 : UInt8),(8:UInt8),(8:UInt8),(8:UInt8),(8:UInt8),(8:UInt8),(8:UInt8),(8:UInt8),(8:UInt8),(8:UInt8),(8:UInt8)])) } v5.toNat))) else none) fun (j:Int × Int×PUnit->Option Int)=>bif decide (x.1>=65536) then bif decide ((0:Int)<=16) then j (Int.fdiv x.1 (2 ^ 16),IntKind.wrap .i64 (x.2.1+16),PUnit.unit) else none else j (x.1,x.2.1,PUnit.unit)) fun (j:Int×Int×PUnit->Option Int)=>bif decide (x0>=4294967296) then bif decide (0<=32) then j (Int.fdiv x0 (2 ^ 32),32,PUnit.unit) else none else j (x0,0,PUnit.unit)
def gJ (x0:Int):Option Int:=t7 lpK jnK x0
abbrev UF:=(Int)->Option (Int)
def NV:Ctr:=⟨[(.int .u64)],[],[],.one i64,fun x _ _=>gJ x.1⟩
theorem Xh (lp:Lp) (jn:Jn):∀(x:TsS NV.as) (F:TsF NV.fs) (y:TsS NV.cs),t7 lp jn x.1=bg lp jn (cx [] [(32,r32),(92,r92),(112,aV)]) ai 4 194 f194 NV x F y:=fun x F y=>by kernel_rfl
theorem Un:NV.ok prog 194:=Ctr.of_den (al (q32)) aB (hl:=ai) (d:=4) func194 rfl (by decide) (Xh lpK jnK)
def iP (_:Lp) (_:Jn) (gJ:UF) (x0:Int):Option Int :=
 ah (gJ x0) fun (t:Int)=>some (IntKind.wrap .i64 (64 - t))
def cN (x0:Int):Option Int:=iP lpK jnK gJ x0
abbrev TS:=(Int)->Option (Int)
def Mj:Ctr:=⟨[(.int .u64)],[],[],.one i64,fun x _ _=>cN x.1⟩
theorem V2 (lp:Lp) (jn:Jn) (gJ:UF):∀(x:TsS Mj.as) (F:TsF Mj.fs) (y:TsS Mj.cs),iP lp jn gJ x.1=bg lp jn (cx [(194,⟨[(.int .u64)],[],[],.one i64,fun x _ _=>gJ x.1⟩)] [(32,r32),(92,r92),(112,aV)]) ai 4 193 f193 Mj x F y:=fun x F y=>by kernel_rfl
theorem TB:Mj.ok prog 193:=Ctr.of_den (al (af (q32) (by kernel_rfl) Un)) aB (hl:=ai) (d:=4) func193 rfl (by decide) (V2 lpK jnK gJ)
def pq (lp:Lp) (jn:Jn) (cN:TS) (x0:Int) (x1:Int) (x2:Int):Option (Int×Int×Unit) :=
 
 let v5:Bool:=nzB x2;
 let v6:Int:=2 ^ 32;
 let v7:Bool:=decide ((0:Int)<=32);jn PUnit (Int×Int×PUnit) (fun (_:PUnit)=>jn PUnit (Int×Int×PUnit) (fun (_:PUnit)=>bif decide (x0=0) then bif v5 then bif v5 then some (IntKind.wrap .u64 (Int.tdiv x1 x2),Int.tmod x1 x2,PUnit.unit) else none else none else ah (cN x2) fun (t:Int) =>
 let v11:Int:=IntKind.wrap .u64 t;
 let v12:Bool:=decide (0<=v11);
 let v13:Int:=2 ^ min v11.toNat 64;
 let v14:Int:=IntKind.wrap .u64 (x2*v13);
 let v15:Int:=IntKind.wrap .u64 (x1*v13);
 let v16:Int:=Int.fdiv v14 v6;
 let v17:Int:=Int.fdiv v15 v6;
 let v18:Bool:=nzB v16;
 let v19:Int:=IntKind.wrap .u64 (↑(Nat.land (Int.toNat (v15 % Int.ofNat 18446744073709551616)) (Int.toNat (4294967295 % Int.ofNat 18446744073709551616))) : Int);
 let v20:Int:=IntKind.wrap .u64 (↑(Nat.land (Int.toNat (v14 % Int.ofNat 18446744073709551616)) (Int.toNat (4294967295 % Int.ofNat 18446744073709551616))) : Int);
 let v21:Int:=IntKind.wrap .u64 (↑(Nat.lor (Int.toNat (IntKind.wrap .u64 (x0*v13) % Int.ofNat 18446744073709551616)) (Int.toNat (Int.fdiv x1 (2 ^ min (Int.toNat (IntKind.wrap .u64 (64 - v11))) 64) % Int.ofNat 18446744073709551616))):Int);
 let v22:Int:=IntKind.wrap .u64 (Int.tdiv v21 v16);bif v12 then bif v7 then bif v12 then bif decide (0<=IntKind.wrap .u64 (64 - v11)) then bif v12 then bif v7 then bif v18 then jn (Int×PUnit) (Int×Int×PUnit) (fun (x:Int×PUnit) =>
 let v24:Int:=IntKind.wrap .u64 (IntKind.wrap .u64 (IntKind.wrap .u64 (v21*4294967296)+v17) - IntKind.wrap .u64 (x.1*v14));
 let v25:Int:=IntKind.wrap .u64 (Int.tdiv v24 v16);bif v18 then jn (Int×PUnit) (Int×Int×PUnit) (fun (x_1:Int×PUnit)=>bif v12 then some (IntKind.wrap .u64 (IntKind.wrap .u64 (x.1*4294967296)+x_1.1),Int.fdiv (IntKind.wrap .u64 (IntKind.wrap .u64 (IntKind.wrap .u64 (v24*4294967296) + v19) - IntKind.wrap .u64 (x_1.1*v14))) v13,PUnit.unit) else none) fun (j:Int×PUnit->Option (Int×Int×PUnit))=>lp (Int×Int×PUnit) (Int×Int×PUnit) (fun (again:Int×Int×PUnit->Option (Int×Int×PUnit)) (x:Int×Int×PUnit) =>
 let v29:Int×PUnit:=(IntKind.wrap .u64 (x.2.1 - 1),PUnit.unit);
 let v30:Bool:=decide (x.2.1>=4294967296);
 let v31:Bool:=!v30;
 let v32:Bool:=!v31||v31;
 let v33:Bool:=v32&&v32;bif v33 then bif v32 then bif v33 then bif v33 then bif v30||v31 then bif bif v30 then true else decide (IntKind.wrap .u64 (x.2.1*v20) > IntKind.wrap .u64 (IntKind.wrap .u64 (4294967296*x.1)+v19)) then bif decide (IntKind.wrap .u64 (x.1+v16)>=4294967296) then j v29 else again (IntKind.wrap .u64 (x.1+v16),v29) else j (x.2.1,PUnit.unit) else none else none else none else none else none) (IntKind.wrap .u64 (v24 - IntKind.wrap IntKind.u64 (v25*v16)),v25,PUnit.unit) else none) fun (j:Int×PUnit->Option (Int×Int×PUnit))=>lp (Int×Int×PUnit) (Int×Int×PUnit) (fun (again:Int×Int×PUnit -> Option (Int×Int×PUnit)) (x:Int×Int×PUnit) =>
 let v26:Int:=IntKind.wrap .u64 (x.1 - 1);
 let v27:Bool:=decide (x.1>=4294967296);
 let v28:Bool:=!v27;
 let v29:Bool:=!v28||v28;
 let v30:Bool:=v29&&v29;bif v30 then bif v29 then bif v30 then bif v30 then bif v27||v28 then bif bif v27 then true else decide (IntKind.wrap .u64 (x.1*v20) > IntKind.wrap .u64 (IntKind.wrap .u64 (4294967296*x.2.1)+v17)) then bif decide (IntKind.wrap .u64 (x.2.1+v16)>=4294967296) then j (v26,PUnit.unit) else again (v26,IntKind.wrap .u64 (x.2.1+v16),PUnit.unit) else j (x.1,PUnit.unit) else none else none else none else none else none) (v22, IntKind.wrap .u64 (v21 - IntKind.wrap .u64 (v22*v16)),PUnit.unit) else none else none else none else none else none else none else none) fun (j:PUnit->Option (Int × Int×PUnit))=>bif decide (x2<=x0) then none else j PUnit.unit) fun (j:PUnit->Option (Int×Int×PUnit))=>bif decide (x2=0) then none else j PUnit.unit
def cX (x0:Int) (x1:Int) (x2:Int):Option (Int×Int×Unit):=pq lpK jnK cN x0 x1 x2
abbrev JR:=(Int)->(Int)->(Int)->Option (Int×Int×Unit)
def S0 (cX:JR):Ctr:=⟨[(.int .u64),(.int .u64),(.int .u64)],[],[],.tup [(.int .u64),(.int .u64)],fun x _ _=>cX x.1 x.2.1 x.2.2.1⟩
def NO:Ctr:=S0 cX
theorem WK (lp:Lp) (jn:Jn) (cN:TS):∀(x:TsS NO.as) (F:TsF NO.fs) (y:TsS NO.cs),pq lp jn cN x.1 x.2.1 x.2.2.1=bg lp jn (cx [(193,⟨[(.int .u64)],[],[],.one i64,fun x _ _=>cN x.1⟩)] [(32,r32),(92,r92),(112,aV)]) ai 4 185 f185 NO x F y:=fun x F y=>by kernel_rfl
theorem RA:NO.ok prog 185:=Ctr.of_den (al (af (q32) (by kernel_rfl) TB)) aB (hl:=ai) (d:=4) func185 rfl (by decide) (WK lpK jnK cN)
def im (_:Lp) (_:Jn) (cX:JR) (x0:Bool×Int×Int) (x1:Int):Option Int :=
 ah (cX x0.2.1 x0.2.2 (IntKind.wrap .u64 x1)) fun (t:Int×Int×PUnit) =>
 let v5:Int:=IntKind.wrap .i64 t.1;bif x0.1 then some (IntKind.wrap .i64 (0 - v5)) else some v5
def bQ (x0:Bool×Int×Int) (x1:Int):Option Int:=im lpK jnK cX x0 x1
abbrev Vb:=(Bool×Int×Int)->(Int)->Option (Int)
def Mu:Ctr:=⟨[ux,i64],[],[],.one i64,fun x _ _=>bQ x.1 x.2.1⟩
theorem VY (lp:Lp) (jn:Jn) (cX:JR):∀(x:TsS Mu.as) (F:TsF Mu.fs) (y:TsS Mu.cs),im lp jn cX x.1 x.2.1=bg lp jn (cx [(185,S0 cX)] [(32,r32),(92,r92),(112,aV)]) ai 4 178 f178 Mu x F y:=fun x F y=>by kernel_rfl
theorem T2:Mu.ok prog 178:=Ctr.of_den (al (af (q32) (by kernel_rfl) RA)) aB (hl:=ai) (d:=4) func178 rfl (by decide) (VY lpK jnK cX)
def iQ (lp:Lp) (_:Jn) (bG:LQ) (bE:Sn) (bQ:Vb) (x0:List Nat×List (Option (List Int))) (x1:Int) (x2:List Int) (x3:List Int) (x4:List Int) (x5:Int) (x6:Int) (x7:Int) (x8:Int):Option ((List Nat×List (Option (List Int)))×Int×(List Int)×(List Int)×(List Int)×Int×Int×Unit) :=
 
 let v11:List Int×List Int×List Int×Int×Int×PUnit:=(x2.set x7.toNat x8,x3,x4,x5,x6,PUnit.unit);bif inB x7 x0.1.length then bif Nat.ble (Nat.succ x7.toNat) x0.1.length then bif inB x8 (List.length (bI x0.2 (x0.1.getD x7.toNat 0))) then bif Nat.ble (Nat.succ x8.toNat) (List.length (bI x0.2 (x0.1.getD x7.toNat 0))) then lp (Int×(List Nat×List (Option (List Int)))×PUnit) ((List Nat×List (Option (List Int)))×Int×List Int×List Int×List Int×Int×Int×PUnit) (fun (again:Int×(List Nat×List (Option (List Int)))×PUnit->Option ((List Nat×List (Option (List Int)))×Int×List Int×List Int×List Int×Int×Int×PUnit)) (x:Int×(List Nat×List (Option (List Int)))×PUnit) =>
 let v14:Int:=IntKind.wrap .i64 (x.1+1);
 let v15:(List Nat×List (Option (List Int)))×PUnit:=(x.2.1,PUnit.unit);
 let v16:Int×(List Nat×List (Option (List Int)))×PUnit:=(0,v15);bif decide (x.1<(↑x0.1.length:Int)) then bif inB x.1 x.2.1.1.length then bif Nat.ble (Nat.succ x.1.toNat) x.2.1.1.length then bif decide (x.1=x7) then again (v14,v15) else bif inB x8 (List.length (bI x.2.1.2 (x.2.1.1.getD x.1.toNat 0))) then bif Nat.ble (Nat.succ x8.toNat) (List.length (bI x.2.1.2 (x.2.1.1.getD x.1.toNat 0))) then bif fW x.2.1.2 (x.2.1.1.getD x.1.toNat 0) then lp (Int×(List Nat×List (Option (List Int)))×PUnit) ((List Nat×List (Option (List Int)))×Int × List Int×List Int×List Int×Int×Int×PUnit) (fun (again_1:Int×(List Nat×List (Option (List Int)))×PUnit->Option ((List Nat×List (Option (List Int)))×Int×List Int × List Int×List Int×Int×Int×PUnit)) (x_1:Int×(List Nat×List (Option (List Int)))×PUnit)=>bif decide (x_1.1<(↑(List.length (bI x.2.1.2 (x.2.1.1.getD x.1.toNat 0))):Int)) then bif inB x_1.1 (List.length (bI x_1.2.1.2 (x.2.1.1.getD x.1.toNat 0))) then bif Nat.ble (Nat.succ x_1.1.toNat) (List.length (bI x_1.2.1.2 (x.2.1.1.getD x.1.toNat 0))) then ah (bG (List.getD (bI x_1.2.1.2 (x.2.1.1.getD x.1.toNat 0)) x_1.1.toNat 0) (List.getD (bI x0.2 (x0.1.getD x7.toNat 0)) x8.toNat 0)) fun (t:Bool×Int×Int)=>bif inB x7 x_1.2.1.1.length then bif Nat.ble (Nat.succ x7.toNat) x_1.2.1.1.length then bif inB x_1.1 (List.length (bI x_1.2.1.2 (x_1.2.1.1.getD x7.toNat 0))) then bif Nat.ble (Nat.succ x_1.1.toNat) (List.length (bI x_1.2.1.2 (x_1.2.1.1.getD x7.toNat 0))) then ah (bG (List.getD (bI x.2.1.2 (x.2.1.1.getD x.1.toNat 0)) x8.toNat 0) (List.getD (bI x_1.2.1.2 (x_1.2.1.1.getD x7.toNat 0)) x_1.1.toNat 0)) fun (t_1:Bool×Int×Int)=>ah (bE t t_1) fun (t:Bool × Int×Int)=>ah (bQ t x1) fun (t:Int)=>bif inB x_1.1 (List.length (bI x_1.2.1.2 (x.2.1.1.getD x.1.toNat 0))) then bif Nat.ble (Nat.succ x_1.1.toNat) (List.length (bI x_1.2.1.2 (x.2.1.1.getD x.1.toNat 0))) then again_1 (IntKind.wrap .i64 (x_1.1+(1 : Int)),(x_1.2.1.1,x_1.2.1.2.set (x.2.1.1.getD x.1.toNat 0) (some (List.set (bI x_1.2.1.2 (x.2.1.1.getD x.1.toNat 0)) x_1.1.toNat t))),PUnit.unit) else none else none else none else none else none else none else none else none else again (v14,x_1.2.1,PUnit.unit)) v16 else none else none else none else none else none else bif inB x7 x2.length then bif Nat.ble (Nat.succ x7.toNat) x2.length then bif decide (List.getD (bI x0.2 (x0.1.getD x7.toNat 0)) x8.toNat 0<0) then lp (Int×(List Nat×List (Option (List Int)))×PUnit) ((List Nat×List (Option (List Int))) × Int×List Int×List Int×List Int×Int×Int×PUnit) (fun (again:Int×(List Nat×List (Option (List Int)))×PUnit->Option ((List Nat×List (Option (List Int)))×Int×List Int×List Int×List Int×Int×Int×PUnit)) (x_1:Int×(List Nat×List (Option (List Int)))×PUnit)=>bif decide (x_1.1<(↑x.2.1.1.length:Int)) then bif inB x_1.1 x_1.2.1.1.length then bif Nat.ble (Nat.succ x_1.1.toNat) x_1.2.1.1.length then bif fW x_1.2.1.2 (x_1.2.1.1.getD x_1.1.toNat 0) then lp (Int×(List Nat×List (Option (List Int)))×PUnit) ((List Nat×List (Option (List Int)))×Int×List Int×List Int×List Int×Int×Int×PUnit) (fun (again_1:Int×(List Nat×List (Option (List Int)))×PUnit->Option ((List Nat×List (Option (List Int)))×Int×List Int×List Int×List Int×Int×Int×PUnit)) (x:Int × (List Nat×List (Option (List Int)))×PUnit)=>bif decide (x.1<(↑(List.length (bI x_1.2.1.2 (x_1.2.1.1.getD x_1.1.toNat 0))):Int)) then bif inB x.1 (List.length (bI x.2.1.2 (x_1.2.1.1.getD x_1.1.toNat 0))) then bif Nat.ble (Nat.succ x.1.toNat) (List.length (bI x.2.1.2 (x_1.2.1.1.getD x_1.1.toNat 0))) then bif inB x.1 (List.length (bI x.2.1.2 (x_1.2.1.1.getD x_1.1.toNat 0))) then bif Nat.ble (Nat.succ x.1.toNat) (List.length (bI x.2.1.2 (x_1.2.1.1.getD x_1.1.toNat 0))) then again_1 (IntKind.wrap .i64 (x.1+(1 : Int)),(x.2.1.1,x.2.1.2.set (x_1.2.1.1.getD x_1.1.toNat 0) (some (List.set (bI x.2.1.2 (x_1.2.1.1.getD x_1.1.toNat 0)) x.1.toNat (IntKind.wrap .i64 (0 - List.getD (bI x.2.1.2 (x_1.2.1.1.getD x_1.1.toNat 0)) x.1.toNat 0))))),PUnit.unit) else none else none else none else none else again (IntKind.wrap .i64 (x_1.1+1),x.2.1,PUnit.unit)) (0,x_1.2.1, PUnit.unit) else none else none else none else some (x_1.2.1,IntKind.wrap .i64 (0 - List.getD (bI x0.2 (x0.1.getD x7.toNat 0)) x8.toNat 0),v11)) v16 else some (x.2.1,List.getD (bI x0.2 (x0.1.getD x7.toNat 0)) x8.toNat 0,v11) else none else none) (0,x0, PUnit.unit) else none else none else none else none
def aL (x0:List Nat×List (Option (List Int))) (x1:Int) (x2:List Int) (x3:List Int) (x4:List Int) (x5:Int) (x6:Int) (x7:Int) (x8:Int):Option ((List Nat×List (Option (List Int)))×Int×(List Int)×(List Int)×(List Int)×Int×Int×Unit):=iQ lpK jnK bG bE bQ x0 x1 x2 x3 x4 x5 x6 x7 x8
abbrev J0:=(List Nat×List (Option (List Int)))->(Int)->(List Int)->(List Int)->(List Int)->(Int)->(Int)->(Int)->(Int)->Option ((List Nat×List (Option (List Int)))×Int×(List Int)×(List Int)×(List Int)×Int×Int×Unit)
def S3 (aL:J0):SCtr:=⟨[.b [.x (.tab 79 .ref 3 i64),.d i64,.row 3 i64,.row 3 i64,.row 3 i64,.d i64,.d i64],.d i64,.d i64],[],fun x=>aL x.1 x.2.1 x.2.2.1 x.2.2.2.1 x.2.2.2.2.1 x.2.2.2.2.2.1 x.2.2.2.2.2.2.1 x.2.2.2.2.2.2.2.1 x.2.2.2.2.2.2.2.2.1⟩
def Tk:SCtr:=S3 aL
theorem W0 (lp:Lp) (jn:Jn) (bG:LQ) (bE:Sn) (bQ:Vb):∀x:TsR (rhI 0 Tk.ks),iQ lp jn bG bE bQ x.1 x.2.1 x.2.2.1 x.2.2.2.1 x.2.2.2.2.1 x.2.2.2.2.2.1 x.2.2.2.2.2.2.1 x.2.2.2.2.2.2.2.1 x.2.2.2.2.2.2.2.2.1=NK lp jn (Dn.look []) (cx [(178,⟨[ux,i64],[],[],.one i64,fun x _ _=>bQ x.1 x.2.1⟩),(177,T1 bE),(176,Se bG)] [(32,r32),(92,r92),(112,aV)]) ai 4 149 f149 Tk x:=fun x=>by kernel_rfl
theorem Rj:Tk.ok prog 149:=SCtr.of_den (al (af (af (af (q32) (by kernel_rfl) RJ) (by kernel_rfl) Vt) (by kernel_rfl) T2)) aB (ru) (hl:=ai) (d:=4) func149 rfl (by decide) (W0 lpK jnK bG bE bQ)
def iO (_:Lp) (_:Jn) (ax:Md) (x0:Bool×Int×Int) (x1:Bool×Int×Int):Option Int :=
 
 let v4:Bool:=!decide (x0.1=x1.1);
 let v5:Bool:=!v4||v4;bif v5 then bif v5 then bif bif v4 then x0.1 else false then some (-1) else bif v4 then some 1 else bif x0.1 then ah (ax x1 x0) fun (t:Int)=>some t else ah (ax x0 x1) fun (t:Int)=>some t else none else none
def cA (x0:Bool×Int×Int) (x1:Bool×Int×Int):Option Int:=iO lpK jnK ax x0 x1
abbrev T5:=(Bool×Int×Int)->(Bool×Int×Int)->Option (Int)
def KI:Ctr:=⟨[ux,ux],[],[],.one i64,fun x _ _=>cA x.1 x.2.1⟩
theorem XX (lp:Lp) (jn:Jn) (ax:Md):∀(x:TsS KI.as) (F:TsF KI.fs) (y:TsS KI.cs),iO lp jn ax x.1 x.2.1=bg lp jn (cx [(192,Tf ax)] [(32,r32),(92,r92),(112,aV)]) ai 4 179 f179 KI x F y:=fun x F y=>by kernel_rfl
theorem UK:KI.ok prog 179:=Ctr.of_den (al (af (q32) (by kernel_rfl) Rb)) aB (hl:=ai) (d:=4) func179 rfl (by decide) (XX lpK jnK ax)
def gX (lp:Lp) (_:Jn) (bG:LQ) (cA:T5) (x0:(List (List Int))×Int×(List Int)×(List Int)×(List Int)×Int×Int) (x1:Int):Option Int :=
 lp (Int×Int×PUnit) Int (fun (again:Int×Int×PUnit->Option Int) (x:Int×Int×PUnit) =>
 let v6:Int×PUnit:=(IntKind.wrap .i64 (x.2.1+1),PUnit.unit);
 let v7:Bool:=inB x.1 x0.1.length;
 let v8:List Int:=x0.1.getD x.1.toNat [];
 let v9:List Int:=x0.1.getD x.2.1.toNat [];
 let v10:Bool:=inB x1 v9.length;bif decide (x.2.1<(↑x0.1.length:Int)) then bif inB x.2.1 x0.1.length then bif v10 then bif decide (v9.getD x1.toNat 0<=0) then again (x.1,v6) else bif decide (x.1<0) then again (x.2.1,v6) else bif inB x0.2.2.2.2.2.2 v9.length then bif v7 then bif inB x1 v8.length then ah (bG (v9.getD x0.2.2.2.2.2.2.toNat 0) (v8.getD x1.toNat 0)) fun (t:Bool × Int×Int)=>bif v7 then bif inB x0.2.2.2.2.2.2 v8.length then bif v10 then ah (bG (v8.getD x0.2.2.2.2.2.2.toNat 0) (v9.getD x1.toNat 0)) fun (t_1:Bool×Int×Int)=>ah (cA t t_1) fun (t:Int) =>
 let v14:Bool:=decide (t=0);
 let v15:Bool:=decide (t<0);
 let v16:Bool:=!v15;
 let v17:Bool:=!v16;
 let v18:Bool:=v16&&v14;
 let v19:Bool:=!v18;
 let v20:Bool:=v17||v16;
 let v21:Bool:=v19||v18;bif v20 then bif v20 then bif v21 then bif v21 then bif v21 then bif v21&&(v21&&(v19||inB x.2.1 x0.2.2.1.length)) then bif v21 then bif v21 then bif v21 then bif v21 then bif v21&&(v21&&(v19||inB x.1 x0.2.2.1.length)) then bif v21 then bif v21&&v21 then bif (v17||v20)&&(v17||(!v14 || (v17||v18))) then bif v15||v16 then bif bif v15 then true else bif v14 then decide (x0.2.2.1.getD x.2.1.toNat 0<x0.2.2.1.getD x.1.toNat 0) else false then again (x.2.1,v6) else again (x.1,v6) else none else none else none else none else none else none else none else none else none else none else none else none else none else none else none else none else none else none else none else none else none else none else none else some x.1) ((-1),0,PUnit.unit)
def aF (x0:(List (List Int))×Int×(List Int)×(List Int)×(List Int)×Int×Int) (x1:Int):Option Int:=gX lpK jnK bG cA x0 x1
abbrev LM:=((List (List Int))×Int×(List Int)×(List Int)×(List Int)×Int×Int)->(Int)->Option (Int)
def Sr (aF:LM):PCtr:=⟨Ja,[i64],.one i64,fun x y=>aF x y.1⟩
def Qs:PCtr:=Sr aF
theorem Wv (lp:Lp) (jn:Jn) (bG:LQ) (cA:T5):∀(x:Qs.s.T) (y:TsS Qs.as),gX lp jn bG cA x y.1=FO lp jn (cx [(179,⟨[ux,ux],[],[],.one i64,fun x _ _=>cA x.1 x.2.1⟩),(176,Se bG)] [(32,r32),(92,r92),(112,aV)]) ai 4 150 f150 Qs x y:=fun x y=>by kernel_rfl
theorem Q3:Qs.ok prog 150:=PCtr.of_den (al (af (af (q32) (by kernel_rfl) RJ) (by kernel_rfl) UK)) aB (hl:=ai) (d:=4) func150 rfl (by decide) (Wv lpK jnK bG cA)
def iR (lp:Lp) (_:Jn) (aL:J0) (av:Ms) (aF:LM) (x0:List Nat×List (Option (List Int))) (x1:Int) (x2:List Int) (x3:List Int) (x4:List Int) (x5:Int) (x6:Int):Option ((List Nat×List (Option (List Int)))×Int×(List Int)×(List Int)×(List Int)×Int×Int×Bool×Unit) :=
 lp ((List Nat×List (Option (List Int)))×Int×List Int×List Int×List Int×Int×Int×PUnit) ((List Nat×List (Option (List Int)))×Int×List Int×List Int×List Int×Int × Int×Bool×PUnit) (fun (again:(List Nat×List (Option (List Int)))×Int×List Int×List Int×List Int×Int×Int×PUnit->Option ((List Nat×List (Option (List Int)))×Int × List Int×List Int×List Int×Int×Int×Bool×PUnit)) (x:(List Nat×List (Option (List Int)))×Int×List Int×List Int×List Int×Int×Int×PUnit)=>lp (Int×Int × PUnit) ((List Nat×List (Option (List Int)))×Int×List Int×List Int×List Int×Int×Int×Bool×PUnit) (fun (again_1:Int×Int×PUnit->Option ((List Nat×List (Option (List Int)))×Int×List Int×List Int×List Int×Int×Int×Bool×PUnit)) (x_1:Int×Int×PUnit) =>
 let v13:Bool:=decide (x_1.1<0);
 let v14:Int×PUnit:=(IntKind.wrap .i64 (x_1.2.1+1),PUnit.unit);
 let v15:Bool:=decide (x_1.2.1<x.2.2.2.2.2.1);
 let v16:Bool:=!v15||v15;bif v16 then bif v16 then bif bif v15 then v13 else false then ah (bif List.all x.1.1 fun (x_2:Nat)=>fW x.1.2 x_2 then av (List.map (fun (x_2:Nat)=>bI x.1.2 x_2) x.1.1,x.2.1,x.2.2.1,x.2.2.2.1,x.2.2.2.2.1,x.2.2.2.2.2.1, x.2.2.2.2.2.2.1) x_1.2.1 else none) fun (t:Int)=>bif decide (t>0) then again_1 (x_1.2.1,v14) else again_1 (x_1.1,v14) else bif v13 then ah (bif List.all x.1.1 fun (x_2:Nat)=>fW x.1.2 x_2 then av (List.map (fun (x_2:Nat)=>bI x.1.2 x_2) x.1.1,x.2.1,x.2.2.1, x.2.2.2.1,x.2.2.2.2.1,x.2.2.2.2.2.1,x.2.2.2.2.2.2.1) x.2.2.2.2.2.2.1 else none) fun (t:Int)=>bif decide (t>0) then some (x.1,x.2.1,x.2.2.1,x.2.2.2.1,x.2.2.2.2.1,x.2.2.2.2.2.1,x.2.2.2.2.2.2.1,false,PUnit.unit) else lp (Int×(List Nat×List (Option (List Int)))×Int×List Int×List Int×List Int×Int×Int×PUnit) ((List Nat×List (Option (List Int)))×Int×List Int×List Int×List Int×Int×Int × Bool×PUnit) (fun (again:Int×(List Nat×List (Option (List Int)))×Int×List Int×List Int×List Int×Int×Int×PUnit->Option ((List Nat×List (Option (List Int)))×Int × List Int×List Int×List Int×Int×Int×Bool×PUnit)) (x_2:Int×(List Nat×List (Option (List Int)))×Int×List Int×List Int×List Int×Int×Int×PUnit)=>bif decide (x_2.1<(↑x.1.1.length:Int)) then lp (Int×(List Nat×List (Option (List Int)))×Int×List Int×List Int×List Int×Int×Int×PUnit) ((List Nat×List (Option (List Int)))×Int×List Int×List Int×List Int×Int×Int×Bool×PUnit) (fun (again_2:Int×(List Nat×List (Option (List Int)))×Int×List Int×List Int×List Int×Int×Int×PUnit->Option ((List Nat×List (Option (List Int)))×Int×List Int×List Int×List Int×Int×Int×Bool×PUnit)) (x:Int×(List Nat×List (Option (List Int)))×Int×List Int×List Int×List Int×Int×Int×PUnit) =>
 let v22:Int:=IntKind.wrap .i64 (x.1+1);
 let v23:Bool:=decide (x.1<x.2.2.2.2.2.2.1);
 let v24:Bool:=!v23;
 let v25:Bool:=v24||v23;
 let v26:(List Nat×List (Option (List Int)))×Int×List Int×List Int×List Int×Int×Int×PUnit:=(x.2.1,x.2.2.1,x.2.2.2.1,x.2.2.2.2.1, x.2.2.2.2.2.1,x.2.2.2.2.2.2.1,x.2.2.2.2.2.2.2.1,PUnit.unit);bif v25 then bif v25 then bif v25 then bif v25&&(v25&&(v24||inB x_2.1 x.2.2.2.1.length)) then bif v25&&(v24||Nat.ble (Nat.succ x_2.1.toNat) x.2.2.2.1.length) then bif v25 then bif v25 then bif v25 then bif v25 && v25 then bif v25 then bif bif v23 then decide (x.2.2.2.1.getD x_2.1.toNat 0>=x.2.2.2.2.2.2.1) else false then bif inB x_2.1 x.2.1.1.length then bif Nat.ble (Nat.succ x_2.1.toNat) x.2.1.1.length then bif inB x.1 (List.length (bI x.2.1.2 (x.2.1.1.getD x_2.1.toNat 0))) then bif Nat.ble (Nat.succ x.1.toNat) (List.length (bI x.2.1.2 (x.2.1.1.getD x_2.1.toNat 0))) then bif !decide (List.getD (bI x.2.1.2 (x.2.1.1.getD x_2.1.toNat 0)) x.1.toNat 0=0) then ah (aL x.2.1 x.2.2.1 x.2.2.2.1 x.2.2.2.2.1 x.2.2.2.2.2.1 x.2.2.2.2.2.2.1 x.2.2.2.2.2.2.2.1 x_2.1 x.1) fun (y:(List Nat×List (Option (List Int)))×Int×List Int×List Int×List Int×Int×Int×PUnit)=>again_2 (v22,y.1,y.2.1,y.2.2.1,y.2.2.2.1,y.2.2.2.2.1,y.2.2.2.2.2.1, y.2.2.2.2.2.2.1,PUnit.unit) else again_2 (v22,v26) else none else none else none else none else again (IntKind.wrap .i64 (x_2.1+1),v26) else none else none else none else none else none else none else none else none else none else none) (0,x_2.2.1,x_2.2.2.1,x_2.2.2.2.1,x_2.2.2.2.2.1, x_2.2.2.2.2.2.1,x_2.2.2.2.2.2.2.1,x_2.2.2.2.2.2.2.2.1,PUnit.unit) else some (x_2.2.1,x_2.2.2.1,x_2.2.2.2.1, x_2.2.2.2.2.1,x_2.2.2.2.2.2.1,x_2.2.2.2.2.2.2.1,x_2.2.2.2.2.2.2.2.1,true,PUnit.unit)) (0,x.1,x.2.1, x.2.2.1,x.2.2.2.1,x.2.2.2.2.1,x.2.2.2.2.2.1,x.2.2.2.2.2.2.1,PUnit.unit) else ah (bif List.all x.1.1 fun (x_2:Nat) => fW x.1.2 x_2 then aF (List.map (fun (x_2:Nat)=>bI x.1.2 x_2) x.1.1,x.2.1,x.2.2.1,x.2.2.2.1,x.2.2.2.2.1, x.2.2.2.2.2.1,x.2.2.2.2.2.2.1) x_1.1 else none) fun (t:Int)=>ah (aL x.1 x.2.1 x.2.2.1 x.2.2.2.1 x.2.2.2.2.1 x.2.2.2.2.2.1 x.2.2.2.2.2.2.1 t x_1.1) fun (y:(List Nat×List (Option (List Int)))×Int×List Int×List Int×List Int×Int × Int×PUnit)=>again (y.1,y.2.1,y.2.2.1,y.2.2.2.1,y.2.2.2.2.1,y.2.2.2.2.2.1,y.2.2.2.2.2.2.1,PUnit.unit) else none else none) ((-1),0,PUnit.unit)) (x0,x1,x2,x3,x4,x5,x6,PUnit.unit)
def aU (x0:List Nat×List (Option (List Int))) (x1:Int) (x2:List Int) (x3:List Int) (x4:List Int) (x5:Int) (x6:Int):Option ((List Nat×List (Option (List Int)))×Int×(List Int)×(List Int)×(List Int)×Int×Int×Bool×Unit):=iR lpK jnK aL av aF x0 x1 x2 x3 x4 x5 x6
abbrev Jq:=(List Nat×List (Option (List Int)))->(Int)->(List Int)->(List Int)->(List Int)->(Int)->(Int)->Option ((List Nat×List (Option (List Int)))×Int×(List Int)×(List Int)×(List Int)×Int×Int×Bool×Unit)
def R6 (aU:Jq):SCtr:=⟨[.b [.x (.tab 79 .ref 3 i64),.d i64,.row 3 i64,.row 3 i64,.row 3 i64,.d i64,.d i64]],[(false,[.d .bool])],fun x=>aU x.1 x.2.1 x.2.2.1 x.2.2.2.1 x.2.2.2.2.1 x.2.2.2.2.2.1 x.2.2.2.2.2.2.1⟩
def Tj:SCtr:=R6 aU
theorem XW (lp:Lp) (jn:Jn) (aL:J0) (av:Ms) (aF:LM):∀x:TsR (rhI 0 Tj.ks),iR lp jn aL av aF x.1 x.2.1 x.2.2.1 x.2.2.2.1 x.2.2.2.2.1 x.2.2.2.2.2.1 x.2.2.2.2.2.2.1=NK lp jn (Dn.look [(149,S3 aL)]) (xr yU yX (Fs [(150,Sr aF),(106,RV av)] [] (jD prog shs tQ its [] [(32,r32),(92,r92),(112,aV)]))) ai 4 102 f102 Tj x:=fun x=>by kernel_rfl
theorem Rq:Tj.ok prog 102:=SCtr.of_den (al (sL (q32) (jk (by kernel_rfl) Q3 (jk (by kernel_rfl) RI (ov))) (oA))) aB (oJ Rj (ru)) (hl:=ai) (d:=4) func102 rfl (by decide) (XW lpK jnK aL av aF)
def iZ (_:Lp) (_:Jn) (x0:(List (List Int))×Int×(List Int)×(List Int)×(List Int)×Int×Int) (x1:Int):Option Int :=
 bif decide (x1<(↑x0.2.2.2.2.1.length:Int)) then bif inB x1 x0.2.2.2.2.1.length then some (x0.2.2.2.2.1.getD x1.toNat 0) else none else some 0
def aN (x0:(List (List Int))×Int×(List Int)×(List Int)×(List Int)×Int×Int) (x1:Int):Option Int:=iZ lpK jnK x0 x1
abbrev L6:=((List (List Int))×Int×(List Int)×(List Int)×(List Int)×Int×Int)->(Int)->Option (Int)
def Sd (aN:L6):PCtr:=⟨Ja,[i64],.one i64,fun x y=>aN x y.1⟩
def QE:PCtr:=Sd aN
theorem WL (lp:Lp) (jn:Jn):∀(x:QE.s.T) (y:TsS QE.as),iZ lp jn x y.1=FO lp jn (cx [] [(32,r32),(92,r92),(112,aV)]) ai 4 104 f104 QE x y:=fun x y=>by kernel_rfl
theorem Rv:QE.ok prog 104:=PCtr.of_den (al (q32)) aB (hl:=ai) (d:=4) func104 rfl (by decide) (WL lpK jnK)
def gZ (lp:Lp) (_:Jn) (aN:L6) (x0:(List (List Int))×Int×(List Int)×(List Int)×(List Int)×Int×Int) (x1:Int):Option Int :=
 ah (aN x0 x1) fun (t:Int)=>lp (Int×Int×PUnit) Int (fun (again:Int×Int×PUnit->Option Int) (x:Int×Int×PUnit) =>
 let v7:List Int:=x0.1.getD x.2.1.toNat [];bif decide (x.2.1<(↑x0.1.length:Int)) then bif inB x.2.1 x0.1.length then bif inB x.2.1 x0.2.2.1.length then ah (aN x0 (x0.2.2.1.getD x.2.1.toNat 0)) fun (t:Int)=>bif inB x1 v7.length then again (IntKind.wrap .i64 (x.1 - IntKind.wrap .i64 (t*v7.getD x1.toNat 0)),IntKind.wrap .i64 (x.2.1+1),PUnit.unit) else none else none else none else some x.1) (IntKind.wrap .i64 (t*x0.2.1),0,PUnit.unit)
def bK (x0:(List (List Int))×Int×(List Int)×(List Int)×(List Int)×Int×Int) (x1:Int):Option Int:=gZ lpK jnK aN x0 x1
abbrev Vl:=((List (List Int))×Int×(List Int)×(List Int)×(List Int)×Int×Int)->(Int)->Option (Int)
def QH:PCtr:=⟨Ja,[i64],.one i64,fun x y=>bK x y.1⟩
theorem Xy (lp:Lp) (jn:Jn) (aN:L6):∀(x:QH.s.T) (y:TsS QH.as),gZ lp jn aN x y.1=FO lp jn (xr yU yX (Fs [(104,Sd aN)] [] (jD prog shs tQ its [] [(32,r32),(92,r92),(112,aV)]))) ai 4 151 f151 QH x y:=fun x y=>by kernel_rfl
theorem TF:QH.ok prog 151:=PCtr.of_den (al (sL (q32) (jk (by kernel_rfl) Rv (ov)) (oA))) aB (hl:=ai) (d:=4) func151 rfl (by decide) (Xy lpK jnK aN)
def g9 (lp:Lp) (_:Jn) (aL:J0) (aF:LM) (bK:Vl) (x0:List Nat×List (Option (List Int))) (x1:Int) (x2:List Int) (x3:List Int) (x4:List Int) (x5:Int) (x6:Int):Option ((List Nat×List (Option (List Int)))×Int×(List Int)×(List Int)×(List Int)×Int×Int×Bool×Unit) :=
 lp ((List Nat×List (Option (List Int)))×Int×List Int×List Int×List Int×Int×Int×PUnit) ((List Nat×List (Option (List Int)))×Int×List Int×List Int×List Int×Int × Int×Bool×PUnit) (fun (again:(List Nat×List (Option (List Int)))×Int×List Int×List Int×List Int×Int×Int×PUnit->Option ((List Nat×List (Option (List Int)))×Int × List Int×List Int×List Int×Int×Int×Bool×PUnit)) (x:(List Nat×List (Option (List Int)))×Int×List Int×List Int×List Int×Int×Int×PUnit)=>lp (Int×Int × PUnit) ((List Nat×List (Option (List Int)))×Int×List Int×List Int×List Int×Int×Int×Bool×PUnit) (fun (again_1:Int×Int×PUnit->Option ((List Nat×List (Option (List Int)))×Int×List Int×List Int×List Int×Int×Int×Bool×PUnit)) (x_1:Int×Int×PUnit) =>
 let v13:Bool:=decide (x_1.1<0);
 let v14:Int×PUnit:=(IntKind.wrap .i64 (x_1.2.1+1),PUnit.unit);
 let v15:Bool:=decide (x_1.2.1<x.2.2.2.2.2.1);
 let v16:Bool:=!v15||v15;bif v16 then bif v16 then bif bif v15 then v13 else false then ah (bif List.all x.1.1 fun (x_2:Nat)=>fW x.1.2 x_2 then bK (List.map (fun (x_2:Nat)=>bI x.1.2 x_2) x.1.1,x.2.1,x.2.2.1,x.2.2.2.1,x.2.2.2.2.1,x.2.2.2.2.2.1, x.2.2.2.2.2.2.1) x_1.2.1 else none) fun (t:Int)=>bif decide (t<0) then again_1 (x_1.2.1,v14) else again_1 (x_1.1,v14) else bif v13 then some (x.1,x.2.1,x.2.2.1,x.2.2.2.1,x.2.2.2.2.1,x.2.2.2.2.2.1,x.2.2.2.2.2.2.1,true,PUnit.unit) else ah (bif List.all x.1.1 fun (x_2:Nat)=>fW x.1.2 x_2 then aF (List.map (fun (x_2:Nat)=>bI x.1.2 x_2) x.1.1,x.2.1,x.2.2.1,x.2.2.2.1, x.2.2.2.2.1,x.2.2.2.2.2.1,x.2.2.2.2.2.2.1) x_1.1 else none) fun (t:Int)=>bif decide (t<0) then some (x.1,x.2.1, x.2.2.1,x.2.2.2.1,x.2.2.2.2.1,x.2.2.2.2.2.1,x.2.2.2.2.2.2.1,false,PUnit.unit) else ah (aL x.1 x.2.1 x.2.2.1 x.2.2.2.1 x.2.2.2.2.1 x.2.2.2.2.2.1 x.2.2.2.2.2.2.1 t x_1.1) fun (y:(List Nat×List (Option (List Int)))×Int×List Int × List Int×List Int×Int×Int×PUnit)=>again (y.1,y.2.1,y.2.2.1,y.2.2.2.1,y.2.2.2.2.1,y.2.2.2.2.2.1,y.2.2.2.2.2.2.1, PUnit.unit) else none else none) ((-1),0,PUnit.unit)) (x0,x1,x2,x3,x4,x5,x6,PUnit.unit)
def bD (x0:List Nat×List (Option (List Int))) (x1:Int) (x2:List Int) (x3:List Int) (x4:List Int) (x5:Int) (x6:Int):Option ((List Nat×List (Option (List Int)))×Int×(List Int)×(List Int)×(List Int)×Int×Int×Bool×Unit):=g9 lpK jnK aL aF bK x0 x1 x2 x3 x4 x5 x6
abbrev Tg:=(List Nat×List (Option (List Int)))->(Int)->(List Int)->(List Int)->(List Int)->(Int)->(Int)->Option ((List Nat×List (Option (List Int)))×Int×(List Int)×(List Int)×(List Int)×Int×Int×Bool×Unit)
def Vo (bD:Tg):SCtr:=⟨[.b [.x (.tab 79 .ref 3 i64),.d i64,.row 3 i64,.row 3 i64,.row 3 i64,.d i64,.d i64]],[(false,[.d .bool])],fun x=>bD x.1 x.2.1 x.2.2.1 x.2.2.2.1 x.2.2.2.2.1 x.2.2.2.2.2.1 x.2.2.2.2.2.2.1⟩
def Sv:SCtr:=Vo bD
theorem Xn (lp:Lp) (jn:Jn) (aL:J0) (aF:LM) (bK:Vl):∀x:TsR (rhI 0 Sv.ks),g9 lp jn aL aF bK x.1 x.2.1 x.2.2.1 x.2.2.2.1 x.2.2.2.2.1 x.2.2.2.2.2.1 x.2.2.2.2.2.2.1=NK lp jn (Dn.look [(149,S3 aL)]) (xr yU yX (Fs [(151,⟨Ja,[i64],.one i64,fun x y=>bK x y.1⟩),(150,Sr aF)] [] (jD prog shs tQ its [] [(32,r32),(92,r92),(112,aV)]))) ai 4 103 f103 Sv x:=fun x=>by kernel_rfl
theorem VH:Sv.ok prog 103:=SCtr.of_den (al (sL (q32) (jk (by kernel_rfl) TF (jk (by kernel_rfl) Q3 (ov))) (oA))) aB (oJ Rj (ru)) (hl:=ai) (d:=4) func103 rfl (by decide) (Xn lpK jnK aL aF bK)
def nv (_:Lp) (_:Jn) (x0:Bool) (x1:Int) (x2:Int):Option ((Int×Int)×Int×Unit) :=
 
 let v5:Int:=IntKind.wrap .i64 x1;
 let v6:Int:=IntKind.wrap .i64 x2;
 let v7:Bool:=decide (x1>1152921504606846976);
 let v8:Bool:=!v7;bif !v8||v8 then bif v7||v8 then bif bif v7 then true else decide (x2>1152921504606846976) then some ((0,0),5,PUnit.unit) else bif x0 then some ((IntKind.wrap .i64 (0 - v5),v6),0,PUnit.unit) else some ((v5,v6),0,PUnit.unit) else none else none
def bh (x0:Bool) (x1:Int) (x2:Int):Option ((Int×Int)×Int×Unit):=nv lpK jnK x0 x1 x2
abbrev t62:=(Bool)->(Int)->(Int)->Option ((Int×Int)×Int×Unit)
def k62 (bh:t62):Ctr:=⟨[.bool,(.int .u64),(.int .u64)],[],[],.tup [T47,i64],fun x _ _=>bh x.1 x.2.1 x.2.2.1⟩
def c62:Ctr:=k62 bh
theorem e62 (lp:Lp) (jn:Jn):∀(x:TsS c62.as) (F:TsF c62.fs) (y:TsS c62.cs),nv lp jn x.1 x.2.1 x.2.2.1=bg lp jn (cx [] [(32,r32),(92,r92),(112,aV)]) ai 4 62 f62 c62 x F y:=fun x F y=>by kernel_rfl
theorem Si:c62.ok prog 62:=Ctr.of_den (al (q32)) aB (hl:=ai) (d:=4) func62 rfl (by decide) (e62 lpK jnK)
def pf (_:Lp) (_:Jn) (bw:t59) (aG:t60) (bh:t62) (x0:Int) (x1:Int):Option ((Int×Int)×Int×Unit) :=
 
 let v4:Bool:=!decide (x0=0);
 let v5:Bool:=!v4||v4;bif decide (x1=0) then some ((0,0),16,PUnit.unit) else ah (aG x0) fun (t:Int)=>ah (aG x1) fun (t_1:Int)=>ah (bw t t_1) fun (t_2:Int) =>
 let v9:Bool:=nzB t_2;bif v5 then bif v5 then bif v5&&v5 then bif v5 then bif v9 then bif v9 then ah (bh (bif v4 then !decide (decide (x0<0)=decide (x1<(0 : Int))) else false) (IntKind.wrap .u64 (Int.tdiv t t_2)) (IntKind.wrap .u64 (Int.tdiv t_1 t_2))) fun (t:(Int×Int)×Int×PUnit)=>some (t.1,t.2.1, PUnit.unit) else none else none else none else none else none else none
def fN (x0:Int) (x1:Int):Option ((Int×Int)×Int×Unit):=pf lpK jnK bw aG bh x0 x1
abbrev Ts:=(Int)->(Int)->Option ((Int×Int)×Int×Unit)
def Um (fN:Ts):Ctr:=⟨[i64,i64],[],[],.tup [T47,i64],fun x _ _=>fN x.1 x.2.1⟩
def MP:Ctr:=Um fN
theorem WO (lp:Lp) (jn:Jn) (bw:t59) (aG:t60) (bh:t62):∀(x:TsS MP.as) (F:TsF MP.fs) (y:TsS MP.cs),pf lp jn bw aG bh x.1 x.2.1=bg lp jn (cx [(62,k62 bh),(60,k60 aG),(59,k59 bw)] [(32,r32),(92,r92),(112,aV)]) ai 4 114 f114 MP x F y:=fun x F y=>by kernel_rfl
theorem Uz:MP.ok prog 114:=Ctr.of_den (al (af (af (af (q32) (by kernel_rfl) Qn) (by kernel_rfl) Jm) (by kernel_rfl) Si)) aB (hl:=ai) (d:=4) func114 rfl (by decide) (WO lpK jnK bw aG bh)
def i8 (_:Lp) (_:Jn) (fN:Ts) (x0:(List (List Int))×Int×(List Int)×(List Int)×(List Int)×Int×Int) (x1:Int):Option (Int×Int) :=
 ah (fN x1 x0.2.1) fun (t:(Int×Int)×Int×PUnit)=>some t.1
def aM (x0:(List (List Int))×Int×(List Int)×(List Int)×(List Int)×Int×Int) (x1:Int):Option (Int×Int):=i8 lpK jnK fN x0 x1
abbrev LO:=((List (List Int))×Int×(List Int)×(List Int)×(List Int)×Int×Int)->(Int)->Option (Int×Int)
def SF (aM:LO):PCtr:=⟨Ja,[i64],.one T47,fun x y=>aM x y.1⟩
def Qf:PCtr:=SF aM
theorem V9 (lp:Lp) (jn:Jn) (fN:Ts):∀(x:Qf.s.T) (y:TsS Qf.as),i8 lp jn fN x y.1=FO lp jn (cx [(114,Um fN)] [(32,r32),(92,r92),(112,aV)]) ai 4 105 f105 Qf x y:=fun x y=>by kernel_rfl
theorem RB:Qf.ok prog 105:=PCtr.of_den (al (af (q32) (by kernel_rfl) Uz)) aB (hl:=ai) (d:=4) func105 rfl (by decide) (V9 lpK jnK fN)
def jH (lp:Lp) (jn:Jn) (bf:t99) (cg:LL) (bi:NX) (aU:Jq) (bD:Tg) (aN:L6) (aM:LO) (x0:(List Int)×List ((List Int)×Int×Int)):Option (((Int×Int)×(List (Int×Int))×List (Int×Int))×Int×Unit) :=
 ah (bf x0) fun (t:Bool)=>bif !t then some (((0,0),[],[]),1,PUnit.unit) else ah (cg x0) fun (t:Bool)=>bif !t then some ((((0 : Int),0),[],[]),5,PUnit.unit) else lp (Int×Int×PUnit) (((Int×Int)×List (Int×Int)×List (Int×Int))×Int×PUnit) (fun (again:Int×Int×PUnit -> Option (((Int×Int)×List (Int×Int)×List (Int×Int))×Int×PUnit)) (x:Int×Int×PUnit) =>
 let v7:Int×PUnit:=(IntKind.wrap .i64 (x.2.1+1),PUnit.unit);
 let v8:Int:=IntKind.wrap .i64 ((↑x0.1.length:Int)+x.1);bif decide (x.2.1<(↑x0.2.length:Int)) then bif inB x.2.1 x0.2.length then bif !decide ((x0.2.getD x.2.1.toNat ([],0,0)).2.1=3) then again (IntKind.wrap .i64 (x.1+1),v7) else again (x.1, v7) else none else ah (bi x0.1) fun (t:List Int)=>lp (Int×Int×(List Nat×List (Option (List Int)))×Int×List Int×List Int×List Int×Int×Int × PUnit) (((Int×Int)×List (Int×Int)×List (Int×Int))×Int×PUnit) (fun (again:Int×Int×(List Nat×List (Option (List Int)))×Int×List Int×List Int×List Int×Int × Int×PUnit->Option (((Int×Int)×List (Int×Int)×List (Int×Int))×Int×PUnit)) (x:Int×Int×(List Nat×List (Option (List Int)))×Int×List Int×List Int×List Int × Int×Int×PUnit) =>
 let v12:Int:=IntKind.wrap .i64 (x.1+1);
 let v13:List Int×Int×Int:=x0.2.getD x.2.1.toNat ([],0,0);
 let v14:List Int:=List.replicate (Int.toNat (IntKind.wrap .i64 (x.2.2.2.2.2.2.2.2.1+1))) 0;
 let v15:Bool:=inB x.1 (Int.toNat (IntKind.wrap .i64 (x.2.2.2.2.2.2.2.2.1+1)));
 let v16:Bool:=Nat.ble (Nat.succ x.1.toNat) (Int.toNat (IntKind.wrap .i64 (x.2.2.2.2.2.2.2.2.1+1)));
 let v17:Int:=IntKind.wrap .i64 (x.2.2.2.2.2.2.2.1+x.2.1);
 let v18:List Int:=List.take (Int.toNat (IntKind.wrap .i64 (x.2.2.2.2.2.2.2.2.1+1))) v13.1;
 let v19:List Int:=List.set (List.take 0 v14++v18++List.drop (0+List.length v18) v14) x.2.2.2.2.2.2.2.2.1.toNat v13.2.2;bif decide (x.2.1<(↑x0.2.length:Int)) then bif inB x.2.1 x0.2.length then bif decide (0<=IntKind.wrap .i64 (x.2.2.2.2.2.2.2.2.1+(1 : Int)))&&eC (Int.toNat (IntKind.wrap .i64 (x.2.2.2.2.2.2.2.2.1+1))) 8 then bif inB x.2.2.2.2.2.2.2.2.1 (Int.toNat (IntKind.wrap .i64 (x.2.2.2.2.2.2.2.2.1+1))) then bif Nat.ble (Nat.succ x.2.2.2.2.2.2.2.2.1.toNat) (Int.toNat (IntKind.wrap IntKind.i64 (x.2.2.2.2.2.2.2.2.1+1))) then jn (Int×List Int×PUnit) (((Int×Int)×List (Int×Int)×List (Int×Int))×Int×PUnit) (fun (x_1:Int × List Int×PUnit) =>
 let v21:List Int×PUnit:=(x_1.2.1,PUnit.unit);jn (Int×List Int×PUnit) (((Int×Int)×List (Int×Int)×List (Int×Int))×Int×PUnit) (fun (x_2:Int×List Int × PUnit)=>bif inB v17 x_2.2.1.length then bif Nat.ble (Nat.succ v17.toNat) x_2.2.1.length then bif eC (List.length x.2.2.1.1+1) (24 : Nat) then bif eC (List.length x.2.2.2.2.2.1+1) 8 then bif eC (List.length x.2.2.2.2.1+1) 8 then again (x_1.1, IntKind.wrap .i64 (x.2.1+1),(x.2.2.1.1++[List.length x.2.2.1.2+0],x.2.2.1.2++[some (x_2.2.1.set v17.toNat (1 : Int))]),x.2.2.2.1,x.2.2.2.2.1++[v17],x.2.2.2.2.2.1++[x_2.1],x.2.2.2.2.2.2.1,x.2.2.2.2.2.2.2.1, x.2.2.2.2.2.2.2.2.1,PUnit.unit) else none else none else none else none else none) fun (j:Int×List Int×PUnit->Option (((Int×Int)×List (Int×Int)×List (Int×Int))×Int×PUnit))=>bif decide (v13.2.2<0) then lp (Int×List Int×PUnit) (((Int×Int)×List (Int×Int)×List (Int×Int))×Int×PUnit) (fun (again : Int×List Int×PUnit->Option (((Int×Int)×List (Int×Int)×List (Int×Int))×Int×PUnit)) (x:Int×List Int×PUnit) =>
 let v25:Bool:=inB x.1 x.2.1.length;
 let v26:Bool:=Nat.ble (Nat.succ x.1.toNat) x.2.1.length;bif decide (x.1<(↑x_1.2.1.length:Int)) then bif v25 then bif v26 then bif v25 then bif v26 then again (IntKind.wrap .i64 (x.1+1),x.2.1.set x.1.toNat (IntKind.wrap .i64 (0 - x.2.1.getD x.1.toNat 0)), PUnit.unit) else none else none else none else none else j ((-1),x.2.1,PUnit.unit)) (0,v21) else j (1,v21)) fun (j:Int×List Int×PUnit->Option (((Int × Int)×List (Int×Int)×List (Int×Int))×Int×PUnit))=>bif decide (v13.2.1=1) then bif v15 then bif v16 then j (v12,v19.set x.1.toNat 1, PUnit.unit) else none else none else jn (Int×List Int×PUnit) (((Int×Int)×List (Int×Int)×List (Int×Int))×Int×PUnit) (fun (x:Int×List Int×PUnit)=>j (x.1, x.2.1,PUnit.unit)) fun (j:Int×List Int×PUnit->Option (((Int×Int)×List (Int×Int)×List (Int×Int))×Int×PUnit))=>bif decide (v13.2.1=2) then bif v15 then bif v16 then j (v12,v19.set x.1.toNat (-1),PUnit.unit) else none else none else j (x.1,v19,PUnit.unit) else none else none else none else none else ah (aU x.2.2.1 x.2.2.2.1 x.2.2.2.2.1 x.2.2.2.2.2.1 x.2.2.2.2.2.2.1 x.2.2.2.2.2.2.2.1 x.2.2.2.2.2.2.2.2.1) fun (y:(List Nat×List (Option (List Int)))×Int×List Int×List Int×List Int×Int×Int×Bool×PUnit)=>bif !y.2.2.2.2.2.2.2.1 then some (((0,0),[],[]),22,PUnit.unit) else ah (bD y.1 y.2.1 y.2.2.1 y.2.2.2.1 y.2.2.2.2.1 y.2.2.2.2.2.1 y.2.2.2.2.2.2.1) fun (y:(List Nat×List (Option (List Int)))×Int×List Int×List Int×List Int×Int×Int×Bool × PUnit)=>bif !y.2.2.2.2.2.2.2.1 then some (((0,0),[],[]),21,PUnit.unit) else bif decide (0<=(↑x0.1.length:Int))&&eC (Int.toNat (↑x0.1.length:Int)) 8 then lp (Int×Int×List Int×PUnit) (((Int×Int)×List (Int×Int)×List (Int×Int))×Int×PUnit) (fun (again:Int×Int × List Int×PUnit->Option (((Int×Int)×List (Int×Int)×List (Int×Int))×Int×PUnit)) (x:Int×Int×List Int×PUnit) =>
 let v24:Int:=IntKind.wrap .i64 (x.2.1+1);
 let v25:Bool:=inB x.2.1 y.1.1.length;
 let v26:Bool:=Nat.ble (Nat.succ x.2.1.toNat) y.1.1.length;
 let v27:Int:=y.2.2.1.getD x.2.1.toNat 0;bif decide (x.2.1<(↑y.2.2.1.length:Int)) then bif inB x.2.1 y.2.2.1.length then bif Nat.ble (Nat.succ x.2.1.toNat) y.2.2.1.length then ah (bif List.all y.1.1 fun (x:Nat)=>fW y.1.2 x then aN (List.map (fun (x:Nat)=>bI y.1.2 x) y.1.1,y.2.1,y.2.2.1,y.2.2.2.1,y.2.2.2.2.1,y.2.2.2.2.2.1,y.2.2.2.2.2.2.1) v27 else none) fun (t:Int)=>bif v25 then bif v26 then bif inB y.2.2.2.2.2.2.1 (List.length (bI y.1.2 (y.1.1.getD x.2.1.toNat 0))) then bif Nat.ble (Nat.succ y.2.2.2.2.2.2.1.toNat) (List.length (bI y.1.2 (y.1.1.getD x.2.1.toNat 0))) then bif decide (v27<(↑x.2.2.1.length:Int)) then bif v25 then bif v26 then bif inB y.2.2.2.2.2.2.1 (List.length (bI y.1.2 (y.1.1.getD x.2.1.toNat 0))) then bif Nat.ble (Nat.succ y.2.2.2.2.2.2.1.toNat) (List.length (bI y.1.2 (y.1.1.getD x.2.1.toNat 0))) then bif inB v27 x.2.2.1.length then bif Nat.ble (Nat.succ v27.toNat) x.2.2.1.length then again (IntKind.wrap .i64 (x.1+IntKind.wrap .i64 (t*List.getD (bI y.1.2 (y.1.1.getD x.2.1.toNat 0)) y.2.2.2.2.2.2.1.toNat 0)),v24,x.2.2.1.set v27.toNat (List.getD (bI y.1.2 (y.1.1.getD x.2.1.toNat 0)) y.2.2.2.2.2.2.1.toNat 0),PUnit.unit) else none else none else none else none else none else none else again (IntKind.wrap .i64 (x.1+IntKind.wrap .i64 (t*List.getD (bI y.1.2 (y.1.1.getD x.2.1.toNat 0)) y.2.2.2.2.2.2.1.toNat 0)),v24,x.2.2.1,PUnit.unit) else none else none else none else none else none else none else ah (bif List.all y.1.1 fun (x:Nat) =>fW y.1.2 x then aM (List.map (fun (x:Nat)=>bI y.1.2 x) y.1.1,y.2.1,y.2.2.1,y.2.2.2.1,y.2.2.2.2.1, y.2.2.2.2.2.1,y.2.2.2.2.2.2.1) x.1 else none) fun (t:Int×Int)=>lp (Int×(Int×Int)×List (Int×Int)×List (Int×Int)×PUnit) (((Int×Int) × List (Int×Int)×List (Int×Int))×Int×PUnit) (fun (again:Int×(Int×Int)×List (Int×Int)×List (Int×Int)×PUnit->Option (((Int×Int)×List (Int×Int)×List (Int × Int))×Int×PUnit)) (x_1:Int×(Int×Int)×List (Int×Int)×List (Int×Int)×PUnit) =>
 let v31:List (Int×Int)×PUnit:=(x_1.2.2.2.1,PUnit.unit);bif decide (x_1.1<(↑x.2.2.1.length:Int)) then bif inB x_1.1 x.2.2.1.length then bif Nat.ble (Nat.succ x_1.1.toNat) x.2.2.1.length then ah (bif List.all y.1.1 fun (x:Nat)=>fW y.1.2 x then aM (List.map (fun (x : Nat)=>bI y.1.2 x) y.1.1,y.2.1,y.2.2.1,y.2.2.2.1,y.2.2.2.2.1,y.2.2.2.2.2.1,y.2.2.2.2.2.2.1) (x.2.2.1.getD x_1.1.toNat 0) else none) fun (t:Int×Int)=>bif eC (List.length x_1.2.2.1+1) 16 then again (IntKind.wrap .i64 (x_1.1+1),x_1.2.1,x_1.2.2.1++[t],v31) else none else none else none else lp (Int×(Int×Int)×List (Int×Int)×List (Int×Int)×PUnit) (((Int×Int) × List (Int×Int)×List (Int×Int))×Int×PUnit) (fun (again:Int×(Int×Int)×List (Int×Int)×List (Int×Int)×PUnit->Option (((Int×Int)×List (Int×Int)×List (Int × Int))×Int×PUnit)) (x:Int×(Int×Int)×List (Int×Int)×List (Int×Int)×PUnit) =>
 let v34:Int:=IntKind.wrap .i64 (y.2.2.2.2.2.1+x.1);bif decide (x.1<(↑x0.2.length:Int)) then lp (Int×Int×PUnit) (((Int×Int)×List (Int × Int)×List (Int×Int))×Int×PUnit) (fun (again_1:Int×Int×PUnit->Option (((Int×Int)×List (Int×Int)×List (Int×Int))×Int×PUnit)) (x_2:Int×Int×PUnit)=>bif decide (x_2.2.1<(↑y.2.2.1.length:Int)) then bif inB x_2.2.1 y.2.2.1.length then bif Nat.ble (Nat.succ x_2.2.1.toNat) y.2.2.1.length then ah (bif List.all y.1.1 fun (x:Nat)=>fW y.1.2 x then aN (List.map (fun (x:Nat)=>bI y.1.2 x) y.1.1,y.2.1, y.2.2.1,y.2.2.2.1,y.2.2.2.2.1,y.2.2.2.2.2.1,y.2.2.2.2.2.2.1) (y.2.2.1.getD x_2.2.1.toNat 0) else none) fun (t:Int)=>bif inB x_2.2.1 y.1.1.length then bif Nat.ble (Nat.succ x_2.2.1.toNat) y.1.1.length then bif inB v34 (List.length (bI y.1.2 (y.1.1.getD x_2.2.1.toNat 0))) then bif Nat.ble (Nat.succ v34.toNat) (List.length (bI y.1.2 (y.1.1.getD x_2.2.1.toNat (0 : Nat)))) then again_1 (IntKind.wrap .i64 (x_2.1+IntKind.wrap .i64 (t*List.getD (bI y.1.2 (y.1.1.getD x_2.2.1.toNat 0)) v34.toNat 0)),IntKind.wrap .i64 (x_2.2.1+1),PUnit.unit) else none else none else none else none else none else none else bif inB x.1 y.2.2.2.1.length then bif Nat.ble (Nat.succ x.1.toNat) y.2.2.2.1.length then ah (bif List.all y.1.1 fun (x:Nat)=>fW y.1.2 x then aM (List.map (fun (x:Nat)=>bI y.1.2 x) y.1.1,y.2.1,y.2.2.1,y.2.2.2.1,y.2.2.2.2.1,y.2.2.2.2.2.1, y.2.2.2.2.2.2.1) (IntKind.wrap .i64 (y.2.2.2.1.getD x.1.toNat 0*x_2.1)) else none) fun (t:Int×Int)=>bif eC (List.length x.2.2.2.1+1) 16 then again (IntKind.wrap .i64 (x.1+1),x.2.1,x.2.2.1,x.2.2.2.1++[t],PUnit.unit) else none else none else none) (0,0,PUnit.unit) else some ((x.2.1,x.2.2.1,x.2.2.2.1),0,PUnit.unit)) (0,x_1.2.1,x_1.2.2.1,v31)) ((0 : Int),t,[],[],PUnit.unit)) (0,0,List.replicate (Int.toNat (↑x0.1.length:Int)) 0,PUnit.unit) else none) ((↑x0.1.length:Int),(0 : Int),([],[]),1,[],[],t,v8,IntKind.wrap .i64 (v8+(↑x0.2.length:Int)),PUnit.unit)) (0,0,PUnit.unit)
def cU (x0:(List Int)×List ((List Int)×Int×Int)):Option (((Int×Int)×(List (Int×Int))×List (Int×Int))×Int×Unit):=jH lpK jnK bf cg bi aU bD aN aM x0
abbrev t56:=((List Int)×List ((List Int)×Int×Int))->Option (((Int×Int)×(List (Int×Int))×List (Int×Int))×Int×Unit)
def c56:Ctr:=⟨[T82],[],[],.tup [T94,i64],fun x _ _=>cU x.1⟩
theorem e56 (lp:Lp) (jn:Jn) (bf:t99) (cg:LL) (bi:NX) (aU:Jq) (bD:Tg) (aN:L6) (aM:LO):∀(x:TsS c56.as) (F:TsF c56.fs) (y:TsS c56.cs),jH lp jn bf cg bi aU bD aN aM x.1=KT lp jn (Dn.look [(103,Vo bD),(102,R6 aU)]) (xr yU yX (Fs [(105,SF aM),(104,Sd aN)] [] (jD prog shs tQ its [(100,SB cg),(99,k99 bf)] [(32,r32),(92,r92),(112,RN bi)]))) ai 4 56 f56 c56 x F y:=fun x F y=>by kernel_rfl
theorem Wo:c56.ok prog 56:=Ctr.of_denS (al (sL (af (af (q32) (by kernel_rfl) R7) (by kernel_rfl) Q4) (jk (by kernel_rfl) RB (jk (by kernel_rfl) Rv (ov))) (oA))) aB (oJ VH (oJ Rq (ru))) (hl:=ai) (d:=4) func56 rfl (by decide) (e56 lpK jnK bf cg bi aU bD aN aM)
set_option maxRecDepth 100000
def mA (_:Lp) (_:Jn) (aZ:t55) (cU:t56) (x0:(List (ByteArray×Int))×List (ByteArray×(List (ByteArray×Int×Int×Int))×Bool)):Option ((List (Int×Int))×Int×Unit) :=
 ah (aZ x0) fun (t:(List Int×List (List Int×Int×Int))×Int×PUnit)=>bif !decide (t.2.1=0) then some ([],t.2.1,PUnit.unit) else ah (cU t.1) fun (t:((Int×Int)×List (Int×Int)×List (Int×Int))×Int×PUnit)=>bif !decide (t.2.1=0) then some ([],t.2.1,PUnit.unit) else some (t.1.2.1,0,PUnit.unit)
def cB (x0:(List (ByteArray×Int))×List (ByteArray×(List (ByteArray×Int×Int×Int))×Bool)):Option ((List (Int×Int))×Int×Unit):=mA lpK jnK aZ cU x0
abbrev t20:=((List (ByteArray×Int))×List (ByteArray×(List (ByteArray×Int×Int×Int))×Bool))->Option ((List (Int×Int))×Int×Unit)
def k20 (cB:t20):Ctr:=⟨[T25],[],[],.tup [(.sl T47),i64],fun x _ _=>cB x.1⟩
def c20:Ctr:=k20 cB
theorem e20 (lp:Lp) (jn:Jn) (aZ:t55) (cU:t56):∀(x:TsS c20.as) (F:TsF c20.fs) (y:TsS c20.cs),mA lp jn aZ cU x.1=bg lp jn (cx [(56,⟨[T82],[],[],.tup [T94,i64],fun x _ _=>cU x.1⟩),(55,k55 aZ)] [(32,r32),(92,r92),(112,aV)]) ai 4 20 f20 c20 x F y:=fun x F y=>by kernel_rfl
theorem Wk:c20.ok prog 20:=Ctr.of_den (al (af (af (q32) (by kernel_rfl) SS) (by kernel_rfl) Wo)) aB (hl:=ai) (d:=4) func20 rfl (by decide) (e20 lpK jnK aZ cU)
def hH (lp:Lp) (jn:Jn) (bf:t99) (cg:LL) (bi:NX) (aU:Jq) (av:Ms) (aM:LO) (x0:(List Int)×List ((List Int)×Int×Int)):Option ((List (Int×Int))×Int×Unit) :=
 ah (bf x0) fun (t:Bool)=>bif !t then some ([],1,PUnit.unit) else ah (cg x0) fun (t:Bool)=>bif !t then some ([],5,PUnit.unit) else lp (Int×Int×PUnit) (List (Int×Int)×Int×PUnit) (fun (again:Int×Int×PUnit->Option (List (Int×Int)×Int×PUnit)) (x:Int×Int×PUnit) =>
 let v7:Int×PUnit:=(IntKind.wrap .i64 (x.2.1+1),PUnit.unit);
 let v8:Int:=IntKind.wrap .i64 ((↑x0.1.length:Int)+x.1);bif decide (x.2.1<(↑x0.2.length:Int)) then bif inB x.2.1 x0.2.length then bif !decide ((x0.2.getD x.2.1.toNat ([],0,0)).2.1=3) then again (IntKind.wrap .i64 (x.1+1),v7) else again (x.1, v7) else none else ah (bi x0.1) fun (t:List Int)=>lp (Int×Int×(List Nat×List (Option (List Int)))×Int×List Int×List Int×List Int×Int×Int × PUnit) (List (Int×Int)×Int×PUnit) (fun (again:Int×Int×(List Nat×List (Option (List Int)))×Int×List Int×List Int×List Int×Int×Int×PUnit->Option (List (Int × Int)×Int×PUnit)) (x:Int×Int×(List Nat×List (Option (List Int)))×Int×List Int×List Int×List Int×Int×Int×PUnit) =>
 let v12:Int:=IntKind.wrap .i64 (x.1+1);
 let v13:List Int×Int×Int:=x0.2.getD x.2.1.toNat ([],0,0);
 let v14:List Int:=List.replicate (Int.toNat (IntKind.wrap .i64 (x.2.2.2.2.2.2.2.2.1+1))) 0;
 let v15:Bool:=inB x.1 (Int.toNat (IntKind.wrap .i64 (x.2.2.2.2.2.2.2.2.1+1)));
 let v16:Bool:=Nat.ble (Nat.succ x.1.toNat) (Int.toNat (IntKind.wrap .i64 (x.2.2.2.2.2.2.2.2.1+1)));
 let v17:Int:=IntKind.wrap .i64 (x.2.2.2.2.2.2.2.1+x.2.1);
 let v18:List Int:=List.take (Int.toNat (IntKind.wrap .i64 (x.2.2.2.2.2.2.2.2.1+1))) v13.1;
 let v19:List Int:=List.set (List.take 0 v14++v18++List.drop (0+List.length v18) v14) x.2.2.2.2.2.2.2.2.1.toNat v13.2.2;bif decide (x.2.1<(↑x0.2.length:Int)) then bif inB x.2.1 x0.2.length then bif decide (0<=IntKind.wrap .i64 (x.2.2.2.2.2.2.2.2.1+(1 : Int)))&&eC (Int.toNat (IntKind.wrap .i64 (x.2.2.2.2.2.2.2.2.1+1))) 8 then bif inB x.2.2.2.2.2.2.2.2.1 (Int.toNat (IntKind.wrap .i64 (x.2.2.2.2.2.2.2.2.1+1))) then bif Nat.ble (Nat.succ x.2.2.2.2.2.2.2.2.1.toNat) (Int.toNat (IntKind.wrap IntKind.i64 (x.2.2.2.2.2.2.2.2.1+1))) then jn (Int×List Int×PUnit) (List (Int×Int)×Int×PUnit) (fun (x_1:Int×List Int×PUnit) =>
 let v21:List Int×PUnit:=(x_1.2.1,PUnit.unit);jn (Int×List Int×PUnit) (List (Int×Int)×Int×PUnit) (fun (x_2:Int×List Int×PUnit)=>bif inB v17 x_2.2.1.length then bif Nat.ble (Nat.succ v17.toNat) x_2.2.1.length then bif eC (List.length x.2.2.1.1+1) 24 then bif eC (List.length x.2.2.2.2.2.1+1) 8 then bif eC (List.length x.2.2.2.2.1+1) 8 then again (x_1.1,IntKind.wrap .i64 (x.2.1+(1 : Int)),(x.2.2.1.1++[List.length x.2.2.1.2+0],x.2.2.1.2++[some (x_2.2.1.set v17.toNat 1)]),x.2.2.2.1, x.2.2.2.2.1++[v17],x.2.2.2.2.2.1++[x_2.1],x.2.2.2.2.2.2.1,x.2.2.2.2.2.2.2.1,x.2.2.2.2.2.2.2.2.1, PUnit.unit) else none else none else none else none else none) fun (j:Int×List Int×PUnit->Option (List (Int×Int)×Int×PUnit))=>bif decide (v13.2.2<0) then lp (Int×List Int×PUnit) (List (Int×Int)×Int×PUnit) (fun (again:Int×List Int×PUnit->Option (List (Int×Int)×Int×PUnit)) (x:Int×List Int×PUnit) =>
 let v25:Bool:=inB x.1 x.2.1.length;
 let v26:Bool:=Nat.ble (Nat.succ x.1.toNat) x.2.1.length;bif decide (x.1<(↑x_1.2.1.length:Int)) then bif v25 then bif v26 then bif v25 then bif v26 then again (IntKind.wrap .i64 (x.1+1),x.2.1.set x.1.toNat (IntKind.wrap .i64 (0 - x.2.1.getD x.1.toNat 0)), PUnit.unit) else none else none else none else none else j ((-1),x.2.1,PUnit.unit)) (0,v21) else j (1,v21)) fun (j:Int×List Int×PUnit->Option (List (Int×Int)×Int×PUnit))=>bif decide (v13.2.1=1) then bif v15 then bif v16 then j (v12,v19.set x.1.toNat 1,PUnit.unit) else none else none else jn (Int×List Int×PUnit) (List (Int×Int)×Int×PUnit) (fun (x:Int×List Int×PUnit)=>j (x.1,x.2.1,PUnit.unit)) fun (j:Int×List Int×PUnit->Option (List (Int × Int)×Int×PUnit))=>bif decide (v13.2.1=2) then bif v15 then bif v16 then j (v12,v19.set x.1.toNat (-1),PUnit.unit) else none else none else j (x.1,v19,PUnit.unit) else none else none else none else none else ah (aU x.2.2.1 x.2.2.2.1 x.2.2.2.2.1 x.2.2.2.2.2.1 x.2.2.2.2.2.2.1 x.2.2.2.2.2.2.2.1 x.2.2.2.2.2.2.2.2.1) fun (y:(List Nat×List (Option (List Int)))×Int×List Int×List Int×List Int×Int×Int×Bool×PUnit)=>bif y.2.2.2.2.2.2.2.1 then some ([],12,PUnit.unit) else lp (List (Int×Int)×Int×PUnit) (List (Int×Int)×Int×PUnit) (fun (again:List (Int×Int)×Int×PUnit->Option (List (Int×Int)×Int×PUnit)) (x:List (Int×Int)×Int×PUnit)=>bif decide (x.2.1<(↑x0.2.length:Int)) then bif inB x.2.1 y.2.2.2.1.length then bif Nat.ble (Nat.succ x.2.1.toNat) y.2.2.2.1.length then ah (bif List.all y.1.1 fun (x:Nat) =>fW y.1.2 x then av (List.map (fun (x:Nat)=>bI y.1.2 x) y.1.1,y.2.1,y.2.2.1,y.2.2.2.1,y.2.2.2.2.1, y.2.2.2.2.2.1,y.2.2.2.2.2.2.1) (IntKind.wrap .i64 (y.2.2.2.2.2.1+x.2.1)) else none) fun (t:Int)=>ah (bif List.all y.1.1 fun (x:Nat)=>fW y.1.2 x then aM (List.map (fun (x:Nat)=>bI y.1.2 x) y.1.1,y.2.1,y.2.2.1,y.2.2.2.1,y.2.2.2.2.1, y.2.2.2.2.2.1,y.2.2.2.2.2.2.1) (IntKind.wrap .i64 (y.2.2.2.1.getD x.2.1.toNat 0*t)) else none) fun (t:Int×Int) => bif eC (List.length x.1+1) 16 then again (x.1++[t],IntKind.wrap .i64 (x.2.1+1),PUnit.unit) else none else none else none else some (x.1,0,PUnit.unit)) ([],0,PUnit.unit)) ((↑x0.1.length:Int),0,([],[]),1,[],[],t,v8,IntKind.wrap .i64 (v8+(↑x0.2.length:Int)),PUnit.unit)) (0,0,PUnit.unit)
def cd (x0:(List Int)×List ((List Int)×Int×Int)):Option ((List (Int×Int))×Int×Unit):=hH lpK jnK bf cg bi aU av aM x0
abbrev t57:=((List Int)×List ((List Int)×Int×Int))->Option ((List (Int×Int))×Int×Unit)
def c57:Ctr:=⟨[T82],[],[],.tup [(.sl T47),i64],fun x _ _=>cd x.1⟩
theorem e57 (lp:Lp) (jn:Jn) (bf:t99) (cg:LL) (bi:NX) (aU:Jq) (av:Ms) (aM:LO):∀(x:TsS c57.as) (F:TsF c57.fs) (y:TsS c57.cs),hH lp jn bf cg bi aU av aM x.1=KT lp jn (Dn.look [(102,R6 aU)]) (xr yU yX (Fs [(105,SF aM),(106,RV av)] [] (jD prog shs tQ its [(100,SB cg),(99,k99 bf)] [(32,r32),(92,r92),(112,RN bi)]))) ai 4 57 f57 c57 x F y:=fun x F y=>by kernel_rfl
theorem XY:c57.ok prog 57:=Ctr.of_denS (al (sL (af (af (q32) (by kernel_rfl) R7) (by kernel_rfl) Q4) (jk (by kernel_rfl) RB (jk (by kernel_rfl) RI (ov))) (oA))) aB (oJ Rq (ru)) (hl:=ai) (d:=4) func57 rfl (by decide) (e57 lpK jnK bf cg bi aU av aM)
def nq (_:Lp) (_:Jn) (aZ:t55) (cd:t57) (x0:(List (ByteArray×Int))×List (ByteArray×(List (ByteArray×Int×Int×Int))×Bool)):Option ((List (Int×Int))×Int×Unit) :=
 ah (aZ x0) fun (t:(List Int×List (List Int×Int×Int))×Int×PUnit)=>bif !decide (t.2.1=0) then some ([],t.2.1,PUnit.unit) else ah (cd t.1) fun (t:List (Int×Int)×Int×PUnit)=>some (t.1,t.2.1,PUnit.unit)
def bW (x0:(List (ByteArray×Int))×List (ByteArray×(List (ByteArray×Int×Int×Int))×Bool)):Option ((List (Int×Int))×Int×Unit):=nq lpK jnK aZ cd x0
abbrev t21:=((List (ByteArray×Int))×List (ByteArray×(List (ByteArray×Int×Int×Int))×Bool))->Option ((List (Int×Int))×Int×Unit)
def k21 (bW:t21):Ctr:=⟨[T25],[],[],.tup [(.sl T47),i64],fun x _ _=>bW x.1⟩
def c21:Ctr:=k21 bW
theorem e21 (lp:Lp) (jn:Jn) (aZ:t55) (cd:t57):∀(x:TsS c21.as) (F:TsF c21.fs) (y:TsS c21.cs),nq lp jn aZ cd x.1=bg lp jn (cx [(57,⟨[T82],[],[],.tup [(.sl T47),i64],fun x _ _=>cd x.1⟩),(55,k55 aZ)] [(32,r32),(92,r92),(112,aV)]) ai 4 21 f21 c21 x F y:=fun x F y=>by kernel_rfl
theorem Yd:c21.ok prog 21:=Ctr.of_den (al (af (af (q32) (by kernel_rfl) SS) (by kernel_rfl) XY)) aB (hl:=ai) (d:=4) func21 rfl (by decide) (e21 lpK jnK aZ cd)
def jF (_:Lp) (_:Jn) (cB:t20) (bW:t21) (x0:(List (ByteArray×Int))×List (ByteArray×(List (ByteArray×Int×Int×Int))×Bool)):Option (((List (Int×Int))×Bool×List (Int×Int))×Int×Unit) :=
 ah (cB x0) fun (t:List (Int×Int)×Int×PUnit)=>bif decide (t.2.1=0) then some ((t.1,false,[]),0,PUnit.unit) else bif decide (t.2.1=(22 : Int)) then ah (bW x0) fun (t:List (Int×Int)×Int×PUnit)=>bif !decide (t.2.1=0) then some (([],false,[]),t.2.1,PUnit.unit) else some (([], true,t.1),0,PUnit.unit) else some (([],false,[]),t.2.1,PUnit.unit)
def aY (x0:(List (ByteArray×Int))×List (ByteArray×(List (ByteArray×Int×Int×Int))×Bool)):Option (((List (Int×Int))×Bool×List (Int×Int))×Int×Unit):=jF lpK jnK cB bW x0
abbrev t13:=((List (ByteArray×Int))×List (ByteArray×(List (ByteArray×Int×Int×Int))×Bool))->Option (((List (Int×Int))×Bool×List (Int×Int))×Int×Unit)
def k13 (aY:t13):Ctr:=⟨[T25],[],[],.tup [T30,i64],fun x _ _=>aY x.1⟩
def c13:Ctr:=k13 aY
theorem e13 (lp:Lp) (jn:Jn) (cB:t20) (bW:t21):∀(x:TsS c13.as) (F:TsF c13.fs) (y:TsS c13.cs),jF lp jn cB bW x.1=bg lp jn (cx [(21,k21 bW),(20,k20 cB)] [(32,r32),(92,r92),(112,aV)]) ai 4 13 f13 c13 x F y:=fun x F y=>by kernel_rfl
theorem Uk:c13.ok prog 13:=Ctr.of_den (al (af (af (q32) (by kernel_rfl) Wk) (by kernel_rfl) Yd)) aB (hl:=ai) (d:=4) func13 rfl (by decide) (e13 lpK jnK cB bW)
def kn (lp:Lp) (_:Jn) (x0:List (Int×Int)) (x1:List (Int×Int)):Option Bool :=
 bif !decide ((↑x0.length:Int)=(↑x1.length:Int)) then some false else lp (Int×PUnit) Bool (fun (again:Int×PUnit->Option Bool) (x:Int×PUnit)=>bif decide (x.1<(↑x0.length:Int)) then bif inB x.1 x0.length then bif inB x.1 x1.length then bif !(decide ((x0.getD x.1.toNat (0,(0 : Int))).1=(x1.getD x.1.toNat (0,0)).1)&&(decide ((x0.getD x.1.toNat (0,0)).2=(x1.getD x.1.toNat ((0 : Int),0)).2)&&true)) then some false else again (IntKind.wrap .i64 (x.1+1),PUnit.unit) else none else none else some true) (0,PUnit.unit)
def cE (x0:List (Int×Int)) (x1:List (Int×Int)):Option Bool:=kn lpK jnK x0 x1
abbrev t36:=(List (Int×Int))->(List (Int×Int))->Option (Bool)
def k36 (cE:t36):Ctr:=⟨[(.sl T47),(.sl T47)],[],[],.one .bool,fun x _ _=>cE x.1 x.2.1⟩
def c36:Ctr:=k36 cE
theorem e36 (lp:Lp) (jn:Jn):∀(x:TsS c36.as) (F:TsF c36.fs) (y:TsS c36.cs),kn lp jn x.1 x.2.1=bg lp jn (cx [] [(32,r32),(92,r92),(112,aV)]) ai 4 36 f36 c36 x F y:=fun x F y=>by kernel_rfl
theorem VZ:c36.ok prog 36:=Ctr.of_den (al (q32)) aB (hl:=ai) (d:=4) func36 rfl (by decide) (e36 lpK jnK)
def ny (_:Lp) (_:Jn) (cE:t36) (x0:(List (Int×Int))×Bool×List (Int×Int)) (x1:(List (Int×Int))×Bool×List (Int×Int)):Option Bool :=
 
 let v4:Bool:=decide (x0.2.1=x1.2.1);
 let v5:Bool:=!v4||v4;bif v5 then bif v5 then bif v5&&v5 then ah (bif v4 then cE x0.1 x1.1 else some false) fun (t:Bool) =>
 let v7:Bool:=bif v4 then t else false;
 let v8:Bool:=!v7||v7;bif v5 then bif v8 then bif v8 then bif v8&&v8 then ah (bif v7 then cE x0.2.2 x1.2.2 else some false) fun (t:Bool)=>bif v8 then some (bif v7 then t else false) else none else none else none else none else none else none else none else none
def be (x0:(List (Int×Int))×Bool×List (Int×Int)) (x1:(List (Int×Int))×Bool×List (Int×Int)):Option Bool:=ny lpK jnK cE x0 x1
abbrev t15:=((List (Int×Int))×Bool×List (Int×Int))->((List (Int×Int))×Bool×List (Int×Int))->Option (Bool)
def k15 (be:t15):Ctr:=⟨[T30,T30],[],[],.one .bool,fun x _ _=>be x.1 x.2.1⟩
def c15:Ctr:=k15 be
theorem e15 (lp:Lp) (jn:Jn) (cE:t36):∀(x:TsS c15.as) (F:TsF c15.fs) (y:TsS c15.cs),ny lp jn cE x.1 x.2.1=bg lp jn (cx [(36,k36 cE)] [(32,r32),(92,r92),(112,aV)]) ai 4 15 f15 c15 x F y:=fun x F y=>by kernel_rfl
theorem Uo:c15.ok prog 15:=Ctr.of_den (al (af (q32) (by kernel_rfl) VZ)) aB (hl:=ai) (d:=4) func15 rfl (by decide) (e15 lpK jnK cE)
def gl (lp:Lp) (_:Jn) (x0:List (Int×Int)) (f0:(((Int×Int)×Unit)->Option Bool)):Option Int :=
 lp (Int×PUnit) Int (fun (again:Int×PUnit->Option Int) (x:Int×PUnit)=>bif decide (x.1<(↑x0.length:Int)) then bif inB x.1 x0.length then ah (f0 (x0.getD x.1.toNat (0,0),PUnit.unit)) fun (t:Bool)=>bif t then some x.1 else again (IntKind.wrap .i64 (x.1+1),PUnit.unit) else none else some (-1)) (0,PUnit.unit)
def bA (x0:List (Int×Int)) (f0:(((Int×Int)×Unit)->Option Bool)):Option Int:=gl lpK jnK x0 f0
abbrev t75:=(List (Int×Int))->((((Int×Int)×Unit)->Option Bool))->Option (Int)
def k75 (bA:t75):Ctr:=⟨[(.sl T47)],[([T47],.bool)],[],.one i64,fun x F _=>bA x.1 F.1⟩
def c75:Ctr:=k75 bA
theorem e75 (lp:Lp) (jn:Jn):∀(x:TsS c75.as) (F:TsF c75.fs) (y:TsS c75.cs),gl lp jn x.1 F.1=bg lp jn (cx [] [(32,r32),(92,r92),(112,aV)]) ai 4 75 f75 c75 x F y:=fun x F y=>by kernel_rfl
theorem V3:c75.ok prog 75:=Ctr.of_den (al (q32)) aB (hl:=ai) (d:=4) func75 rfl (by decide) (e75 lpK jnK)
def fx (_:Lp) (_:Jn) (bA:t75) (x0:List (Int×Int)) (f0:(((Int×Int)×Unit)->Option Bool)):Option Bool :=
 ah (bA x0 f0) fun (t:Int)=>some (decide (t>=0))
def aj (x0:List (Int×Int)) (f0:(((Int×Int)×Unit)->Option Bool)):Option Bool:=fx lpK jnK bA x0 f0
abbrev t34:=(List (Int×Int))->((((Int×Int)×Unit)->Option Bool))->Option (Bool)
def k34 (aj:t34):Ctr:=⟨[(.sl T47)],[([T47],.bool)],[],.one .bool,fun x F _=>aj x.1 F.1⟩
def c34:Ctr:=k34 aj
theorem e34 (lp:Lp) (jn:Jn) (bA:t75):∀(x:TsS c34.as) (F:TsF c34.fs) (y:TsS c34.cs),fx lp jn bA x.1 F.1=bg lp jn (cx [(75,k75 bA)] [(32,r32),(92,r92),(112,aV)]) ai 4 34 f34 c34 x F y:=fun x F y=>by kernel_rfl
theorem Nv:c34.ok prog 34:=Ctr.of_den (al (af (q32) (by kernel_rfl) V3)) aB (hl:=ai) (d:=4) func34 rfl (by decide) (e34 lpK jnK bA)
def qo (_:Lp) (_:Jn) (x0:(List (Int×Int))×Bool×List (Int×Int)):Option ((List (Int×Int))×(List (Int×Int))×Unit) :=
 bif x0.2.1 then some (x0.2.2,x0.1,PUnit.unit) else some (x0.1,x0.2.2,PUnit.unit)
def cm (x0:(List (Int×Int))×Bool×List (Int×Int)):Option ((List (Int×Int))×(List (Int×Int))×Unit):=qo lpK jnK x0
abbrev t49:=((List (Int×Int))×Bool×List (Int×Int))->Option ((List (Int×Int))×(List (Int×Int))×Unit)
def k49 (cm:t49):Ctr:=⟨[T30],[],[],.tup [(.sl T47),(.sl T47)],fun x _ _=>cm x.1⟩
def c49:Ctr:=k49 cm
theorem e49 (lp:Lp) (jn:Jn):∀(x:TsS c49.as) (F:TsF c49.fs) (y:TsS c49.cs),qo lp jn x.1=bg lp jn (cx [] [(32,r32),(92,r92),(112,aV)]) ai 4 49 f49 c49 x F y:=fun x F y=>by kernel_rfl
theorem Uw:c49.ok prog 49:=Ctr.of_den (al (q32)) aB (hl:=ai) (d:=4) func49 rfl (by decide) (e49 lpK jnK)
def nC (_:Lp) (_:Jn) (ap:t58) (x0:Int×Int):Option Bool :=
 ah (ap x0) fun (t:Bool)=>some !t
def fj (x0:Int×Int):Option Bool:=nC lpK jnK ap x0
abbrev t93:=(Int×Int)->Option (Bool)
def c93:Ctr:=⟨[T47],[],[],.one .bool,fun x _ _=>fj x.1⟩
theorem e93 (lp:Lp) (jn:Jn) (ap:t58):∀(x:TsS c93.as) (F:TsF c93.fs) (y:TsS c93.cs),nC lp jn ap x.1=bg lp jn (cx [(58,k58 ap)] [(32,r32),(92,r92),(112,aV)]) ai 4 93 f93 c93 x F y:=fun x F y=>by kernel_rfl
theorem WN:c93.ok prog 93:=Ctr.of_den (al (af (q32) (by kernel_rfl) DX)) aB (hl:=ai) (d:=4) func93 rfl (by decide) (e93 lpK jnK ap)
def qj (_:Lp) (_:Jn) (aj:t34) (fj:t93) (eI:t92) (x0:(List (Int×Int))×Bool×List (Int×Int)):Option Bool :=
 ah (eI [x0.1,x0.2.2]) fun (t:List (Int×Int))=>ah (aj t fun (x:(Int×Int)×PUnit)=>fj x.1) fun (t:Bool)=>some !t
def cj (x0:(List (Int×Int))×Bool×List (Int×Int)):Option Bool:=qj lpK jnK aj fj eI x0
abbrev t51:=((List (Int×Int))×Bool×List (Int×Int))->Option (Bool)
def k51 (cj:t51):Ctr:=⟨[T30],[],[],.one .bool,fun x _ _=>cj x.1⟩
def c51:Ctr:=k51 cj
theorem e51 (lp:Lp) (jn:Jn) (aj:t34) (fj:t93) (eI:t92):∀(x:TsS c51.as) (F:TsF c51.fs) (y:TsS c51.cs),qj lp jn aj fj eI x.1=bg lp jn (cx [(93,⟨[T47],[],[],.one .bool,fun x _ _=>fj x.1⟩),(34,k34 aj)] [(32,r32),(92,⟨[(.sl (.sl T47))],47,T47,fun x=>eI x.1⟩),(112,aV)]) ai 4 51 f51 c51 x F y:=fun x F y=>by kernel_rfl
theorem VC:c51.ok prog 51:=Ctr.of_den (al (af (af (q32) (by kernel_rfl) Nv) (by kernel_rfl) WN)) aB (hl:=ai) (d:=4) func51 rfl (by decide) (e51 lpK jnK aj fj eI)
def kx (_:Lp) (_:Jn) (ap:t58) (x0:Int×Int):Option Bool :=
 ah (ap x0) fun (t:Bool)=>some !t
def dC (x0:Int×Int):Option Bool:=kx lpK jnK ap x0
abbrev U0:=(Int×Int)->Option (Bool)
def Kf:Ctr:=⟨[T47],[],[],.one .bool,fun x _ _=>dC x.1⟩
theorem WI (lp:Lp) (jn:Jn) (ap:t58):∀(x:TsS Kf.as) (F:TsF Kf.fs) (y:TsS Kf.cs),kx lp jn ap x.1=bg lp jn (cx [(58,k58 ap)] [(32,r32),(92,r92),(112,aV)]) ai 4 168 f168 Kf x F y:=fun x F y=>by kernel_rfl
theorem UQ:Kf.ok prog 168:=Ctr.of_den (al (af (q32) (by kernel_rfl) DX)) aB (hl:=ai) (d:=4) func168 rfl (by decide) (WI lpK jnK ap)
def l5 (_:Lp) (_:Jn) (aj:t34) (dC:U0) (x0:List (Int×Int)):Option Bool :=
 ah (aj x0 fun (x:(Int×Int)×PUnit)=>dC x.1) fun (t:Bool)=>some !t
def eQ (x0:List (Int×Int)):Option Bool:=l5 lpK jnK aj dC x0
abbrev UH:=(List (Int×Int))->Option (Bool)
def MH:Ctr:=⟨[(.sl T47)],[],[],.one .bool,fun x _ _=>eQ x.1⟩
theorem Xc (lp:Lp) (jn:Jn) (aj:t34) (dC:U0):∀(x:TsS MH.as) (F:TsF MH.fs) (y:TsS MH.cs),l5 lp jn aj dC x.1=bg lp jn (cx [(168,⟨[T47],[],[],.one .bool,fun x _ _=>dC x.1⟩),(34,k34 aj)] [(32,r32),(92,r92),(112,aV)]) ai 4 130 f130 MH x F y:=fun x F y=>by kernel_rfl
theorem Vn:MH.ok prog 130:=Ctr.of_den (al (af (af (q32) (by kernel_rfl) Nv) (by kernel_rfl) UQ)) aB (hl:=ai) (d:=4) func130 rfl (by decide) (Xc lpK jnK aj dC)
def mc (_:Lp) (_:Jn) (bU:E6) (x0:Int) (x1:Int):Option (Int×Int) :=
 ah (bU x0 x1) fun (t:Int×Int×PUnit)=>some (t.1,t.2.1)
def aO (x0:Int) (x1:Int):Option (Int×Int):=mc lpK jnK bU x0 x1
abbrev t61:=(Int)->(Int)->Option (Int×Int)
def k61 (aO:t61):Ctr:=⟨[(.int .u64),(.int .u64)],[],[],.one oc,fun x _ _=>aO x.1 x.2.1⟩
def c61:Ctr:=k61 aO
theorem e61 (lp:Lp) (jn:Jn) (bU:E6):∀(x:TsS c61.as) (F:TsF c61.fs) (y:TsS c61.cs),mc lp jn bU x.1 x.2.1=bg lp jn (cx [(107,Qg bU)] [(32,r32),(92,r92),(112,aV)]) ai 4 61 f61 c61 x F y:=fun x F y=>by kernel_rfl
theorem Sa:c61.ok prog 61:=Ctr.of_den (al (af (q32) (by kernel_rfl) N1)) aB (hl:=ai) (d:=4) func61 rfl (by decide) (e61 lpK jnK bU)
def q6 (_:Lp) (_:Jn) (bw:t59) (aG:t60) (ap:t58) (bh:t62) (aO:t61) (x0:Int×Int) (x1:Int×Int):Option ((Int×Int)×Int×Unit) :=
 
 let v4:Int:=IntKind.wrap .u64 x1.2;
 let v5:Int:=IntKind.wrap .u64 x0.2;ah (ap x0) fun (t:Bool) =>
 let v7:Bool:=!t;
 let v8:Bool:=!v7;
 let v9:Bool:=!v8||v8;bif v9 then ah (bif v8 then ap x1 else some false) fun (t:Bool)=>bif v9 then bif v7||v8 then bif bif v7 then true else !t then some (((0 : Int),0),1,PUnit.unit) else ah (aG x0.1) fun (t:Int)=>ah (bw t v4) fun (t:Int) =>
 let v13:Bool:=nzB t;ah (aG x1.1) fun (t_1:Int)=>ah (bw t_1 v5) fun (t_2:Int) =>
 let v16:Bool:=nzB t_2;ah (aG x0.1) fun (t_3:Int)=>bif v13 then ah (aG x1.1) fun (t_4:Int)=>bif v16 then ah (aO (IntKind.wrap IntKind.u64 (Int.tdiv t_3 t)) (IntKind.wrap .u64 (Int.tdiv t_4 t_2))) fun (t_5:Int×Int) =>
 let v20:Bool:=decide (t_5.1>0);
 let v21:Bool:=decide (t_5.2>0);
 let v22:Bool:=!v20;
 let v23:Bool:=!v21||v21;
 let v24:Bool:=!v22||v22;bif v16 then bif v13 then ah (aO (IntKind.wrap .u64 (Int.tdiv v5 t_2)) (IntKind.wrap .u64 (Int.tdiv v4 t))) fun (t:Int×Int) =>bif v24 then bif v24 then bif v20||v22 then bif bif v20 then true else decide (t.1>0) then some ((0,0),5,PUnit.unit) else bif v23 then bif v23 then bif v23 then bif v23 then bif v23&&v23 then bif v23 then ah (bh (bif v21 then !decide (decide (x0.1<0)=decide (x1.1<0)) else false) t_5.2 t.2) fun (t:(Int×Int)×Int×PUnit)=>some (t.1,t.2.1,PUnit.unit) else none else none else none else none else none else none else none else none else none else none else none else none else none else none else none else none
def cC (x0:Int×Int) (x1:Int×Int):Option ((Int×Int)×Int×Unit):=q6 lpK jnK bw aG ap bh aO x0 x1
abbrev t23:=(Int×Int)->(Int×Int)->Option ((Int×Int)×Int×Unit)
def k23 (cC:t23):Ctr:=⟨[T47,T47],[],[],.tup [T47,i64],fun x _ _=>cC x.1 x.2.1⟩
def c23:Ctr:=k23 cC
theorem e23 (lp:Lp) (jn:Jn) (bw:t59) (aG:t60) (ap:t58) (bh:t62) (aO:t61):∀(x:TsS c23.as) (F:TsF c23.fs) (y:TsS c23.cs),q6 lp jn bw aG ap bh aO x.1 x.2.1=bg lp jn (cx [(61,k61 aO),(62,k62 bh),(58,k58 ap),(60,k60 aG),(59,k59 bw)] [(32,r32),(92,r92),(112,aV)]) ai 4 23 f23 c23 x F y:=fun x F y=>by kernel_rfl
theorem VL:c23.ok prog 23:=Ctr.of_den (al (af (af (af (af (af (q32) (by kernel_rfl) Qn) (by kernel_rfl) Jm) (by kernel_rfl) DX) (by kernel_rfl) Si) (by kernel_rfl) Sa)) aB (hl:=ai) (d:=4) func23 rfl (by decide) (e23 lpK jnK bw aG ap bh aO)
def mw (_:Lp) (_:Jn) (x0:Int×Int) (x1:Int×Int):Option (Int×Int) :=
 bif decide ((0:Int)<=0)&&decide ((0:Int)<=1) then bif decide (0<=qt x0.2 x1.2 0)&&decide (qt x0.2 x1.2 0<=1) then some (yV x0.1 x1.1 (qt x0.2 x1.2 0),yV x0.2 x1.2 0) else none else none
def gj (x0:Int×Int) (x1:Int×Int):Option (Int×Int):=mw lpK jnK x0 x1
abbrev Vv:=(Int×Int)->(Int×Int)->Option (Int×Int)
def Ll:Ctr:=⟨[oc,oc],[],[],.one oc,fun x _ _=>gj x.1 x.2.1⟩
theorem XZ (lp:Lp) (jn:Jn):∀(x:TsS Ll.as) (F:TsF Ll.fs) (y:TsS Ll.cs),mw lp jn x.1 x.2.1=bg lp jn (cx [] [(32,r32),(92,r92),(112,aV)]) ai 4 188 f188 Ll x F y:=fun x F y=>by kernel_rfl
theorem Uy:Ll.ok prog 188:=Ctr.of_den (al (q32)) aB (hl:=ai) (d:=4) func188 rfl (by decide) (XZ lpK jnK)
def p9 (_:Lp) (_:Jn) (x0:Int×Int) (x1:Int×Int):Option Bool :=
 
 let v4:Bool:=decide (x0.1=x1.1);
 let v5:Bool:=decide (x0.1<x1.1);
 let v6:Bool:=!v5;
 let v7:Bool:=!v6;
 let v8:Bool:=v6&&v4;
 let v9:Bool:=v7||v6;
 let v10:Bool:=!v8||v8;bif v9 then bif v9 then bif v9&&v9 then bif v9 then bif v10 then bif v10 then bif v10&&v10 then bif (v7||v9)&&(v7||(!v4||(v7||v8))) then bif v5 || v6 then some (bif v5 then true else bif v4 then decide (x0.2<x1.2) else false) else none else none else none else none else none else none else none else none else none
def cS (x0:Int×Int) (x1:Int×Int):Option Bool:=p9 lpK jnK x0 x1
abbrev KS:=(Int×Int)->(Int×Int)->Option (Bool)
def SE (cS:KS):Ctr:=⟨[oc,oc],[],[],.one .bool,fun x _ _=>cS x.1 x.2.1⟩
def LB:Ctr:=SE cS
theorem Xt (lp:Lp) (jn:Jn):∀(x:TsS LB.as) (F:TsF LB.fs) (y:TsS LB.cs),p9 lp jn x.1 x.2.1=bg lp jn (cx [] [(32,r32),(92,r92),(112,aV)]) ai 4 189 f189 LB x F y:=fun x F y=>by kernel_rfl
theorem Q7:LB.ok prog 189:=Ctr.of_den (al (q32)) aB (hl:=ai) (d:=4) func189 rfl (by decide) (Xt lpK jnK)
def ls (_:Lp) (_:Jn) (x0:Int×Int) (x1:Int×Int):Option (Int×Int) :=
 bif decide ((0:Int)<=0)&&decide ((0:Int)<=1) then bif decide (0<=oG x0.2 x1.2 0)&&decide (oG x0.2 x1.2 0<=1) then some (vA x0.1 x1.1 (oG x0.2 x1.2 0),vA x0.2 x1.2 0) else none else none
def ff (x0:Int×Int) (x1:Int×Int):Option (Int×Int):=ls lpK jnK x0 x1
abbrev UD:=(Int×Int)->(Int×Int)->Option (Int×Int)
def JO:Ctr:=⟨[oc,oc],[],[],.one oc,fun x _ _=>ff x.1 x.2.1⟩
theorem XT (lp:Lp) (jn:Jn):∀(x:TsS JO.as) (F:TsF JO.fs) (y:TsS JO.cs),ls lp jn x.1 x.2.1=bg lp jn (cx [] [(32,r32),(92,r92),(112,aV)]) ai 4 190 f190 JO x F y:=fun x F y=>by kernel_rfl
theorem T6:JO.ok prog 190:=Ctr.of_den (al (q32)) aB (hl:=ai) (d:=4) func190 rfl (by decide) (XT lpK jnK)
def pk (_:Lp) (_:Jn) (cX:JR) (x0:Int×Int) (x1:Int):Option ((Int×Int)×Int×Unit) :=
 
 let v4:Bool:=nzB x1;bif v4 then ah (cX (Int.tmod x0.1 x1) x0.2 x1) fun (t:Int×Int×PUnit)=>bif v4 then some ((IntKind.wrap .u64 (Int.tdiv x0.1 x1), t.1),t.2.1,PUnit.unit) else none else none
def eD (x0:Int×Int) (x1:Int):Option ((Int×Int)×Int×Unit):=pk lpK jnK cX x0 x1
abbrev SL:=(Int×Int)->(Int)->Option ((Int×Int)×Int×Unit)
def TT (eD:SL):Ctr:=⟨[oc,(.int .u64)],[],[],.tup [oc,(.int .u64)],fun x _ _=>eD x.1 x.2.1⟩
def LN:Ctr:=TT eD
theorem Wt (lp:Lp) (jn:Jn) (cX:JR):∀(x:TsS LN.as) (F:TsF LN.fs) (y:TsS LN.cs),pk lp jn cX x.1 x.2.1=bg lp jn (cx [(185,S0 cX)] [(32,r32),(92,r92),(112,aV)]) ai 4 191 f191 LN x F y:=fun x F y=>by kernel_rfl
theorem TD:LN.ok prog 191:=Ctr.of_den (al (af (q32) (by kernel_rfl) RA)) aB (hl:=ai) (d:=4) func191 rfl (by decide) (Wt lpK jnK cX)
def rz (_:Lp) (jn:Jn) (bw:t59) (aG:t60) (ap:t58) (bh:t62) (aO:t61) (gj:Vv) (cS:KS) (ff:UD) (eD:SL) (x0:Int×Int) (x1:Int×Int):Option ((Int×Int)×Int×Unit) :=
 
 let v4:Int:=IntKind.wrap .u64 x0.2;
 let v5:Int:=IntKind.wrap .u64 x1.2;
 let v6:Bool:=decide (x0.1<0);ah (ap x0) fun (t:Bool) =>
 let v8:Bool:=!t;
 let v9:Bool:=!v8;
 let v10:Bool:=!v9||v9;bif v10 then ah (bif v9 then ap x1 else some false) fun (t:Bool)=>bif v10 then bif v8||v9 then bif bif v8 then true else !t then some (((0 : Int),0),1,PUnit.unit) else ah (bw v4 v5) fun (t:Int) =>
 let v13:Bool:=nzB t;
 let v14:Int:=IntKind.wrap .u64 (Int.tdiv v4 t);ah (aG x0.1) fun (t_1:Int)=>bif v13 then ah (aO t_1 (IntKind.wrap .u64 (Int.tdiv v5 t))) fun (t_2:Int×Int)=>ah (aG x1.1) fun (t_3:Int)=>bif v13 then ah (aO t_3 v14) fun (t_4:Int×Int)=>jn (Bool×(Int×Int)×PUnit) ((Int×Int) × Int×PUnit) (fun (x:Bool×(Int×Int)×PUnit)=>bif decide (x.2.1.1=0)&&(decide (x.2.1.2=0)&&true) then some ((0,1),(0 : Int),PUnit.unit) else ah (eD x.2.1 t) fun (t_5:(Int×Int)×Int×PUnit)=>ah (bw t t_5.2.1) fun (t:Int)=>ah (eD x.2.1 t) fun (t_6 : (Int×Int)×Int×PUnit) =>
 let v23:Bool:=decide (t_6.1.1>0);
 let v24:Bool:=!v23;
 let v25:Bool:=!v24||v24;bif v13 then bif nzB t then ah (aO v14 (IntKind.wrap .u64 (Int.tdiv v5 t))) fun (t:Int×Int)=>bif v25 then bif v25 then bif v23 || v24 then bif bif v23 then true else decide (t.1>0) then some ((0,0),5,PUnit.unit) else ah (bh x.1 t_6.1.2 t.2) fun (t:(Int × Int)×Int×PUnit)=>some (t.1,t.2.1,PUnit.unit) else none else none else none else none else none) fun (j:Bool×(Int×Int)×PUnit->Option ((Int×Int)×Int×PUnit)) =>bif decide (v6=decide (x1.1<0)) then ah (gj t_2 t_4) fun (t:Int×Int)=>j (v6,t,PUnit.unit) else ah (cS t_2 t_4) fun (t:Bool)=>jn (Bool × (Int×Int)×PUnit) ((Int×Int)×Int×PUnit) (fun (x:Bool×(Int×Int)×PUnit)=>j (x.1,x.2.1,PUnit.unit)) fun (j:Bool×(Int×Int)×PUnit->Option ((Int×Int) × Int×PUnit))=>bif t then ah (ff t_4 t_2) fun (t:Int×Int)=>j (!v6,t,PUnit.unit) else ah (ff t_2 t_4) fun (t:Int×Int)=>j (v6,t,PUnit.unit) else none else none else none else none else none
def cv (x0:Int×Int) (x1:Int×Int):Option ((Int×Int)×Int×Unit):=rz lpK jnK bw aG ap bh aO gj cS ff eD x0 x1
abbrev Fa:=(Int×Int)->(Int×Int)->Option ((Int×Int)×Int×Unit)
def Pt (cv:Fa):Ctr:=⟨[T47,T47],[],[],.tup [T47,i64],fun x _ _=>cv x.1 x.2.1⟩
def M9:Ctr:=Pt cv
theorem V7 (lp:Lp) (jn:Jn) (bw:t59) (aG:t60) (ap:t58) (bh:t62) (aO:t61) (gj:Vv) (cS:KS) (ff:UD) (eD:SL):∀(x:TsS M9.as) (F:TsF M9.fs) (y:TsS M9.cs),rz lp jn bw aG ap bh aO gj cS ff eD x.1 x.2.1=bg lp jn (cx [(191,TT eD),(190,⟨[oc,oc],[],[],.one oc,fun x _ _=>ff x.1 x.2.1⟩),(189,SE cS),(188,⟨[oc,oc],[],[],.one oc,fun x _ _=>gj x.1 x.2.1⟩),(61,k61 aO),(62,k62 bh),(58,k58 ap),(60,k60 aG),(59,k59 bw)] [(32,r32),(92,r92),(112,aV)]) ai 4 171 f171 M9 x F y:=fun x F y=>by kernel_rfl
theorem Ls:M9.ok prog 171:=Ctr.of_den (al (af (af (af (af (af (af (af (af (af (q32) (by kernel_rfl) Qn) (by kernel_rfl) Jm) (by kernel_rfl) DX) (by kernel_rfl) Si) (by kernel_rfl) Sa) (by kernel_rfl) Uy) (by kernel_rfl) Q7) (by kernel_rfl) T6) (by kernel_rfl) TD)) aB (hl:=ai) (d:=4) func171 rfl (by decide) (V7 lpK jnK bw aG ap bh aO gj cS ff eD)
def ka (lp:Lp) (jn:Jn) (cC:t23) (cv:Fa) (x0:Int) (x1:List Int) (x2:List (Int×Int)):Option (Int×(Int×Int)) :=
 lp (Int×Int×(Int×Int)×(Int×Int)×PUnit) (Int×Int×Int) (fun (again:Int×Int×(Int×Int)×(Int×Int)×PUnit->Option (Int×Int×Int)) (x:Int×Int×(Int×Int) × (Int×Int)×PUnit)=>bif decide (x.1<(↑x1.length:Int)) then bif inB x.1 x1.length then bif inB x.1 x2.length then ah (cC (x1.getD x.1.toNat 0,1) (x2.getD x.1.toNat (0,0))) fun (t:(Int×Int)×Int×PUnit)=>jn (Int×(Int×Int)×PUnit) (Int×Int×Int) (fun (x_1:Int×(Int×Int)×PUnit)=>bif !decide (x_1.1=0) then some (x_1.1,0,1) else again (IntKind.wrap .i64 (x.1+1), x.2.1,x.2.2.1,x_1.2.1,PUnit.unit)) fun (j:Int×(Int×Int)×PUnit->Option (Int×Int×Int))=>bif decide (t.2.1=0) then ah (cv x.2.2.2.1 t.1) fun (t:(Int×Int)×Int×PUnit)=>j (t.2.1,t.1,PUnit.unit) else j (t.2.1,t.1,PUnit.unit) else none else none else some (x.2.1, x.2.2.2.1)) (0,x0,(0,0),(0,1),PUnit.unit)
def b8 (x0:Int) (x1:List Int) (x2:List (Int×Int)):Option (Int×(Int×Int)):=ka lpK jnK cC cv x0 x1 x2
abbrev R0:=(Int)->(List Int)->(List (Int×Int))->Option (Int×(Int×Int))
def VR (b8:R0):MCtr:=⟨Sp,[(.sl i64),(.sl T47)],.one T47,fun x y=>b8 x y.1 y.2.1⟩
def O8:MCtr:=VR b8
theorem X7 (lp:Lp) (jn:Jn) (cC:t23) (cv:Fa):∀(x:O8.s.T) (y:TsS O8.as),ka lp jn cC cv x y.1 y.2.1=Td lp jn (cx [(171,Pt cv),(23,k23 cC)] [(32,r32),(92,r92),(112,aV)]) ai 4 133 f133 O8 x y:=fun x y=>by kernel_rfl
theorem Vr:O8.ok prog 133:=MCtr.of_den (al (af (af (q32) (by kernel_rfl) VL) (by kernel_rfl) Ls)) aB (hl:=ai) (d:=4) func133 rfl (by decide) rfl (X7 lpK jnK cC cv)
def qW (_:Lp) (jn:Jn) (aG:t60) (ap:t58) (aO:t61) (cS:KS) (x0:Int×Int) (x1:Int×Int):Option (Int×Int×Unit) :=
 
 let v4:Bool:=decide (x0.1<0);ah (ap x0) fun (t:Bool) =>
 let v6:Bool:=!t;
 let v7:Bool:=!v6;
 let v8:Bool:=!v7||v7;bif v8 then ah (bif v7 then ap x1 else some false) fun (t:Bool)=>bif v8 then bif v6||v7 then bif bif v6 then true else !t then some ((0 : Int),1,PUnit.unit) else ah (aG x0.1) fun (t:Int)=>ah (aO t (IntKind.wrap .u64 x1.2)) fun (t:Int×Int)=>ah (aG x1.1) fun (t_1:Int)=>ah (aO t_1 (IntKind.wrap .u64 x0.2)) fun (t_2:Int×Int)=>bif !decide (v4=decide (x1.1<0)) then bif v4 then some ((-1), 0,PUnit.unit) else some (1,0,PUnit.unit) else jn ((Int×Int)×(Int×Int)×PUnit) (Int×Int×PUnit) (fun (x:(Int×Int)×(Int×Int)×PUnit)=>ah (cS x.1 x.2.1) fun (t:Bool)=>bif t then some ((-1),0,PUnit.unit) else ah (cS x.2.1 x.1) fun (t:Bool)=>bif t then some (1, 0,PUnit.unit) else some (0,0,PUnit.unit)) fun (j:(Int×Int)×(Int×Int)×PUnit->Option (Int×Int×PUnit))=>bif v4 then j (t_2,t,PUnit.unit) else j (t,t_2,PUnit.unit) else none else none else none
def iG (x0:Int×Int) (x1:Int×Int):Option (Int×Int×Unit):=qW lpK jnK aG ap aO cS x0 x1
abbrev Ux:=(Int×Int)->(Int×Int)->Option (Int×Int×Unit)
def JI:Ctr:=⟨[T47,T47],[],[],.tup [i64,i64],fun x _ _=>iG x.1 x.2.1⟩
theorem WH (lp:Lp) (jn:Jn) (aG:t60) (ap:t58) (aO:t61) (cS:KS):∀(x:TsS JI.as) (F:TsF JI.fs) (y:TsS JI.cs),qW lp jn aG ap aO cS x.1 x.2.1=bg lp jn (cx [(189,SE cS),(61,k61 aO),(58,k58 ap),(60,k60 aG)] [(32,r32),(92,r92),(112,aV)]) ai 4 187 f187 JI x F y:=fun x F y=>by kernel_rfl
theorem VB:JI.ok prog 187:=Ctr.of_den (al (af (af (af (af (q32) (by kernel_rfl) Jm) (by kernel_rfl) DX) (by kernel_rfl) Sa) (by kernel_rfl) Q7)) aB (hl:=ai) (d:=4) func187 rfl (by decide) (WH lpK jnK aG ap aO cS)
def nT (_:Lp) (_:Jn) (iG:Ux) (x0:Int×Int) (x1:Int):Option Int :=
 ah (iG x0 (x1,1)) fun (t:Int×Int×PUnit)=>some t.1
def fZ (x0:Int×Int) (x1:Int):Option Int:=nT lpK jnK iG x0 x1
abbrev UW:=(Int×Int)->(Int)->Option (Int)
def J9:Ctr:=⟨[T47,i64],[],[],.one i64,fun x _ _=>fZ x.1 x.2.1⟩
theorem Ye (lp:Lp) (jn:Jn) (iG:Ux):∀(x:TsS J9.as) (F:TsF J9.fs) (y:TsS J9.cs),nT lp jn iG x.1 x.2.1=bg lp jn (cx [(187,⟨[T47,T47],[],[],.tup [i64,i64],fun x _ _=>iG x.1 x.2.1⟩)] [(32,r32),(92,r92),(112,aV)]) ai 4 169 f169 J9 x F y:=fun x F y=>by kernel_rfl
theorem U9:J9.ok prog 169:=Ctr.of_den (al (af (q32) (by kernel_rfl) VB)) aB (hl:=ai) (d:=4) func169 rfl (by decide) (Ye lpK jnK iG)
def lj (lp:Lp) (_:Jn) (x0:(List Int)×List ((List Int)×Int×Int)) (x1:Int):Option (List Int) :=
 lp (List Int×Int×PUnit) (List Int) (fun (again:List Int×Int×PUnit->Option (List Int)) (x:List Int×Int×PUnit)=>bif decide (x.2.1<(↑x0.2.length:Int)) then bif inB x.2.1 x0.2.length then bif inB x1 (List.length (x0.2.getD x.2.1.toNat ([],0,0)).1) then bif eC (List.length x.1+(1 : Nat)) 8 then again (x.1++[List.getD (x0.2.getD x.2.1.toNat ([],0,0)).1 x1.toNat 0],IntKind.wrap .i64 (x.2.1 + 1),PUnit.unit) else none else none else none else some x.1) ([],0,PUnit.unit)
def dX (x0:(List Int)×List ((List Int)×Int×Int)) (x1:Int):Option (List Int):=lj lpK jnK x0 x1
abbrev VG:=((List Int)×List ((List Int)×Int×Int))->(Int)->Option (List Int)
def JV:Ctr:=⟨[T82,i64],[],[],.one (.sl i64),fun x _ _=>dX x.1 x.2.1⟩
theorem Xw (lp:Lp) (jn:Jn):∀(x:TsS JV.as) (F:TsF JV.fs) (y:TsS JV.cs),lj lp jn x.1 x.2.1=bg lp jn (cx [] [(32,r32),(92,r92),(112,aV)]) ai 4 170 f170 JV x F y:=fun x F y=>by kernel_rfl
theorem TO:JV.ok prog 170:=Ctr.of_den (al (q32)) aB (hl:=ai) (d:=4) func170 rfl (by decide) (Xw lpK jnK)
def jq (_:Lp) (_:Jn) (_:Int):Option Int :=
 some 0
def dk (x0:Int):Option Int:=jq lpK jnK x0
abbrev Tz:=(Int)->Option (Int)
def Kt:Ctr:=⟨[i64],[],[],.one i64,fun x _ _=>dk x.1⟩
theorem WE (lp:Lp) (jn:Jn):∀(x:TsS Kt.as) (F:TsF Kt.fs) (y:TsS Kt.cs),jq lp jn x.1=bg lp jn (cx [] [(32,r32),(92,r92),(112,aV)]) ai 4 132 f132 Kt x F y:=fun x F y=>by kernel_rfl
theorem VF:Kt.ok prog 132:=Ctr.of_den (al (q32)) aB (hl:=ai) (d:=4) func132 rfl (by decide) (WE lpK jnK)
def kW (lp:Lp) (_:Jn) (x0:(List Int)×List ((List Int)×Int×Int)):Option (List Int) :=
 lp (List Int×Int×PUnit) (List Int) (fun (again:List Int×Int×PUnit->Option (List Int)) (x:List Int×Int×PUnit)=>bif decide (x.2.1<(↑x0.2.length:Int)) then bif inB x.2.1 x0.2.length then bif eC (List.length x.1+1) 8 then again (x.1++[(x0.2.getD x.2.1.toNat ([],0,(0 : Int))).2.2],IntKind.wrap .i64 (x.2.1+1),PUnit.unit) else none else none else some x.1) ([],0,PUnit.unit)
def ef (x0:(List Int)×List ((List Int)×Int×Int)):Option (List Int):=kW lpK jnK x0
abbrev Vy:=((List Int)×List ((List Int)×Int×Int))->Option (List Int)
def KR:Ctr:=⟨[T82],[],[],.one (.sl i64),fun x _ _=>ef x.1⟩
theorem X5 (lp:Lp) (jn:Jn):∀(x:TsS KR.as) (F:TsF KR.fs) (y:TsS KR.cs),kW lp jn x.1=bg lp jn (cx [] [(32,r32),(92,r92),(112,aV)]) ai 4 134 f134 KR x F y:=fun x F y=>by kernel_rfl
theorem UX:KR.ok prog 134:=Ctr.of_den (al (q32)) aB (hl:=ai) (d:=4) func134 rfl (by decide) (X5 lpK jnK)
def kK (lp:Lp) (_:Jn) (x0:(List Int)×List ((List Int)×Int×Int)) (x1:List (Int×Int)):Option Bool :=
 lp (Int×PUnit) Bool (fun (again:Int×PUnit->Option Bool) (x:Int×PUnit) =>
 let v6:Bool:=inB x.1 x1.length;
 let v7:Bool:=decide ((x0.2.getD x.1.toNat ([],0,0)).2.1=1);
 let v8:Bool:=decide ((x0.2.getD x.1.toNat ([],0,0)).2.1=2);
 let v9:Bool:=!v7;
 let v10:Bool:=bif v7 then decide ((x1.getD x.1.toNat (0,0)).1>0) else false;
 let v11:Bool:=!v10;
 let v12:Bool:=!v11;
 let v13:Bool:=v9||v7;
 let v14:Bool:=v11&&v8;
 let v15:Bool:=!v14;
 let v16:Bool:=v12||v11;
 let v17:Bool:=v15||v14;bif decide (x.1<(↑x0.2.length:Int)) then bif inB x.1 x0.2.length then bif v13&&(v13&&(v9||v6)) then bif v13 then bif v13 then bif v13 then bif v13 then bif v16 then bif v16 then bif v16 then bif v17&&(v17&&(v15||v6)) then bif v17 then bif v17 then bif v17 then bif (v12||v16)&&(v12||(!v8||(v12 || v14))) then bif v10||v11 then bif bif v10 then true else bif v8 then decide ((x1.getD x.1.toNat (0,0)).1<0) else false then some false else again (IntKind.wrap .i64 (x.1+1),PUnit.unit) else none else none else none else none else none else none else none else none else none else none else none else none else none else none else none else some true) (0,PUnit.unit)
def dV (x0:(List Int)×List ((List Int)×Int×Int)) (x1:List (Int×Int)):Option Bool:=kK lpK jnK x0 x1
abbrev VO:=((List Int)×List ((List Int)×Int×Int))->(List (Int×Int))->Option (Bool)
def Ku:Ctr:=⟨[T82,(.sl T47)],[],[],.one .bool,fun x _ _=>dV x.1 x.2.1⟩
theorem X9 (lp:Lp) (jn:Jn):∀(x:TsS Ku.as) (F:TsF Ku.fs) (y:TsS Ku.cs),kK lp jn x.1 x.2.1=bg lp jn (cx [] [(32,r32),(92,r92),(112,aV)]) ai 4 135 f135 Ku x F y:=fun x F y=>by kernel_rfl
theorem Ul:Ku.ok prog 135:=Ctr.of_den (al (q32)) aB (hl:=ai) (d:=4) func135 rfl (by decide) (X9 lpK jnK)
def kq (lp:Lp) (_:Jn) (bf:t99) (eQ:UH) (fZ:UW) (dX:VG) (dk:Tz) (ef:Vy) (dV:VO) (b8:R0) (x0:(List Int)×List ((List Int)×Int×Int)) (x1:List (Int×Int)):Option (Bool×Int×Unit) :=
 ah (bf x0) fun (t:Bool) =>
 let v5:Bool:=!t;
 let v6:Bool:=!v5;
 let v7:Bool:=!v6||v6;bif v7 then ah (bif v6 then eQ x1 else some false) fun (t:Bool)=>bif v7 then bif v5||v6 then bif bif v5 then true else !t then some (false, 1,PUnit.unit) else bif !decide ((↑x1.length:Int)=(↑x0.2.length:Int)) then some (false,3,PUnit.unit) else lp (Bool×Int×Int×PUnit) (Bool × Int×PUnit) (fun (again:Bool×Int×Int×PUnit->Option (Bool×Int×PUnit)) (x:Bool×Int×Int×PUnit)=>bif decide (x.2.1<(↑x0.1.length:Int)) then ah (dX x0 x.2.1) fun (t:List Int)=>ah (b8 x.2.2.1 t x1) fun (t:Int×Int×Int)=>ah (dk x.2.1) fun (t_1:Int)=>ah (fZ t.2 t_1) fun (t_2:Int) =>
 let v15:Bool:=decide (t_2<=0);bif !v15||v15 then again (bif v15 then x.1 else false,IntKind.wrap .i64 (x.2.1+1),t.1,PUnit.unit) else none else ah (ef x0) fun (t:List Int)=>ah (b8 x.2.2.1 t x1) fun (t:Int×Int×Int) =>
 let v13:Bool:=decide (t.2.1>0);
 let v14:Bool:=!v13||v13;bif v14&&v14 then ah (bif v13 then dV x0 x1 else some false) fun (t_1:Bool) =>
 let v16:Bool:=bif v13 then t_1 else false;
 let v17:Bool:=bif v16 then x.1 else false;
 let v18:Bool:=!v17||v17;bif v14 then bif !v16||v16 then bif v18 then bif v18 then bif v18 then some (bif v17 then decide (t.1=0) else false,t.1,PUnit.unit) else none else none else none else none else none else none) (true,0,0,PUnit.unit) else none else none else none
def b9 (x0:(List Int)×List ((List Int)×Int×Int)) (x1:List (Int×Int)):Option (Bool×Int×Unit):=kq lpK jnK bf eQ fZ dX dk ef dV b8 x0 x1
abbrev t94:=((List Int)×List ((List Int)×Int×Int))->(List (Int×Int))->Option (Bool×Int×Unit)
def k94 (b9:t94):Ctr:=⟨[T82,(.sl T47)],[],[],.tup [.bool,i64],fun x _ _=>b9 x.1 x.2.1⟩
def c94:Ctr:=k94 b9
theorem e94 (lp:Lp) (jn:Jn) (bf:t99) (eQ:UH) (fZ:UW) (dX:VG) (dk:Tz) (ef:Vy) (dV:VO) (b8:R0):∀(x:TsS c94.as) (F:TsF c94.fs) (y:TsS c94.cs),kq lp jn bf eQ fZ dX dk ef dV b8 x.1 x.2.1=bg lp jn (xr yU yX (Fs [] [(133,VR b8)] (jD prog shs tQ its [(135,⟨[T82,(.sl T47)],[],[],.one .bool,fun x _ _=>dV x.1 x.2.1⟩),(134,⟨[T82],[],[],.one (.sl i64),fun x _ _=>ef x.1⟩),(132,⟨[i64],[],[],.one i64,fun x _ _=>dk x.1⟩),(170,⟨[T82,i64],[],[],.one (.sl i64),fun x _ _=>dX x.1 x.2.1⟩),(169,⟨[T47,i64],[],[],.one i64,fun x _ _=>fZ x.1 x.2.1⟩),(130,⟨[(.sl T47)],[],[],.one .bool,fun x _ _=>eQ x.1⟩),(99,k99 bf)] [(32,r32),(92,r92),(112,aV)]))) ai 4 94 f94 c94 x F y:=fun x F y=>by kernel_rfl
theorem Yg:c94.ok prog 94:=Ctr.of_den (al (sL (af (af (af (af (af (af (af (q32) (by kernel_rfl) R7) (by kernel_rfl) Vn) (by kernel_rfl) U9) (by kernel_rfl) TO) (by kernel_rfl) VF) (by kernel_rfl) UX) (by kernel_rfl) Ul) (ov) (Iy (by kernel_rfl) Vr (oA)))) aB (hl:=ai) (d:=4) func94 rfl (by decide) (e94 lpK jnK bf eQ fZ dX dk ef dV b8)
def rJ (_:Lp) (_:Jn) (aZ:t55) (b9:t94) (x0:(List (ByteArray×Int))×List (ByteArray×(List (ByteArray×Int×Int×Int))×Bool)) (x1:List (Int×Int)):Option (Bool×Int×Unit) :=
 ah (aZ x0) fun (t:(List Int×List (List Int×Int×Int))×Int×PUnit)=>bif !decide (t.2.1=0) then some (false,t.2.1,PUnit.unit) else ah (b9 t.1 x1) fun (t:Bool×Int×PUnit)=>some (t.1,t.2.1,PUnit.unit)
def fq (x0:(List (ByteArray×Int))×List (ByteArray×(List (ByteArray×Int×Int×Int))×Bool)) (x1:List (Int×Int)):Option (Bool×Int×Unit):=rJ lpK jnK aZ b9 x0 x1
abbrev t52:=((List (ByteArray×Int))×List (ByteArray×(List (ByteArray×Int×Int×Int))×Bool))->(List (Int×Int))->Option (Bool×Int×Unit)
def k52 (fq:t52):Ctr:=⟨[T25,(.sl T47)],[],[],.tup [.bool,i64],fun x _ _=>fq x.1 x.2.1⟩
def c52:Ctr:=k52 fq
theorem e52 (lp:Lp) (jn:Jn) (aZ:t55) (b9:t94):∀(x:TsS c52.as) (F:TsF c52.fs) (y:TsS c52.cs),rJ lp jn aZ b9 x.1 x.2.1=bg lp jn (cx [(94,k94 b9),(55,k55 aZ)] [(32,r32),(92,r92),(112,aV)]) ai 4 52 f52 c52 x F y:=fun x F y=>by kernel_rfl
theorem WB:c52.ok prog 52:=Ctr.of_den (al (af (af (q32) (by kernel_rfl) SS) (by kernel_rfl) Yg)) aB (hl:=ai) (d:=4) func52 rfl (by decide) (e52 lpK jnK aZ b9)
def kz (_:Lp) (_:Jn) (ap:t58) (x0:Int×Int):Option Bool :=
 ah (ap x0) fun (t:Bool)=>some !t
def dF (x0:Int×Int):Option Bool:=kz lpK jnK ap x0
abbrev T4:=(Int×Int)->Option (Bool)
def Kd:Ctr:=⟨[T47],[],[],.one .bool,fun x _ _=>dF x.1⟩
theorem WS (lp:Lp) (jn:Jn) (ap:t58):∀(x:TsS Kd.as) (F:TsF Kd.fs) (y:TsS Kd.cs),kz lp jn ap x.1=bg lp jn (cx [(58,k58 ap)] [(32,r32),(92,r92),(112,aV)]) ai 4 172 f172 Kd x F y:=fun x F y=>by kernel_rfl
theorem Uj:Kd.ok prog 172:=Ctr.of_den (al (af (q32) (by kernel_rfl) DX)) aB (hl:=ai) (d:=4) func172 rfl (by decide) (WS lpK jnK ap)
def lW (_:Lp) (_:Jn) (bB:t72) (aj:t34) (dF:T4) (x0:(List (ByteArray×Int))×List (ByteArray×(List (ByteArray×Int×Int×Int))×Bool)) (x1:List (Int×Int)):Option ((List (List Int))×Int×Unit) :=
 ah (bB x0) fun (t:List (List Int)×Int×PUnit)=>bif !decide (t.2.1=0) then some ([],t.2.1,PUnit.unit) else ah (aj x1 fun (x : (Int×Int)×PUnit)=>dF x.1) fun (t_1:Bool)=>bif t_1 then some ([],1,PUnit.unit) else bif !decide ((↑x1.length:Int)=(↑x0.2.length : Int)) then some ([],3,PUnit.unit) else some (t.1,0,PUnit.unit)
def dD (x0:(List (ByteArray×Int))×List (ByteArray×(List (ByteArray×Int×Int×Int))×Bool)) (x1:List (Int×Int)):Option ((List (List Int))×Int×Unit):=lW lpK jnK bB aj dF x0 x1
abbrev Sc:=((List (ByteArray×Int))×List (ByteArray×(List (ByteArray×Int×Int×Int))×Bool))->(List (Int×Int))->Option ((List (List Int))×Int×Unit)
def Ue (dD:Sc):Ctr:=⟨[T25,(.sl T47)],[],[],.tup [(.sl (.sl i64)),i64],fun x _ _=>dD x.1 x.2.1⟩
def Ky:Ctr:=Ue dD
theorem WX (lp:Lp) (jn:Jn) (bB:t72) (aj:t34) (dF:T4):∀(x:TsS Ky.as) (F:TsF Ky.fs) (y:TsS Ky.cs),lW lp jn bB aj dF x.1 x.2.1=bg lp jn (cx [(172,⟨[T47],[],[],.one .bool,fun x _ _=>dF x.1⟩),(34,k34 aj),(72,k72 bB)] [(32,r32),(92,r92),(112,aV)]) ai 4 136 f136 Ky x F y:=fun x F y=>by kernel_rfl
theorem US:Ky.ok prog 136:=Ctr.of_den (al (af (af (af (q32) (by kernel_rfl) VQ) (by kernel_rfl) Nv) (by kernel_rfl) Uj)) aB (hl:=ai) (d:=4) func136 rfl (by decide) (WX lpK jnK bB aj dF)
def uN (_:Lp) (_:Jn) (x0:Int):Option (Int×Int) :=
 some (x0,1)
def cJ (x0:Int):Option (Int×Int):=uN lpK jnK x0
abbrev NH:=(Int)->Option (Int×Int)
def SD (cJ:NH):Ctr:=⟨[i64],[],[],.one T47,fun x _ _=>cJ x.1⟩
def KQ:Ctr:=SD cJ
theorem X1 (lp:Lp) (jn:Jn):∀(x:TsS KQ.as) (F:TsF KQ.fs) (y:TsS KQ.cs),uN lp jn x.1=bg lp jn (cx [] [(32,r32),(92,r92),(112,aV)]) ai 4 137 f137 KQ x F y:=fun x F y=>by kernel_rfl
theorem Rz:KQ.ok prog 137:=Ctr.of_den (al (q32)) aB (hl:=ai) (d:=4) func137 rfl (by decide) (X1 lpK jnK)
def nh (_:Lp) (_:Jn) (cC:t23) (cv:Fa) (cJ:NH) (x0:Int×Int) (x1:Int) (x2:Int×Int):Option ((Int×Int)×Int×Unit) :=
 ah (cJ x1) fun (t:Int×Int)=>ah (cC t x2) fun (t:(Int×Int)×Int×PUnit)=>bif !decide (t.2.1=0) then some ((0,0),t.2.1, PUnit.unit) else ah (cv x0 t.1) fun (t:(Int×Int)×Int×PUnit)=>some (t.1,t.2.1,PUnit.unit)
def ep (x0:Int×Int) (x1:Int) (x2:Int×Int):Option ((Int×Int)×Int×Unit):=nh lpK jnK cC cv cJ x0 x1 x2
abbrev SI:=(Int×Int)->(Int)->(Int×Int)->Option ((Int×Int)×Int×Unit)
def Ut (ep:SI):Ctr:=⟨[T47,i64,T47],[],[],.tup [T47,i64],fun x _ _=>ep x.1 x.2.1 x.2.2.1⟩
def L1:Ctr:=Ut ep
theorem V4 (lp:Lp) (jn:Jn) (cC:t23) (cv:Fa) (cJ:NH):∀(x:TsS L1.as) (F:TsF L1.fs) (y:TsS L1.cs),nh lp jn cC cv cJ x.1 x.2.1 x.2.2.1=bg lp jn (cx [(137,SD cJ),(171,Pt cv),(23,k23 cC)] [(32,r32),(92,r92),(112,aV)]) ai 4 138 f138 L1 x F y:=fun x F y=>by kernel_rfl
theorem T0:L1.ok prog 138:=Ctr.of_den (al (af (af (af (q32) (by kernel_rfl) VL) (by kernel_rfl) Ls) (by kernel_rfl) Rz)) aB (hl:=ai) (d:=4) func138 rfl (by decide) (V4 lpK jnK cC cv cJ)
def qZ (_:Lp) (_:Jn) (ap:t58) (cv:Fa) (x0:Int×Int) (x1:Int×Int):Option ((Int×Int)×Int×Unit) :=
 ah (ap x0) fun (t:Bool) =>
 let v5:Bool:=!t;
 let v6:Bool:=!v5;
 let v7:Bool:=!v6||v6;bif v7 then ah (bif v6 then ap x1 else some false) fun (t:Bool)=>bif v7 then bif v5||v6 then bif bif v5 then true else !t then some (((0 : Int),0),1,PUnit.unit) else ah (cv x0 (IntKind.wrap .i64 (0 - x1.1),x1.2)) fun (t:(Int×Int)×Int×PUnit)=>some (t.1,t.2.1, PUnit.unit) else none else none else none
def iH (x0:Int×Int) (x1:Int×Int):Option ((Int×Int)×Int×Unit):=qZ lpK jnK ap cv x0 x1
abbrev T8:=(Int×Int)->(Int×Int)->Option ((Int×Int)×Int×Unit)
def JL:Ctr:=⟨[T47,T47],[],[],.tup [T47,i64],fun x _ _=>iH x.1 x.2.1⟩
theorem WG (lp:Lp) (jn:Jn) (ap:t58) (cv:Fa):∀(x:TsS JL.as) (F:TsF JL.fs) (y:TsS JL.cs),qZ lp jn ap cv x.1 x.2.1=bg lp jn (cx [(171,Pt cv),(58,k58 ap)] [(32,r32),(92,r92),(112,aV)]) ai 4 139 f139 JL x F y:=fun x F y=>by kernel_rfl
theorem TI:JL.ok prog 139:=Ctr.of_den (al (af (af (q32) (by kernel_rfl) DX) (by kernel_rfl) Ls)) aB (hl:=ai) (d:=4) func139 rfl (by decide) (WG lpK jnK ap cv)
def fR (lp:Lp) (_:Jn) (dD:Sc) (cJ:NH) (ep:SI) (iH:T8) (x0:(List (ByteArray×Int))×List (ByteArray×(List (ByteArray×Int×Int×Int))×Bool)) (x1:List (Int×Int)):Option ((List (Int×Int))×Int×Unit) :=
 ah (dD x0 x1) fun (t:List (List Int)×Int×PUnit)=>bif !decide (t.2.1=0) then some ([],t.2.1,PUnit.unit) else lp (List (Int×Int)×Int×Int × PUnit) (List (Int×Int)×Int×PUnit) (fun (again:List (Int×Int)×Int×Int×PUnit->Option (List (Int×Int)×Int×PUnit)) (x:List (Int×Int)×Int×Int×PUnit) =>
 let v7:List Int:=t.1.getD x.2.2.1.toNat [];bif decide (x.2.2.1<(↑t.1.length:Int)) then ah (cJ 0) fun (t_1:Int×Int)=>lp (Int×(Int×Int)×PUnit) (List (Int×Int)×Int×PUnit) (fun (again_1:Int×(Int×Int)×PUnit->Option (List (Int×Int)×Int×PUnit)) (x_1:Int×(Int×Int)×PUnit) => bif decide (x_1.1<(↑x1.length:Int)) then bif inB x.2.2.1 t.1.length then bif inB x_1.1 v7.length then bif inB x_1.1 x1.length then ah (ep x_1.2.1 (v7.getD x_1.1.toNat 0) (x1.getD x_1.1.toNat (0,0))) fun (t:(Int×Int)×Int×PUnit) =>
 let v12:Bool:=!decide (t.2.1=0);bif v12 then bif v12 then some ([],t.2.1,PUnit.unit) else some (x.1,0,PUnit.unit) else again_1 (IntKind.wrap IntKind.i64 (x_1.1+1),t.1,PUnit.unit) else none else none else none else bif inB x.2.2.1 x0.1.length then ah (cJ (x0.1.getD x.2.2.1.toNat ({ data:={ toList:=[] } },0)).2) fun (t:Int×Int)=>ah (iH t x_1.2.1) fun (t:(Int×Int)×Int×PUnit) =>
 let v13:Bool:=!decide (t.2.1=0);bif v13 then bif v13 then some ([],t.2.1,PUnit.unit) else some (x.1,0,PUnit.unit) else bif eC (List.length x.1 + 1) 16 then again (x.1++[t.1],t.2.1,IntKind.wrap .i64 (x.2.2.1+1),PUnit.unit) else none else none) (0,t_1,PUnit.unit) else bif !decide (x.2.1=0) then some ([],x.2.1,PUnit.unit) else some (x.1,0,PUnit.unit)) ([],0,0,PUnit.unit)
def bz (x0:(List (ByteArray×Int))×List (ByteArray×(List (ByteArray×Int×Int×Int))×Bool)) (x1:List (Int×Int)):Option ((List (Int×Int))×Int×Unit):=fR lpK jnK dD cJ ep iH x0 x1
abbrev t95:=((List (ByteArray×Int))×List (ByteArray×(List (ByteArray×Int×Int×Int))×Bool))->(List (Int×Int))->Option ((List (Int×Int))×Int×Unit)
def k95 (bz:t95):Ctr:=⟨[T25,(.sl T47)],[],[],.tup [(.sl T47),i64],fun x _ _=>bz x.1 x.2.1⟩
def c95:Ctr:=k95 bz
theorem e95 (lp:Lp) (jn:Jn) (dD:Sc) (cJ:NH) (ep:SI) (iH:T8):∀(x:TsS c95.as) (F:TsF c95.fs) (y:TsS c95.cs),fR lp jn dD cJ ep iH x.1 x.2.1=bg lp jn (cx [(139,⟨[T47,T47],[],[],.tup [T47,i64],fun x _ _=>iH x.1 x.2.1⟩),(138,Ut ep),(137,SD cJ),(136,Ue dD)] [(32,r32),(92,r92),(112,aV)]) ai 4 95 f95 c95 x F y:=fun x F y=>by kernel_rfl
theorem X8:c95.ok prog 95:=Ctr.of_den (al (af (af (af (af (q32) (by kernel_rfl) US) (by kernel_rfl) Rz) (by kernel_rfl) T0) (by kernel_rfl) TI)) aB (hl:=ai) (d:=4) func95 rfl (by decide) (e95 lpK jnK dD cJ ep iH)
def kr (_:Lp) (_:Jn) (x0:Int×Int):Option Bool :=
 some !decide (x0.1=0)
def dz (x0:Int×Int):Option Bool:=kr lpK jnK x0
abbrev t96:=(Int×Int)->Option (Bool)
def c96:Ctr:=⟨[T47],[],[],.one .bool,fun x _ _=>dz x.1⟩
theorem e96 (lp:Lp) (jn:Jn):∀(x:TsS c96.as) (F:TsF c96.fs) (y:TsS c96.cs),kr lp jn x.1=bg lp jn (cx [] [(32,r32),(92,r92),(112,aV)]) ai 4 96 f96 c96 x F y:=fun x F y=>by kernel_rfl
theorem W7:c96.ok prog 96:=Ctr.of_den (al (q32)) aB (hl:=ai) (d:=4) func96 rfl (by decide) (e96 lpK jnK)
def lY (_:Lp) (_:Jn) (aj:t34) (bz:t95) (dz:t96) (x0:(List (ByteArray×Int))×List (ByteArray×(List (ByteArray×Int×Int×Int))×Bool)) (x1:List (Int×Int)):Option (Bool×Int×Unit) :=
 ah (bz x0 x1) fun (t:List (Int×Int)×Int×PUnit)=>bif !decide (t.2.1=0) then some (false,t.2.1,PUnit.unit) else ah (aj t.1 fun (x:(Int×Int)×PUnit)=>dz x.1) fun (t:Bool)=>some (!t,0,PUnit.unit)
def df (x0:(List (ByteArray×Int))×List (ByteArray×(List (ByteArray×Int×Int×Int))×Bool)) (x1:List (Int×Int)):Option (Bool×Int×Unit):=lY lpK jnK aj bz dz x0 x1
abbrev t53:=((List (ByteArray×Int))×List (ByteArray×(List (ByteArray×Int×Int×Int))×Bool))->(List (Int×Int))->Option (Bool×Int×Unit)
def k53 (df:t53):Ctr:=⟨[T25,(.sl T47)],[],[],.tup [.bool,i64],fun x _ _=>df x.1 x.2.1⟩
def c53:Ctr:=k53 df
theorem e53 (lp:Lp) (jn:Jn) (aj:t34) (bz:t95) (dz:t96):∀(x:TsS c53.as) (F:TsF c53.fs) (y:TsS c53.cs),lY lp jn aj bz dz x.1 x.2.1=bg lp jn (cx [(96,⟨[T47],[],[],.one .bool,fun x _ _=>dz x.1⟩),(95,k95 bz),(34,k34 aj)] [(32,r32),(92,r92),(112,aV)]) ai 4 53 f53 c53 x F y:=fun x F y=>by kernel_rfl
theorem WU:c53.ok prog 53:=Ctr.of_den (al (af (af (af (q32) (by kernel_rfl) Nv) (by kernel_rfl) X8) (by kernel_rfl) W7)) aB (hl:=ai) (d:=4) func53 rfl (by decide) (e53 lpK jnK aj bz dz)
def nM (_:Lp) (_:Jn) (x0:Int×Int):Option Bool :=
 some (decide (x0.1<0))
def fe (x0:Int×Int):Option Bool:=nM lpK jnK x0
abbrev t54:=(Int×Int)->Option (Bool)
def c54:Ctr:=⟨[T47],[],[],.one .bool,fun x _ _=>fe x.1⟩
theorem e54 (lp:Lp) (jn:Jn):∀(x:TsS c54.as) (F:TsF c54.fs) (y:TsS c54.cs),nM lp jn x.1=bg lp jn (cx [] [(32,r32),(92,r92),(112,aV)]) ai 4 54 f54 c54 x F y:=fun x F y=>by kernel_rfl
theorem XH:c54.ok prog 54:=Ctr.of_den (al (q32)) aB (hl:=ai) (d:=4) func54 rfl (by decide) (e54 lpK jnK)
def qp (_:Lp) (jn:Jn) (a8:t50) (aj:t34) (cm:t49) (cj:t51) (fq:t52) (df:t53) (fe:t54) (x0:(List (ByteArray×Int))×List (ByteArray×(List (ByteArray×Int×Int×Int))×Bool)) (x1:(List (Int×Int))×Bool×List (Int×Int)):Option (Bool×Int×Unit) :=
 ah (cm x1) fun (t:List (Int×Int)×List (Int×Int)×PUnit)=>jn (Int×PUnit) (Bool×Int×PUnit) (fun (x:Int×PUnit)=>ah (a8 x0) fun (t_1:Bool) =>
 let v7:Bool:=!t_1;
 let v8:Bool:=!v7;
 let v9:Bool:=!v8||v8;bif v9 then ah (bif v8 then cj x1 else some false) fun (t_2:Bool)=>bif v9 then bif v7||v8 then bif bif v7 then true else !t_2 then some (false,1,PUnit.unit) else bif decide ((↑t.2.1.length:Int)>0) then some (false,19,PUnit.unit) else bif !decide ((↑t.1.length:Int) = x.1) then some (false,3,PUnit.unit) else bif x1.2.1 then ah (fq x0 t.1) fun (t:Bool×Int×PUnit)=>some (t.1,t.2.1,PUnit.unit) else ah (df x0 t.1) fun (t_3:Bool×Int×PUnit) =>
 let v12:Bool:=decide (t_3.2.1=0);
 let v13:Bool:=bif v12 then t_3.1 else false;
 let v14:Bool:=!v13||v13;bif !v12||v12 then bif v14 then ah (bif v13 then aj t.1 fun (x:(Int×Int)×PUnit)=>fe x.1 else some false) fun (t:Bool)=>bif v14 then bif v14 then some (bif v13 then !t else false,t_3.2.1,PUnit.unit) else none else none else none else none else none else none else none) fun (j : Int×PUnit->Option (Bool×Int×PUnit))=>bif x1.2.1 then j ((↑x0.1.length:Int),PUnit.unit) else j ((↑x0.2.length:Int),PUnit.unit)
def aR (x0:(List (ByteArray×Int))×List (ByteArray×(List (ByteArray×Int×Int×Int))×Bool)) (x1:(List (Int×Int))×Bool×List (Int×Int)):Option (Bool×Int×Unit):=qp lpK jnK a8 aj cm cj fq df fe x0 x1
abbrev t19:=((List (ByteArray×Int))×List (ByteArray×(List (ByteArray×Int×Int×Int))×Bool))->((List (Int×Int))×Bool×List (Int×Int))->Option (Bool×Int×Unit)
def k19 (aR:t19):Ctr:=⟨[T25,T30],[],[],.tup [.bool,i64],fun x _ _=>aR x.1 x.2.1⟩
def c19:Ctr:=k19 aR
theorem e19 (lp:Lp) (jn:Jn) (a8:t50) (aj:t34) (cm:t49) (cj:t51) (fq:t52) (df:t53) (fe:t54):∀(x:TsS c19.as) (F:TsF c19.fs) (y:TsS c19.cs),qp lp jn a8 aj cm cj fq df fe x.1 x.2.1=bg lp jn (cx [(54,⟨[T47],[],[],.one .bool,fun x _ _=>fe x.1⟩),(53,k53 df),(52,k52 fq),(51,k51 cj),(49,k49 cm),(34,k34 aj),(50,k50 a8)] [(32,r32),(92,r92),(112,aV)]) ai 4 19 f19 c19 x F y:=fun x F y=>by kernel_rfl
theorem XS:c19.ok prog 19:=Ctr.of_den (al (af (af (af (af (af (af (af (q32) (by kernel_rfl) Sg) (by kernel_rfl) Nv) (by kernel_rfl) Uw) (by kernel_rfl) VC) (by kernel_rfl) WB) (by kernel_rfl) WU) (by kernel_rfl) XH)) aB (hl:=ai) (d:=4) func19 rfl (by decide) (e19 lpK jnK a8 aj cm cj fq df fe)
def xp (_:Lp) (_:Jn) (x0:Int):Option (Int×Int) :=
 some (x0,1)
def aw (x0:Int):Option (Int×Int):=xp lpK jnK x0
abbrev t24:=(Int)->Option (Int×Int)
def k24 (aw:t24):Ctr:=⟨[i64],[],[],.one T47,fun x _ _=>aw x.1⟩
def c24:Ctr:=k24 aw
theorem e24 (lp:Lp) (jn:Jn):∀(x:TsS c24.as) (F:TsF c24.fs) (y:TsS c24.cs),xp lp jn x.1=bg lp jn (cx [] [(32,r32),(92,r92),(112,aV)]) ai 4 24 f24 c24 x F y:=fun x F y=>by kernel_rfl
theorem A0:c24.ok prog 24:=Ctr.of_den (al (q32)) aB (hl:=ai) (d:=4) func24 rfl (by decide) (e24 lpK jnK)
def tf (lp:Lp) (_:Jn) (x0:List Int) (x1:Int) (x2:Int):Option (List Int) :=
 lp (List Int×Int×PUnit) (List Int) (fun (again:List Int×Int×PUnit->Option (List Int)) (x:List Int×Int×PUnit)=>bif decide (x.2.1>=0) then bif decide ((0 : Int)<=IntKind.wrap .i64 (8*x.2.1)) then bif eC (List.length x.1+1) 1 then again (x.1++[IntKind.wrap IntKind.u8 (Int.fdiv x1 (2 ^ min (Int.toNat (IntKind.wrap .i64 (8*x.2.1))) 64))],IntKind.wrap .i64 (x.2.1 - 1),PUnit.unit) else none else none else bif Nat.ble (1 : Nat) x.1.length then some x.1 else none) (x0,IntKind.wrap .i64 (x2 - 1),PUnit.unit)
def f8 (x0:List Int) (x1:Int) (x2:Int):Option (List Int):=tf lpK jnK x0 x1 x2
def a63:ACtr:=⟨[i64,i64],5,(.int .u8),fun l x=>f8 l x.1 x.2.1⟩
theorem e63 (lp:Lp) (jn:Jn):∀(l:List a63.e.T) (x:TsS a63.as),tf lp jn l x.1 x.2.1=R9 lp jn (cx [] [(32,r32),(92,r92),(112,aV)]) ai 4 63 f63 a63 l x:=fun l x=>by kernel_rfl
theorem Wz:a63.ok prog 63:=ACtr.of_den (al (q32)) aB (hl:=ai) (d:=4) func63 rfl (by decide) (e63 lpK jnK)
def s8 (lp:Lp) (_:Jn) (x0:List Int):Option Int :=
 lp (Int×Int×PUnit) Int (fun (again:Int×Int×PUnit->Option Int) (x:Int×Int×PUnit)=>bif decide (x.2.1<(↑x0.length:Int)) then bif inB x.2.1 x0.length then again (IntKind.wrap IntKind.u32 (IntKind.wrap IntKind.u32 (IntKind.wrap IntKind.u32 (31*x.1)+IntKind.wrap IntKind.u32 (x0.getD x.2.1.toNat (0 : Int)))+1),IntKind.wrap .i64 (x.2.1+1),PUnit.unit) else none else some (IntKind.wrap .i64 x.1)) (0,0,PUnit.unit)
def eF (x0:List Int):Option Int:=s8 lpK jnK x0
abbrev t64:=(List Int)->Option (Int)
def k64 (eF:t64):Ctr:=⟨[(.sl (.int .u8))],[],[],.one i64,fun x _ _=>eF x.1⟩
def c64:Ctr:=k64 eF
theorem e64 (lp:Lp) (jn:Jn):∀(x:TsS c64.as) (F:TsF c64.fs) (y:TsS c64.cs),s8 lp jn x.1=bg lp jn (cx [] [(32,r32),(92,r92),(112,aV)]) ai 4 64 f64 c64 x F y:=fun x F y=>by kernel_rfl
theorem WM:c64.ok prog 64:=Ctr.of_den (al (q32)) aB (hl:=ai) (d:=4) func64 rfl (by decide) (e64 lpK jnK)
def oZ (lp:Lp) (jn:Jn) (cm:t49) (cj:t51) (eF:t64) (f8:(List Int)->(Int)->(Int)->Option (List Int)) (x0:(List (Int×Int))×Bool×List (Int×Int)):Option ((List Int)×Int×Unit) :=
 ah (cm x0) fun (t:List (Int×Int)×List (Int×Int)×PUnit) =>
 let v4:List Int:=[IntKind.wrap IntKind.u8 (↑t.1.length:Int)];ah (cj x0) fun (t_1:Bool)=>bif !t_1 then some ([],1,PUnit.unit) else bif decide ((↑t.2.1.length:Int)>0) then some ([],19,PUnit.unit) else bif decide ((↑t.1.length:Int)>20) then some ([],4,PUnit.unit) else jn (List Int×PUnit) (List Int×Int×PUnit) (fun (x:List Int×PUnit)=>lp (List Int×Int×PUnit) (List Int×Int×PUnit) (fun (again:List Int×Int×PUnit->Option (List Int×Int×PUnit)) (x:List Int×Int×PUnit) =>
 let v9:Int×Int:=t.1.getD x.2.1.toNat (0,0);bif decide (x.2.1<(↑t.1.length:Int)) then bif inB x.2.1 t.1.length then ah (f8 x.1 v9.1 8) fun (t:List Int)=>ah (f8 t v9.2 8) fun (t:List Int)=>again (t,IntKind.wrap .i64 (x.2.1+1), PUnit.unit) else none else ah (eF x.1) fun (t:Int)=>ah (f8 x.1 t 4) fun (t:List Int)=>some (t,0,PUnit.unit)) (x.1,0, PUnit.unit)) fun (j:List Int×PUnit->Option (List Int×Int×PUnit))=>bif x0.2.1 then j (84 ::67 ::1 ::v4,PUnit.unit) else j (84 ::(67 : Int) ::0 ::v4,PUnit.unit)
def cb (x0:(List (Int×Int))×Bool×List (Int×Int)):Option ((List Int)×Int×Unit):=oZ lpK jnK cm cj eF f8 x0
abbrev t25:=((List (Int×Int))×Bool×List (Int×Int))->Option ((List Int)×Int×Unit)
def k25 (cb:t25):Ctr:=⟨[T30],[],[],.tup [(.sl (.int .u8)),i64],fun x _ _=>cb x.1⟩
def c25:Ctr:=k25 cb
theorem e25 (lp:Lp) (jn:Jn) (cm:t49) (cj:t51) (eF:t64) (f8:(List Int)->(Int)->(Int)->Option (List Int)):∀(x:TsS c25.as) (F:TsF c25.fs) (y:TsS c25.cs),oZ lp jn cm cj eF f8 x.1=bg lp jn (xr yU yX (T7 [(63,⟨[i64,i64],5,(.int .u8),fun l x=>f8 l x.1 x.2.1⟩)] (jD prog shs tQ its [(64,k64 eF),(51,k51 cj),(49,k49 cm)] [(32,r32),(92,r92),(112,aV)]))) ai 4 25 f25 c25 x F y:=fun x F y=>by kernel_rfl
theorem Yb:c25.ok prog 25:=Ctr.of_den (al (Qw (af (af (af (q32) (by kernel_rfl) Uw) (by kernel_rfl) VC) (by kernel_rfl) WM) (Il (by kernel_rfl) Wz (NL)))) aB (hl:=ai) (d:=4) func25 rfl (by decide) (e25 lpK jnK cm cj eF f8)
def qk (_:Lp) (_:Jn) (aw:t24) (x0:Int):Option ((List (ByteArray×Int))×List (ByteArray×(List (ByteArray×Int×Int×Int))×Bool)) :=
 ah (aw 1) fun (t:Int×Int) =>
 let v4:ByteArray×Int×Int×Int:=({ data:=#[] },0,t);some ([({ data:=#[(98:UInt8)] },300)],[({ data:=#[(114:UInt8)] },[v4,({ data:=#[(98 : UInt8)] },x0,t),v4],true)])
def eP (x0:Int):Option ((List (ByteArray×Int))×List (ByteArray×(List (ByteArray×Int×Int×Int))×Bool)):=qk lpK jnK aw x0
abbrev t37:=(Int)->Option ((List (ByteArray×Int))×List (ByteArray×(List (ByteArray×Int×Int×Int))×Bool))
def c37:Ctr:=⟨[i64],[],[],.one T25,fun x _ _=>eP x.1⟩
theorem e37 (lp:Lp) (jn:Jn) (aw:t24):∀(x:TsS c37.as) (F:TsF c37.fs) (y:TsS c37.cs),qk lp jn aw x.1=bg lp jn (cx [(24,k24 aw)] [(32,r32),(92,r92),(112,aV)]) ai 4 37 f37 c37 x F y:=fun x F y=>by kernel_rfl
theorem WC:c37.ok prog 37:=Ctr.of_den (al (af (q32) (by kernel_rfl) A0)) aB (hl:=ai) (d:=4) func37 rfl (by decide) (e37 lpK jnK aw)
def xe (_:Lp) (_:Jn) (x0:Bool) (x1:List (Int×Int)):Option ((List (Int×Int))×Bool×List (Int×Int)) :=
 bif x0 then some ([],true,x1) else some (x1,false,[])
def jf (x0:Bool) (x1:List (Int×Int)):Option ((List (Int×Int))×Bool×List (Int×Int)):=xe lpK jnK x0 x1
abbrev t38:=(Bool)->(List (Int×Int))->Option ((List (Int×Int))×Bool×List (Int×Int))
def k38 (jf:t38):Ctr:=⟨[.bool,(.sl T47)],[],[],.one T30,fun x _ _=>jf x.1 x.2.1⟩
def c38:Ctr:=k38 jf
theorem e38 (lp:Lp) (jn:Jn):∀(x:TsS c38.as) (F:TsF c38.fs) (y:TsS c38.cs),xe lp jn x.1 x.2.1=bg lp jn (cx [] [(32,r32),(92,r92),(112,aV)]) ai 4 38 f38 c38 x F y:=fun x F y=>by kernel_rfl
theorem Xg:c38.ok prog 38:=Ctr.of_den (al (q32)) aB (hl:=ai) (d:=4) func38 rfl (by decide) (e38 lpK jnK)
def sY (_:Lp) (_:Jn) (aY:t13) (be:t15) (aR:t19) (aw:t24) (cb:t25) (eP:t37) (jf:t38):Option Bool :=
 ah (eP 2) fun (t:List (ByteArray×Int)×List (ByteArray×List (ByteArray×Int×Int×Int)×Bool))=>ah (aY t) fun (t:(List (Int×Int)×Bool × List (Int×Int))×Int×PUnit) =>
 let v4:Bool:=decide (t.2.1=0);
 let v5:Bool:=!v4||v4;ah (eP (-2)) fun (t_1:List (ByteArray×Int)×List (ByteArray×List (ByteArray×Int×Int×Int)×Bool))=>ah (aY t_1) fun (t_2:(List (Int×Int)×Bool×List (Int×Int))×Int×PUnit)=>ah (eP (-2)) fun (t_3:List (ByteArray×Int)×List (ByteArray×List (ByteArray×Int × Int×Int)×Bool))=>ah (aw 1) fun (t_4:Int×Int)=>ah (jf true [t_4]) fun (t_5:List (Int×Int)×Bool×List (Int×Int))=>ah (aR t_3 t_5) fun (t_6:Bool×Int×PUnit)=>ah (cb ([],false,[])) fun (t_7:List Int×Int×PUnit)=>ah (bif v4 then aw 150 else some (0,(0 : Int))) fun (t_8:Int×Int)=>bif v5 then bif v5 then ah (bif v4 then jf false [t_8] else some ([],false,[])) fun (t_9:List (Int×Int)×Bool×List (Int×Int))=>bif v5&&v5 then ah (bif v4 then be t.1 t_9 else some false) fun (t:Bool) =>
 let v16:Bool:=bif v4 then t else false;
 let v17:Bool:=!v16||v16;
 let v18:Bool:=bif v16 then decide (t_2.2.1=0) else false;
 let v19:Bool:=bif v18 then t_2.1.2.1 else false;
 let v20:Bool:=!v18||v18;
 let v21:Bool:=bif v19 then decide ((↑t_2.1.2.2.length:Int)=1) else false;
 let v22:Bool:=!v19||v19;
 let v23:Bool:=bif v21 then decide (t_6.2.1=0) else false;
 let v24:Bool:=bif v23 then t_6.1 else false;
 let v25:Bool:=bif v24 then decide (t_7.2.1=0) else false;
 let v26:Bool:=!v21||v21;
 let v27:Bool:=!v24||v24;
 let v28:Bool:=!v25||v25;bif v5 then bif v17 then bif v17 then bif v20 then bif v20 then bif v22 then bif v22 then bif v22 then bif v22 then bif v26 then bif v26 then bif !v23 || v23 then bif v27 then bif v27 then bif v28 then bif v28 then bif v28 then some (bif v25 then decide ((↑t_7.1.length:Int)=8) else false) else none else none else none else none else none else none else none else none else none else none else none else none else none else none else none else none else none else none else none else none
def aW:Option Bool:=sY lpK jnK aY be aR aw cb eP jf
abbrev t11:=Option (Bool)
def k11 (aW:t11):Ctr:=⟨[],[],[],.one .bool,fun _ _ _=>aW⟩
def c11:Ctr:=k11 aW
theorem e11 (lp:Lp) (jn:Jn) (aY:t13) (be:t15) (aR:t19) (aw:t24) (cb:t25) (eP:t37) (jf:t38):∀(x:TsS c11.as) (F:TsF c11.fs) (y:TsS c11.cs),sY lp jn aY be aR aw cb eP jf=bg lp jn (cx [(38,k38 jf),(37,⟨[i64],[],[],.one T25,fun x _ _=>eP x.1⟩),(25,k25 cb),(24,k24 aw),(19,k19 aR),(15,k15 be),(13,k13 aY)] [(32,r32),(92,r92),(112,aV)]) ai 4 11 f11 c11 x F y:=fun x F y=>by kernel_rfl
theorem WJ:c11.ok prog 11:=Ctr.of_den (al (af (af (af (af (af (af (af (q32) (by kernel_rfl) Uk) (by kernel_rfl) Uo) (by kernel_rfl) XS) (by kernel_rfl) A0) (by kernel_rfl) Yb) (by kernel_rfl) WC) (by kernel_rfl) Xg)) aB (hl:=ai) (d:=4) func11 rfl (by decide) (e11 lpK jnK aY be aR aw cb eP jf)
def oh (lp:Lp) (_:Jn) (x0:(List (ByteArray×Int))×List (ByteArray×(List (ByteArray×Int×Int×Int))×Bool)):Option Bool :=
 
 let v3:Bool:=decide ((↑x0.1.length:Int)>9);
 let v4:Bool:=!v3;
 let v5:Bool:=!v4||v4;bif v5 then bif v5 then bif v5 then bif v3||v4 then bif bif v3 then true else decide ((↑x0.2.length:Int)>9) then some false else lp (Int × PUnit) Bool (fun (again:Int×PUnit->Option Bool) (x:Int×PUnit)=>bif decide (x.1<(↑x0.1.length:Int)) then bif inB x.1 x0.1.length then bif decide ((↑(ByteArray.size (x0.1.getD x.1.toNat ({ data:={ toList:=[] } },0)).1):Int)>60) then some false else again (IntKind.wrap .i64 (x.1 + 1),PUnit.unit) else none else lp (Int×PUnit) Bool (fun (again:Int×PUnit->Option Bool) (x:Int×PUnit) =>
 let v10:Bool:=inB x.1 x0.2.length;
 let v11:Bool:=decide ((↑(ByteArray.size (x0.2.getD x.1.toNat ({ data:={ toList:=[] } },[],false)).1):Int)>60);
 let v12:Bool:=!v11;
 let v13:Bool:=!v12;
 let v14:Bool:=v13||v12;bif decide (x.1<(↑x0.2.length:Int)) then bif v10 then bif v14 then bif v14&&(v14&&(v13||v10)) then bif v14 then bif v14 then bif v14 then bif v14 then bif v11||v12 then bif bif v11 then true else decide ((↑(List.length (x0.2.getD x.1.toNat ({ data:={ toList:=[] } },[],false)).2.1):Int) > 13) then some false else lp (Int×PUnit) Bool (fun (again_1:Int×PUnit->Option Bool) (x_1:Int×PUnit)=>bif v10 then bif decide (x_1.1<(↑(List.length (x0.2.getD x.1.toNat ({ data:={ toList:=[] } },[],false)).2.1):Int)) then bif v10 then bif inB x_1.1 (List.length (x0.2.getD x.1.toNat ({ data:={ toList:=[] } },[],false)).2.1) then bif decide ((↑(ByteArray.size (List.getD (x0.2.getD x.1.toNat ({ data:={ toList:=[] } },[],false)).2.1 x_1.1.toNat ({ data:={ toList:=[] } },0,0,0)).1):Int)>60) then some false else again_1 (IntKind.wrap .i64 (x_1.1+1), PUnit.unit) else none else none else again (IntKind.wrap .i64 (x.1+1),PUnit.unit) else none) (0,PUnit.unit) else none else none else none else none else none else none else none else none else some true) (0,PUnit.unit)) (0,PUnit.unit) else none else none else none else none
def bm (x0:(List (ByteArray×Int))×List (ByteArray×(List (ByteArray×Int×Int×Int))×Bool)):Option Bool:=oh lpK jnK x0
abbrev t12:=((List (ByteArray×Int))×List (ByteArray×(List (ByteArray×Int×Int×Int))×Bool))->Option (Bool)
def k12 (bm:t12):Ctr:=⟨[T25],[],[],.one .bool,fun x _ _=>bm x.1⟩
def c12:Ctr:=k12 bm
theorem e12 (lp:Lp) (jn:Jn):∀(x:TsS c12.as) (F:TsF c12.fs) (y:TsS c12.cs),oh lp jn x.1=bg lp jn (cx [] [(32,r32),(92,r92),(112,aV)]) ai 4 12 f12 c12 x F y:=fun x F y=>by kernel_rfl
theorem X0:c12.ok prog 12:=Ctr.of_den (al (q32)) aB (hl:=ai) (d:=4) func12 rfl (by decide) (e12 lpK jnK)
def qX (_:Lp) (_:Jn) (x0:Int):Option Bool :=
 
 let v3:Bool:=decide (x0>=97);
 let v4:Bool:=decide (x0>=65);
 let v5:Bool:=!v3||v3;
 let v6:Bool:=bif v3 then decide (x0<=122) else false;
 let v7:Bool:=!v6;
 let v8:Bool:=!v7;
 let v9:Bool:=v7&&v4;
 let v10:Bool:=v8||v7;bif v5 then bif v5 then bif v10 then bif v10 then bif !v9||v9 then bif (v8||v10)&&(v8||(!v4||(v8||v9))) then bif v6||v7 then some (bif v6 then true else bif v4 then decide (x0<=90) else false) else none else none else none else none else none else none else none
def ct (x0:Int):Option Bool:=qX lpK jnK x0
abbrev t76:=(Int)->Option (Bool)
def k76 (ct:t76):Ctr:=⟨[(.int .u8)],[],[],.one .bool,fun x _ _=>ct x.1⟩
def c76:Ctr:=k76 ct
theorem e76 (lp:Lp) (jn:Jn):∀(x:TsS c76.as) (F:TsF c76.fs) (y:TsS c76.cs),qX lp jn x.1=bg lp jn (cx [] [(32,r32),(92,r92),(112,aV)]) ai 4 76 f76 c76 x F y:=fun x F y=>by kernel_rfl
theorem UB:c76.ok prog 76:=Ctr.of_den (al (q32)) aB (hl:=ai) (d:=4) func76 rfl (by decide) (e76 lpK jnK)
def tn (_:Lp) (_:Jn) (x0:Int):Option Bool :=
 
 let v3:Bool:=decide (x0>=48);
 let v4:Bool:=!v3||v3;bif v4 then bif v4 then some (bif v3 then decide (x0<=57) else false) else none else none
def gH (x0:Int):Option Bool:=tn lpK jnK x0
abbrev TP:=(Int)->Option (Bool)
def N0:Ctr:=⟨[(.int .u8)],[],[],.one .bool,fun x _ _=>gH x.1⟩
theorem V1 (lp:Lp) (jn:Jn):∀(x:TsS N0.as) (F:TsF N0.fs) (y:TsS N0.cs),tn lp jn x.1=bg lp jn (cx [] [(32,r32),(92,r92),(112,aV)]) ai 4 115 f115 N0 x F y:=fun x F y=>by kernel_rfl
theorem UN:N0.ok prog 115:=Ctr.of_den (al (q32)) aB (hl:=ai) (d:=4) func115 rfl (by decide) (V1 lpK jnK)
def pv (lp:Lp) (_:Jn) (ct:t76) (gH:TP) (x0:ByteArray) (x1:Int):Option Int :=
 lp (Int×PUnit) Int (fun (again:Int×PUnit->Option Int) (x:Int×PUnit) =>
 let v6:Bool:=inB x.1 (ByteArray.size x0);
 let v7:Int:=fK x0 x.1.toNat;
 let v8:Bool:=decide (x.1<(↑(ByteArray.size x0):Int));
 let v9:Bool:=!v8;
 let v10:Bool:=v9||v8;
 let v11:Bool:=v9||v10;bif v10&&(v10&&(v9||v6)) then bif v10 then ah (bif v8 then ct v7 else some false) fun (t:Bool) =>
 let v13:Bool:=v8&&!t;
 let v14:Bool:=!v13;
 let v15:Bool:=v14||v13;bif v10 then bif v15&&(v15&&(v14||v6)) then bif v15 then ah (bif v13 then gH v7 else some false) fun (t_1:Bool) =>
 let v17:Bool:=bif t then true else t_1;
 let v18:Bool:=v8&&!v17;
 let v19:Bool:=!v18;
 let v20:Bool:=v19||v18;bif v11&&(v9||(t||(v9||v13))) then bif v10 then bif v20&&(v20&&(v19||v6)) then bif v20 then bif v11&&(v9||(v17||(v9||v18))) then bif v10 then bif bif v8 then bif v17 then true else decide (v7=95) else false then again (IntKind.wrap .i64 (x.1+1),PUnit.unit) else some x.1 else none else none else none else none else none else none else none else none else none else none else none) (x1,PUnit.unit)
def gI (x0:ByteArray) (x1:Int):Option Int:=pv lpK jnK ct gH x0 x1
abbrev t77:=(ByteArray)->(Int)->Option (Int)
def c77:Ctr:=⟨[.str,i64],[],[],.one i64,fun x _ _=>gI x.1 x.2.1⟩
theorem e77 (lp:Lp) (jn:Jn) (ct:t76) (gH:TP):∀(x:TsS c77.as) (F:TsF c77.fs) (y:TsS c77.cs),pv lp jn ct gH x.1 x.2.1=bg lp jn (cx [(115,⟨[(.int .u8)],[],[],.one .bool,fun x _ _=>gH x.1⟩),(76,k76 ct)] [(32,r32),(92,r92),(112,aV)]) ai 4 77 f77 c77 x F y:=fun x F y=>by kernel_rfl
theorem WQ:c77.ok prog 77:=Ctr.of_den (al (af (af (q32) (by kernel_rfl) UB) (by kernel_rfl) UN)) aB (hl:=ai) (d:=4) func77 rfl (by decide) (e77 lpK jnK ct gH)
def m0 (_:Lp) (_:Jn) (ct:t76) (gI:t77) (x0:ByteArray):Option Bool :=
 
 let v3:Bool:=decide ((↑(ByteArray.size x0):Int)=0);
 let v4:Bool:=!v3;
 let v5:Bool:=!v4||v4;
 let v6:Bool:=bif v3 then true else decide ((↑(ByteArray.size x0):Int)>20);
 let v7:Bool:=!v6;
 let v8:Bool:=!v7;
 let v9:Bool:=v8||v7;bif v5 then bif v5 then bif v3||v4 then bif v9&&(v8||inB 0 (ByteArray.size x0)) then bif v9 then ah (bif v7 then ct (fK x0 (0 : Nat)) else some false) fun (t:Bool)=>bif v9 then bif v6||v7 then bif bif v6 then true else !t then some false else ah (gI x0 0) fun (t:Int)=>some (decide (t = (↑(ByteArray.size x0):Int))) else none else none else none else none else none else none else none
def e8 (x0:ByteArray):Option Bool:=m0 lpK jnK ct gI x0
abbrev t39:=(ByteArray)->Option (Bool)
def c39:Ctr:=⟨[.str],[],[],.one .bool,fun x _ _=>e8 x.1⟩
theorem e39 (lp:Lp) (jn:Jn) (ct:t76) (gI:t77):∀(x:TsS c39.as) (F:TsF c39.fs) (y:TsS c39.cs),m0 lp jn ct gI x.1=bg lp jn (cx [(77,⟨[.str,i64],[],[],.one i64,fun x _ _=>gI x.1 x.2.1⟩),(76,k76 ct)] [(32,r32),(92,r92),(112,aV)]) ai 4 39 f39 c39 x F y:=fun x F y=>by kernel_rfl
theorem XQ:c39.ok prog 39:=Ctr.of_den (al (af (af (q32) (by kernel_rfl) UB) (by kernel_rfl) WQ)) aB (hl:=ai) (d:=4) func39 rfl (by decide) (e39 lpK jnK ct gI)
def kA (lp:Lp) (_:Jn) (x0:(List (ByteArray×Int))×List (ByteArray×(List (ByteArray×Int×Int×Int))×Bool)) (x1:ByteArray):Option Int :=
 lp (Int×PUnit) Int (fun (again:Int×PUnit->Option Int) (x:Int×PUnit)=>bif decide (x.1<(↑x0.1.length:Int)) then bif inB x.1 x0.1.length then bif List.beq (ByteArray.toList (x0.1.getD x.1.toNat ({ data:={ toList:=[] } },0)).1) (ByteArray.toList x1) then some x.1 else again (IntKind.wrap .i64 (x.1+1),PUnit.unit) else none else some (-1)) (0,PUnit.unit)
def bo (x0:(List (ByteArray×Int))×List (ByteArray×(List (ByteArray×Int×Int×Int))×Bool)) (x1:ByteArray):Option Int:=kA lpK jnK x0 x1
abbrev t40:=((List (ByteArray×Int))×List (ByteArray×(List (ByteArray×Int×Int×Int))×Bool))->(ByteArray)->Option (Int)
def k40 (bo:t40):Ctr:=⟨[T25,.str],[],[],.one i64,fun x _ _=>bo x.1 x.2.1⟩
def c40:Ctr:=k40 bo
theorem e40 (lp:Lp) (jn:Jn):∀(x:TsS c40.as) (F:TsF c40.fs) (y:TsS c40.cs),kA lp jn x.1 x.2.1=bg lp jn (cx [] [(32,r32),(92,r92),(112,aV)]) ai 4 40 f40 c40 x F y:=fun x F y=>by kernel_rfl
theorem VK:c40.ok prog 40:=Ctr.of_den (al (q32)) aB (hl:=ai) (d:=4) func40 rfl (by decide) (e40 lpK jnK)
def lk (lp:Lp) (_:Jn) (x0:(List (ByteArray×Int))×List (ByteArray×(List (ByteArray×Int×Int×Int))×Bool)) (x1:ByteArray):Option Int :=
 lp (Int×PUnit) Int (fun (again:Int×PUnit->Option Int) (x:Int×PUnit)=>bif decide (x.1<(↑x0.2.length:Int)) then bif inB x.1 x0.2.length then bif List.beq (ByteArray.toList (x0.2.getD x.1.toNat ({ data:={ toList:=[] } },[],false)).1) (ByteArray.toList x1) then some x.1 else again (IntKind.wrap .i64 (x.1+1),PUnit.unit) else none else some (-1)) (0,PUnit.unit)
def dW (x0:(List (ByteArray×Int))×List (ByteArray×(List (ByteArray×Int×Int×Int))×Bool)) (x1:ByteArray):Option Int:=lk lpK jnK x0 x1
abbrev t41:=((List (ByteArray×Int))×List (ByteArray×(List (ByteArray×Int×Int×Int))×Bool))->(ByteArray)->Option (Int)
def c41:Ctr:=⟨[T25,.str],[],[],.one i64,fun x _ _=>dW x.1 x.2.1⟩
theorem e41 (lp:Lp) (jn:Jn):∀(x:TsS c41.as) (F:TsF c41.fs) (y:TsS c41.cs),lk lp jn x.1 x.2.1=bg lp jn (cx [] [(32,r32),(92,r92),(112,aV)]) ai 4 41 f41 c41 x F y:=fun x F y=>by kernel_rfl
theorem Wd:c41.ok prog 41:=Ctr.of_den (al (q32)) aB (hl:=ai) (d:=4) func41 rfl (by decide) (e41 lpK jnK)
def pA (_:Lp) (_:Jn) (x0:Int×Int) (x1:Int×Int):Option Bool :=
 
 let v4:Bool:=decide (x0.1=x1.1);
 let v5:Bool:=decide (x0.1<x1.1);
 let v6:Bool:=!v5;
 let v7:Bool:=!v6;
 let v8:Bool:=v6&&v4;
 let v9:Bool:=v7||v6;
 let v10:Bool:=!v8||v8;bif v9 then bif v9 then bif v9&&v9 then bif v9 then bif v10 then bif v10 then bif v10&&v10 then bif (v7||v9)&&(v7||(!v4||(v7||v8))) then bif v5 || v6 then some (bif v5 then true else bif v4 then decide (x0.2<x1.2) else false) else none else none else none else none else none else none else none else none else none
def bq (x0:Int×Int) (x1:Int×Int):Option Bool:=pA lpK jnK x0 x1
abbrev BW:=(Int×Int)->(Int×Int)->Option (Bool)
def Ke (bq:BW):Ctr:=⟨[iW,iW],[],[],.one .bool,fun x _ _=>bq x.1 x.2.1⟩
def Mn:Ctr:=Ke bq
theorem Xq (lp:Lp) (jn:Jn):∀(x:TsS Mn.as) (F:TsF Mn.fs) (y:TsS Mn.cs),pA lp jn x.1 x.2.1=bg lp jn (cx [] [(32,r32),(92,r92),(112,aV)]) ai 4 161 f161 Mn x F y:=fun x F y=>by kernel_rfl
theorem Hl:Mn.ok prog 161:=Ctr.of_den (al (q32)) aB (hl:=ai) (d:=4) func161 rfl (by decide) (Xq lpK jnK)
def pE (_:Lp) (_:Jn) (x0:Int×Int) (x1:Int×Int):Option (Int×Int) :=
 
 let v4:Int:=IntKind.wrap .u64 (x0.1+x1.1);
 let v5:Int:=IntKind.wrap .u64 (x0.2+x1.2);bif decide (v5<x0.2) then some (IntKind.wrap .u64 (v4+1),v5) else some (v4,v5)
def c8 (x0:Int×Int) (x1:Int×Int):Option (Int×Int):=pE lpK jnK x0 x1
abbrev Mo:=(Int×Int)->(Int×Int)->Option (Int×Int)
def SA (c8:Mo):Ctr:=⟨[iW,iW],[],[],.one iW,fun x _ _=>c8 x.1 x.2.1⟩
def MI:Ctr:=SA c8
theorem W4 (lp:Lp) (jn:Jn):∀(x:TsS MI.as) (F:TsF MI.fs) (y:TsS MI.cs),pE lp jn x.1 x.2.1=bg lp jn (cx [] [(32,r32),(92,r92),(112,aV)]) ai 4 163 f163 MI x F y:=fun x F y=>by kernel_rfl
theorem Q9:MI.ok prog 163:=Ctr.of_den (al (q32)) aB (hl:=ai) (d:=4) func163 rfl (by decide) (W4 lpK jnK)
def lu (_:Lp) (_:Jn) (x0:Int×Int) (x1:Int×Int):Option (Int×Int) :=
 
 let v4:Int:=IntKind.wrap .u64 (x0.1 - x1.1);
 let v5:Int:=IntKind.wrap .u64 (x0.2 - x1.2);bif decide (x0.2<x1.2) then some (IntKind.wrap .u64 (v4 - 1),v5) else some (v4,v5)
def bn (x0:Int×Int) (x1:Int×Int):Option (Int×Int):=lu lpK jnK x0 x1
abbrev EQ:=(Int×Int)->(Int×Int)->Option (Int×Int)
def O6 (bn:EQ):Ctr:=⟨[iW,iW],[],[],.one iW,fun x _ _=>bn x.1 x.2.1⟩
def LJ:Ctr:=O6 bn
theorem XR (lp:Lp) (jn:Jn):∀(x:TsS LJ.as) (F:TsF LJ.fs) (y:TsS LJ.cs),lu lp jn x.1 x.2.1=bg lp jn (cx [] [(32,r32),(92,r92),(112,aV)]) ai 4 164 f164 LJ x F y:=fun x F y=>by kernel_rfl
theorem Ks:LJ.ok prog 164:=Ctr.of_den (al (q32)) aB (hl:=ai) (d:=4) func164 rfl (by decide) (XR lpK jnK)
def pw (_:Lp) (_:Jn) (x0:Int×Int):Option (Int×Int) :=
 
 let v3:Int:=2 ^ 1;
 let v4:Bool:=decide ((0:Int)<=1);bif v4 then bif v4 then bif decide ((0:Int)<=63) then some (Int.fdiv x0.1 v3,IntKind.wrap .u64 (Int.fdiv x0.2 v3 + IntKind.wrap .u64 (x0.1*2 ^ 63))) else none else none else none
def fm (x0:Int×Int):Option (Int×Int):=pw lpK jnK x0
abbrev UT:=(Int×Int)->Option (Int×Int)
def KW:Ctr:=⟨[iW],[],[],.one iW,fun x _ _=>fm x.1⟩
theorem WZ (lp:Lp) (jn:Jn):∀(x:TsS KW.as) (F:TsF KW.fs) (y:TsS KW.cs),pw lp jn x.1=bg lp jn (cx [] [(32,r32),(92,r92),(112,aV)]) ai 4 180 f180 KW x F y:=fun x F y=>by kernel_rfl
theorem UZ:KW.ok prog 180:=Ctr.of_den (al (q32)) aB (hl:=ai) (d:=4) func180 rfl (by decide) (WZ lpK jnK)
def rL (lp:Lp) (_:Jn) (bq:BW) (c8:Mo) (bn:EQ) (fm:UT) (x0:Int×Int) (x1:Int×Int):Option (Int×Int) :=
 bif decide (x0.1=0)&&(decide (x0.2=0)&&true) then some x1 else lp (Int×(Int×Int)×(Int×Int)×PUnit) (Int×Int) (fun (again:Int×(Int×Int)×(Int × Int)×PUnit->Option (Int×Int)) (x:Int×(Int×Int)×(Int×Int)×PUnit) =>
 let v6:Bool:=decide (IntKind.wrap .u64 (↑(Nat.land (Int.toNat (x.2.1.2 % Int.ofNat 18446744073709551616)) (Int.toNat (1 % Int.ofNat (18446744073709551616 : Nat)))):Int)=0);
 let v7:Bool:=!v6||v6;bif v7 then bif v7 then bif v7 then bif v7 then bif bif v6 then decide (IntKind.wrap .u64 (↑(Nat.land (Int.toNat (x.2.2.1.2 % Int.ofNat 18446744073709551616)) (Int.toNat (1 % Int.ofNat 18446744073709551616))):Int)=0) else false then ah (fm x.2.1) fun (t:Int×Int) => ah (fm x.2.2.1) fun (t_1:Int×Int)=>again (IntKind.wrap .i64 (x.1+1),t,t_1,PUnit.unit) else lp ((Int×Int)×(Int×Int)×PUnit) (Int × Int) (fun (again:(Int×Int)×(Int×Int)×PUnit->Option (Int×Int)) (x_1:(Int×Int)×(Int×Int)×PUnit) =>
 let v10:(Int×Int)×PUnit:=(x_1.2.1,PUnit.unit);bif !(decide (x_1.1.1=0)&&(decide (x_1.1.2=0)&&true)) then lp ((Int×Int)×PUnit) (Int×Int) (fun (again_1:(Int×Int)×PUnit->Option (Int×Int)) (x:(Int×Int)×PUnit)=>bif decide (IntKind.wrap .u64 (↑(Nat.land (Int.toNat (x.1.2 % Int.ofNat 18446744073709551616)) (Int.toNat (1 % Int.ofNat 18446744073709551616))):Int)=0) then ah (fm x.1) fun (t:Int×Int)=>again_1 (t, PUnit.unit) else lp ((Int×Int)×PUnit) (Int×Int) (fun (again_2:(Int×Int)×PUnit->Option (Int×Int)) (x_2:(Int×Int)×PUnit)=>bif decide (IntKind.wrap .u64 (↑(Nat.land (Int.toNat (x_2.1.2 % Int.ofNat 18446744073709551616)) (Int.toNat (1 % Int.ofNat 18446744073709551616))):Int)=0) then ah (fm x_2.1) fun (t:Int×Int)=>again_2 (t,PUnit.unit) else ah (bq x.1 x_2.1) fun (t:Bool)=>bif t then ah (bn x_2.1 x.1) fun (t:Int × Int)=>again (t,x.1,PUnit.unit) else ah (bn x.1 x_2.1) fun (t:Int×Int)=>again (t,x_2.1,PUnit.unit)) v10) (x_1.1,PUnit.unit) else lp (Int×(Int×Int) × PUnit) (Int×Int) (fun (again:Int×(Int×Int)×PUnit->Option (Int×Int)) (x:Int×(Int×Int)×PUnit)=>bif decide (x.1>0) then ah (c8 x.2.1 x.2.1) fun (t:Int×Int)=>again (IntKind.wrap .i64 (x.1 - 1),t,PUnit.unit) else some x.2.1) (x.1,v10)) (x.2.1,x.2.2.1,PUnit.unit) else none else none else none else none) (0,x0,x1,PUnit.unit)
def dN (x0:Int×Int) (x1:Int×Int):Option (Int×Int):=rL lpK jnK bq c8 bn fm x0 x1
abbrev NG:=(Int×Int)->(Int×Int)->Option (Int×Int)
def Ss (dN:NG):Ctr:=⟨[iW,iW],[],[],.one iW,fun x _ _=>dN x.1 x.2.1⟩
def J3:Ctr:=Ss dN
theorem Xb (lp:Lp) (jn:Jn) (bq:BW) (c8:Mo) (bn:EQ) (fm:UT):∀(x:TsS J3.as) (F:TsF J3.fs) (y:TsS J3.cs),rL lp jn bq c8 bn fm x.1 x.2.1=bg lp jn (cx [(180,⟨[iW],[],[],.one iW,fun x _ _=>fm x.1⟩),(164,O6 bn),(163,SA c8),(161,Ke bq)] [(32,r32),(92,r92),(112,aV)]) ai 4 152 f152 J3 x F y:=fun x F y=>by kernel_rfl
theorem Rh:J3.ok prog 152:=Ctr.of_den (al (af (af (af (af (q32) (by kernel_rfl) Hl) (by kernel_rfl) Q9) (by kernel_rfl) Ks) (by kernel_rfl) UZ)) aB (hl:=ai) (d:=4) func152 rfl (by decide) (Xb lpK jnK bq c8 bn fm)
def pW (_:Lp) (_:Jn) (x0:Int):Option Int :=
 
 let v3:Int:=IntKind.wrap .u64 x0;bif decide (x0<0) then some (IntKind.wrap .u64 (0 - v3)) else some v3
def aJ (x0:Int):Option Int:=pW lpK jnK x0
abbrev Bb:=(Int)->Option (Int)
def Nr (aJ:Bb):Ctr:=⟨[i64],[],[],.one (.int .u64),fun x _ _=>aJ x.1⟩
def Nb:Ctr:=Nr aJ
theorem Xk (lp:Lp) (jn:Jn):∀(x:TsS Nb.as) (F:TsF Nb.fs) (y:TsS Nb.cs),pW lp jn x.1=bg lp jn (cx [] [(32,r32),(92,r92),(112,aV)]) ai 4 153 f153 Nb x F y:=fun x F y=>by kernel_rfl
theorem Hn:Nb.ok prog 153:=Ctr.of_den (al (q32)) aB (hl:=ai) (d:=4) func153 rfl (by decide) (Xk lpK jnK)
def od (_:Lp) (_:Jn) (dN:NG) (aJ:Bb) (x0:Int×Int):Option Bool :=
 
 let v3:Bool:=decide (x0.2<1);
 let v4:Bool:=!v3;
 let v5:Bool:=bif v3 then true else decide (x0.2>1152921504606846976);
 let v6:Bool:=!v4||v4;
 let v7:Bool:=!v5;
 let v8:Bool:=bif v5 then true else decide (x0.1<(-1152921504606846976));
 let v9:Bool:=!v8;
 let v10:Bool:=!v7||v7;
 let v11:Bool:=!v9||v9;bif v6 then bif v6 then bif v3||v4 then bif v10 then bif v10 then bif v5||v7 then bif v11 then bif v11 then bif v8||v9 then bif bif v8 then true else decide (x0.1>1152921504606846976) then some false else ah (aJ x0.1) fun (t:Int)=>ah (aJ x0.2) fun (t_1:Int)=>ah (dN (0, t) (0,t_1)) fun (t:Int×Int)=>some (decide (t.1=0)&&(decide (t.2=1)&&true)) else none else none else none else none else none else none else none else none else none
def cG (x0:Int×Int):Option Bool:=od lpK jnK dN aJ x0
abbrev Nk:=(Int×Int)->Option (Bool)
def Tl (cG:Nk):Ctr:=⟨[T47],[],[],.one .bool,fun x _ _=>cG x.1⟩
def KO:Ctr:=Tl cG
theorem Ws (lp:Lp) (jn:Jn) (dN:NG) (aJ:Bb):∀(x:TsS KO.as) (F:TsF KO.fs) (y:TsS KO.cs),od lp jn dN aJ x.1=bg lp jn (cx [(153,Nr aJ),(152,Ss dN)] [(32,r32),(92,r92),(112,aV)]) ai 4 108 f108 KO x F y:=fun x F y=>by kernel_rfl
theorem Ry:KO.ok prog 108:=Ctr.of_den (al (af (af (q32) (by kernel_rfl) Rh) (by kernel_rfl) Hn)) aB (hl:=ai) (d:=4) func108 rfl (by decide) (Ws lpK jnK dN aJ)
def kw (_:Lp) (_:Jn) (cG:Nk) (x0:Int×Int):Option Bool :=
 ah (cG x0) fun (t:Bool) =>
 let v4:Bool:=!t||t;
 let v5:Bool:=bif t then decide (x0.1>=x0.2) else false;
 let v6:Bool:=!v5||v5;bif v4 then bif v4 then bif v4&&v4 then bif v4 then bif v6 then bif v6 then bif v6 then some (bif v5 then decide (x0.1<=100) else false) else none else none else none else none else none else none else none
def dy (x0:Int×Int):Option Bool:=kw lpK jnK cG x0
abbrev U1:=(Int×Int)->Option (Bool)
def Nu:Ctr:=⟨[T47],[],[],.one .bool,fun x _ _=>dy x.1⟩
theorem VW (lp:Lp) (jn:Jn) (cG:Nk):∀(x:TsS Nu.as) (F:TsF Nu.fs) (y:TsS Nu.cs),kw lp jn cG x.1=bg lp jn (cx [(108,Tl cG)] [(32,r32),(92,r92),(112,aV)]) ai 4 116 f116 Nu x F y:=fun x F y=>by kernel_rfl
theorem UU:Nu.ok prog 116:=Ctr.of_den (al (af (q32) (by kernel_rfl) Ry)) aB (hl:=ai) (d:=4) func116 rfl (by decide) (VW lpK jnK cG)
def pD (_:Lp) (_:Jn) (aw:t24) (bo:t40) (dy:U1) (x0:(List (ByteArray×Int))×List (ByteArray×(List (ByteArray×Int×Int×Int))×Bool)) (x1:ByteArray×Int×Int×Int) (x2:Bool):Option Bool :=
 
 let v5:Bool:=!x2||x2;
 let v6:Bool:=decide (x1.2.1=0);
 let v7:Bool:=decide (x1.2.1=1);
 let v8:Bool:=decide (x1.2.1=2);
 let v9:Bool:=!v7;
 let v10:Bool:=!v8;
 let v11:Bool:=bif v8 then true else v6;
 let v12:Bool:=!v9||v9;
 let v13:Bool:=!v10||v10;
 let v14:Bool:=!v11;
 let v15:Bool:=!v14||v14;bif v5 then ah (bif x2 then aw 1 else some (0,0)) fun (t:Int×Int) =>
 let v17:Bool:=bif x2 then !(decide (x1.2.2.1=t.1)&&(decide (x1.2.2.2=t.2)&&true)) else false;
 let v18:Bool:=!v17;
 let v19:Bool:=!v18||v18;bif v5&&v5 then bif v5 then bif v19 then bif v19 then ah (bif v18 then dy x1.2.2 else some false) fun (t:Bool)=>bif v19 then bif v17||v18 then bif bif v17 then true else !t then some false else bif List.beq (ByteArray.toList x1.1) (ByteArray.toList { data:=#[] }) then some v6 else ah (bo x0 x1.1) fun (t:Int)=>bif decide (t<0) then some false else bif x2 then bif v12 then bif v12 then bif v7||v9 then some (bif v7 then true else decide (x1.2.1=(-1 : Int))) else none else none else none else bif v13 then bif v13 then bif v8||v10 then bif v15 then bif v15 then bif v11||v14 then some (bif v11 then true else decide (x1.2.1 = (-2))) else none else none else none else none else none else none else none else none else none else none else none else none else none
def fL (x0:(List (ByteArray×Int))×List (ByteArray×(List (ByteArray×Int×Int×Int))×Bool)) (x1:ByteArray×Int×Int×Int) (x2:Bool):Option Bool:=pD lpK jnK aw bo dy x0 x1 x2
abbrev t78:=((List (ByteArray×Int))×List (ByteArray×(List (ByteArray×Int×Int×Int))×Bool))->(ByteArray×Int×Int×Int)->(Bool)->Option (Bool)
def k78 (fL:t78):Ctr:=⟨[T25,T74,.bool],[],[],.one .bool,fun x _ _=>fL x.1 x.2.1 x.2.2.1⟩
def c78:Ctr:=k78 fL
theorem e78 (lp:Lp) (jn:Jn) (aw:t24) (bo:t40) (dy:U1):∀(x:TsS c78.as) (F:TsF c78.fs) (y:TsS c78.cs),pD lp jn aw bo dy x.1 x.2.1 x.2.2.1=bg lp jn (cx [(116,⟨[T47],[],[],.one .bool,fun x _ _=>dy x.1⟩),(40,k40 bo),(24,k24 aw)] [(32,r32),(92,r92),(112,aV)]) ai 4 78 f78 c78 x F y:=fun x F y=>by kernel_rfl
theorem X6:c78.ok prog 78:=Ctr.of_den (al (af (af (af (q32) (by kernel_rfl) A0) (by kernel_rfl) VK) (by kernel_rfl) UU)) aB (hl:=ai) (d:=4) func78 rfl (by decide) (e78 lpK jnK aw bo dy)
def o6 (lp:Lp) (_:Jn) (fL:t78) (x0:(List (ByteArray×Int))×List (ByteArray×(List (ByteArray×Int×Int×Int))×Bool)) (x1:ByteArray×(List (ByteArray×Int×Int×Int))×Bool):Option Bool :=
 
 let v4:Bool:=!x1.2.2;
 let v5:Bool:=!v4;
 let v6:Bool:=!v5;
 let v7:Int:=IntKind.wrap .i64 ((↑x1.2.1.length:Int) - 1);
 let v8:Bool:=v6||v5;
 let v9:Bool:=decide ((↑x1.2.1.length:Int)<2);
 let v10:Bool:=!v9;
 let v11:Bool:=!v10||v10;bif v11 then bif v11 then bif v11 then bif v9||v10 then bif bif v9 then true else decide ((↑x1.2.1.length:Int)>10) then some false else lp (Int×PUnit) Bool (fun (again:Int×PUnit->Option Bool) (x:Int×PUnit) =>
 let v14:Bool:=decide (x.1=0);
 let v15:Bool:=!v14;
 let v16:Bool:=!v15||v15;bif decide (x.1<(↑x1.2.1.length:Int)) then bif inB x.1 x1.2.1.length then bif v16 then bif v16 then bif v16 then bif v16 && v16 then bif v14||v15 then ah (fL x0 (x1.2.1.getD x.1.toNat ({ data:={ toList:=[] } },0,0,0)) (bif v14 then true else decide (x.1=v7))) fun (t:Bool)=>bif !t then some false else again (IntKind.wrap .i64 (x.1+1),PUnit.unit) else none else none else none else none else none else none else bif v8 then bif v8 then bif v8 then bif v8 then bif v8&&(v8&&(v6||inB v7 x1.2.1.length)) then bif v8 then bif v8 then bif v8 then bif v4||v5 then some (bif v4 then true else List.beq (ByteArray.toList (x1.2.1.getD v7.toNat ({ data:={ toList:=[] } },0,0,0)).1) (ByteArray.toList { data:=#[] })) else none else none else none else none else none else none else none else none else none) (0,PUnit.unit) else none else none else none else none
def gL (x0:(List (ByteArray×Int))×List (ByteArray×(List (ByteArray×Int×Int×Int))×Bool)) (x1:ByteArray×(List (ByteArray×Int×Int×Int))×Bool):Option Bool:=o6 lpK jnK fL x0 x1
abbrev t42:=((List (ByteArray×Int))×List (ByteArray×(List (ByteArray×Int×Int×Int))×Bool))->(ByteArray×(List (ByteArray×Int×Int×Int))×Bool)->Option (Bool)
def c42:Ctr:=⟨[T25,T72],[],[],.one .bool,fun x _ _=>gL x.1 x.2.1⟩
theorem e42 (lp:Lp) (jn:Jn) (fL:t78):∀(x:TsS c42.as) (F:TsF c42.fs) (y:TsS c42.cs),o6 lp jn fL x.1 x.2.1=bg lp jn (cx [(78,k78 fL)] [(32,r32),(92,r92),(112,aV)]) ai 4 42 f42 c42 x F y:=fun x F y=>by kernel_rfl
theorem Wb:c42.ok prog 42:=Ctr.of_den (al (af (q32) (by kernel_rfl) X6)) aB (hl:=ai) (d:=4) func42 rfl (by decide) (e42 lpK jnK fL)
def og (lp:Lp) (_:Jn) (e8:t39) (bo:t40) (dW:t41) (gL:t42) (x0:(List (ByteArray×Int))×List (ByteArray×(List (ByteArray×Int×Int×Int))×Bool)):Option Bool :=
 
 let v3:Bool:=decide ((↑x0.1.length:Int)<1);
 let v4:Bool:=!v3;
 let v5:Bool:=bif v3 then true else decide ((↑x0.1.length:Int)>6);
 let v6:Bool:=!v4||v4;
 let v7:Bool:=!v5;
 let v8:Bool:=bif v5 then true else decide ((↑x0.2.length:Int)<1);
 let v9:Bool:=!v8;
 let v10:Bool:=!v7||v7;
 let v11:Bool:=!v9||v9;bif v6 then bif v6 then bif v6 then bif v3||v4 then bif v10 then bif v10 then bif v10 then bif v5||v7 then bif v11 then bif v11 then bif v11 then bif v8 || v9 then bif bif v8 then true else decide ((↑x0.2.length:Int)>6) then some false else lp (Int×PUnit) Bool (fun (again:Int×PUnit->Option Bool) (x:Int × PUnit)=>bif decide (x.1<(↑x0.1.length:Int)) then bif inB x.1 x0.1.length then ah (e8 (x0.1.getD x.1.toNat ({ data:={ toList := [] } },0)).1) fun (t:Bool) =>
 let v15:Bool:=!t;
 let v16:Bool:=!v15;
 let v17:Bool:=!v16||v16;
 let v18:Bool:=v17&&v17;bif v17 then bif v18 then ah (bif v16 then bo x0 (x0.1.getD x.1.toNat ({ data:={ toList:=[] } },0)).1 else some 0) fun (t:Int) =>
 let v20:Bool:=bif v15 then true else !decide (t=x.1);
 let v21:Bool:=!v20;
 let v22:Bool:=!v21||v21;
 let v23:Bool:=bif v20 then true else decide ((x0.1.getD x.1.toNat ({ data:={ toList:=[] } },0)).2<0);
 let v24:Bool:=!v23;
 let v25:Bool:=!v24||v24;bif v18 then bif v15||v16 then bif v22 then bif v22 then bif v20||v21 then bif v25 then bif v25 then bif v23||v24 then bif bif v23 then true else decide ((x0.1.getD x.1.toNat ({ data:={ toList:=[] } },0)).2>16777216) then some false else again (IntKind.wrap .i64 (x.1+1), PUnit.unit) else none else none else none else none else none else none else none else none else none else none else none else lp (Int×Int×PUnit) Bool (fun (again:Int×Int × PUnit->Option Bool) (x:Int×Int×PUnit) =>
 let v16:Int×PUnit:=(IntKind.wrap .i64 (x.2.1+1),PUnit.unit);
 let v17:ByteArray×List (ByteArray×Int×Int×Int)×Bool:=x0.2.getD x.2.1.toNat ({ data:={ toList:=[] } },[],false);bif decide (x.2.1<(↑x0.2.length:Int)) then bif inB x.2.1 x0.2.length then ah (e8 v17.1) fun (t:Bool) =>
 let v19:Bool:=!t;
 let v20:Bool:=!v19;
 let v21:Bool:=!v20||v20;
 let v22:Bool:=v21&&v21;bif v21 then bif v22 then ah (bif v20 then dW x0 v17.1 else some 0) fun (t:Int) =>
 let v24:Bool:=bif v19 then true else !decide (t=x.2.1);
 let v25:Bool:=!v24;
 let v26:Bool:=!v25||v25;bif v22 then bif v19||v20 then bif v26 then bif v26&&v26 then ah (bif v25 then bo x0 v17.1 else some 0) fun (t:Int) =>
 let v28:Bool:=bif v24 then true else decide (t>=0);
 let v29:Bool:=!v28;
 let v30:Bool:=!v29||v29;bif v26 then bif v24||v25 then bif v30&&v30 then ah (bif v29 then gL x0 v17 else some false) fun (t:Bool)=>bif v30 then bif v28||v29 then bif bif v28 then true else !t then some false else bif v17.2.2 then again (IntKind.wrap .i64 (x.1+1),v16) else again (x.1,v16) else none else none else none else none else none else none else none else none else none else none else none else none else some (decide (x.1<=1))) (0,0,PUnit.unit)) (0, PUnit.unit) else none else none else none else none else none else none else none else none else none else none else none else none
def aK (x0:(List (ByteArray×Int))×List (ByteArray×(List (ByteArray×Int×Int×Int))×Bool)):Option Bool:=og lpK jnK e8 bo dW gL x0
abbrev t14:=((List (ByteArray×Int))×List (ByteArray×(List (ByteArray×Int×Int×Int))×Bool))->Option (Bool)
def k14 (aK:t14):Ctr:=⟨[T25],[],[],.one .bool,fun x _ _=>aK x.1⟩
def c14:Ctr:=k14 aK
theorem e14 (lp:Lp) (jn:Jn) (e8:t39) (bo:t40) (dW:t41) (gL:t42):∀(x:TsS c14.as) (F:TsF c14.fs) (y:TsS c14.cs),og lp jn e8 bo dW gL x.1=bg lp jn (cx [(42,⟨[T25,T72],[],[],.one .bool,fun x _ _=>gL x.1 x.2.1⟩),(41,⟨[T25,.str],[],[],.one i64,fun x _ _=>dW x.1 x.2.1⟩),(40,k40 bo),(39,⟨[.str],[],[],.one .bool,fun x _ _=>e8 x.1⟩)] [(32,r32),(92,r92),(112,aV)]) ai 4 14 f14 c14 x F y:=fun x F y=>by kernel_rfl
theorem SN:c14.ok prog 14:=Ctr.of_den (al (af (af (af (af (q32) (by kernel_rfl) XQ) (by kernel_rfl) VK) (by kernel_rfl) Wd) (by kernel_rfl) Wb)) aB (hl:=ai) (d:=4) func14 rfl (by decide) (e14 lpK jnK e8 bo dW gL)
def pT (_:Lp) (_:Jn) (x0:Int):Option Int :=
 some (if IntKind.wrap .i64 (0 - x0)>x0 then IntKind.wrap .i64 (0 - x0) else x0)
def eU (x0:Int):Option Int:=pT lpK jnK x0
abbrev VN:=(Int)->Option (Int)
def Ny:Ctr:=⟨[i64],[],[],.one i64,fun x _ _=>eU x.1⟩
theorem W9 (lp:Lp) (jn:Jn):∀(x:TsS Ny.as) (F:TsF Ny.fs) (y:TsS Ny.cs),pT lp jn x.1=bg lp jn (cx [] [(32,r32),(92,r92),(112,aV)]) ai 4 117 f117 Ny x F y:=fun x F y=>by kernel_rfl
theorem VJ:Ny.ok prog 117:=Ctr.of_den (al (q32)) aB (hl:=ai) (d:=4) func117 rfl (by decide) (W9 lpK jnK)
def l6 (lp:Lp) (_:Jn) (eU:VN) (x0:(List Int)×List ((List Int)×Int×Int)):Option (List Int) :=
 lp (Int×Int×PUnit) (List Int) (fun (again:Int×Int×PUnit->Option (List Int)) (x:Int×Int×PUnit)=>bif decide (x.2.1<(↑x0.1.length:Int)) then bif inB x.2.1 x0.1.length then ah (eU (x0.1.getD x.2.1.toNat 0)) fun (t:Int)=>again (IntKind.wrap .i64 (x.1+t),IntKind.wrap IntKind.i64 (x.2.1+1),PUnit.unit) else none else lp (List Int×Int×PUnit) (List Int) (fun (again:List Int×Int×PUnit->Option (List Int)) (x:List Int×Int × PUnit) =>
 let v7:Bool:=inB x.2.1 x0.2.length;
 let v8:List Int×Int×Int:=x0.2.getD x.2.1.toNat ([],0,0);bif decide (x.2.1<(↑x0.2.length:Int)) then bif v7 then ah (eU v8.2.2) fun (t:Int)=>lp (Int×Int×PUnit) (List Int) (fun (again_1:Int×Int×PUnit->Option (List Int)) (x_1:Int×Int×PUnit)=>bif decide (x_1.2.1 < (↑x0.1.length:Int)) then bif v7 then bif inB x_1.2.1 v8.1.length then ah (eU (v8.1.getD x_1.2.1.toNat 0)) fun (t:Int) => again_1 (IntKind.wrap .i64 (x_1.1+t),IntKind.wrap .i64 (x_1.2.1+1),PUnit.unit) else none else none else bif eC (List.length x.1+1) (8 : Nat) then again (x.1++[x_1.1],IntKind.wrap .i64 (x.2.1+1),PUnit.unit) else none) (IntKind.wrap .i64 (1+t),0,PUnit.unit) else none else some x.1) ([x.1],0,PUnit.unit)) (1,0,PUnit.unit)
def eO (x0:(List Int)×List ((List Int)×Int×Int)):Option (List Int):=l6 lpK jnK eU x0
abbrev t79:=((List Int)×List ((List Int)×Int×Int))->Option (List Int)
def c79:Ctr:=⟨[T82],[],[],.one (.sl i64),fun x _ _=>eO x.1⟩
theorem e79 (lp:Lp) (jn:Jn) (eU:VN):∀(x:TsS c79.as) (F:TsF c79.fs) (y:TsS c79.cs),l6 lp jn eU x.1=bg lp jn (cx [(117,⟨[i64],[],[],.one i64,fun x _ _=>eU x.1⟩)] [(32,r32),(92,r92),(112,aV)]) ai 4 79 f79 c79 x F y:=fun x F y=>by kernel_rfl
theorem Wq:c79.ok prog 79:=Ctr.of_den (al (af (q32) (by kernel_rfl) VJ)) aB (hl:=ai) (d:=4) func79 rfl (by decide) (e79 lpK jnK eU)
end
end Go.Proofs.YtegbncajloeepaaGreat
