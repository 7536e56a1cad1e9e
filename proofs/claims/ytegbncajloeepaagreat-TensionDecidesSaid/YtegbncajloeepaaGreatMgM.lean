/- r50: the shapes of its types, and the places of its loops. r50: what its functions answer (printed by a program), and that they do. r50: what its functions answer (printed by a program), and that they do; part 2. -/
import Derived.Test.YtegbncajloeepaaGreatProg
import Derived.KernelRfl
import Derived.Test.YtegbncajloeepaaGreatMgL

namespace Go.Proofs.YtegbncajloeepaaGreat
open Tryz Dn Dn.Sh
abbrev i64:Sh:=.int .i64
abbrev T45:Sh:=.agg (.pair .str i64)
abbrev T47:Sh:=.agg (.pair i64 i64)
abbrev T74:Sh:=.agg (.pair .str (.pair i64 T47))
abbrev T72:Sh:=.agg (.pair .str (.pair (.sl T74) .bool))
abbrev T25:Sh:=.agg (.pair (.sl T45) (.sl T72))
abbrev T30:Sh:=.agg (.pair (.sl T47) (.pair .bool (.sl T47)))
abbrev Ej:Sh:=.agg (.pair (.sl i64) (.pair i64 i64))
abbrev T82:Sh:=.agg (.pair (.sl i64) (.sl Ej))
abbrev T94:Sh:=.agg (.pair T47 (.pair (.sl T47) (.sl T47)))
abbrev nY:Sh:=.agg (.pair (.int .u64) (.int .u64))
abbrev JP:Sh:=.agg (.pair (.sl (.sl i64)) (.pair i64 (.pair (.sl i64) (.pair (.sl i64) (.pair (.sl i64) (.pair i64 i64))))))
abbrev SG:Sh:=.agg i64
abbrev lS:Sh:=.agg (.pair (.int .u64) (.int .u64))
abbrev uu:Sh:=.agg (.pair .bool (.pair (.int .u64) (.int .u64)))
def shs:TypeId->Option Sh
 | 3=>some i64
 | 4=>some .bool
 | 5=>some (.int .u8)
 | 9=>some .str
 | 28=>some (.sl T47)
 | 45=>some T45
 | 47=>some T47
 | 72=>some T72
 | 74=>some T74
 | 79=>some (.sl i64)
 | 124=>some Ej
 | _=>none
def PX:Nat->Option Hd
 | 3=>some ⟨[(3,false,[.d i64]),(11,false,[.d i64])],[],[]⟩
 | 11=>some ⟨[(6,false,[.row 47 T47]),(27,false,[.d i64])],[],[]⟩
 | _=>none
def Oi:Nat->Option Hd
 | 2=>some ⟨[(3,false,[.d i64])],[],[]⟩
 | _=>none
def KQ:Nat->Option Hd
 | 2=>some ⟨[(8,false,[.d i64])],[],[]⟩
 | _=>none
def Q3:Nat->Option Hd
 | 1=>some ⟨[(0,false,[.d (.int .u64)]),(1,false,[.d (.int .u64)])],[],[]⟩
 | _=>none
def Qs:Nat->Option Hd
 | 5=>some ⟨[(17,false,[.d i64])],[],[]⟩
 | _=>none
def PP:Nat->Option Hd
 | 6=>some ⟨[(27,false,[.d i64])],[],[(3,some 0,.x (.map 133 .str .bool))]⟩
 | 13=>some ⟨[(7,false,[.d i64]),(46,false,[.d i64])],[],[(3,some 0,.x (.map 133 .str .bool))]⟩
 | _=>none
def OY:Nat->Option Hd
 | 5=>some ⟨[(20,false,[.d i64])],[],[(4,none,.x (.tab 79 .ref 3 i64))]⟩
 | 10=>some ⟨[(34,false,[.d i64])],[],[(4,none,.x (.tab 79 .ref 3 i64))]⟩
 | 13=>some ⟨[(42,false,[.d i64])],[],[(4,none,.x (.tab 79 .ref 3 i64))]⟩
 | _=>none
def Qu:Nat->Option Hd
 | 5=>some ⟨[(4,false,[.row 3 i64]),(13,false,[.d i64])],[],[]⟩
 | _=>none
def PV:Nat->Option Hd
 | 9=>some ⟨[(34,false,[.d i64])],[(9,[.d (.sl i64),.row 124 Ej])],[]⟩
 | _=>none
def O0:Nat->Option Hd
 | 8=>some ⟨[(8,false,[.d i64])],[],[(7,none,.row 3 i64)]⟩
 | _=>none
def O3:Nat->Option Hd
 | 1000002=>some ⟨[],[],[]⟩
 | 1000005=>some ⟨[],[],[]⟩
 | _=>none
def Ka:Nat->Option Hd
 | 2=>some ⟨[(8,false,[.d i64])],[],[]⟩
 | _=>none
def KP:Nat->Option Hd
 | 2=>some ⟨[(8,false,[.d i64])],[],[]⟩
 | _=>none
def Mm:Nat->Option Hd
 | 3=>some ⟨[(5,false,[.d i64]),(14,false,[.d i64])],[],[]⟩
 | _=>none
def NT:Nat->Option Hd
 | 5=>some ⟨[(3,false,[.d i64]),(4,false,[.d i64])],[],[]⟩
 | _=>none
def Ly:Nat->Option Hd
 | 1000002=>some ⟨[],[],[]⟩
 | _=>none
def LO:Nat->Option Hd
 | 4=>some ⟨[(4,false,[.row 3 i64]),(18,false,[.d i64])],[],[]⟩
 | 10=>some ⟨[(7,false,[.d i64]),(34,false,[.d i64])],[],[]⟩
 | _=>none
def L1:Nat->Option Hd
 | 4=>some ⟨[(5,false,[.d i64]),(24,false,[.d i64])],[],[]⟩
 | 12=>some ⟨[(9,false,[.d i64]),(51,false,[.d i64])],[(46,[.x (.tab 79 .ref 3 i64),.d i64,.row 3 i64,.row 3 i64,.row 3 i64,.d i64,.d i64])],[]⟩
 | 28=>some ⟨[(95,false,[.d i64])],[],[(12,none,.row 3 i64)]⟩
 | _=>none
def Mu:Nat->Option Hd
 | 1000019=>some ⟨[(9,false,[.d i64])],[],[(12,none,.row 3 i64)]⟩
 | 1000022=>some ⟨[(9,false,[.d i64])],[],[(12,none,.row 3 i64)]⟩
 | 1000026=>some ⟨[(13,false,[.d i64])],[],[(12,none,.row 3 i64)]⟩
 | _=>none
def K6:Nat->Option Hd
 | 3=>some ⟨[(5,false,[.d i64]),(13,false,[.d i64])],[],[]⟩
 | _=>none
def Ot:Nat->Option Hd
 | 1000008=>some ⟨[(10,false,[.d .bool])],[(2,[.d uu]),(3,[.d uu])],[]⟩
 | _=>none
def Lc:Nat->Option Hd
 | 1000002=>some ⟨[(0,false,[.d (.int .u64)]),(2,false,[.d i64])],[],[]⟩
 | 1000005=>some ⟨[(0,false,[.d (.int .u64)]),(2,false,[.d i64])],[],[]⟩
 | _=>none
def NN:Nat->Option Hd
 | 17=>some ⟨[(15,false,[.d (.int .u64)]),(16,false,[.d (.int .u64)])],[],[]⟩
 | 24=>some ⟨[(16,false,[.d (.int .u64)]),(18,false,[.d (.int .u64)])],[],[]⟩
 | _=>none
def LM:Nat->Option Hd
 | 0=>some ⟨[(15,false,[.d (.int .u64)])],[],[]⟩
 | 2=>some ⟨[(18,false,[.d (.int .u64)])],[],[]⟩
 | 1000002=>some ⟨[],[],[]⟩
 | 1000004=>some ⟨[],[],[]⟩
 | _=>none
def J0:Nat->Option Hd
 | 2=>some ⟨[(29,false,[.d i64])],[],[(0,some 0,.x (.tab 79 .ref 3 i64))]⟩
 | 7=>some ⟨[(43,false,[.d i64])],[],[(0,some 0,.x (.tab 79 .ref 3 i64))]⟩
 | 17=>some ⟨[(98,false,[.d i64])],[],[(0,some 0,.x (.tab 79 .ref 3 i64))]⟩
 | 20=>some ⟨[(104,false,[.d i64])],[],[(0,some 0,.x (.tab 79 .ref 3 i64))]⟩
 | _=>none
def Nk:Nat->Option Hd
 | 3=>some ⟨[(5,false,[.d i64]),(14,false,[.d i64])],[],[]⟩
 | _=>none
def Ln:Nat->Option Hd
 | 1=>some ⟨[],[(0,[.x (.tab 79 .ref 3 i64),.d i64,.row 3 i64,.row 3 i64,.row 3 i64,.d i64,.d i64])],[]⟩
 | 3=>some ⟨[(3,false,[.d i64]),(4,false,[.d i64])],[],[]⟩
 | 12=>some ⟨[(44,false,[.d i64])],[(0,[.x (.tab 79 .ref 3 i64),.d i64,.row 3 i64,.row 3 i64,.row 3 i64,.d i64,.d i64])],[]⟩
 | 15=>some ⟨[(6,false,[.d i64])],[(0,[.x (.tab 79 .ref 3 i64),.d i64,.row 3 i64,.row 3 i64,.row 3 i64,.d i64,.d i64])],[]⟩
 | _=>none
def KT:Nat->Option Hd
 | 3=>some ⟨[(5,false,[.d i64]),(21,false,[.d i64])],[],[]⟩
 | _=>none
def KD:Nat->Option Hd
 | 1=>some ⟨[],[(0,[.x (.tab 79 .ref 3 i64),.d i64,.row 3 i64,.row 3 i64,.row 3 i64,.d i64,.d i64])],[]⟩
 | 3=>some ⟨[(3,false,[.d i64]),(4,false,[.d i64])],[],[]⟩
 | _=>none
def P0:Nat->Option Hd
 | 14=>some ⟨[(6,false,[.d i64]),(43,false,[.d i64])],[],[(7,none,.row 3 i64)]⟩
 | 22=>some ⟨[(94,false,[.d i64])],[(5,[.d T47,.row 47 T47,.row 47 T47])],[]⟩
 | 27=>some ⟨[(110,false,[.d i64])],[(5,[.d T47,.row 47 T47,.row 47 T47])],[]⟩
 | 31=>some ⟨[(13,false,[.d i64]),(118,false,[.d i64])],[],[]⟩
 | _=>none
def Py:Nat->Option Hd
 | 10=>some ⟨[(5,false,[.row 47 T47]),(20,false,[.d i64])],[],[]⟩
 | _=>none
def QO:Nat->Option Hd
 | 4=>some ⟨[(13,false,[.d i64])],[],[]⟩
 | _=>none
def Pa:Nat->Option Hd
 | 2=>some ⟨[(8,false,[.d i64])],[],[]⟩
 | _=>none
def Md:Nat->Option Hd
 | 1000002=>some ⟨[],[],[]⟩
 | _=>none
def Mh:Nat->Option Hd
 | 1000008=>some ⟨[(9,false,[.d .bool])],[(10,[.d nY])],[]⟩
 | 1000010=>some ⟨[(9,false,[.d .bool])],[(10,[.d nY])],[]⟩
 | _=>none
def J7:Nat->Option Hd
 | 3=>some ⟨[(15,false,[.d i64])],[(0,[.d SG]),(6,[.d T47]),(7,[.d T47])],[]⟩
 | _=>none
def Kr:Nat->Option Hd
 | 1000007=>some ⟨[(11,false,[.d i64])],[(10,[.d T47])],[]⟩
 | _=>none
def Kz:Nat->Option Hd
 | 1000009=>some ⟨[],[(6,[.d nY]),(7,[.d nY])],[]⟩
 | _=>none
def Oh:Nat->Option Hd
 | 3=>some ⟨[(5,false,[.row 3 i64]),(11,false,[.d i64])],[],[]⟩
 | _=>none
def NR:Nat->Option Hd
 | 3=>some ⟨[(9,false,[.d .bool]),(14,false,[.d i64])],[(0,[.d SG])],[]⟩
 | _=>none
def No:Nat->Option Hd
 | 3=>some ⟨[(3,false,[.row 3 i64]),(9,false,[.d i64])],[],[]⟩
 | _=>none
def Mg:Nat->Option Hd
 | 2=>some ⟨[(10,false,[.d i64])],[],[]⟩
 | _=>none
def OG:Nat->Option Hd
 | 7=>some ⟨[(8,false,[.row 47 T47]),(9,false,[.d i64]),(25,false,[.d i64])],[],[]⟩
 | 11=>some ⟨[(31,false,[.d i64])],[(11,[.d T47])],[]⟩
 | _=>none
def Qf:Nat->Option Hd
 | 1000004=>some ⟨[(8,false,[.d i64])],[],[]⟩
 | _=>none
def OW:Nat->Option Hd
 | 2=>some ⟨[(0,false,[.row 5 (.int .u8)]),(7,false,[.d i64])],[],[]⟩
 | _=>none
def Qz:Nat->Option Hd
 | 3=>some ⟨[(3,false,[.d (.int .u32)]),(8,false,[.d i64])],[],[]⟩
 | _=>none
def Po:Nat->Option Hd
 | 12=>some ⟨[(6,false,[.row 5 (.int .u8)]),(36,false,[.d i64])],[],[]⟩
 | _=>none
def Qn:Nat->Option Hd
 | 1000010=>some ⟨[],[],[(6,none,.row 5 (.int .u8))]⟩
 | _=>none
def PR:Nat->Option Hd
 | 4=>some ⟨[(3,false,[.d i64])],[],[]⟩
 | 9=>some ⟨[(4,false,[.d i64])],[],[]⟩
 | 14=>some ⟨[(5,false,[.d i64])],[],[]⟩
 | _=>none
def QM:Nat->Option Hd
 | 1=>some ⟨[(1,false,[.d i64])],[],[]⟩
 | _=>none
def Pj:Nat->Option Hd
 | 2=>some ⟨[(5,false,[.d i64])],[],[]⟩
 | _=>none
def QQ:Nat->Option Hd
 | 2=>some ⟨[(5,false,[.d i64])],[],[]⟩
 | _=>none
def Kk:Nat->Option Hd
 | 4=>some ⟨[(5,false,[.d i64])],[(2,[.d lS]),(3,[.d lS])],[]⟩
 | 6=>some ⟨[],[(2,[.d lS]),(3,[.d lS])],[]⟩
 | 7=>some ⟨[],[(2,[.d lS])],[]⟩
 | 9=>some ⟨[],[(3,[.d lS])],[]⟩
 | 14=>some ⟨[(5,false,[.d i64])],[(3,[.d lS])],[]⟩
 | _=>none
def O7:Nat->Option Hd
 | 4=>some ⟨[(5,false,[.d i64])],[],[]⟩
 | _=>none
def Qt:Nat->Option Hd
 | 4=>some ⟨[(3,false,[.d i64])],[],[]⟩
 | 11=>some ⟨[(5,false,[.d i64]),(6,false,[.d i64])],[],[]⟩
 | _=>none
def OS:Nat->Option Hd
 | 3=>some ⟨[(3,false,[.d i64]),(4,false,[.d i64])],[],[]⟩
 | 8=>some ⟨[(5,false,[.row 3 i64]),(6,false,[.d i64])],[],[]⟩
 | 12=>some ⟨[(7,false,[.d i64]),(8,false,[.d i64])],[],[]⟩
 | _=>none
def Q1:Nat->Option Hd
 | 3=>some ⟨[(6,false,[.d i64]),(7,false,[.d i64])],[],[]⟩
 | _=>none
def Pm:Nat->Option Hd
 | 5=>some ⟨[(6,false,[.d i64]),(7,false,[.d i64])],[],[]⟩
 | _=>none
def JZ:Nat->Option Hd
 | 3=>some ⟨[(5,false,[.d i64]),(6,false,[.d i64])],[],[]⟩
 | _=>none
def Qi:Nat->Option Hd
 | 3=>some ⟨[(3,false,[.x (.tab 79 .ref 3 i64)]),(4,false,[.d i64])],[],[]⟩
 | 7=>some ⟨[(5,false,[.row 3 i64]),(6,false,[.d i64])],[],[]⟩
 | _=>none
def QC:Nat->Option Hd
 | 4=>some ⟨[(7,false,[.d i64])],[(5,[.d (.sl i64),.row 124 Ej])],[]⟩
 | _=>none
def QL:Nat->Option Hd
 | 3=>some ⟨[(3,false,[.row 3 i64]),(4,false,[.d i64])],[],[]⟩
 | _=>none
def Qh:Nat->Option Hd
 | 2=>some ⟨[(3,false,[.d i64])],[],[]⟩
 | _=>none
def LB:Nat->Option Hd
 | 5=>some ⟨[(8,false,[.d i64])],[(2,[.d lS]),(6,[.d lS]),(7,[.d lS])],[]⟩
 | _=>none
def PW:Nat->Option Hd
 | 3=>some ⟨[(7,false,[.d i64])],[(4,[.d T47]),(6,[.d T47])],[]⟩
 | _=>none
def MA:Nat->Option Hd
 | 3=>some ⟨[(5,false,[.row 3 i64]),(6,false,[.d i64])],[],[]⟩
 | _=>none
def Pr:Nat->Option Hd
 | 3=>some ⟨[(8,false,[.d .bool]),(9,false,[.d i64])],[],[]⟩
 | _=>none
def OT:Nat->Option Hd
 | 3=>some ⟨[(3,false,[.row 3 i64]),(4,false,[.d i64])],[],[]⟩
 | _=>none
def O8:Nat->Option Hd
 | 2=>some ⟨[(5,false,[.d i64])],[],[]⟩
 | _=>none
def M8:Nat->Option Hd
 | 3=>some ⟨[(7,false,[.d i64])],[(4,[.d T47]),(6,[.d T47])],[]⟩
 | _=>none
def P8:Nat->Option Hd
 | 7=>some ⟨[(8,false,[.row 47 T47]),(9,false,[.d i64])],[],[]⟩
 | _=>none
def Q2:Nat->Option Hd
 | 5=>some ⟨[(8,false,[.d i64])],[],[]⟩
 | _=>none
def Q4:Nat->Option Hd
 | 18=>some ⟨[(9,false,[.d .bool]),(10,false,[.d i64])],[],[]⟩
 | _=>none
def OX:Nat->Option Hd
 | 1000009=>some ⟨[(8,false,[.d i64])],[],[]⟩
 | _=>none
def Pp:Nat->Option Hd
 | 3=>some ⟨[(4,false,[.d i64])],[(3,[.row 45 T45,.row 72 T72])],[]⟩
 | _=>none
def Td:Nat->Option Hd
 | 10=>some ⟨[(45,false,[.d i64])],[],[(7,some 0,.row 45 T45)]⟩
 | 20=>some ⟨[(69,false,[.d i64])],[(9,[.row 47 T47,.d .bool,.d (.sl T47)])],[]⟩
 | _=>none
def R6:Nat->Option Hd
 | 1000018=>some ⟨[],[(9,[.row 47 T47,.d .bool,.d (.sl T47)])],[]⟩
 | _=>none
def Px:Nat->Option Hd
 | 2=>some ⟨[(0,false,[.row 5 (.int .u8)]),(7,false,[.d i64])],[],[]⟩
 | _=>none
def O4:Nat->Option Hd
 | 3=>some ⟨[(3,false,[.d i64]),(4,false,[.d i64])],[],[]⟩
 | _=>none
def Pu:Nat->Option Hd
 | 11=>some ⟨[(6,false,[.row 5 (.int .u8)]),(7,false,[.d i64])],[],[]⟩
 | _=>none
def OH:Nat->Option Hd
 | 1000009=>some ⟨[],[],[(6,none,.row 5 (.int .u8))]⟩
 | _=>none
def Pt:Nat->Option Hd
 | 4=>some ⟨[(13,false,[.d i64])],[],[]⟩
 | _=>none
def OM:Nat->Option Hd
 | 4=>some ⟨[(5,false,[.d i64])],[],[]⟩
 | _=>none
def P9:Nat->Option Hd
 | 3=>some ⟨[(3,false,[.d i64]),(8,false,[.d i64])],[],[]⟩
 | _=>none
def QA:Nat->Option Hd
 | 12=>some ⟨[(5,false,[.row 47 T47]),(6,false,[.d i64])],[(2,[.d T30])],[]⟩
 | _=>none
def PD:Nat->Option Hd
 | 3=>some ⟨[(3,false,[.d i64]),(4,false,[.d i64])],[],[]⟩
 | _=>none
def Q5:Nat->Option Hd
 | 12=>some ⟨[(5,false,[.row 47 T47]),(6,false,[.d i64])],[],[]⟩
 | _=>none
def J9:Nat->Option Hd
 | 2=>some ⟨[(8,false,[.d i64])],[],[]⟩
 | _=>none
def K9:Nat->Option Hd
 | 1000007=>some ⟨[(12,false,[.d (.int .u64)]),(13,false,[.d (.int .u64)]),(18,false,[.d .bool])],[],[]⟩
 | 1000008=>some ⟨[(12,false,[.d (.int .u64)]),(13,false,[.d (.int .u64)]),(14,false,[.d (.int .u64)]),(15,false,[.d (.int .u64)]),(18,false,[.d .bool])],[],[]⟩
 | _=>none
def Na:Nat->Option Hd
 | 3=>some ⟨[(20,false,[.d i64])],[(5,[.x (.tab 79 .ref 3 i64),.d i64,.row 3 i64,.row 3 i64,.d .bool])],[]⟩
 | 9=>some ⟨[(40,false,[.d i64])],[(5,[.x (.tab 79 .ref 3 i64),.d i64,.row 3 i64,.row 3 i64,.d .bool])],[]⟩
 | 14=>some ⟨[(10,false,[.d i64]),(11,false,[.d i64])],[],[]⟩
 | 19=>some ⟨[(10,false,[.d i64])],[(5,[.x (.tab 79 .ref 3 i64),.d i64,.row 3 i64,.row 3 i64,.d .bool])],[]⟩
 | 26=>some ⟨[(130,false,[.d i64])],[],[(5,some 0,.x (.tab 79 .ref 3 i64))]⟩
 | 31=>some ⟨[(144,false,[.d i64])],[],[(5,some 0,.x (.tab 79 .ref 3 i64))]⟩
 | _=>none
def QK:Nat->Option Hd
 | 10=>some ⟨[(7,false,[.x (.tab 79 .ref 3 i64)]),(37,false,[.d i64])],[],[]⟩
 | 16=>some ⟨[(64,false,[.d i64])],[],[]⟩
 | 25=>some ⟨[(13,false,[.row 47 T47]),(80,false,[.d i64])],[],[]⟩
 | _=>none
def Tn:Nat->List Nat
 | 2000014=>[7]
 | _=>[]
def ak:FuncId->Hint
 | 92=>{loop:=PX}
 | 127=>{loop:=Oi}
 | 154=>{loop:=KQ}
 | 59=>{loop:=Q3}
 | 91=>{loop:=Qs}
 | 50=>{loop:=PP}
 | 72=>{loop:=OY}
 | 73=>{loop:=Qu}
 | 97=>{loop:=PV}
 | 98=>{loop:=O0,join:=O3}
 | 174=>{loop:=Ka}
 | 175=>{loop:=KP}
 | 146=>{loop:=Mm}
 | 148=>{loop:=NT,join:=Ly}
 | 100=>{loop:=LO}
 | 101=>{loop:=L1,join:=Mu}
 | 106=>{loop:=K6}
 | 177=>{join:=Ot}
 | 194=>{join:=Lc}
 | 185=>{loop:=NN,join:=LM}
 | 149=>{loop:=J0}
 | 150=>{loop:=Nk}
 | 102=>{loop:=Ln}
 | 151=>{loop:=KT}
 | 103=>{loop:=KD}
 | 56=>{loop:=P0}
 | 57=>{loop:=Py}
 | 36=>{loop:=QO}
 | 75=>{loop:=Pa}
 | 129=>{join:=Md}
 | 171=>{join:=Mh}
 | 133=>{loop:=J7,join:=Kr}
 | 187=>{join:=Kz}
 | 170=>{loop:=Oh}
 | 131=>{loop:=NR}
 | 134=>{loop:=No}
 | 135=>{loop:=Mg}
 | 95=>{loop:=OG}
 | 19=>{join:=Qf}
 | 63=>{loop:=OW}
 | 64=>{loop:=Qz}
 | 25=>{loop:=Po,join:=Qn}
 | 12=>{loop:=PR}
 | 77=>{loop:=QM}
 | 40=>{loop:=Pj}
 | 41=>{loop:=QQ}
 | 152=>{loop:=Kk}
 | 42=>{loop:=O7}
 | 14=>{loop:=Qt}
 | 79=>{loop:=OS}
 | 80=>{loop:=Q1}
 | 43=>{loop:=Pm}
 | 118=>{loop:=JZ}
 | 81=>{loop:=Qi}
 | 44=>{loop:=QC}
 | 45=>{loop:=QL}
 | 70=>{loop:=Qh}
 | 186=>{loop:=LB}
 | 83=>{loop:=PW}
 | 119=>{loop:=MA}
 | 82=>{loop:=Pr}
 | 84=>{loop:=OT}
 | 86=>{loop:=O8}
 | 124=>{loop:=M8}
 | 87=>{loop:=P8}
 | 48=>{loop:=Q2}
 | 18=>{loop:=Q4,join:=OX}
 | 22=>{loop:=Pp}
 | 6=>{loop:=Td,join:=R6,thaw:=Tn}
 | 65=>{loop:=Px}
 | 66=>{loop:=O4}
 | 26=>{loop:=Pu,join:=OH}
 | 27=>{loop:=Pt}
 | 67=>{loop:=OM}
 | 68=>{loop:=P9}
 | 29=>{loop:=QA}
 | 69=>{loop:=PD}
 | 30=>{loop:=Q5}
 | 181=>{loop:=J9}
 | 159=>{join:=K9}
 | 113=>{loop:=Na}
 | 74=>{loop:=QK}
 | _=>{}
def zD (p : String) : Bool := p == "program.go:104" || p == "ref.go:45" || p == "tension.go:104" || p == "ref.go:107"
def zH:TypeId->Option XP
 | 108=>some (.tab 79 .ref 3 i64)
 | 109=>some (.tab 79 .ref 3 i64)
 | _=>none
def ud:List Nat:=[89,175,144,145,101,149,102,103,129,131]
def its:List (Nat×ICtr):=[]
theorem UE:Nu prog its:=JK
end Go.Proofs.YtegbncajloeepaaGreat

namespace Go.Proofs.YtegbncajloeepaaGreat
noncomputable section
open Tryz Dn Dn.Sh
set_option maxRecDepth 100000
theorem aE:prog.follows .mixedOrders=true:=by kernel_rfl
theorem Sj:EW prog ud=true:=by kernel_rfl
theorem q0:(jb prog shs ud its [] []).ok:=Ia Sj UE
abbrev cx (l) (r):=yE zH zD (jb prog shs ud its l r)
def gM (_:Lp) (_:Jn) (x0:List Int):Option (List Int) :=
 bif dQ (0+List.length x0) 8 then some x0 else none
def bf (x0:List Int):Option (List Int):=gM lpK jnK x0
abbrev LU:=(List Int)->Option (List Int)
def Sk (bf:LU):RCtr:=⟨[(.sl i64)],3,i64,fun x=>bf x.1⟩
def bn:RCtr:=Sk bf
theorem W0 (lp:Lp) (jn:Jn):∀x:TsS bn.as,gM lp jn x.1=DC lp jn (cx [] []) ak 4 112 f112 bn.t bn.e (Ap bn.as x true):=fun x=>by kernel_rfl
theorem SX:bn.ok prog 112:=RCtr.of_den_nil (c:=bn) (ap (q0)) aE (hl:=ak) (d:=4) rfl func112 rfl (by decide) (W0 lpK jnK) fun x h=>by
 obtain ⟨l,u⟩:=x
 simp only at h
 subst h
 kernel_rfl
theorem VM:(jb prog shs ud its [] [(112,bn)]).ok:=vB q0 (by kernel_rfl) SX
def jo (lp:Lp) (jn:Jn) (x0:List (List (Int×Int))):Option (List (Int×Int)) :=
 lp (Int×Int×PUnit) (List (Int×Int)) (fun (again:Int×Int×PUnit->Option (List (Int×Int))) (x:Int×Int×PUnit)=>bif decide (x.2.1<(↑x0.length:Int)) then bif inB x.2.1 x0.length then bif decide (IntKind.wrap .i64 (x.1+(↑(List.length (x0.getD x.2.1.toNat [])):Int))<0) then none else again (IntKind.wrap .i64 (x.1+(↑(List.length (x0.getD x.2.1.toNat [])):Int)),IntKind.wrap .i64 (x.2.1+1),PUnit.unit) else none else jn PUnit (List (Int×Int)) (fun (_:PUnit)=>bif decide (IntKind.wrap .i64 (x.1 - IntKind.wrap .i64 ((↑0:Int) - (↑0:Int)))>0) then bif slB (0 : Int) (↑0:Int) 0 then bif decide (0<IntKind.wrap .i64 (x.1 - IntKind.wrap .i64 ((↑0:Int) - (↑0:Int))))&&dQ (Int.toNat (IntKind.wrap .i64 (x.1 - IntKind.wrap .i64 ((↑0:Int) - (↑0:Int))))) 16 then bif slB 0 (↑0:Int) (Int.toNat (IntKind.wrap IntKind.i64 (x.1 - IntKind.wrap .i64 ((↑0:Int) - (↑0:Int)))))&&decide (0<Int.toNat (IntKind.wrap .i64 (x.1 - IntKind.wrap .i64 ((↑0:Int) - (↑0:Int))))) then lp (List (Int×Int)×Int×PUnit) (List (Int×Int)) (fun (again:List (Int×Int)×Int×PUnit->Option (List (Int×Int))) (x : List (Int×Int)×Int×PUnit) =>
 let v8:List (Int×Int):=x0.getD x.2.1.toNat [];bif decide (x.2.1<(↑x0.length:Int)) then bif inB x.2.1 x0.length then bif dQ (List.length x.1+List.length v8) 16 then again (x.1++v8,IntKind.wrap .i64 (x.2.1+1),PUnit.unit) else none else none else some x.1) (List.take (Int.toNat (↑(0 : Nat):Int)) (List.replicate (Int.toNat (IntKind.wrap .i64 (x.1 - IntKind.wrap .i64 ((↑0:Int) - (↑0:Int))))) (0,0)),0, PUnit.unit) else none else none else none else lp (List (Int×Int)×Int×PUnit) (List (Int×Int)) (fun (again:List (Int×Int)×Int×PUnit->Option (List (Int×Int))) (x:List (Int×Int)×Int×PUnit) =>
 let v8:List (Int×Int):=x0.getD x.2.1.toNat [];bif decide (x.2.1<(↑x0.length:Int)) then bif inB x.2.1 x0.length then bif dQ (List.length x.1+List.length v8) 16 then again (x.1++v8,IntKind.wrap .i64 (x.2.1+1),PUnit.unit) else none else none else some x.1) ([],0, PUnit.unit)) fun (j:PUnit->Option (List (Int×Int)))=>bif decide (x.1<0) then none else j PUnit.unit) (0,0,PUnit.unit)
def cW (x0:List (List (Int×Int))):Option (List (Int×Int)):=jo lpK jnK x0
abbrev t92:=(List (List (Int×Int)))->Option (List (Int×Int))
def r92:RCtr:=⟨[(.sl (.sl T47))],47,T47,fun x=>cW x.1⟩
theorem e92 (lp:Lp) (jn:Jn):∀x:TsS r92.as,jo lp jn x.1=DC lp jn (cx [] [(112,bn)]) ak 4 92 f92 r92.t r92.e (ki r92.as x 0):=fun x=>by kernel_rfl
theorem TL:r92.ok prog 92:=RCtr.of_den (c:=r92) (ap (VM)) aE (hl:=ak) (d:=4) func92 rfl (by decide) (e92 lpK jnK)
theorem q92:(jb prog shs ud its [] [(92,r92),(112,bn)]).ok:=vB VM (by kernel_rfl) TL
def nV (_:Lp) (_:Jn) (x0:List Int):Option (List Int) :=
 bif dQ (0+List.length x0) 1 then some x0 else none
def wZ (x0:List Int):Option (List Int):=nV lpK jnK x0
def r32:RCtr:=⟨[(.sl (.int .u8))],5,(.int .u8),fun x=>wZ x.1⟩
theorem e32 (lp:Lp) (jn:Jn):∀x:TsS r32.as,nV lp jn x.1=DC lp jn (cx [] [(92,r92),(112,bn)]) ak 4 32 f32 r32.t r32.e (Ap r32.as x true):=fun x=>by kernel_rfl
theorem U5:r32.ok prog 32:=RCtr.of_den_nil (c:=r32) (ap (q92)) aE (hl:=ak) (d:=4) rfl func32 rfl (by decide) (e32 lpK jnK) fun x h=>by
 obtain ⟨l,u⟩:=x
 simp only at h
 subst h
 kernel_rfl
theorem q32:(jb prog shs ud its [] [(32,r32),(92,r92),(112,bn)]).ok:=vB q92 (by kernel_rfl) U5
def kH (_:Lp) (_:Jn) (x0:Int) (x1:Int) (x2:Int):Option Bool :=
 
 let v5:Bool:=decide (x0>=x1);
 let v6:Bool:=!v5||v5;bif v6&&v6 then bif v6 then some (bif v5 then decide (x0<=x2) else false) else none else none
def br (x0:Int) (x1:Int) (x2:Int):Option Bool:=kH lpK jnK x0 x1 x2
abbrev t88:=(Int)->(Int)->(Int)->Option (Bool)
def k88 (br:t88):Ctr:=⟨[i64,i64,i64],[],[],.one .bool,fun x _ _=>br x.1 x.2.1 x.2.2.1⟩
def c88:Ctr:=k88 br
theorem e88 (lp:Lp) (jn:Jn):∀(x:TsS c88.as) (F:TsF c88.fs) (y:TsS c88.cs),kH lp jn x.1 x.2.1 x.2.2.1=bM lp jn (cx [] [(32,r32),(92,r92),(112,bn)]) ak 4 88 f88 c88 x F y:=fun x F y=>by kernel_rfl
theorem VJ:c88.ok prog 88:=Ctr.of_den (ap (q32)) aE (hl:=ak) (d:=4) func88 rfl (by decide) (e88 lpK jnK)
def kr (_:Lp) (_:Jn) (x0:Int):Option Bool :=
 
 let v3:Bool:=decide (x0>=97);
 let v4:Bool:=decide (x0>=65);
 let v5:Bool:=!v3||v3;
 let v6:Bool:=bif v3 then decide (x0<=122) else false;
 let v7:Bool:=!v6;
 let v8:Bool:=!v7;
 let v9:Bool:=v7&&v4;
 let v10:Bool:=v8||v7;bif v5 then bif v5 then bif v10 then bif v10 then bif !v9||v9 then bif (v8||v10)&&(v8||(!v4||(v8||v9))) then bif v6||v7 then some (bif v6 then true else bif v4 then decide (x0<=90) else false) else none else none else none else none else none else none else none
def bo (x0:Int):Option Bool:=kr lpK jnK x0
abbrev LF:=(Int)->Option (Bool)
def SH (bo:LF):Ctr:=⟨[(.int .u8)],[],[],.one .bool,fun x _ _=>bo x.1⟩
def L0:Ctr:=SH bo
theorem Wi (lp:Lp) (jn:Jn):∀(x:TsS L0.as) (F:TsF L0.fs) (y:TsS L0.cs),kr lp jn x.1=bM lp jn (cx [] [(32,r32),(92,r92),(112,bn)]) ak 4 126 f126 L0 x F y:=fun x F y=>by kernel_rfl
theorem Rt:L0.ok prog 126:=Ctr.of_den (ap (q32)) aE (hl:=ak) (d:=4) func126 rfl (by decide) (Wi lpK jnK)
def lH (_:Lp) (_:Jn) (x0:Int):Option Bool :=
 
 let v3:Bool:=decide (x0>=48);
 let v4:Bool:=!v3||v3;bif v4 then bif v4 then some (bif v3 then decide (x0<=57) else false) else none else none
def dV (x0:Int):Option Bool:=lH lpK jnK x0
abbrev T5:=(Int)->Option (Bool)
def Lm:Ctr:=⟨[(.int .u8)],[],[],.one .bool,fun x _ _=>dV x.1⟩
theorem Wq (lp:Lp) (jn:Jn):∀(x:TsS Lm.as) (F:TsF Lm.fs) (y:TsS Lm.cs),lH lp jn x.1=bM lp jn (cx [] [(32,r32),(92,r92),(112,bn)]) ak 4 166 f166 Lm x F y:=fun x F y=>by kernel_rfl
theorem UU:Lm.ok prog 166:=Ctr.of_den (ap (q32)) aE (hl:=ak) (d:=4) func166 rfl (by decide) (Wq lpK jnK)
def jI (lp:Lp) (_:Jn) (bo:LF) (dV:T5) (x0:ByteArray):Option Int :=
 lp (Int×PUnit) Int (fun (again:Int×PUnit->Option Int) (x:Int×PUnit) =>
 let v5:Bool:=inB x.1 (ByteArray.size x0);
 let v6:Int:=fy x0 x.1.toNat;
 let v7:Bool:=decide (x.1<(↑(ByteArray.size x0):Int));
 let v8:Bool:=!v7;
 let v9:Bool:=v8||v7;
 let v10:Bool:=v8||v9;bif v9&&(v9&&(v8||v5)) then bif v9 then ah (bif v7 then bo v6 else some false) fun (t:Bool) =>
 let v12:Bool:=v7&&!t;
 let v13:Bool:=!v12;
 let v14:Bool:=v13||v12;bif v9 then bif v14&&(v14&&(v13||v5)) then bif v14 then ah (bif v12 then dV v6 else some false) fun (t_1:Bool) =>
 let v16:Bool:=bif t then true else t_1;
 let v17:Bool:=v7&&!v16;
 let v18:Bool:=!v17;
 let v19:Bool:=v18||v17;bif v10&&(v8||(t||(v8||v12))) then bif v9 then bif v19&&(v19&&(v18||v5)) then bif v19 then bif v10&&(v8||(v16||(v8||v17))) then bif v9 then bif bif v7 then bif v16 then true else decide (v6=95) else false then again (IntKind.wrap .i64 (x.1+1),PUnit.unit) else some x.1 else none else none else none else none else none else none else none else none else none else none else none) (0,PUnit.unit)
def dz (x0:ByteArray):Option Int:=jI lpK jnK bo dV x0
abbrev Vw:=(ByteArray)->Option (Int)
def J4:Ctr:=⟨[.str],[],[],.one i64,fun x _ _=>dz x.1⟩
theorem Wh (lp:Lp) (jn:Jn) (bo:LF) (dV:T5):∀(x:TsS J4.as) (F:TsF J4.fs) (y:TsS J4.cs),jI lp jn bo dV x.1=bM lp jn (cx [(166,⟨[(.int .u8)],[],[],.one .bool,fun x _ _=>dV x.1⟩),(126,SH bo)] [(32,r32),(92,r92),(112,bn)]) ak 4 127 f127 J4 x F y:=fun x F y=>by kernel_rfl
theorem Vo:J4.ok prog 127:=Ctr.of_den (ap (af (af (q32) (by kernel_rfl) Rt) (by kernel_rfl) UU)) aE (hl:=ak) (d:=4) func127 rfl (by decide) (Wh lpK jnK bo dV)
def kR (_:Lp) (_:Jn) (bo:LF) (dz:Vw) (x0:ByteArray):Option Bool :=
 
 let v3:Bool:=!List.beq (ByteArray.toList x0) (ByteArray.toList { data:=#[] });
 let v4:Bool:=!v3||v3;
 let v5:Bool:=bif v3 then decide ((↑(ByteArray.size x0):Int)<=20) else false;
 let v6:Bool:=!v5;
 let v7:Bool:=v6||v5;bif v4 then bif v4 then bif v4 then bif v7&&(v6||inB 0 (ByteArray.size x0)) then bif v7 then ah (bif v5 then bo (fy x0 0) else some false) fun (t:Bool) =>
 let v9:Bool:=bif v5 then t else false;
 let v10:Bool:=!v9||v9;bif v7 then bif v10 then ah (bif v9 then dz x0 else some 0) fun (t:Int)=>bif v10 then bif v10&&v10 then bif v10 then some (bif v9 then decide (t=(↑(ByteArray.size x0):Int)) else false) else none else none else none else none else none else none else none else none else none else none
def dn (x0:ByteArray):Option Bool:=kR lpK jnK bo dz x0
abbrev t90:=(ByteArray)->Option (Bool)
def c90:Ctr:=⟨[.str],[],[],.one .bool,fun x _ _=>dn x.1⟩
theorem e90 (lp:Lp) (jn:Jn) (bo:LF) (dz:Vw):∀(x:TsS c90.as) (F:TsF c90.fs) (y:TsS c90.cs),kR lp jn bo dz x.1=bM lp jn (cx [(127,⟨[.str],[],[],.one i64,fun x _ _=>dz x.1⟩),(126,SH bo)] [(32,r32),(92,r92),(112,bn)]) ak 4 90 f90 c90 x F y:=fun x F y=>by kernel_rfl
theorem Wb:c90.ok prog 90:=Ctr.of_den (ap (af (af (q32) (by kernel_rfl) Rt) (by kernel_rfl) Vo)) aE (hl:=ak) (d:=4) func90 rfl (by decide) (e90 lpK jnK bo dz)
def gU (lp:Lp) (_:Jn) (x0:List (ByteArray×Int)) (f0:(((ByteArray×Int)×Unit)->Option Bool)):Option Int :=
 lp (Int×PUnit) Int (fun (again:Int×PUnit->Option Int) (x:Int×PUnit)=>bif decide (x.1<(↑x0.length:Int)) then bif inB x.1 x0.length then ah (f0 (x0.getD x.1.toNat ({ data:={ toList:=[] } },0),PUnit.unit)) fun (t:Bool)=>bif t then some x.1 else again (IntKind.wrap .i64 (x.1+1), PUnit.unit) else none else some (-1)) (0,PUnit.unit)
def bV (x0:List (ByteArray×Int)) (f0:(((ByteArray×Int)×Unit)->Option Bool)):Option Int:=gU lpK jnK x0 f0
abbrev SJ:=(List (ByteArray×Int))->((((ByteArray×Int)×Unit)->Option Bool))->Option (Int)
def TF (bV:SJ):Ctr:=⟨[(.sl T45)],[([T45],.bool)],[],.one i64,fun x F _=>bV x.1 F.1⟩
def Mw:Ctr:=TF bV
theorem WB (lp:Lp) (jn:Jn):∀(x:TsS Mw.as) (F:TsF Mw.fs) (y:TsS Mw.cs),gU lp jn x.1 F.1=bM lp jn (cx [] [(32,r32),(92,r92),(112,bn)]) ak 4 154 f154 Mw x F y:=fun x F y=>by kernel_rfl
theorem Ul:Mw.ok prog 154:=Ctr.of_den (ap (q32)) aE (hl:=ak) (d:=4) func154 rfl (by decide) (WB lpK jnK)
def kA (_:Lp) (_:Jn) (x0:ByteArray×Int) (y0:ByteArray):Option Bool :=
 some (List.beq (ByteArray.toList x0.1) (ByteArray.toList y0))
def eJ (x0:ByteArray×Int) (y0:ByteArray):Option Bool:=kA lpK jnK x0 y0
abbrev Vb:=(ByteArray×Int)->(ByteArray)->Option (Bool)
def N0:Ctr:=⟨[T45],[],[.str],.one .bool,fun x _ y=>eJ x.1 y.1⟩
theorem Xs (lp:Lp) (jn:Jn):∀(x:TsS N0.as) (F:TsF N0.fs) (y:TsS N0.cs),kA lp jn x.1 y.1=bM lp jn (cx [] [(32,r32),(92,r92),(112,bn)]) ak 4 155 f155 N0 x F y:=fun x F y=>by kernel_rfl
theorem UI:N0.ok prog 155:=Ctr.of_den (ap (q32)) aE (hl:=ak) (d:=4) func155 rfl (by decide) (Xs lpK jnK)
def ng (_:Lp) (_:Jn) (bV:SJ) (eJ:Vb) (x0:(List (ByteArray×Int))×List (ByteArray×(List (ByteArray×Int×Int×Int))×Bool)) (x1:ByteArray):Option Int :=
 ah (bV x0.1 fun (x:(ByteArray×Int)×PUnit)=>eJ x.1 x1) fun (t:Int)=>some t
def ca (x0:(List (ByteArray×Int))×List (ByteArray×(List (ByteArray×Int×Int×Int))×Bool)) (x1:ByteArray):Option Int:=ng lpK jnK bV eJ x0 x1
abbrev MC:=((List (ByteArray×Int))×List (ByteArray×(List (ByteArray×Int×Int×Int))×Bool))->(ByteArray)->Option (Int)
def Sa (ca:MC):Ctr:=⟨[T25,.str],[],[],.one i64,fun x _ _=>ca x.1 x.2.1⟩
def Ob:Ctr:=Sa ca
theorem WJ (lp:Lp) (jn:Jn) (bV:SJ) (eJ:Vb):∀(x:TsS Ob.as) (F:TsF Ob.fs) (y:TsS Ob.cs),ng lp jn bV eJ x.1 x.2.1=bM lp jn (cx [(155,⟨[T45],[],[.str],.one .bool,fun x _ y=>eJ x.1 y.1⟩),(154,TF bV)] [(32,r32),(92,r92),(112,bn)]) ak 4 109 f109 Ob x F y:=fun x F y=>by kernel_rfl
theorem Rz:Ob.ok prog 109:=Ctr.of_den (ap (af (af (q32) (by kernel_rfl) Ul) (by kernel_rfl) UI)) aE (hl:=ak) (d:=4) func109 rfl (by decide) (WJ lpK jnK bV eJ)
def rx (lp:Lp) (_:Jn) (x0:Int) (x1:Int):Option Int :=
 lp (Int×Int×PUnit) Int (fun (again:Int×Int×PUnit->Option Int) (x:Int×Int×PUnit)=>bif !decide (x.2.1=0) then bif nzB x.2.1 then again (x.2.1, Int.tmod x.1 x.2.1,PUnit.unit) else none else some x.1) (x0,x1,PUnit.unit)
def bv (x0:Int) (x1:Int):Option Int:=rx lpK jnK x0 x1
abbrev t59:=(Int)->(Int)->Option (Int)
def k59 (bv:t59):Ctr:=⟨[(.int .u64),(.int .u64)],[],[],.one (.int .u64),fun x _ _=>bv x.1 x.2.1⟩
def c59:Ctr:=k59 bv
theorem e59 (lp:Lp) (jn:Jn):∀(x:TsS c59.as) (F:TsF c59.fs) (y:TsS c59.cs),rx lp jn x.1 x.2.1=bM lp jn (cx [] [(32,r32),(92,r92),(112,bn)]) ak 4 59 f59 c59 x F y:=fun x F y=>by kernel_rfl
theorem OU:c59.ok prog 59:=Ctr.of_den (ap (q32)) aE (hl:=ak) (d:=4) func59 rfl (by decide) (e59 lpK jnK)
def pq (_:Lp) (_:Jn) (x0:Int):Option Int :=
 
 let v3:Int:=IntKind.wrap .u64 x0;bif decide (x0<0) then some (IntKind.wrap .u64 (0 - v3)) else some v3
def aA (x0:Int):Option Int:=pq lpK jnK x0
abbrev t60:=(Int)->Option (Int)
def k60 (aA:t60):Ctr:=⟨[i64],[],[],.one (.int .u64),fun x _ _=>aA x.1⟩
def c60:Ctr:=k60 aA
theorem e60 (lp:Lp) (jn:Jn):∀(x:TsS c60.as) (F:TsF c60.fs) (y:TsS c60.cs),pq lp jn x.1=bM lp jn (cx [] [(32,r32),(92,r92),(112,bn)]) ak 4 60 f60 c60 x F y:=fun x F y=>by kernel_rfl
theorem LS:c60.ok prog 60:=Ctr.of_den (ap (q32)) aE (hl:=ak) (d:=4) func60 rfl (by decide) (e60 lpK jnK)
def oa (_:Lp) (_:Jn) (bv:t59) (aA:t60) (x0:Int×Int):Option Bool :=
 
 let v3:Bool:=decide (x0.2>=1);
 let v4:Bool:=!v3||v3;
 let v5:Bool:=bif v3 then decide (x0.2<=1152921504606846976) else false;
 let v6:Bool:=bif v5 then decide (x0.1>=(-1152921504606846976)) else false;
 let v7:Bool:=!v5||v5;
 let v8:Bool:=bif v6 then decide (x0.1<=1152921504606846976) else false;
 let v9:Bool:=!v6||v6;
 let v10:Bool:=!v8||v8;bif v4 then bif v4 then bif v4 then bif v7 then bif v7 then bif v7 then bif v9 then bif v9 then bif v9 then bif v10 then bif v10 then ah (bif v8 then aA x0.1 else some 0) fun (t:Int)=>bif v10 then bif v10 then bif v10&&v10 then ah (bif v8 then bv t (IntKind.wrap .u64 x0.2) else some (0 : Int)) fun (t:Int)=>bif v10 then bif v10 then some (bif v8 then decide (t=1) else false) else none else none else none else none else none else none else none else none else none else none else none else none else none else none else none else none
def ao (x0:Int×Int):Option Bool:=oa lpK jnK bv aA x0
abbrev t58:=(Int×Int)->Option (Bool)
def k58 (ao:t58):Ctr:=⟨[T47],[],[],.one .bool,fun x _ _=>ao x.1⟩
def c58:Ctr:=k58 ao
theorem e58 (lp:Lp) (jn:Jn) (bv:t59) (aA:t60):∀(x:TsS c58.as) (F:TsF c58.fs) (y:TsS c58.cs),oa lp jn bv aA x.1=bM lp jn (cx [(60,k60 aA),(59,k59 bv)] [(32,r32),(92,r92),(112,bn)]) ak 4 58 f58 c58 x F y:=fun x F y=>by kernel_rfl
theorem C6:c58.ok prog 58:=Ctr.of_den (ap (af (af (q32) (by kernel_rfl) OU) (by kernel_rfl) LS)) aE (hl:=ak) (d:=4) func58 rfl (by decide) (e58 lpK jnK bv aA)
def lI (_:Lp) (_:Jn) (ao:t58) (x0:Int×Int):Option Bool :=
 ah (ao x0) fun (t:Bool) =>
 let v4:Bool:=!t||t;
 let v5:Bool:=bif t then decide (x0.1>=x0.2) else false;
 let v6:Bool:=!v5||v5;bif v4 then bif v4 then bif v4&&v4 then bif v4 then bif v6 then bif v6 then bif v6 then some (bif v5 then decide (x0.1<=100) else false) else none else none else none else none else none else none else none
def eI (x0:Int×Int):Option Bool:=lI lpK jnK ao x0
abbrev TY:=(Int×Int)->Option (Bool)
def Ms:Ctr:=⟨[T47],[],[],.one .bool,fun x _ _=>eI x.1⟩
theorem VT (lp:Lp) (jn:Jn) (ao:t58):∀(x:TsS Ms.as) (F:TsF Ms.fs) (y:TsS Ms.cs),lI lp jn ao x.1=bM lp jn (cx [(58,k58 ao)] [(32,r32),(92,r92),(112,bn)]) ak 4 167 f167 Ms x F y:=fun x F y=>by kernel_rfl
theorem T7:Ms.ok prog 167:=Ctr.of_den (ap (af (q32) (by kernel_rfl) C6)) aE (hl:=ak) (d:=4) func167 rfl (by decide) (VT lpK jnK ao)
def np (_:Lp) (_:Jn) (ca:MC) (eI:TY) (x0:(List (ByteArray×Int))×List (ByteArray×(List (ByteArray×Int×Int×Int))×Bool)) (x1:ByteArray×Int×Int×Int) (x2:Bool):Option Bool :=
 
 let v5:Bool:=!x2;
 let v6:Bool:=v5||x2;
 let v7:Bool:=decide (x1.2.1=0);
 let v8:Bool:=decide (x1.2.1=1);
 let v9:Bool:=decide (x1.2.1=2);
 let v10:Bool:=!v8;
 let v11:Bool:=!v9;
 let v12:Bool:=bif v9 then true else v7;
 let v13:Bool:=!v10||v10;
 let v14:Bool:=!v11||v11;
 let v15:Bool:=!v12;
 let v16:Bool:=bif x2 then !(decide (x1.2.2.1=1)&&(decide (x1.2.2.2=1)&&true)) else false;
 let v17:Bool:=!v16;
 let v18:Bool:=!v17;
 let v19:Bool:=v17&&v5;
 let v20:Bool:=!v15||v15;
 let v21:Bool:=v18||v17;
 let v22:Bool:=!v19||v19;bif v6 then bif v6&&v6 then bif v6 then bif v21 then bif v21 then bif v22 then bif v22 then ah (bif v19 then eI x1.2.2 else some false) fun (t:Bool)=>bif v22 then bif (v18||v21)&&(v18||(!v5||(v18||v19))) then bif v16||v17 then bif bif v16 then true else bif v5 then !t else false then some false else bif List.beq (ByteArray.toList x1.1) (ByteArray.toList { data:=#[] }) then some v7 else ah (ca x0 x1.1) fun (t:Int)=>bif decide (t<0) then some false else bif x2 then bif v13 then bif v13 then bif v8||v10 then some (bif v8 then true else decide (x1.2.1=(-1))) else none else none else none else bif v14 then bif v14 then bif v9||v11 then bif v20 then bif v20 then bif v12||v15 then some (bif v12 then true else decide (x1.2.1=(-2))) else none else none else none else none else none else none else none else none else none else none else none else none else none else none else none else none
def eh (x0:(List (ByteArray×Int))×List (ByteArray×(List (ByteArray×Int×Int×Int))×Bool)) (x1:ByteArray×Int×Int×Int) (x2:Bool):Option Bool:=np lpK jnK ca eI x0 x1 x2
abbrev RY:=((List (ByteArray×Int))×List (ByteArray×(List (ByteArray×Int×Int×Int))×Bool))->(ByteArray×Int×Int×Int)->(Bool)->Option (Bool)
def TU (eh:RY):Ctr:=⟨[T25,T74,.bool],[],[],.one .bool,fun x _ _=>eh x.1 x.2.1 x.2.2.1⟩
def M2:Ctr:=TU eh
theorem XO (lp:Lp) (jn:Jn) (ca:MC) (eI:TY):∀(x:TsS M2.as) (F:TsF M2.fs) (y:TsS M2.cs),np lp jn ca eI x.1 x.2.1 x.2.2.1=bM lp jn (cx [(167,⟨[T47],[],[],.one .bool,fun x _ _=>eI x.1⟩),(109,Sa ca)] [(32,r32),(92,r92),(112,bn)]) ak 4 128 f128 M2 x F y:=fun x F y=>by kernel_rfl
theorem Uu:M2.ok prog 128:=Ctr.of_den (ap (af (af (q32) (by kernel_rfl) Rz) (by kernel_rfl) T7)) aE (hl:=ak) (d:=4) func128 rfl (by decide) (XO lpK jnK ca eI)
def nl (lp:Lp) (_:Jn) (br:t88) (eh:RY) (x0:(List (ByteArray×Int))×List (ByteArray×(List (ByteArray×Int×Int×Int))×Bool)) (x1:ByteArray×(List (ByteArray×Int×Int×Int))×Bool):Option Bool :=
 
 let v4:Bool:=!x1.2.2;
 let v5:Bool:=!v4;
 let v6:Bool:=!v5;
 let v7:Int:=IntKind.wrap .i64 ((↑x1.2.1.length:Int) - 1);
 let v8:Bool:=v6||v5;ah (br (↑x1.2.1.length:Int) 2 10) fun (t:Bool)=>bif !t then some false else lp (Int×PUnit) Bool (fun (again : Int×PUnit->Option Bool) (x:Int×PUnit) =>
 let v12:Bool:=decide (x.1=0);
 let v13:Bool:=!v12;
 let v14:Bool:=!v13||v13;bif decide (x.1<(↑x1.2.1.length:Int)) then bif inB x.1 x1.2.1.length then bif v14 then bif v14&&v14 then bif v12||v13 then ah (eh x0 (x1.2.1.getD x.1.toNat ({ data:={ toList:=[] } },0,0,0)) (bif v12 then true else decide (x.1=v7))) fun (t : Bool)=>bif !t then some false else again (IntKind.wrap .i64 (x.1+1),PUnit.unit) else none else none else none else none else bif v8 then bif v8 then bif v8&&(v8 && (v6||inB v7 x1.2.1.length)) then bif v8 then bif v8 then bif v8 then bif v4||v5 then some (bif v4 then true else List.beq (ByteArray.toList (x1.2.1.getD v7.toNat ({ data:={ toList:=[] } },0,0,0)).1) (ByteArray.toList { data:=#[] })) else none else none else none else none else none else none else none) (0,PUnit.unit)
def fg (x0:(List (ByteArray×Int))×List (ByteArray×(List (ByteArray×Int×Int×Int))×Bool)) (x1:ByteArray×(List (ByteArray×Int×Int×Int))×Bool):Option Bool:=nl lpK jnK br eh x0 x1
abbrev t91:=((List (ByteArray×Int))×List (ByteArray×(List (ByteArray×Int×Int×Int))×Bool))->(ByteArray×(List (ByteArray×Int×Int×Int))×Bool)->Option (Bool)
def c91:Ctr:=⟨[T25,T72],[],[],.one .bool,fun x _ _=>fg x.1 x.2.1⟩
theorem e91 (lp:Lp) (jn:Jn) (br:t88) (eh:RY):∀(x:TsS c91.as) (F:TsF c91.fs) (y:TsS c91.cs),nl lp jn br eh x.1 x.2.1=bM lp jn (cx [(128,TU eh),(88,k88 br)] [(32,r32),(92,r92),(112,bn)]) ak 4 91 f91 c91 x F y:=fun x F y=>by kernel_rfl
theorem Wa:c91.ok prog 91:=Ctr.of_den (ap (af (af (q32) (by kernel_rfl) VJ) (by kernel_rfl) Uu)) aE (hl:=ak) (d:=4) func91 rfl (by decide) (e91 lpK jnK br eh)
def lF (lp:Lp) (_:Jn) (br:t88) (dn:t90) (fg:t91) (x0:(List (ByteArray×Int))×List (ByteArray×(List (ByteArray×Int×Int×Int))×Bool)):Option Bool :=
 ah (br (↑x0.1.length:Int) 1 6) fun (t:Bool) =>
 let v4:Bool:=!t;
 let v5:Bool:=!v4;
 let v6:Bool:=!v5||v5;bif v6 then bif v6 then bif v6 then ah (bif v5 then br (↑x0.2.length:Int) 1 6 else some false) fun (t:Bool)=>bif v6 then bif v4||v5 then bif bif v4 then true else !t then some false else lp (Int×List (ByteArray×Bool)×PUnit) Bool (fun (again:Int×List (ByteArray×Bool)×PUnit->Option Bool) (x:Int×List (ByteArray×Bool)×PUnit) =>
 let v10:ByteArray×Int:=x0.1.getD x.1.toNat ({ data:={ toList:=[] } },0);bif decide (x.1<(↑x0.1.length:Int)) then bif inB x.1 x0.1.length then ah (dn v10.1) fun (t:Bool) =>
 let v12:Bool:=!t||t;bif v12&&v12 then bif v12 then bif v12 then bif (!!!bif t then !iM str Sh.bool v10.1 false x.2.1 else false)||!!bif t then !iM str Sh.bool v10.1 false x.2.1 else false then bif (!!!bif t then !iM str Sh.bool v10.1 false x.2.1 else false)||!!bif t then !iM str Sh.bool v10.1 false x.2.1 else false then ah (bif !!bif t then !iM str Sh.bool v10.1 false x.2.1 else false then br v10.2 0 16777216 else some false) fun (t_1:Bool)=>bif (!!!bif t then !iM str Sh.bool v10.1 false x.2.1 else false)||!!bif t then !iM str Sh.bool v10.1 false x.2.1 else false then bif (!bif t then !iM str Sh.bool v10.1 false x.2.1 else false)||!!bif t then !iM str Sh.bool v10.1 false x.2.1 else false then bif bif !bif t then !iM str Sh.bool v10.1 false x.2.1 else false then true else !t_1 then some false else again (IntKind.wrap .i64 (x.1+1),qx str Sh.bool v10.1 true x.2.1,PUnit.unit) else none else none else none else none else none else none else none else none else lp (Int×Int×List (ByteArray×Bool)×PUnit) Bool (fun (again:Int×Int×List (ByteArray×Bool)×PUnit->Option Bool) (x:Int×Int×List (ByteArray×Bool)×PUnit) =>
 let v13:ByteArray×List (ByteArray×Int×Int×Int)×Bool:=x0.2.getD x.2.1.toNat ({ data:={ toList:=[] } },[],false);bif decide (x.2.1<(↑x0.2.length:Int)) then bif inB x.2.1 x0.2.length then ah (dn v13.1) fun (t:Bool) =>
 let v15:Bool:=!t||t;bif v15&&v15 then bif v15 then bif v15 then bif ((!!!bif t then !iM str Sh.bool v13.1 false x.2.2.1 else false)||!!bif t then !iM str Sh.bool v13.1 false x.2.2.1 else false)&&((!!!bif t then !iM str Sh.bool v13.1 false x.2.2.1 else false)||!!bif t then !iM str Sh.bool v13.1 false x.2.2.1 else false) then ah (bif !!bif t then !iM str Sh.bool v13.1 false x.2.2.1 else false then fg x0 v13 else some false) fun (t_1:Bool)=>bif (!!!bif t then !iM str Sh.bool v13.1 false x.2.2.1 else false)||!!bif t then !iM str Sh.bool v13.1 false x.2.2.1 else false then bif (!bif t then !iM str Sh.bool v13.1 false x.2.2.1 else false)||!!bif t then !iM str Sh.bool v13.1 false x.2.2.1 else false then bif bif !bif t then !iM str Sh.bool v13.1 false x.2.2.1 else false then true else !t_1 then some false else bif v13.2.2 then again (IntKind.wrap .i64 (x.1+1),IntKind.wrap .i64 (x.2.1+1),qx str Sh.bool v13.1 true x.2.2.1,PUnit.unit) else again (x.1,IntKind.wrap .i64 (x.2.1+1),qx str Sh.bool v13.1 true x.2.2.1,PUnit.unit) else none else none else none else none else none else none else none else some (decide (x.1<=1))) (0,0,x.2.1,PUnit.unit)) (0,[],PUnit.unit) else none else none else none else none else none
def aR (x0:(List (ByteArray×Int))×List (ByteArray×(List (ByteArray×Int×Int×Int))×Bool)):Option Bool:=lF lpK jnK br dn fg x0
abbrev t50:=((List (ByteArray×Int))×List (ByteArray×(List (ByteArray×Int×Int×Int))×Bool))->Option (Bool)
def k50 (aR:t50):Ctr:=⟨[T25],[],[],.one .bool,fun x _ _=>aR x.1⟩
def c50:Ctr:=k50 aR
theorem e50 (lp:Lp) (jn:Jn) (br:t88) (dn:t90) (fg:t91):∀(x:TsS c50.as) (F:TsF c50.fs) (y:TsS c50.cs),lF lp jn br dn fg x.1=bM lp jn (cx [(91,⟨[T25,T72],[],[],.one .bool,fun x _ _=>fg x.1 x.2.1⟩),(90,⟨[.str],[],[],.one .bool,fun x _ _=>dn x.1⟩),(88,k88 br)] [(32,r32),(92,r92),(112,bn)]) ak 4 50 f50 c50 x F y:=fun x F y=>by kernel_rfl
theorem Sr:c50.ok prog 50:=Ctr.of_den (ap (af (af (af (q32) (by kernel_rfl) VJ) (by kernel_rfl) Wb) (by kernel_rfl) Wa)) aE (hl:=ak) (d:=4) func50 rfl (by decide) (e50 lpK jnK br dn fg)
def oM (lp:Lp) (_:Jn) (ca:MC) (aR:t50) (x0:(List (ByteArray×Int))×List (ByteArray×(List (ByteArray×Int×Int×Int))×Bool)):Option ((List (List Int))×Int×Unit) :=
 ah (aR x0) fun (t:Bool)=>bif !t then some ([],1,PUnit.unit) else bif decide (0<=(↑x0.1.length:Int))&&dQ (Int.toNat (↑x0.1.length : Int)) 24 then lp (Int×(List Nat×List (Option (List Int)))×PUnit) (List (List Int)×Int×PUnit) (fun (again:Int×(List Nat×List (Option (List Int)))×PUnit -> Option (List (List Int)×Int×PUnit)) (x:Int×(List Nat×List (Option (List Int)))×PUnit)=>bif decide (x.1<(↑(List.length (Nat.brecOn (motive:=fun (x:Nat)=>Nat->List Nat) (Int.toNat (↑x0.1.length:Int)) (fun (x:Nat) (f:Nat.below (motive:=fun (x:Nat)=>Nat->List (T ref)) x) (x_1:Nat)=>(match (motive:=(x:Nat)->Nat->Nat.below (motive:=fun (x:Nat)=>Nat->List (T ref)) x->List Nat) x,x_1 with | 0,x=>fun (_:PUnit)=>[] | Nat.succ n,k=>fun (x:(Nat->List Nat) ×' Nat.rec PUnit (fun (n:Nat) (n_ih:Type)=>(fun (x:Nat)=>Nat->List (T ref)) n ×' n_ih) n)=>(k+0) ::x.1 (k+1)) f) 0)):Int)) then bif decide (0 <= (↑x0.2.length:Int))&&dQ (Int.toNat (↑x0.2.length:Int)) 8 then bif inB x.1 x.2.1.1.length then bif Nat.ble (Nat.succ x.1.toNat) x.2.1.1.length then again (IntKind.wrap .i64 (x.1+1),(x.2.1.1.set x.1.toNat x.2.1.2.length,x.2.1.2++[some (List.replicate (Int.toNat (↑x0.2.length:Int)) 0)]),PUnit.unit) else none else none else none else lp (Int×(List Nat×List (Option (List Int)))×PUnit) (List (List Int)×Int×PUnit) (fun (again:Int×(List Nat×List (Option (List Int)))×PUnit->Option (List (List Int)×Int×PUnit)) (x:Int×(List Nat×List (Option (List Int))) × PUnit)=>bif decide (x.1<(↑x0.2.length:Int)) then bif inB x.1 x0.2.length then lp (Int×(List Nat×List (Option (List Int)))×PUnit) (List (List Int)×Int × PUnit) (fun (again_1:Int×(List Nat×List (Option (List Int)))×PUnit->Option (List (List Int)×Int×PUnit)) (x_1:Int×(List Nat×List (Option (List Int)))×PUnit) =>
 let v10:Int:=IntKind.wrap .i64 (x_1.1+1);
 let v11:(List Nat×List (Option (List Int)))×PUnit:=(x_1.2.1,PUnit.unit);
 let v12:ByteArray×Int×Int×Int:=List.getD (x0.2.getD x.1.toNat ({ data:={ toList:=[] } },[],false)).2.1 x_1.1.toNat ({ data:={ toList:=[] } },0,0,0);bif decide (x_1.1<(↑(List.length (x0.2.getD x.1.toNat ({ data:={ toList:=[] } },[],false)).2.1):Int)) then bif inB x_1.1 (List.length (x0.2.getD x.1.toNat ({ data:={ toList:=[] } },[],false)).2.1) then ah (ca x0 v12.1) fun (t:Int)=>bif decide (t>=(0 : Int)) then bif inB t x_1.2.1.1.length then bif Nat.ble (Nat.succ t.toNat) x_1.2.1.1.length then bif inB x.1 (List.length (bG x_1.2.1.2 (x_1.2.1.1.getD t.toNat 0))) then bif Nat.ble (Nat.succ x.1.toNat) (List.length (bG x_1.2.1.2 (x_1.2.1.1.getD t.toNat (0 : Nat)))) then bif inB x.1 (List.length (bG x_1.2.1.2 (x_1.2.1.1.getD t.toNat 0))) then bif Nat.ble (Nat.succ x.1.toNat) (List.length (bG x_1.2.1.2 (x_1.2.1.1.getD t.toNat 0))) then again_1 (v10,(x_1.2.1.1,x_1.2.1.2.set (x_1.2.1.1.getD t.toNat 0) (some (List.set (bG x_1.2.1.2 (x_1.2.1.1.getD t.toNat 0)) x.1.toNat (IntKind.wrap .i64 (List.getD (bG x_1.2.1.2 (x_1.2.1.1.getD t.toNat 0)) x.1.toNat 0+v12.2.1))))),PUnit.unit) else none else none else none else none else none else none else again_1 (v10,v11) else none else again (IntKind.wrap .i64 (x.1+1),v11)) (0,x.2.1,PUnit.unit) else none else bif List.all x.2.1.1 fun (x_1:Nat)=>fH x.2.1.2 x_1 then some (List.map (fun (x_1:Nat)=>bG x.2.1.2 x_1) x.2.1.1,0,PUnit.unit) else none) (0,x.2.1,PUnit.unit)) (0, (Nat.brecOn (motive:=fun (x:Nat)=>Nat->List Nat) (Int.toNat (↑x0.1.length:Int)) (fun (x:Nat) (f:Nat.below (motive:=fun (x:Nat)=>Nat->List (T ref)) x) (x_1:Nat)=>(match (motive:=(x:Nat)->Nat->Nat.below (motive:=fun (x:Nat)=>Nat->List (T ref)) x->List Nat) x,x_1 with | 0,x=>fun (_:PUnit)=>[] | Nat.succ n,k=>fun (x:(Nat->List Nat) ×' Nat.rec PUnit (fun (n:Nat) (n_ih:Type)=>(fun (x:Nat)=>Nat->List (T ref)) n ×' n_ih) n)=>(k+0) ::x.1 (k+1)) f) 0,List.replicate (Int.toNat (↑x0.1.length:Int)) (some [])),PUnit.unit) else none
def bF (x0:(List (ByteArray×Int))×List (ByteArray×(List (ByteArray×Int×Int×Int))×Bool)):Option ((List (List Int))×Int×Unit):=oM lpK jnK ca aR x0
abbrev t72:=((List (ByteArray×Int))×List (ByteArray×(List (ByteArray×Int×Int×Int))×Bool))->Option ((List (List Int))×Int×Unit)
def k72 (bF:t72):Ctr:=⟨[T25],[],[],.tup [(.sl (.sl i64)),i64],fun x _ _=>bF x.1⟩
def c72:Ctr:=k72 bF
theorem e72 (lp:Lp) (jn:Jn) (ca:MC) (aR:t50):∀(x:TsS c72.as) (F:TsF c72.fs) (y:TsS c72.cs),oM lp jn ca aR x.1=bM lp jn (cx [(50,k50 aR),(109,Sa ca)] [(32,r32),(92,r92),(112,bn)]) ak 4 72 f72 c72 x F y:=fun x F y=>by kernel_rfl
theorem TA:c72.ok prog 72:=Ctr.of_den (ap (af (af (q32) (by kernel_rfl) Rz) (by kernel_rfl) Sr)) aE (hl:=ak) (d:=4) func72 rfl (by decide) (e72 lpK jnK ca aR)
def jG (lp:Lp) (_:Jn) (aR:t50) (x0:(List (ByteArray×Int))×List (ByteArray×(List (ByteArray×Int×Int×Int))×Bool)):Option ((List Int)×Int×Unit) :=
 ah (aR x0) fun (t:Bool)=>bif !t then some ([],1,PUnit.unit) else lp (List Int×Int×PUnit) (List Int×Int×PUnit) (fun (again:List Int×Int×PUnit -> Option (List Int×Int×PUnit)) (x:List Int×Int×PUnit)=>bif decide (x.2.1<(↑x0.1.length:Int)) then bif inB x.2.1 x0.1.length then bif dQ (List.length x.1+1) 8 then again (x.1++[(x0.1.getD x.2.1.toNat ({ data:={ toList:=[] } },0)).2],IntKind.wrap .i64 (x.2.1+1),PUnit.unit) else none else none else some (x.1,0,PUnit.unit)) ([],0,PUnit.unit)
def cK (x0:(List (ByteArray×Int))×List (ByteArray×(List (ByteArray×Int×Int×Int))×Bool)):Option ((List Int)×Int×Unit):=jG lpK jnK aR x0
abbrev t73:=((List (ByteArray×Int))×List (ByteArray×(List (ByteArray×Int×Int×Int))×Bool))->Option ((List Int)×Int×Unit)
def k73 (cK:t73):Ctr:=⟨[T25],[],[],.tup [(.sl i64),i64],fun x _ _=>cK x.1⟩
def c73:Ctr:=k73 cK
theorem e73 (lp:Lp) (jn:Jn) (aR:t50):∀(x:TsS c73.as) (F:TsF c73.fs) (y:TsS c73.cs),jG lp jn aR x.1=bM lp jn (cx [(50,k50 aR)] [(32,r32),(92,r92),(112,bn)]) ak 4 73 f73 c73 x F y:=fun x F y=>by kernel_rfl
theorem WA:c73.ok prog 73:=Ctr.of_den (ap (af (q32) (by kernel_rfl) Sr)) aE (hl:=ak) (d:=4) func73 rfl (by decide) (e73 lpK jnK aR)
def pE (lp:Lp) (_:Jn) (bF:t72) (cK:t73) (x0:(List (ByteArray×Int))×List (ByteArray×(List (ByteArray×Int×Int×Int))×Bool)) (x1:List Int):Option (((List Int)×List ((List Int)×Int×Int))×Int×Unit) :=
 ah (bF x0) fun (t:List (List Int)×Int×PUnit)=>bif !decide (t.2.1=0) then some (([],[]),t.2.1,PUnit.unit) else ah (cK x0) fun (t_1 : List Int×Int×PUnit)=>bif !decide (t_1.2.1=0) then some (([],[]),t_1.2.1,PUnit.unit) else lp (Int×List Int×List (List Int×Int×Int)×PUnit) ((List Int×List (List Int×Int×Int))×Int×PUnit) (fun (again:Int×List Int×List (List Int×Int×Int)×PUnit->Option ((List Int×List (List Int×Int×Int))×Int×PUnit)) (x:Int×List Int×List (List Int×Int×Int)×PUnit)=>bif decide (x.1<(↑t.1.length:Int)) then bif inB x.1 t.1.length then bif inB x.1 t_1.1.length then bif dQ (List.length x.2.2.1+1) 40 then again (IntKind.wrap .i64 (x.1+1),x.2.1,x.2.2.1++[(t.1.getD x.1.toNat [],3,t_1.1.getD x.1.toNat 0)],PUnit.unit) else none else none else none else some ((x.2.1,x.2.2.1),0, PUnit.unit)) (0,x1,[],PUnit.unit)
def gq (x0:(List (ByteArray×Int))×List (ByteArray×(List (ByteArray×Int×Int×Int))×Bool)) (x1:List Int):Option (((List Int)×List ((List Int)×Int×Int))×Int×Unit):=pE lpK jnK bF cK x0 x1
abbrev t97:=((List (ByteArray×Int))×List (ByteArray×(List (ByteArray×Int×Int×Int))×Bool))->(List Int)->Option (((List Int)×List ((List Int)×Int×Int))×Int×Unit)
def c97:Ctr:=⟨[T25,(.sl i64)],[],[],.tup [T82,i64],fun x _ _=>gq x.1 x.2.1⟩
theorem e97 (lp:Lp) (jn:Jn) (bF:t72) (cK:t73):∀(x:TsS c97.as) (F:TsF c97.fs) (y:TsS c97.cs),pE lp jn bF cK x.1 x.2.1=bM lp jn (cx [(73,k73 cK),(72,k72 bF)] [(32,r32),(92,r92),(112,bn)]) ak 4 97 f97 c97 x F y:=fun x F y=>by kernel_rfl
theorem Wu:c97.ok prog 97:=Ctr.of_den (ap (af (af (q32) (by kernel_rfl) TA) (by kernel_rfl) WA)) aE (hl:=ak) (d:=4) func97 rfl (by decide) (e97 lpK jnK bF cK)
def pw (_:Lp) (_:Jn) (x0:Int) (x1:Int):Option (Int×Int×Unit) :=
 
 let v4:Int:=2 ^ 32;
 let v5:Int:=Int.fdiv x0 v4;
 let v6:Int:=Int.fdiv x1 v4;
 let v7:Bool:=decide ((0:Int)<=32);
 let v8:Int:=IntKind.wrap .u64 (↑(Nat.land (Int.toNat (x1 % Int.ofNat 18446744073709551616)) (Int.toNat (4294967295 % Int.ofNat 18446744073709551616))) : Int);
 let v9:Int:=IntKind.wrap .u64 (↑(Nat.land (Int.toNat (x0 % Int.ofNat 18446744073709551616)) (Int.toNat (4294967295 % Int.ofNat 18446744073709551616))) : Int);
 let v10:Int:=IntKind.wrap .u64 (IntKind.wrap .u64 (v5*v8)+Int.fdiv (IntKind.wrap .u64 (v9*v8)) v4);bif v7 then bif v7 then bif v7 then bif v7 then bif v7 then some (IntKind.wrap .u64 (IntKind.wrap .u64 (IntKind.wrap .u64 (v5*v6)+Int.fdiv v10 v4)+Int.fdiv (IntKind.wrap .u64 (IntKind.wrap .u64 (↑(Nat.land (Int.toNat (v10 % Int.ofNat 18446744073709551616)) (Int.toNat (4294967295 % Int.ofNat 18446744073709551616))):Int)+IntKind.wrap .u64 (v9 * v6))) v4),IntKind.wrap .u64 (x0*x1),PUnit.unit) else none else none else none else none else none
def bZ (x0:Int) (x1:Int):Option (Int×Int×Unit):=pw lpK jnK x0 x1
abbrev Fo:=(Int)->(Int)->Option (Int×Int×Unit)
def PF (bZ:Fo):Ctr:=⟨[(.int .u64),(.int .u64)],[],[],.tup [(.int .u64),(.int .u64)],fun x _ _=>bZ x.1 x.2.1⟩
def Mn:Ctr:=PF bZ
theorem V9 (lp:Lp) (jn:Jn):∀(x:TsS Mn.as) (F:TsF Mn.fs) (y:TsS Mn.cs),pw lp jn x.1 x.2.1=bM lp jn (cx [] [(32,r32),(92,r92),(112,bn)]) ak 4 107 f107 Mn x F y:=fun x F y=>by kernel_rfl
theorem NV:Mn.ok prog 107:=Ctr.of_den (ap (q32)) aE (hl:=ak) (d:=4) func107 rfl (by decide) (V9 lpK jnK)
def uV (_:Lp) (_:Jn) (x0:Int) (x1:Int):Option (Int×Int×Unit) :=
 
 let v4:Int:=IntKind.wrap .u64 (IntKind.wrap .u64 x0*IntKind.wrap .u64 x1);bif decide ((0:Int)<=32) then some (IntKind.wrap IntKind.u32 (Int.fdiv v4 (2 ^ 32)),IntKind.wrap IntKind.u32 v4,PUnit.unit) else none
def iJ (x0:Int) (x1:Int):Option (Int×Int×Unit):=uV lpK jnK x0 x1
def Ud (iJ:(Int)->(Int)->Option (Int×Int×Unit)):Ctr:=⟨[(.int .u32),(.int .u32)],[],[],.tup [(.int .u32),(.int .u32)],fun x _ _=>iJ x.1 x.2.1⟩
def Ls:Ctr:=Ud iJ
theorem W6 (lp:Lp) (jn:Jn):∀(x:TsS Ls.as) (F:TsF Ls.fs) (y:TsS Ls.cs),uV lp jn x.1 x.2.1=bM lp jn (cx [] [(32,r32),(92,r92),(112,bn)]) ak 4 173 f173 Ls x F y:=fun x F y=>by kernel_rfl
theorem TW:Ls.ok prog 173:=Ctr.of_den (ap (q32)) aE (hl:=ak) (d:=4) func173 rfl (by decide) (W6 lpK jnK)
def tx (_:Lp) (_:Jn) (bZ:Fo) (_:(Int)->(Int)->Option (Int×Int×Unit)) (x0:Int) (x1:Int):Option (Int×Int×Unit) :=
 ah (bZ x0 x1) fun (t:Int×Int×PUnit)=>some (t.1,t.2.1,PUnit.unit)
def gY (x0:Int) (x1:Int):Option (Int×Int×Unit):=tx lpK jnK bZ iJ x0 x1
abbrev To:=(Int)->(Int)->Option (Int×Int×Unit)
def Uy (gY:To):Ctr:=⟨[(.int .u64),(.int .u64)],[],[],.tup [(.int .u64),(.int .u64)],fun x _ _=>gY x.1 x.2.1⟩
def OA:Ctr:=Uy gY
theorem We (lp:Lp) (jn:Jn) (bZ:Fo) (iJ:(Int)->(Int)->Option (Int×Int×Unit)):∀(x:TsS OA.as) (F:TsF OA.fs) (y:TsS OA.cs),tx lp jn bZ iJ x.1 x.2.1=bM lp jn (cx [(173,Ud iJ),(107,PF bZ)] [(32,r32),(92,r92),(112,bn)]) ak 4 140 f140 OA x F y:=fun x F y=>by kernel_rfl
theorem UM:OA.ok prog 140:=Ctr.of_den (ap (af (af (q32) (by kernel_rfl) NV) (by kernel_rfl) TW)) aE (hl:=ak) (d:=4) func140 rfl (by decide) (We lpK jnK bZ iJ)
def jm (lp:Lp) (jn:Jn) (gY:To) (x0:List Int) (x1:Int):Option (List Int) :=
 jn PUnit (List Int) (fun (_:PUnit)=>ah (gY (IntKind.wrap .u64 (↑x0.length:Int)) (IntKind.wrap .u64 x1)) fun (t:Int×Int×PUnit) =>
 let v6:List Int:=List.take (Int.toNat (IntKind.wrap .i64 t.2.1)) x0;
 let v7:List Int:=List.replicate (Int.toNat (IntKind.wrap .i64 t.2.1)) 0;
 let v8:Bool:=decide (t.1>0);
 let v9:Bool:=!v8;bif !v9||v9 then bif v8||v9 then jn PUnit (List Int) (fun (_:PUnit)=>bif decide (0<=IntKind.wrap .i64 t.2.1)&&dQ (Int.toNat (IntKind.wrap .i64 t.2.1)) 8 then lp (Int×List Int×PUnit) (List Int) (fun (again:Int×List Int×PUnit->Option (List Int)) (x:Int×List Int×PUnit) =>
 let v13:List Int:=List.take x.1.toNat x.2.1;
 let v14:List Int:=List.take (Int.toNat (↑x.2.1.length:Int) - Int.toNat x.1) (List.drop 0 v13);bif decide (x.1<(↑x.2.1.length:Int)) then bif slB x.1 (↑x.2.1.length:Int) x.2.1.length then bif slB 0 x.1 x.2.1.length then bif Nat.ble x.1.toNat (Int.toNat (↑x.2.1.length:Int))&&(Nat.ble (Int.toNat (↑x.2.1.length:Int)) x.2.1.length&&Nat.ble x.1.toNat x.2.1.length) then again (IntKind.wrap IntKind.i64 (x.1+(↑v14.length:Int)),v13++v14++List.drop (Int.toNat x.1+List.length v14) x.2.1,PUnit.unit) else none else none else none else some x.2.1) ((↑v6.length:Int),List.take 0 v7++v6++List.drop (0+List.length v6) v7,PUnit.unit) else none) fun (j:PUnit->Option (List Int))=>bif bif v8 then true else decide (t.2.1>9223372036854775807) then none else j PUnit.unit else none else none) fun (j:PUnit->Option (List Int))=>bif decide (x1<0) then none else j PUnit.unit
def cC (x0:List Int) (x1:Int):Option (List Int):=jm lpK jnK gY x0 x1
abbrev t98:=(List Int)->(Int)->Option (List Int)
def k98 (cC:t98):Ctr:=⟨[(.sl i64),i64],[],[],.one (.sl i64),fun x _ _=>cC x.1 x.2.1⟩
def c98:Ctr:=k98 cC
theorem e98 (lp:Lp) (jn:Jn) (gY:To):∀(x:TsS c98.as) (F:TsF c98.fs) (y:TsS c98.cs),jm lp jn gY x.1 x.2.1=bM lp jn (cx [(140,Uy gY)] [(32,r32),(92,r92),(112,bn)]) ak 4 98 f98 c98 x F y:=fun x F y=>by kernel_rfl
theorem WM:c98.ok prog 98:=Ctr.of_den (ap (af (q32) (by kernel_rfl) UM)) aE (hl:=ak) (d:=4) func98 rfl (by decide) (e98 lpK jnK gY)
def lR (_:Lp) (_:Jn) (gq:t97) (cC:t98) (x0:(List (ByteArray×Int))×List (ByteArray×(List (ByteArray×Int×Int×Int))×Bool)):Option (((List Int)×List ((List Int)×Int×Int))×Int×Unit) :=
 ah (cC [1] (↑x0.2.length:Int)) fun (t:List Int)=>ah (gq x0 t) fun (t:(List Int×List (List Int×Int×Int))×Int×PUnit)=>some (t.1,t.2.1,PUnit.unit)
def aW (x0:(List (ByteArray×Int))×List (ByteArray×(List (ByteArray×Int×Int×Int))×Bool)):Option (((List Int)×List ((List Int)×Int×Int))×Int×Unit):=lR lpK jnK gq cC x0
abbrev t55:=((List (ByteArray×Int))×List (ByteArray×(List (ByteArray×Int×Int×Int))×Bool))->Option (((List Int)×List ((List Int)×Int×Int))×Int×Unit)
def k55 (aW:t55):Ctr:=⟨[T25],[],[],.tup [T82,i64],fun x _ _=>aW x.1⟩
def c55:Ctr:=k55 aW
theorem e55 (lp:Lp) (jn:Jn) (gq:t97) (cC:t98):∀(x:TsS c55.as) (F:TsF c55.fs) (y:TsS c55.cs),lR lp jn gq cC x.1=bM lp jn (cx [(98,k98 cC),(97,⟨[T25,(.sl i64)],[],[],.tup [T82,i64],fun x _ _=>gq x.1 x.2.1⟩)] [(32,r32),(92,r92),(112,bn)]) ak 4 55 f55 c55 x F y:=fun x F y=>by kernel_rfl
theorem R5:c55.ok prog 55:=Ctr.of_den (ap (af (af (q32) (by kernel_rfl) Wu) (by kernel_rfl) WM)) aE (hl:=ak) (d:=4) func55 rfl (by decide) (e55 lpK jnK gq cC)
def iZ (_:Lp) (_:Jn) (x0:Int) (y0:Int):Option Bool :=
 
 let v4:Bool:=decide (x0<IntKind.wrap .i64 (0 - y0));
 let v5:Bool:=!v4;
 let v6:Bool:=!v5||v5;bif v6&&v6 then bif v4||v5 then some (bif v4 then true else decide (x0>y0)) else none else none
def cd (x0:Int) (y0:Int):Option Bool:=iZ lpK jnK x0 y0
abbrev Ui:=(Int)->(Int)->Option (Bool)
def LQ:Ctr:=⟨[i64],[],[i64],.one .bool,fun x _ y=>cd x.1 y.1⟩
theorem WE (lp:Lp) (jn:Jn):∀(x:TsS LQ.as) (F:TsF LQ.fs) (y:TsS LQ.cs),iZ lp jn x.1 y.1=bM lp jn (cx [] [(32,r32),(92,r92),(112,bn)]) ak 4 142 f142 LQ x F y:=fun x F y=>by kernel_rfl
theorem UW:LQ.ok prog 142:=Ctr.of_den (ap (q32)) aE (hl:=ak) (d:=4) func142 rfl (by decide) (WE lpK jnK)
def jR (_:Lp) (_:Jn) (cd:Ui) (x0:Int):Option ((Int×Unit)->Option Bool) :=
 some fun (x:Int×PUnit)=>cd x.1 x0
def cS (x0:Int):Option ((Int×Unit)->Option Bool):=jR lpK jnK cd x0
abbrev Tu:=(Int)->Option ((Int×Unit)->Option Bool)
def SF:FCtr:=⟨[i64],[i64],.bool,fun x=>cS x.1⟩
theorem Wy (lp:Lp) (jn:Jn) (cd:Ui):∀x:TsS SF.as,jR lp jn cd x.1=SP lp jn (cx [(142,⟨[i64],[],[i64],.one .bool,fun x _ y=>cd x.1 y.1⟩)] [(32,r32),(92,r92),(112,bn)]) ak 4 141 f141 SF x:=fun x=>by kernel_rfl
theorem SQ:SF.ok prog 141:=FCtr.of_den (ap (af (q32) (by kernel_rfl) UW)) aE (hl:=ak) (d:=4) func141 rfl (by decide) (Wy lpK jnK cd)
def gN (lp:Lp) (_:Jn) (x0:List Int) (f0:((Int×Unit)->Option Bool)):Option Int :=
 lp (Int×PUnit) Int (fun (again:Int×PUnit->Option Int) (x:Int×PUnit)=>bif decide (x.1<(↑x0.length:Int)) then bif inB x.1 x0.length then ah (f0 (x0.getD x.1.toNat 0,PUnit.unit)) fun (t:Bool)=>bif t then some x.1 else again (IntKind.wrap .i64 (x.1+1),PUnit.unit) else none else some (-1)) (0,PUnit.unit)
def bH (x0:List Int) (f0:((Int×Unit)->Option Bool)):Option Int:=gN lpK jnK x0 f0
abbrev Tk:=(List Int)->(((Int×Unit)->Option Bool))->Option (Int)
def Vj (bH:Tk):Ctr:=⟨[(.sl i64)],[([i64],.bool)],[],.one i64,fun x F _=>bH x.1 F.1⟩
def Nl:Ctr:=Vj bH
theorem XK (lp:Lp) (jn:Jn):∀(x:TsS Nl.as) (F:TsF Nl.fs) (y:TsS Nl.cs),gN lp jn x.1 F.1=bM lp jn (cx [] [(32,r32),(92,r92),(112,bn)]) ak 4 174 f174 Nl x F y:=fun x F y=>by kernel_rfl
theorem Vu:Nl.ok prog 174:=Ctr.of_den (ap (q32)) aE (hl:=ak) (d:=4) func174 rfl (by decide) (XK lpK jnK)
def fV (_:Lp) (_:Jn) (bH:Tk) (x0:List Int) (f0:((Int×Unit)->Option Bool)):Option Bool :=
 ah (bH x0 f0) fun (t:Int)=>some (decide (t>=0))
def aP (x0:List Int) (f0:((Int×Unit)->Option Bool)):Option Bool:=fV lpK jnK bH x0 f0
abbrev Ss:=(List Int)->(((Int×Unit)->Option Bool))->Option (Bool)
def TV (aP:Ss):Ctr:=⟨[(.sl i64)],[([i64],.bool)],[],.one .bool,fun x F _=>aP x.1 F.1⟩
def Mf:Ctr:=TV aP
theorem VR (lp:Lp) (jn:Jn) (bH:Tk):∀(x:TsS Mf.as) (F:TsF Mf.fs) (y:TsS Mf.cs),fV lp jn bH x.1 F.1=bM lp jn (cx [(174,Vj bH)] [(32,r32),(92,r92),(112,bn)]) ak 4 143 f143 Mf x F y:=fun x F y=>by kernel_rfl
theorem T2:Mf.ok prog 143:=Ctr.of_den (ap (af (q32) (by kernel_rfl) Vu)) aE (hl:=ak) (d:=4) func143 rfl (by decide) (VR lpK jnK bH)
def kj (lp:Lp) (_:Jn) (x0:List ((List Int)×Int×Int)) (f0:((((List Int)×Int×Int)×Unit)->Option Bool)):Option Int :=
 lp (Int×PUnit) Int (fun (again:Int×PUnit->Option Int) (x:Int×PUnit)=>bif decide (x.1<(↑x0.length:Int)) then bif inB x.1 x0.length then ah (f0 (x0.getD x.1.toNat ([],0,0),PUnit.unit)) fun (t:Bool)=>bif t then some x.1 else again (IntKind.wrap .i64 (x.1+1),PUnit.unit) else none else some (-1)) (0,PUnit.unit)
def ct (x0:List ((List Int)×Int×Int)) (f0:((((List Int)×Int×Int)×Unit)->Option Bool)):Option Int:=kj lpK jnK x0 f0
abbrev Tc:=(List ((List Int)×Int×Int))->(((((List Int)×Int×Int)×Unit)->Option Bool))->Option (Int)
def UN (ct:Tc):Ctr:=⟨[(.sl Ej)],[([Ej],.bool)],[],.one i64,fun x F _=>ct x.1 F.1⟩
def MB:Ctr:=UN ct
theorem Xl (lp:Lp) (jn:Jn):∀(x:TsS MB.as) (F:TsF MB.fs) (y:TsS MB.cs),kj lp jn x.1 F.1=bM lp jn (cx [] [(32,r32),(92,r92),(112,bn)]) ak 4 175 f175 MB x F y:=fun x F y=>by kernel_rfl
theorem TX:MB.ok prog 175:=Ctr.of_den (ap (q32)) aE (hl:=ak) (d:=4) func175 rfl (by decide) (Xl lpK jnK)
def iV (_:Lp) (_:Jn) (ct:Tc) (x0:List ((List Int)×Int×Int)) (f0:((((List Int)×Int×Int)×Unit)->Option Bool)):Option Bool :=
 ah (ct x0 f0) fun (t:Int)=>some (decide (t>=0))
def cv (x0:List ((List Int)×Int×Int)) (f0:((((List Int)×Int×Int)×Unit)->Option Bool)):Option Bool:=iV lpK jnK ct x0 f0
def Vn (cv:(List ((List Int)×Int×Int))->(((((List Int)×Int×Int)×Unit)->Option Bool))->Option (Bool)):Ctr:=⟨[(.sl Ej)],[([Ej],.bool)],[],.one .bool,fun x F _=>cv x.1 F.1⟩
def K3:Ctr:=Vn cv
theorem WC (lp:Lp) (jn:Jn) (ct:Tc):∀(x:TsS K3.as) (F:TsF K3.fs) (y:TsS K3.cs),iV lp jn ct x.1 F.1=bM lp jn (cx [(175,UN ct)] [(32,r32),(92,r92),(112,bn)]) ak 4 144 f144 K3 x F y:=fun x F y=>by kernel_rfl
theorem T8:K3.ok prog 144:=Ctr.of_den (ap (af (q32) (by kernel_rfl) TX)) aE (hl:=ak) (d:=4) func144 rfl (by decide) (WC lpK jnK ct)
def lK (lp:Lp) (_:Jn) (aP:Ss) (_:(List ((List Int)×Int×Int))->(((((List Int)×Int×Int)×Unit)->Option Bool))->Option (Bool)) (cS:Tu) (x0:(List Int)×List ((List Int)×Int×Int)):Option Bool :=
 
 let v3:Bool:=decide ((↑x0.1.length:Int)<1);
 let v4:Bool:=!v3;
 let v5:Bool:=bif v3 then true else decide ((↑x0.1.length:Int)>12);
 let v6:Bool:=!v4||v4;
 let v7:Bool:=!v5;
 let v8:Bool:=bif v5 then true else decide ((↑x0.2.length:Int)>6);
 let v9:Bool:=!v8;
 let v10:Bool:=!v7||v7;
 let v11:Bool:=!v9||v9;bif v6 then bif v6 then bif v6 then bif v3||v4 then bif v10 then bif v10 then bif v10 then bif v5||v7 then bif v11 then bif v11 then ah (bif v9 then cS 1048576 else some fun (_:Int×PUnit)=>none) fun (t:Int×PUnit->Option Bool)=>bif v11&&v11 then ah (bif v9 then aP x0.1 t else some false) fun (t:Bool)=>bif v8||v9 then bif bif v8 then true else t then some false else lp (Int×PUnit) Bool (fun (again:Int×PUnit->Option Bool) (x:Int×PUnit) =>
 let v16:List Int×Int×Int:=x0.2.getD x.1.toNat ([],0,0);
 let v17:Bool:=decide (v16.2.1<1);
 let v18:Bool:=decide (v16.2.1>3);
 let v19:Bool:=!decide ((↑v16.1.length:Int)=(↑x0.1.length:Int));
 let v20:Bool:=!v19;
 let v21:Bool:=!v20||v20;bif decide (x.1<(↑x0.2.length:Int)) then bif inB x.1 x0.2.length then bif v21 then bif v21 then ah (bif v20 then cS 1048576 else some fun (_:Int×PUnit)=>none) fun (t:Int×PUnit->Option Bool)=>bif v21&&v21 then ah (bif v20 then aP v16.1 t else some false) fun (t:Bool) =>
 let v24:Bool:=bif v19 then true else t;
 let v25:Bool:=!v24;
 let v26:Bool:=bif v24 then true else v17;
 let v27:Bool:=!v26;
 let v28:Bool:=bif v26 then true else v18;
 let v29:Bool:=!v25||v25;
 let v30:Bool:=!v28;
 let v31:Bool:=!v27||v27;
 let v32:Bool:=!v30||v30;bif v19||v20 then bif v29 then bif v29 then bif v24||v25 then bif v31 then bif v31 then bif v26||v27 then bif v32 then ah (bif v30 then cS 1073741824 else some fun (_:Int×PUnit)=>none) fun (t:Int×PUnit->Option Bool)=>bif v32 then bif v32&&v32 then ah (bif v30 then t (v16.2.2, PUnit.unit) else some false) fun (t:Bool)=>bif v28||v30 then bif bif v28 then true else t then some !decide (x.1>=0) else again (IntKind.wrap .i64 (x.1+(1 : Int)),PUnit.unit) else none else none else none else none else none else none else none else none else none else none else none else none else none else none else none else some !decide ((-1:Int)>=0)) (0,PUnit.unit) else none else none else none else none else none else none else none else none else none else none else none else none
def aX (x0:(List Int)×List ((List Int)×Int×Int)):Option Bool:=lK lpK jnK aP cv cS x0
abbrev t99:=((List Int)×List ((List Int)×Int×Int))->Option (Bool)
def k99 (aX:t99):Ctr:=⟨[T82],[],[],.one .bool,fun x _ _=>aX x.1⟩
def c99:Ctr:=k99 aX
theorem e99 (lp:Lp) (jn:Jn) (aP:Ss) (cv:(List ((List Int)×Int×Int))->(((((List Int)×Int×Int)×Unit)->Option Bool))->Option (Bool)) (cS:Tu):∀(x:TsS c99.as) (F:TsF c99.fs) (y:TsS c99.cs),lK lp jn aP cv cS x.1=bM lp jn (yE zH zD (U4 [(141,⟨[i64],[i64],.bool,fun x=>cS x.1⟩)] (jb prog shs ud its [(144,Vn cv),(143,TV aP)] [(32,r32),(92,r92),(112,bn)]))) ak 4 99 f99 c99 x F y:=fun x F y=>by kernel_rfl
theorem Ti:c99.ok prog 99:=Ctr.of_den (ap (Pe (af (af (q32) (by kernel_rfl) T2) (by kernel_rfl) T8) (JY (by kernel_rfl) SQ (Nf)))) aE (hl:=ak) (d:=4) func99 rfl (by decide) (e99 lpK jnK aP cv cS)
def rF (_:Lp) (_:Jn) (x0:Int):Option Int :=
 
 let v3:Int:=IntKind.wrap .u64 x0;bif decide (x0<0) then some (IntKind.wrap .u64 (0 - v3)) else some v3
def cb (x0:Int):Option Int:=rF lpK jnK x0
abbrev Oe:=(Int)->Option (Int)
def Ta (cb:Oe):Ctr:=⟨[i64],[],[],.one (.int .u64),fun x _ _=>cb x.1⟩
def My:Ctr:=Ta cb
theorem VO (lp:Lp) (jn:Jn):∀(x:TsS My.as) (F:TsF My.fs) (y:TsS My.cs),rF lp jn x.1=bM lp jn (cx [] [(32,r32),(92,r92),(112,bn)]) ak 4 147 f147 My x F y:=fun x F y=>by kernel_rfl
theorem Rf:My.ok prog 147:=Ctr.of_den (ap (q32)) aE (hl:=ak) (d:=4) func147 rfl (by decide) (VO lpK jnK)
def kK (lp:Lp) (_:Jn) (cb:Oe) (x0:List Int) (x1:Int):Option Int :=
 ah (cb x1) fun (t:Int)=>lp (Int×Int×PUnit) Int (fun (again:Int×Int×PUnit->Option Int) (x:Int×Int×PUnit)=>bif decide (x.2.1<(↑x0.length : Int)) then bif inB x.2.1 x0.length then ah (cb (x0.getD x.2.1.toNat 0)) fun (t:Int)=>again (IntKind.wrap .i64 (x.1 + IntKind.wrap .i64 t),IntKind.wrap .i64 (x.2.1+1),PUnit.unit) else none else some x.1) (IntKind.wrap .i64 (1+IntKind.wrap .i64 t), 0,PUnit.unit)
def dj (x0:List Int) (x1:Int):Option Int:=kK lpK jnK cb x0 x1
abbrev Um:=(List Int)->(Int)->Option (Int)
def MR:Ctr:=⟨[(.sl i64),i64],[],[],.one i64,fun x _ _=>dj x.1 x.2.1⟩
theorem XC (lp:Lp) (jn:Jn) (cb:Oe):∀(x:TsS MR.as) (F:TsF MR.fs) (y:TsS MR.cs),kK lp jn cb x.1 x.2.1=bM lp jn (cx [(147,Ta cb)] [(32,r32),(92,r92),(112,bn)]) ak 4 146 f146 MR x F y:=fun x F y=>by kernel_rfl
theorem TT:MR.ok prog 146:=Ctr.of_den (ap (af (q32) (by kernel_rfl) Rf)) aE (hl:=ak) (d:=4) func146 rfl (by decide) (XC lpK jnK cb)
def kU (lp:Lp) (jn:Jn) (x0:List Int):Option Int :=
 jn PUnit Int (fun (_:PUnit)=>bif inB 0 x0.length then lp (Int×Int×PUnit) Int (fun (again:Int×Int×PUnit->Option Int) (x:Int×Int×PUnit)=>bif decide (x.2.1<(↑x0.length:Int)) then bif inB x.2.1 x0.length then again (if x0.getD x.2.1.toNat 0>x.1 then x0.getD x.2.1.toNat 0 else x.1,IntKind.wrap .i64 (x.2.1+1),PUnit.unit) else none else some x.1) (x0.getD 0 0,1,PUnit.unit) else none) fun (j:PUnit->Option Int)=>bif decide ((↑x0.length:Int)<1) then none else j PUnit.unit
def dM (x0:List Int):Option Int:=kU lpK jnK x0
abbrev VE:=(List Int)->Option (Int)
def Lk:Ctr:=⟨[(.sl i64)],[],[],.one i64,fun x _ _=>dM x.1⟩
theorem Xf (lp:Lp) (jn:Jn):∀(x:TsS Lk.as) (F:TsF Lk.fs) (y:TsS Lk.cs),kU lp jn x.1=bM lp jn (cx [] [(32,r32),(92,r92),(112,bn)]) ak 4 148 f148 Lk x F y:=fun x F y=>by kernel_rfl
theorem U2:Lk.ok prog 148:=Ctr.of_den (ap (q32)) aE (hl:=ak) (d:=4) func148 rfl (by decide) (Xf lpK jnK)
def nk (lp:Lp) (_:Jn) (dj:Um) (dM:VE) (x0:(List Int)×List ((List Int)×Int×Int)):Option Bool :=
 ah (dj x0.1 0) fun (t:Int)=>lp (List Int×Int×PUnit) Bool (fun (again:List Int×Int×PUnit->Option Bool) (x:List Int×Int×PUnit) =>
 let v6:List Int×Int×Int:=x0.2.getD x.2.1.toNat ([],0,0);bif decide (x.2.1<(↑x0.2.length:Int)) then bif inB x.2.1 x0.2.length then ah (dj v6.1 v6.2.2) fun (t:Int)=>bif dQ (List.length x.1+1) 8 then again (x.1++[t],IntKind.wrap .i64 (x.2.1+1),PUnit.unit) else none else none else lp (Int×Int×PUnit) Bool (fun (again:Int×Int×PUnit->Option Bool) (x_1:Int×Int×PUnit) =>
 let v9:Int:=x.1.getD x_1.2.1.toNat 0;bif decide (x_1.2.1<(↑x.1.length:Int)) then bif inB x_1.2.1 x.1.length then bif Nat.ble (Nat.succ x_1.2.1.toNat) x.1.length then bif nzB v9 then bif decide (x_1.1>IntKind.wrap .i64 (Int.tdiv 17592186044416 v9)) then some false else again (IntKind.wrap .i64 (x_1.1*v9),IntKind.wrap .i64 (x_1.2.1+1),PUnit.unit) else none else none else none else ah (dM x.1) fun (t : Int)=>bif nzB t then some (decide (x_1.1<=IntKind.wrap .i64 (Int.tdiv 144115188075855872 t))) else none) (1,0,PUnit.unit)) ([t],0, PUnit.unit)
def cn (x0:(List Int)×List ((List Int)×Int×Int)):Option Bool:=nk lpK jnK dj dM x0
abbrev NM:=((List Int)×List ((List Int)×Int×Int))->Option (Bool)
def Tq (cn:NM):Ctr:=⟨[T82],[],[],.one .bool,fun x _ _=>cn x.1⟩
def NG:Ctr:=Tq cn
theorem Xh (lp:Lp) (jn:Jn) (dj:Um) (dM:VE):∀(x:TsS NG.as) (F:TsF NG.fs) (y:TsS NG.cs),nk lp jn dj dM x.1=bM lp jn (cx [(148,⟨[(.sl i64)],[],[],.one i64,fun x _ _=>dM x.1⟩),(146,⟨[(.sl i64),i64],[],[],.one i64,fun x _ _=>dj x.1 x.2.1⟩)] [(32,r32),(92,r92),(112,bn)]) ak 4 100 f100 NG x F y:=fun x F y=>by kernel_rfl
theorem RE:NG.ok prog 100:=Ctr.of_den (ap (af (af (q32) (by kernel_rfl) TT) (by kernel_rfl) U2)) aE (hl:=ak) (d:=4) func100 rfl (by decide) (Xh lpK jnK dj dM)
def fP (lp:Lp) (_:Jn) (x0:(List (List Int))×Int×(List Int)×(List Int)×(List Int)×Int×Int) (x1:Int):Option Int :=
 lp (Int×Int×PUnit) Int (fun (again:Int×Int×PUnit->Option Int) (x:Int×Int×PUnit) =>
 let v6:Int×PUnit:=(IntKind.wrap .i64 (x.2.1+1),PUnit.unit);
 let v7:List Int:=x0.1.getD x.2.1.toNat [];bif decide (x.2.1<(↑x0.1.length:Int)) then bif inB x.2.1 x0.1.length then bif inB x.2.1 x0.2.2.1.length then bif decide (x0.2.2.1.getD x.2.1.toNat 0>=x0.2.2.2.2.2.1) then bif inB x1 v7.length then again (IntKind.wrap .i64 (x.1+v7.getD x1.toNat 0),v6) else none else again (x.1,v6) else none else none else some x.1) (0,0,PUnit.unit)
def av (x0:(List (List Int))×Int×(List Int)×(List Int)×(List Int)×Int×Int) (x1:Int):Option Int:=fP lpK jnK x0 x1
abbrev NW:=((List (List Int))×Int×(List Int)×(List Int)×(List Int)×Int×Int)->(Int)->Option (Int)
def Ts (av:NW):PCtr:=⟨JP,[i64],.one i64,fun x y=>av x y.1⟩
def O1:PCtr:=Ts av
theorem Xv (lp:Lp) (jn:Jn):∀(x:O1.s.T) (y:TsS O1.as),fP lp jn x y.1=GW lp jn (cx [] [(32,r32),(92,r92),(112,bn)]) ak 4 106 f106 O1 x y:=fun x y=>by kernel_rfl
theorem RL:O1.ok prog 106:=PCtr.of_den (ap (q32)) aE (hl:=ak) (d:=4) func106 rfl (by decide) (Xv lpK jnK)
def lL (_:Lp) (_:Jn) (bZ:Fo) (cb:Oe) (x0:Int) (x1:Int):Option (Bool×Int×Int) :=
 
 let v4:Bool:=!decide (decide (x0<0)=decide (x1<0));
 let v5:Bool:=!v4;
 let v6:Bool:=v5||v4;ah (cb x0) fun (t:Int)=>ah (cb x1) fun (t_1:Int)=>ah (bZ t t_1) fun (t:Int×Int×PUnit) =>
 let v10:Bool:=!decide (t.1=0);
 let v11:Bool:=v4&&!v10;bif v6 then bif v6 then bif !v11||v11 then bif (v5||v6)&&(v5||(v10||(v5||v11))) then bif v6 then some (bif v4 then bif v10 then true else !decide (t.2.1=0) else false,t.1,t.2.1) else none else none else none else none else none
def bD (x0:Int) (x1:Int):Option (Bool×Int×Int):=lL lpK jnK bZ cb x0 x1
abbrev Km:=(Int)->(Int)->Option (Bool×Int×Int)
def Se (bD:Km):Ctr:=⟨[i64,i64],[],[],.one uu,fun x _ _=>bD x.1 x.2.1⟩
def K5:Ctr:=Se bD
theorem Xq (lp:Lp) (jn:Jn) (bZ:Fo) (cb:Oe):∀(x:TsS K5.as) (F:TsF K5.fs) (y:TsS K5.cs),lL lp jn bZ cb x.1 x.2.1=bM lp jn (cx [(147,Ta cb),(107,PF bZ)] [(32,r32),(92,r92),(112,bn)]) ak 4 176 f176 K5 x F y:=fun x F y=>by kernel_rfl
theorem Ry:K5.ok prog 176:=Ctr.of_den (ap (af (af (q32) (by kernel_rfl) NV) (by kernel_rfl) Rf)) aE (hl:=ak) (d:=4) func176 rfl (by decide) (Xq lpK jnK bZ cb)
def fX (_:Lp) (_:Jn) (x0:Bool×Int×Int) (x1:Bool×Int×Int):Option Int :=
 
 let v4:Bool:=decide (x0.2.1=x1.2.1);
 let v5:Bool:=!v4;
 let v6:Bool:=v5||v4;
 let v7:Bool:=!v5||v5;
 let v8:Bool:=bif v5 then decide (x0.2.1<x1.2.1) else false;
 let v9:Bool:=!v8;
 let v10:Bool:=!v9;
 let v11:Bool:=v9&&v4;
 let v12:Bool:=v10||v9;
 let v13:Bool:=!v11||v11;bif v7 then bif v7 then bif v7&&v7 then bif v7 then bif v12 then bif v12 then bif v12&&v12 then bif v12 then bif v13 then bif v13 then bif v13&&v13 then bif (v10||v12)&&(v10||(v5||(v10||v11))) then bif v8||v9 then bif bif v8 then true else bif v4 then decide (x0.2.2<x1.2.2) else false then some (-1) else bif v6 then bif v6 then bif v6&&v6 then bif v6 then bif bif v4 then decide (x0.2.2=x1.2.2) else false then some 0 else some 1 else none else none else none else none else none else none else none else none else none else none else none else none else none else none else none else none else none
def aw (x0:Bool×Int×Int) (x1:Bool×Int×Int):Option Int:=fX lpK jnK x0 x1
abbrev K8:=(Bool×Int×Int)->(Bool×Int×Int)->Option (Int)
def SR (aw:K8):Ctr:=⟨[uu,uu],[],[],.one i64,fun x _ _=>aw x.1 x.2.1⟩
def L6:Ctr:=SR aw
theorem Xn (lp:Lp) (jn:Jn):∀(x:TsS L6.as) (F:TsF L6.fs) (y:TsS L6.cs),fX lp jn x.1 x.2.1=bM lp jn (cx [] [(32,r32),(92,r92),(112,bn)]) ak 4 192 f192 L6 x F y:=fun x F y=>by kernel_rfl
theorem RJ:L6.ok prog 192:=Ctr.of_den (ap (q32)) aE (hl:=ak) (d:=4) func192 rfl (by decide) (Xn lpK jnK)
def gA (_:Lp) (jn:Jn) (aw:K8) (x0:Bool×Int×Int) (x1:Bool×Int×Int):Option (Bool×Int×Int) :=
 
 let v4:Bool:=!x0.1;
 let v5:Bool:=!x1.1;
 let v6:Bool:=!v4;
 let v7:Bool:=v4&&v5;
 let v8:Bool:=v6||v4;
 let v9:Bool:=!v7;
 let v10:Bool:=v9||v7;
 let v11:Bool:=!decide (x1.2.1=0);
 let v12:Bool:=v7&&!v11;
 let v13:Bool:=decide ((0:Int)<=0)&&decide ((0:Int)<=1);
 let v14:Bool:=!v12||v12;bif !decide (x0.1=x1.1) then bif v13 then bif decide (0<=qz x0.2.2 x1.2.2 0)&&decide (qz x0.2.2 x1.2.2 (0 : Int)<=1) then bif v8 then bif v8 then bif v8 then bif v10 then bif v10 then bif v10 then bif v14 then bif v14 then bif (v9||v10)&&(v9||(v11||(v9||v12))) then bif (v6 || v8)&&(v6||(!v5||(v6||v7))) then bif x0.1||v4 then some (bif x0.1 then true else bif v5 then bif v11 then true else !decide (x1.2.2=0) else false,zI x0.2.1 x1.2.1 (qz x0.2.2 x1.2.2 0),zI x0.2.2 x1.2.2 0) else none else none else none else none else none else none else none else none else none else none else none else none else none else ah (aw x0 x1) fun (t:Int)=>jn (Bool×(Bool×Int×Int)×(Bool×Int×Int)×PUnit) (Bool×Int×Int) (fun (x:Bool×(Bool×Int×Int)×(Bool×Int×Int)×PUnit) =>
 let v17:Bool:=!x.1;
 let v18:Bool:=v17||x.1;
 let v19:Bool:=!decide (vH x.2.1.2.1 x.2.2.1.2.1 (oZ x.2.1.2.2 x.2.2.1.2.2 0)=0);
 let v20:Bool:=x.1&&!v19;bif v13 then bif decide (0<=oZ x.2.1.2.2 x.2.2.1.2.2 0)&&decide (oZ x.2.1.2.2 x.2.2.1.2.2 (0 : Int)<=1) then bif v18 then bif v18 then bif !v20||v20 then bif (v17||v18)&&(v17||(v19||(v17||v20))) then bif v18 then some (bif x.1 then bif v19 then true else !decide (vH x.2.1.2.2 x.2.2.1.2.2 0=0) else false,vH x.2.1.2.1 x.2.2.1.2.1 (oZ x.2.1.2.2 x.2.2.1.2.2 (0 : Int)),vH x.2.1.2.2 x.2.2.1.2.2 0) else none else none else none else none else none else none else none) fun (j:Bool×(Bool×Int×Int)×(Bool×Int × Int)×PUnit->Option (Bool×Int×Int))=>bif decide (t<0) then j (v4,x1,x0,PUnit.unit) else j (x0.1,x0,x1,PUnit.unit)
def bC (x0:Bool×Int×Int) (x1:Bool×Int×Int):Option (Bool×Int×Int):=gA lpK jnK aw x0 x1
abbrev R2:=(Bool×Int×Int)->(Bool×Int×Int)->Option (Bool×Int×Int)
def Tw (bC:R2):Ctr:=⟨[uu,uu],[],[],.one uu,fun x _ _=>bC x.1 x.2.1⟩
def Kp:Ctr:=Tw bC
theorem Wo (lp:Lp) (jn:Jn) (aw:K8):∀(x:TsS Kp.as) (F:TsF Kp.fs) (y:TsS Kp.cs),gA lp jn aw x.1 x.2.1=bM lp jn (cx [(192,SR aw)] [(32,r32),(92,r92),(112,bn)]) ak 4 177 f177 Kp x F y:=fun x F y=>by kernel_rfl
theorem TR:Kp.ok prog 177:=Ctr.of_den (ap (af (q32) (by kernel_rfl) RJ)) aE (hl:=ak) (d:=4) func177 rfl (by decide) (Wo lpK jnK aw)
def uw (_:Lp) (jn:Jn) (x0:Int):Option Int :=
 jn (Int×Int×PUnit) Int (fun (x:Int×Int×PUnit)=>jn (Int×Int×PUnit) Int (fun (x:Int×Int×PUnit) =>
 let v5:Int:=IntKind.wrap IntKind.u8 x.1;
 let v6:Int:=IntKind.wrap IntKind.u8 (Int.fdiv x.1 (2 ^ 8));bif decide (x.1>=256) then bif decide ((0:Int)<=8) then bif inB v6 256 then some (IntKind.wrap .i64 (IntKind.wrap .i64 (x.2.1+8)+IntKind.wrap .i64 (fy { data:=List.toArray (List.append (List.append [(0:UInt8),(1 : UInt8),(2:UInt8),(2:UInt8),(3:UInt8),(3:UInt8),(3:UInt8),(3:UInt8),(4:UInt8),(4:UInt8),(4:UInt8),(4:UInt8),(4:UInt8),(4:UInt8),(4:UInt8),(4 : UInt8),(5:UInt8),(5:UInt8),(5:UInt8),(5:UInt8),(5:UInt8),(5:UInt8),(5:UInt8),(5:UInt8),(5:UInt8),(5:UInt8),(5:UInt8),(5:UInt8),(5:UInt8),(5 : UInt8),(5:UInt8),(5:UInt8),(6:UInt8),(6:UInt8),(6:UInt8),(6:UInt8),(6:UInt8),(6:UInt8),(6:UInt8),(6:UInt8),(6:UInt8),(6:UInt8),(6:UInt8),(6 : UInt8),(6:UInt8),(6:UInt8),(6:UInt8),(6:UInt8),(6:UInt8),(6:UInt8),(6:UInt8),(6:UInt8),(6:UInt8),(6:UInt8),(6:UInt8),(6:UInt8),(6:UInt8),(6 : UInt8),(6:UInt8),(6:UInt8),(6:UInt8),(6:UInt8),(6:UInt8),(6:UInt8)] [(7:UInt8),(7:UInt8),(7:UInt8),(7:UInt8),(7:UInt8),(7:UInt8),(7:UInt8),(7 : UInt8),(7:UInt8),(7:UInt8),(7:UInt8),(7:UInt8),(7:UInt8),(7:UInt8),(7:UInt8),(7:UInt8),(7:UInt8),(7:UInt8),(7:UInt8),(7:UInt8),(7:UInt8),(7 : UInt8),(7:UInt8),(7:UInt8),(7:UInt8),(7:UInt8),(7:UInt8),(7:UInt8),(7:UInt8),(7:UInt8),(7:UInt8),(7:UInt8),(7:UInt8),(7:UInt8),(7:UInt8),(7 : UInt8),(7:UInt8),(7:UInt8),(7:UInt8),(7:UInt8),(7:UInt8),(7:UInt8),(7:UInt8),(7:UInt8),(7:UInt8),(7:UInt8),(7:UInt8),(7:UInt8),(7:UInt8),(7 : UInt8),(7:UInt8),(7:UInt8),(7:UInt8),(7:UInt8),(7:UInt8),(7:UInt8),(7:UInt8),(7:UInt8),(7:UInt8),(7:UInt8),(7:UInt8),(7:UInt8),(7:UInt8),(7 : UInt8)]) (List.append [(8:UInt8),(8:UInt8),(8:UInt8),(8:UInt8),(8:UInt8),(8:UInt8),(8:UInt8),(8:UInt8),(8:UInt8),(8:UInt8),(8:UInt8),(8:UInt8),(8 : UInt8),(8:UInt8),(8:UInt8),(8:UInt8),(8:UInt8),(8:UInt8),(8:UInt8),(8:UInt8),(8:UInt8),(8:UInt8),(8:UInt8),(8:UInt8),(8:UInt8),(8:UInt8),(8 : UInt8),(8:UInt8),(8:UInt8),(8:UInt8),(8:UInt8),(8:UInt8),(8:UInt8),(8:UInt8),(8:UInt8),(8:UInt8),(8:UInt8),(8:UInt8),(8:UInt8),(8:UInt8),(8 : UInt8),(8:UInt8),(8:UInt8),(8:UInt8),(8:UInt8),(8:UInt8),(8:UInt8),(8:UInt8),(8:UInt8),(8:UInt8),(8:UInt8),(8:UInt8),(8:UInt8),(8:UInt8),(8 : UInt8),(8:UInt8),(8:UInt8),(8:UInt8),(8:UInt8),(8:UInt8),(8:UInt8),(8:UInt8),(8:UInt8),(8:UInt8)] [(8:UInt8),(8:UInt8),(8:UInt8),(8:UInt8),(8 : UInt8),(8:UInt8),(8:UInt8),(8:UInt8),(8:UInt8),(8:UInt8),(8:UInt8),(8:UInt8),(8:UInt8),(8:UInt8),(8:UInt8),(8:UInt8),(8:UInt8),(8:UInt8),(8 : UInt8),(8:UInt8),(8:UInt8),(8:UInt8),(8:UInt8),(8:UInt8),(8:UInt8),(8:UInt8),(8:UInt8),(8:UInt8),(8:UInt8),(8:UInt8),(8:UInt8),(8:UInt8),(8 : UInt8),(8:UInt8),(8:UInt8),(8:UInt8),(8:UInt8),(8:UInt8),(8:UInt8),(8:UInt8),(8:UInt8),(8:UInt8),(8:UInt8),(8:UInt8),(8:UInt8),(8:UInt8),(8 : UInt8),(8:UInt8),(8:UInt8),(8:UInt8),(8:UInt8),(8:UInt8),(8:UInt8),(8:UInt8),(8:UInt8),(8:UInt8),(8:UInt8),(8:UInt8),(8:UInt8),(8:UInt8),(8 : UInt8),(8:UInt8),(8:UInt8),(8:UInt8)])) } v6.toNat))) else none else none else bif inB v5 256 then some (IntKind.wrap .i64 (x.2.1+IntKind.wrap IntKind.i64 (fy { data:=List.toArray (List.append (List.append [(0:UInt8),(1:UInt8),(2:UInt8),(2:UInt8),(3:UInt8),(3:UInt8),(3:UInt8),(3:UInt8),(4 : UInt8),(4:UInt8),(4:UInt8),(4:UInt8),(4:UInt8),(4:UInt8),(4:UInt8),(4:UInt8),(5:UInt8),(5:UInt8),(5:UInt8),(5:UInt8),(5:UInt8),(5:UInt8),(5 : UInt8),(5:UInt8),(5:UInt8),(5:UInt8),(5:UInt8),(5:UInt8),(5:UInt8),(5:UInt8),(5:UInt8),(5:UInt8),(6:UInt8),(6:UInt8),(6:UInt8),(6:UInt8),(6 : UInt8),(6:UInt8),(6:UInt8),(6:UInt8),(6:UInt8),(6:UInt8),(6:UInt8),(6:UInt8),(6:UInt8),(6:UInt8),(6:UInt8),(6:UInt8),(6:UInt8),(6:UInt8),(6 : UInt8),(6:UInt8),(6:UInt8),(6:UInt8),(6:UInt8),(6:UInt8),(6:UInt8),(6:UInt8),(6:UInt8),(6:UInt8),(6:UInt8),(6:UInt8),(6:UInt8),(6:UInt8)] [(7 : UInt8),(7:UInt8),(7:UInt8),(7:UInt8),(7:UInt8),(7:UInt8),(7:UInt8),(7:UInt8),(7:UInt8),(7:UInt8),(7:UInt8),(7:UInt8),(7:UInt8),(7:UInt8),(7 : UInt8),(7:UInt8),(7:UInt8),(7:UInt8),(7:UInt8),(7:UInt8),(7:UInt8),(7:UInt8),(7:UInt8),(7:UInt8),(7:UInt8),(7:UInt8),(7:UInt8),(7:UInt8),(7 : UInt8),(7:UInt8),(7:UInt8),(7:UInt8),(7:UInt8),(7:UInt8),(7:UInt8),(7:UInt8),(7:UInt8),(7:UInt8),(7:UInt8),(7:UInt8),(7:UInt8),(7:UInt8),(7 : UInt8),(7:UInt8),(7:UInt8),(7:UInt8),(7:UInt8),(7:UInt8),(7:UInt8),(7:UInt8),(7:UInt8),(7:UInt8),(7:UInt8),(7:UInt8),(7:UInt8),(7:UInt8),(7 : UInt8),(7:UInt8),(7:UInt8),(7:UInt8),(7:UInt8),(7:UInt8),(7:UInt8),(7:UInt8)]) (List.append [(8:UInt8),(8:UInt8),(8:UInt8),(8:UInt8),(8:UInt8),(8 : UInt8),(8:UInt8),(8:UInt8),(8:UInt8),(8:UInt8),(8:UInt8),(8:UInt8),(8:UInt8),(8:UInt8),(8:UInt8),(8:UInt8),(8:UInt8),(8:UInt8),(8:UInt8),(8 : UInt8),(8:UInt8),(8:UInt8),(8:UInt8),(8:UInt8),(8:UInt8),(8:UInt8),(8:UInt8),(8:UInt8),(8:UInt8),(8:UInt8),(8:UInt8),(8:UInt8),(8:UInt8),(8 : UInt8),(8:UInt8),(8:UInt8),(8:UInt8),(8:UInt8),(8:UInt8),(8:UInt8),(8:UInt8),(8:UInt8),(8:UInt8),(8:UInt8),(8:UInt8),(8:UInt8),(8:UInt8),(8 : UInt8),(8:UInt8),(8:UInt8),(8:UInt8),(8:UInt8),(8:UInt8),(8:UInt8),(8:UInt8),(8:UInt8),(8:UInt8),(8:UInt8),(8:UInt8),(8:UInt8),(8:UInt8),(8 : UInt8),(8:UInt8),(8:UInt8)] [(8:UInt8),(8:UInt8),(8:UInt8),(8:UInt8),(8:UInt8),(8:UInt8),(8:UInt8),(8:UInt8),(8:UInt8),(8:UInt8),(8:UInt8),(8 : UInt8),(8:UInt8),(8:UInt8),(8:UInt8),(8:UInt8),(8:UInt8),(8:UInt8),(8:UInt8),(8:UInt8),(8:UInt8),(8:UInt8),(8:UInt8),(8:UInt8),(8:UInt8),(8 : UInt8),(8:UInt8),(8:UInt8),(8:UInt8),(8:UInt8),(8:UInt8),(8:UInt8),(8:UInt8),(8:UInt8),(8:UInt8),(8:UInt8),(8:UInt8),(8:UInt8),(8:UInt8),(8 : UInt8),(8:UInt8),(8:UInt8),(8:UInt8),(8:UInt8),(8:UInt8),(8:UInt8),(8:UInt8),(8:UInt8),(8:UInt8),(8:UInt8),(8:UInt8),(8:UInt8),(8:UInt8),(8 : UInt8),(8:UInt8),(8:UInt8),(8:UInt8),(8:UInt8),(8:UInt8),(8:UInt8),(8:UInt8),(8:UInt8),(8:UInt8),(8:UInt8)])) } v5.toNat))) else none) fun (j:Int × Int×PUnit->Option Int)=>bif decide (x.1>=65536) then bif decide ((0:Int)<=16) then j (Int.fdiv x.1 (2 ^ 16),IntKind.wrap .i64 (x.2.1+16),PUnit.unit) else none else j (x.1,x.2.1,PUnit.unit)) fun (j:Int×Int×PUnit->Option Int)=>bif decide (x0>=4294967296) then bif decide (0<=32) then j (Int.fdiv x0 (2 ^ 32),32,PUnit.unit) else none else j (x0,0,PUnit.unit)
def gl (x0:Int):Option Int:=uw lpK jnK x0
abbrev Ut:=(Int)->Option (Int)
def Kg:Ctr:=⟨[(.int .u64)],[],[],.one i64,fun x _ _=>gl x.1⟩
theorem WQ (lp:Lp) (jn:Jn):∀(x:TsS Kg.as) (F:TsF Kg.fs) (y:TsS Kg.cs),uw lp jn x.1=bM lp jn (cx [] [(32,r32),(92,r92),(112,bn)]) ak 4 194 f194 Kg x F y:=fun x F y=>by kernel_rfl
theorem UJ:Kg.ok prog 194:=Ctr.of_den (ap (q32)) aE (hl:=ak) (d:=4) func194 rfl (by decide) (WQ lpK jnK)
def ip (_:Lp) (_:Jn) (gl:Ut) (x0:Int):Option Int :=
 ah (gl x0) fun (t:Int)=>some (IntKind.wrap .i64 (64 - t))
def cJ (x0:Int):Option Int:=ip lpK jnK gl x0
abbrev Vg:=(Int)->Option (Int)
def Lh:Ctr:=⟨[(.int .u64)],[],[],.one i64,fun x _ _=>cJ x.1⟩
theorem VV (lp:Lp) (jn:Jn) (gl:Ut):∀(x:TsS Lh.as) (F:TsF Lh.fs) (y:TsS Lh.cs),ip lp jn gl x.1=bM lp jn (cx [(194,⟨[(.int .u64)],[],[],.one i64,fun x _ _=>gl x.1⟩)] [(32,r32),(92,r92),(112,bn)]) ak 4 193 f193 Lh x F y:=fun x F y=>by kernel_rfl
theorem UO:Lh.ok prog 193:=Ctr.of_den (ap (af (q32) (by kernel_rfl) UJ)) aE (hl:=ak) (d:=4) func193 rfl (by decide) (VV lpK jnK gl)
def pZ (lp:Lp) (jn:Jn) (cJ:Vg) (x0:Int) (x1:Int) (x2:Int):Option (Int×Int×Unit) :=
 
 let v5:Bool:=nzB x2;
 let v6:Int:=2 ^ 32;
 let v7:Bool:=decide ((0:Int)<=32);jn PUnit (Int×Int×PUnit) (fun (_:PUnit)=>jn PUnit (Int×Int×PUnit) (fun (_:PUnit)=>bif decide (x0=0) then bif v5 then bif v5 then some (IntKind.wrap .u64 (Int.tdiv x1 x2),Int.tmod x1 x2,PUnit.unit) else none else none else ah (cJ x2) fun (t:Int) =>
 let v11:Int:=IntKind.wrap .u64 t;
 let v12:Bool:=decide (0<=v11);
 let v13:Int:=2 ^ min v11.toNat 64;
 let v14:Int:=IntKind.wrap .u64 (x2*v13);
 let v15:Int:=IntKind.wrap .u64 (x1*v13);
 let v16:Int:=Int.fdiv v14 v6;
 let v17:Int:=Int.fdiv v15 v6;
 let v18:Bool:=nzB v16;
 let v19:Int:=IntKind.wrap .u64 (↑(Nat.land (Int.toNat (v15 % Int.ofNat 18446744073709551616)) (Int.toNat (4294967295 % Int.ofNat 18446744073709551616))) : Int);
 let v20:Int:=IntKind.wrap .u64 (↑(Nat.land (Int.toNat (v14 % Int.ofNat 18446744073709551616)) (Int.toNat (4294967295 % Int.ofNat 18446744073709551616))) : Int);
 let v21:Int:=IntKind.wrap .u64 (↑(Nat.lor (Int.toNat (IntKind.wrap .u64 (x0*v13) % Int.ofNat 18446744073709551616)) (Int.toNat (Int.fdiv x1 (2 ^ min (Int.toNat (IntKind.wrap .u64 (64 - v11))) 64) % Int.ofNat 18446744073709551616))):Int);
 let v22:Int:=IntKind.wrap .u64 (Int.tdiv v21 v16);bif v12 then bif v7 then bif v12 then bif decide (0<=IntKind.wrap .u64 (64 - v11)) then bif v12 then bif v7 then bif v18 then jn (Int×PUnit) (Int×Int×PUnit) (fun (x:Int×PUnit) =>
 let v24:Int:=IntKind.wrap .u64 (IntKind.wrap .u64 (IntKind.wrap .u64 (v21*4294967296)+v17) - IntKind.wrap .u64 (x.1*v14));
 let v25:Int:=IntKind.wrap .u64 (Int.tdiv v24 v16);bif v18 then jn (Int×PUnit) (Int×Int×PUnit) (fun (x_1:Int×PUnit)=>bif v12 then some (IntKind.wrap .u64 (IntKind.wrap .u64 (x.1*4294967296)+x_1.1),Int.fdiv (IntKind.wrap .u64 (IntKind.wrap .u64 (IntKind.wrap .u64 (v24*4294967296) + v19) - IntKind.wrap .u64 (x_1.1*v14))) v13,PUnit.unit) else none) fun (j:Int×PUnit->Option (Int×Int×PUnit))=>lp (Int×Int×PUnit) (Int×Int×PUnit) (fun (again:Int×Int×PUnit->Option (Int×Int×PUnit)) (x:Int×Int×PUnit) =>
 let v29:Int×PUnit:=(IntKind.wrap .u64 (x.2.1 - 1),PUnit.unit);
 let v30:Bool:=decide (x.2.1>=4294967296);
 let v31:Bool:=!v30;
 let v32:Bool:=!v31||v31;
 let v33:Bool:=v32&&v32;bif v33 then bif v32 then bif v33 then bif v33 then bif v30||v31 then bif bif v30 then true else decide (IntKind.wrap .u64 (x.2.1*v20) > IntKind.wrap .u64 (IntKind.wrap .u64 (4294967296*x.1)+v19)) then bif decide (IntKind.wrap .u64 (x.1+v16)>=4294967296) then j v29 else again (IntKind.wrap .u64 (x.1+v16),v29) else j (x.2.1,PUnit.unit) else none else none else none else none else none) (IntKind.wrap .u64 (v24 - IntKind.wrap IntKind.u64 (v25*v16)),v25,PUnit.unit) else none) fun (j:Int×PUnit->Option (Int×Int×PUnit))=>lp (Int×Int×PUnit) (Int×Int×PUnit) (fun (again:Int×Int×PUnit -> Option (Int×Int×PUnit)) (x:Int×Int×PUnit) =>
 let v26:Int:=IntKind.wrap .u64 (x.1 - 1);
 let v27:Bool:=decide (x.1>=4294967296);
 let v28:Bool:=!v27;
 let v29:Bool:=!v28||v28;
 let v30:Bool:=v29&&v29;bif v30 then bif v29 then bif v30 then bif v30 then bif v27||v28 then bif bif v27 then true else decide (IntKind.wrap .u64 (x.1*v20) > IntKind.wrap .u64 (IntKind.wrap .u64 (4294967296*x.2.1)+v17)) then bif decide (IntKind.wrap .u64 (x.2.1+v16)>=4294967296) then j (v26,PUnit.unit) else again (v26,IntKind.wrap .u64 (x.2.1+v16),PUnit.unit) else j (x.1,PUnit.unit) else none else none else none else none else none) (v22, IntKind.wrap .u64 (v21 - IntKind.wrap .u64 (v22*v16)),PUnit.unit) else none else none else none else none else none else none else none) fun (j:PUnit->Option (Int × Int×PUnit))=>bif decide (x2<=x0) then none else j PUnit.unit) fun (j:PUnit->Option (Int×Int×PUnit))=>bif decide (x2=0) then none else j PUnit.unit
def cQ (x0:Int) (x1:Int) (x2:Int):Option (Int×Int×Unit):=pZ lpK jnK cJ x0 x1 x2
abbrev MH:=(Int)->(Int)->(Int)->Option (Int×Int×Unit)
def SE (cQ:MH):Ctr:=⟨[(.int .u64),(.int .u64),(.int .u64)],[],[],.tup [(.int .u64),(.int .u64)],fun x _ _=>cQ x.1 x.2.1 x.2.2.1⟩
def MU:Ctr:=SE cQ
theorem WT (lp:Lp) (jn:Jn) (cJ:Vg):∀(x:TsS MU.as) (F:TsF MU.fs) (y:TsS MU.cs),pZ lp jn cJ x.1 x.2.1 x.2.2.1=bM lp jn (cx [(193,⟨[(.int .u64)],[],[],.one i64,fun x _ _=>cJ x.1⟩)] [(32,r32),(92,r92),(112,bn)]) ak 4 185 f185 MU x F y:=fun x F y=>by kernel_rfl
theorem Rc:MU.ok prog 185:=Ctr.of_den (ap (af (q32) (by kernel_rfl) UO)) aE (hl:=ak) (d:=4) func185 rfl (by decide) (WT lpK jnK cJ)
def gK (_:Lp) (_:Jn) (cQ:MH) (x0:Bool×Int×Int) (x1:Int):Option Int :=
 ah (cQ x0.2.1 x0.2.2 (IntKind.wrap .u64 x1)) fun (t:Int×Int×PUnit) =>
 let v5:Int:=IntKind.wrap .i64 t.1;bif x0.1 then some (IntKind.wrap .i64 (0 - v5)) else some v5
def bW (x0:Bool×Int×Int) (x1:Int):Option Int:=gK lpK jnK cQ x0 x1
abbrev TP:=(Bool×Int×Int)->(Int)->Option (Int)
def Lf:Ctr:=⟨[uu,i64],[],[],.one i64,fun x _ _=>bW x.1 x.2.1⟩
theorem Xa (lp:Lp) (jn:Jn) (cQ:MH):∀(x:TsS Lf.as) (F:TsF Lf.fs) (y:TsS Lf.cs),gK lp jn cQ x.1 x.2.1=bM lp jn (cx [(185,SE cQ)] [(32,r32),(92,r92),(112,bn)]) ak 4 178 f178 Lf x F y:=fun x F y=>by kernel_rfl
theorem Ug:Lf.ok prog 178:=Ctr.of_den (ap (af (q32) (by kernel_rfl) Rc)) aE (hl:=ak) (d:=4) func178 rfl (by decide) (Xa lpK jnK cQ)
def ii (lp:Lp) (_:Jn) (bD:Km) (bC:R2) (bW:TP) (x0:List Nat×List (Option (List Int))) (x1:Int) (x2:List Int) (x3:List Int) (x4:List Int) (x5:Int) (x6:Int) (x7:Int) (x8:Int):Option ((List Nat×List (Option (List Int)))×Int×(List Int)×(List Int)×(List Int)×Int×Int×Unit) :=
 
 let v11:List Int×List Int×List Int×Int×Int×PUnit:=(x2.set x7.toNat x8,x3,x4,x5,x6,PUnit.unit);bif inB x7 x0.1.length then bif Nat.ble (Nat.succ x7.toNat) x0.1.length then bif inB x8 (List.length (bG x0.2 (x0.1.getD x7.toNat 0))) then bif Nat.ble (Nat.succ x8.toNat) (List.length (bG x0.2 (x0.1.getD x7.toNat 0))) then lp (Int×(List Nat×List (Option (List Int)))×PUnit) ((List Nat×List (Option (List Int)))×Int×List Int×List Int×List Int×Int×Int×PUnit) (fun (again:Int×(List Nat×List (Option (List Int)))×PUnit->Option ((List Nat×List (Option (List Int)))×Int×List Int×List Int×List Int×Int×Int×PUnit)) (x:Int×(List Nat×List (Option (List Int)))×PUnit) =>
 let v14:Int:=IntKind.wrap .i64 (x.1+1);
 let v15:(List Nat×List (Option (List Int)))×PUnit:=(x.2.1,PUnit.unit);
 let v16:Int×(List Nat×List (Option (List Int)))×PUnit:=(0,v15);bif decide (x.1<(↑x0.1.length:Int)) then bif inB x.1 x.2.1.1.length then bif Nat.ble (Nat.succ x.1.toNat) x.2.1.1.length then bif decide (x.1=x7) then again (v14,v15) else bif inB x8 (List.length (bG x.2.1.2 (x.2.1.1.getD x.1.toNat 0))) then bif Nat.ble (Nat.succ x8.toNat) (List.length (bG x.2.1.2 (x.2.1.1.getD x.1.toNat 0))) then bif fH x.2.1.2 (x.2.1.1.getD x.1.toNat 0) then lp (Int×(List Nat×List (Option (List Int)))×PUnit) ((List Nat×List (Option (List Int)))×Int × List Int×List Int×List Int×Int×Int×PUnit) (fun (again_1:Int×(List Nat×List (Option (List Int)))×PUnit->Option ((List Nat×List (Option (List Int)))×Int×List Int × List Int×List Int×Int×Int×PUnit)) (x_1:Int×(List Nat×List (Option (List Int)))×PUnit)=>bif decide (x_1.1<(↑(List.length (bG x.2.1.2 (x.2.1.1.getD x.1.toNat 0))):Int)) then bif inB x_1.1 (List.length (bG x_1.2.1.2 (x.2.1.1.getD x.1.toNat 0))) then bif Nat.ble (Nat.succ x_1.1.toNat) (List.length (bG x_1.2.1.2 (x.2.1.1.getD x.1.toNat 0))) then ah (bD (List.getD (bG x_1.2.1.2 (x.2.1.1.getD x.1.toNat 0)) x_1.1.toNat 0) (List.getD (bG x0.2 (x0.1.getD x7.toNat 0)) x8.toNat 0)) fun (t:Bool×Int×Int)=>bif inB x7 x_1.2.1.1.length then bif Nat.ble (Nat.succ x7.toNat) x_1.2.1.1.length then bif inB x_1.1 (List.length (bG x_1.2.1.2 (x_1.2.1.1.getD x7.toNat 0))) then bif Nat.ble (Nat.succ x_1.1.toNat) (List.length (bG x_1.2.1.2 (x_1.2.1.1.getD x7.toNat 0))) then ah (bD (List.getD (bG x.2.1.2 (x.2.1.1.getD x.1.toNat 0)) x8.toNat 0) (List.getD (bG x_1.2.1.2 (x_1.2.1.1.getD x7.toNat 0)) x_1.1.toNat 0)) fun (t_1:Bool×Int×Int)=>ah (bC t t_1) fun (t:Bool × Int×Int)=>ah (bW t x1) fun (t:Int)=>bif inB x_1.1 (List.length (bG x_1.2.1.2 (x.2.1.1.getD x.1.toNat 0))) then bif Nat.ble (Nat.succ x_1.1.toNat) (List.length (bG x_1.2.1.2 (x.2.1.1.getD x.1.toNat 0))) then again_1 (IntKind.wrap .i64 (x_1.1+(1 : Int)),(x_1.2.1.1,x_1.2.1.2.set (x.2.1.1.getD x.1.toNat 0) (some (List.set (bG x_1.2.1.2 (x.2.1.1.getD x.1.toNat 0)) x_1.1.toNat t))),PUnit.unit) else none else none else none else none else none else none else none else none else again (v14,x_1.2.1,PUnit.unit)) v16 else none else none else none else none else none else bif inB x7 x2.length then bif Nat.ble (Nat.succ x7.toNat) x2.length then bif decide (List.getD (bG x0.2 (x0.1.getD x7.toNat 0)) x8.toNat 0<0) then lp (Int×(List Nat×List (Option (List Int)))×PUnit) ((List Nat×List (Option (List Int))) × Int×List Int×List Int×List Int×Int×Int×PUnit) (fun (again:Int×(List Nat×List (Option (List Int)))×PUnit->Option ((List Nat×List (Option (List Int)))×Int×List Int×List Int×List Int×Int×Int×PUnit)) (x_1:Int×(List Nat×List (Option (List Int)))×PUnit)=>bif decide (x_1.1<(↑x.2.1.1.length:Int)) then bif inB x_1.1 x_1.2.1.1.length then bif Nat.ble (Nat.succ x_1.1.toNat) x_1.2.1.1.length then bif fH x_1.2.1.2 (x_1.2.1.1.getD x_1.1.toNat 0) then lp (Int×(List Nat×List (Option (List Int)))×PUnit) ((List Nat×List (Option (List Int)))×Int×List Int×List Int×List Int×Int×Int×PUnit) (fun (again_1:Int×(List Nat×List (Option (List Int)))×PUnit->Option ((List Nat×List (Option (List Int)))×Int×List Int×List Int×List Int×Int×Int×PUnit)) (x:Int × (List Nat×List (Option (List Int)))×PUnit)=>bif decide (x.1<(↑(List.length (bG x_1.2.1.2 (x_1.2.1.1.getD x_1.1.toNat 0))):Int)) then bif inB x.1 (List.length (bG x.2.1.2 (x_1.2.1.1.getD x_1.1.toNat 0))) then bif Nat.ble (Nat.succ x.1.toNat) (List.length (bG x.2.1.2 (x_1.2.1.1.getD x_1.1.toNat 0))) then bif inB x.1 (List.length (bG x.2.1.2 (x_1.2.1.1.getD x_1.1.toNat 0))) then bif Nat.ble (Nat.succ x.1.toNat) (List.length (bG x.2.1.2 (x_1.2.1.1.getD x_1.1.toNat 0))) then again_1 (IntKind.wrap .i64 (x.1+(1 : Int)),(x.2.1.1,x.2.1.2.set (x_1.2.1.1.getD x_1.1.toNat 0) (some (List.set (bG x.2.1.2 (x_1.2.1.1.getD x_1.1.toNat 0)) x.1.toNat (IntKind.wrap .i64 (0 - List.getD (bG x.2.1.2 (x_1.2.1.1.getD x_1.1.toNat 0)) x.1.toNat 0))))),PUnit.unit) else none else none else none else none else again (IntKind.wrap .i64 (x_1.1+1),x.2.1,PUnit.unit)) (0,x_1.2.1, PUnit.unit) else none else none else none else some (x_1.2.1,IntKind.wrap .i64 (0 - List.getD (bG x0.2 (x0.1.getD x7.toNat 0)) x8.toNat 0),v11)) v16 else some (x.2.1,List.getD (bG x0.2 (x0.1.getD x7.toNat 0)) x8.toNat 0,v11) else none else none) (0,x0, PUnit.unit) else none else none else none else none
def aF (x0:List Nat×List (Option (List Int))) (x1:Int) (x2:List Int) (x3:List Int) (x4:List Int) (x5:Int) (x6:Int) (x7:Int) (x8:Int):Option ((List Nat×List (Option (List Int)))×Int×(List Int)×(List Int)×(List Int)×Int×Int×Unit):=ii lpK jnK bD bC bW x0 x1 x2 x3 x4 x5 x6 x7 x8
abbrev NC:=(List Nat×List (Option (List Int)))->(Int)->(List Int)->(List Int)->(List Int)->(Int)->(Int)->(Int)->(Int)->Option ((List Nat×List (Option (List Int)))×Int×(List Int)×(List Int)×(List Int)×Int×Int×Unit)
def R9 (aF:NC):SCtr:=⟨[.b [.x (.tab 79 .ref 3 i64),.d i64,.row 3 i64,.row 3 i64,.row 3 i64,.d i64,.d i64],.d i64,.d i64],[],fun x=>aF x.1 x.2.1 x.2.2.1 x.2.2.2.1 x.2.2.2.2.1 x.2.2.2.2.2.1 x.2.2.2.2.2.2.1 x.2.2.2.2.2.2.2.1 x.2.2.2.2.2.2.2.2.1⟩
def So:SCtr:=R9 aF
theorem Xw (lp:Lp) (jn:Jn) (bD:Km) (bC:R2) (bW:TP):∀x:TsR (rhI 0 So.ks),ii lp jn bD bC bW x.1 x.2.1 x.2.2.1 x.2.2.2.1 x.2.2.2.2.1 x.2.2.2.2.2.1 x.2.2.2.2.2.2.1 x.2.2.2.2.2.2.2.1 x.2.2.2.2.2.2.2.2.1=Ml lp jn (Dn.look []) (cx [(178,⟨[uu,i64],[],[],.one i64,fun x _ _=>bW x.1 x.2.1⟩),(177,Tw bC),(176,Se bD)] [(32,r32),(92,r92),(112,bn)]) ak 4 149 f149 So x:=fun x=>by kernel_rfl
theorem Rx:So.ok prog 149:=SCtr.of_den (ap (af (af (af (q32) (by kernel_rfl) Ry) (by kernel_rfl) TR) (by kernel_rfl) Ug)) aE (rQ) (hl:=ak) (d:=4) func149 rfl (by decide) (Xw lpK jnK bD bC bW)
def io (_:Lp) (_:Jn) (aw:K8) (x0:Bool×Int×Int) (x1:Bool×Int×Int):Option Int :=
 
 let v4:Bool:=!decide (x0.1=x1.1);
 let v5:Bool:=!v4||v4;bif v5 then bif v5 then bif bif v4 then x0.1 else false then some (-1) else bif v4 then some 1 else bif x0.1 then ah (aw x1 x0) fun (t:Int)=>some t else ah (aw x0 x1) fun (t:Int)=>some t else none else none
def cB (x0:Bool×Int×Int) (x1:Bool×Int×Int):Option Int:=io lpK jnK aw x0 x1
abbrev T9:=(Bool×Int×Int)->(Bool×Int×Int)->Option (Int)
def Nm:Ctr:=⟨[uu,uu],[],[],.one i64,fun x _ _=>cB x.1 x.2.1⟩
theorem VZ (lp:Lp) (jn:Jn) (aw:K8):∀(x:TsS Nm.as) (F:TsF Nm.fs) (y:TsS Nm.cs),io lp jn aw x.1 x.2.1=bM lp jn (cx [(192,SR aw)] [(32,r32),(92,r92),(112,bn)]) ak 4 179 f179 Nm x F y:=fun x F y=>by kernel_rfl
theorem Uq:Nm.ok prog 179:=Ctr.of_den (ap (af (q32) (by kernel_rfl) RJ)) aE (hl:=ak) (d:=4) func179 rfl (by decide) (VZ lpK jnK aw)
def gz (lp:Lp) (_:Jn) (bD:Km) (cB:T9) (x0:(List (List Int))×Int×(List Int)×(List Int)×(List Int)×Int×Int) (x1:Int):Option Int :=
 lp (Int×Int×PUnit) Int (fun (again:Int×Int×PUnit->Option Int) (x:Int×Int×PUnit) =>
 let v6:Int×PUnit:=(IntKind.wrap .i64 (x.2.1+1),PUnit.unit);
 let v7:Bool:=inB x.1 x0.1.length;
 let v8:List Int:=x0.1.getD x.1.toNat [];
 let v9:List Int:=x0.1.getD x.2.1.toNat [];
 let v10:Bool:=inB x1 v9.length;bif decide (x.2.1<(↑x0.1.length:Int)) then bif inB x.2.1 x0.1.length then bif v10 then bif decide (v9.getD x1.toNat 0<=0) then again (x.1,v6) else bif decide (x.1<0) then again (x.2.1,v6) else bif inB x0.2.2.2.2.2.2 v9.length then bif v7 then bif inB x1 v8.length then ah (bD (v9.getD x0.2.2.2.2.2.2.toNat 0) (v8.getD x1.toNat 0)) fun (t:Bool × Int×Int)=>bif v7 then bif inB x0.2.2.2.2.2.2 v8.length then bif v10 then ah (bD (v8.getD x0.2.2.2.2.2.2.toNat 0) (v9.getD x1.toNat 0)) fun (t_1:Bool×Int×Int)=>ah (cB t t_1) fun (t:Int) =>
 let v14:Bool:=decide (t=0);
 let v15:Bool:=decide (t<0);
 let v16:Bool:=!v15;
 let v17:Bool:=!v16;
 let v18:Bool:=v16&&v14;
 let v19:Bool:=!v18;
 let v20:Bool:=v17||v16;
 let v21:Bool:=v19||v18;bif v20 then bif v20 then bif v21 then bif v21 then bif v21 then bif v21&&(v21&&(v19||inB x.2.1 x0.2.2.1.length)) then bif v21 then bif v21 then bif v21 then bif v21 then bif v21&&(v21&&(v19||inB x.1 x0.2.2.1.length)) then bif v21 then bif v21&&v21 then bif (v17||v20)&&(v17||(!v14 || (v17||v18))) then bif v15||v16 then bif bif v15 then true else bif v14 then decide (x0.2.2.1.getD x.2.1.toNat 0<x0.2.2.1.getD x.1.toNat 0) else false then again (x.2.1,v6) else again (x.1,v6) else none else none else none else none else none else none else none else none else none else none else none else none else none else none else none else none else none else none else none else none else none else none else none else some x.1) ((-1),0,PUnit.unit)
def ay (x0:(List (List Int))×Int×(List Int)×(List Int)×(List Int)×Int×Int) (x1:Int):Option Int:=gz lpK jnK bD cB x0 x1
abbrev Ox:=((List (List Int))×Int×(List Int)×(List Int)×(List Int)×Int×Int)->(Int)->Option (Int)
def SO (ay:Ox):PCtr:=⟨JP,[i64],.one i64,fun x y=>ay x y.1⟩
def Pz:PCtr:=SO ay
theorem VQ (lp:Lp) (jn:Jn) (bD:Km) (cB:T9):∀(x:Pz.s.T) (y:TsS Pz.as),gz lp jn bD cB x y.1=GW lp jn (cx [(179,⟨[uu,uu],[],[],.one i64,fun x _ _=>cB x.1 x.2.1⟩),(176,Se bD)] [(32,r32),(92,r92),(112,bn)]) ak 4 150 f150 Pz x y:=fun x y=>by kernel_rfl
theorem Ri:Pz.ok prog 150:=PCtr.of_den (ap (af (af (q32) (by kernel_rfl) Ry) (by kernel_rfl) Uq)) aE (hl:=ak) (d:=4) func150 rfl (by decide) (VQ lpK jnK bD cB)
def im (lp:Lp) (_:Jn) (aF:NC) (av:NW) (ay:Ox) (x0:List Nat×List (Option (List Int))) (x1:Int) (x2:List Int) (x3:List Int) (x4:List Int) (x5:Int) (x6:Int):Option ((List Nat×List (Option (List Int)))×Int×(List Int)×(List Int)×(List Int)×Int×Int×Bool×Unit) :=
 lp ((List Nat×List (Option (List Int)))×Int×List Int×List Int×List Int×Int×Int×PUnit) ((List Nat×List (Option (List Int)))×Int×List Int×List Int×List Int×Int × Int×Bool×PUnit) (fun (again:(List Nat×List (Option (List Int)))×Int×List Int×List Int×List Int×Int×Int×PUnit->Option ((List Nat×List (Option (List Int)))×Int × List Int×List Int×List Int×Int×Int×Bool×PUnit)) (x:(List Nat×List (Option (List Int)))×Int×List Int×List Int×List Int×Int×Int×PUnit)=>lp (Int×Int × PUnit) ((List Nat×List (Option (List Int)))×Int×List Int×List Int×List Int×Int×Int×Bool×PUnit) (fun (again_1:Int×Int×PUnit->Option ((List Nat×List (Option (List Int)))×Int×List Int×List Int×List Int×Int×Int×Bool×PUnit)) (x_1:Int×Int×PUnit) =>
 let v13:Bool:=decide (x_1.1<0);
 let v14:Int×PUnit:=(IntKind.wrap .i64 (x_1.2.1+1),PUnit.unit);
 let v15:Bool:=decide (x_1.2.1<x.2.2.2.2.2.1);
 let v16:Bool:=!v15||v15;bif v16 then bif v16 then bif bif v15 then v13 else false then ah (bif List.all x.1.1 fun (x_2:Nat)=>fH x.1.2 x_2 then av (List.map (fun (x_2:Nat)=>bG x.1.2 x_2) x.1.1,x.2.1,x.2.2.1,x.2.2.2.1,x.2.2.2.2.1,x.2.2.2.2.2.1, x.2.2.2.2.2.2.1) x_1.2.1 else none) fun (t:Int)=>bif decide (t>0) then again_1 (x_1.2.1,v14) else again_1 (x_1.1,v14) else bif v13 then ah (bif List.all x.1.1 fun (x_2:Nat)=>fH x.1.2 x_2 then av (List.map (fun (x_2:Nat)=>bG x.1.2 x_2) x.1.1,x.2.1,x.2.2.1, x.2.2.2.1,x.2.2.2.2.1,x.2.2.2.2.2.1,x.2.2.2.2.2.2.1) x.2.2.2.2.2.2.1 else none) fun (t:Int)=>bif decide (t>0) then some (x.1,x.2.1,x.2.2.1,x.2.2.2.1,x.2.2.2.2.1,x.2.2.2.2.2.1,x.2.2.2.2.2.2.1,false,PUnit.unit) else lp (Int×(List Nat×List (Option (List Int)))×Int×List Int×List Int×List Int×Int×Int×PUnit) ((List Nat×List (Option (List Int)))×Int×List Int×List Int×List Int×Int×Int × Bool×PUnit) (fun (again:Int×(List Nat×List (Option (List Int)))×Int×List Int×List Int×List Int×Int×Int×PUnit->Option ((List Nat×List (Option (List Int)))×Int × List Int×List Int×List Int×Int×Int×Bool×PUnit)) (x_2:Int×(List Nat×List (Option (List Int)))×Int×List Int×List Int×List Int×Int×Int×PUnit)=>bif decide (x_2.1<(↑x.1.1.length:Int)) then lp (Int×(List Nat×List (Option (List Int)))×Int×List Int×List Int×List Int×Int×Int×PUnit) ((List Nat×List (Option (List Int)))×Int×List Int×List Int×List Int×Int×Int×Bool×PUnit) (fun (again_2:Int×(List Nat×List (Option (List Int)))×Int×List Int×List Int×List Int×Int×Int×PUnit->Option ((List Nat×List (Option (List Int)))×Int×List Int×List Int×List Int×Int×Int×Bool×PUnit)) (x:Int×(List Nat×List (Option (List Int)))×Int×List Int×List Int×List Int×Int×Int×PUnit) =>
 let v22:Int:=IntKind.wrap .i64 (x.1+1);
 let v23:Bool:=decide (x.1<x.2.2.2.2.2.2.1);
 let v24:Bool:=!v23;
 let v25:Bool:=v24||v23;
 let v26:(List Nat×List (Option (List Int)))×Int×List Int×List Int×List Int×Int×Int×PUnit:=(x.2.1,x.2.2.1,x.2.2.2.1,x.2.2.2.2.1, x.2.2.2.2.2.1,x.2.2.2.2.2.2.1,x.2.2.2.2.2.2.2.1,PUnit.unit);bif v25 then bif v25 then bif v25 then bif v25&&(v25&&(v24||inB x_2.1 x.2.2.2.1.length)) then bif v25&&(v24||Nat.ble (Nat.succ x_2.1.toNat) x.2.2.2.1.length) then bif v25 then bif v25 then bif v25 then bif v25 && v25 then bif v25 then bif bif v23 then decide (x.2.2.2.1.getD x_2.1.toNat 0>=x.2.2.2.2.2.2.1) else false then bif inB x_2.1 x.2.1.1.length then bif Nat.ble (Nat.succ x_2.1.toNat) x.2.1.1.length then bif inB x.1 (List.length (bG x.2.1.2 (x.2.1.1.getD x_2.1.toNat 0))) then bif Nat.ble (Nat.succ x.1.toNat) (List.length (bG x.2.1.2 (x.2.1.1.getD x_2.1.toNat 0))) then bif !decide (List.getD (bG x.2.1.2 (x.2.1.1.getD x_2.1.toNat 0)) x.1.toNat 0=0) then ah (aF x.2.1 x.2.2.1 x.2.2.2.1 x.2.2.2.2.1 x.2.2.2.2.2.1 x.2.2.2.2.2.2.1 x.2.2.2.2.2.2.2.1 x_2.1 x.1) fun (y:(List Nat×List (Option (List Int)))×Int×List Int×List Int×List Int×Int×Int×PUnit)=>again_2 (v22,y.1,y.2.1,y.2.2.1,y.2.2.2.1,y.2.2.2.2.1,y.2.2.2.2.2.1, y.2.2.2.2.2.2.1,PUnit.unit) else again_2 (v22,v26) else none else none else none else none else again (IntKind.wrap .i64 (x_2.1+1),v26) else none else none else none else none else none else none else none else none else none else none) (0,x_2.2.1,x_2.2.2.1,x_2.2.2.2.1,x_2.2.2.2.2.1, x_2.2.2.2.2.2.1,x_2.2.2.2.2.2.2.1,x_2.2.2.2.2.2.2.2.1,PUnit.unit) else some (x_2.2.1,x_2.2.2.1,x_2.2.2.2.1, x_2.2.2.2.2.1,x_2.2.2.2.2.2.1,x_2.2.2.2.2.2.2.1,x_2.2.2.2.2.2.2.2.1,true,PUnit.unit)) (0,x.1,x.2.1, x.2.2.1,x.2.2.2.1,x.2.2.2.2.1,x.2.2.2.2.2.1,x.2.2.2.2.2.2.1,PUnit.unit) else ah (bif List.all x.1.1 fun (x_2:Nat) => fH x.1.2 x_2 then ay (List.map (fun (x_2:Nat)=>bG x.1.2 x_2) x.1.1,x.2.1,x.2.2.1,x.2.2.2.1,x.2.2.2.2.1, x.2.2.2.2.2.1,x.2.2.2.2.2.2.1) x_1.1 else none) fun (t:Int)=>ah (aF x.1 x.2.1 x.2.2.1 x.2.2.2.1 x.2.2.2.2.1 x.2.2.2.2.2.1 x.2.2.2.2.2.2.1 t x_1.1) fun (y:(List Nat×List (Option (List Int)))×Int×List Int×List Int×List Int×Int × Int×PUnit)=>again (y.1,y.2.1,y.2.2.1,y.2.2.2.1,y.2.2.2.2.1,y.2.2.2.2.2.1,y.2.2.2.2.2.2.1,PUnit.unit) else none else none) ((-1),0,PUnit.unit)) (x0,x1,x2,x3,x4,x5,x6,PUnit.unit)
def aL (x0:List Nat×List (Option (List Int))) (x1:Int) (x2:List Int) (x3:List Int) (x4:List Int) (x5:Int) (x6:Int):Option ((List Nat×List (Option (List Int)))×Int×(List Int)×(List Int)×(List Int)×Int×Int×Bool×Unit):=im lpK jnK aF av ay x0 x1 x2 x3 x4 x5 x6
abbrev M7:=(List Nat×List (Option (List Int)))->(Int)->(List Int)->(List Int)->(List Int)->(Int)->(Int)->Option ((List Nat×List (Option (List Int)))×Int×(List Int)×(List Int)×(List Int)×Int×Int×Bool×Unit)
def Sc (aL:M7):SCtr:=⟨[.b [.x (.tab 79 .ref 3 i64),.d i64,.row 3 i64,.row 3 i64,.row 3 i64,.d i64,.d i64]],[(false,[.d .bool])],fun x=>aL x.1 x.2.1 x.2.2.1 x.2.2.2.1 x.2.2.2.2.1 x.2.2.2.2.2.1 x.2.2.2.2.2.2.1⟩
def R3:SCtr:=Sc aL
theorem XB (lp:Lp) (jn:Jn) (aF:NC) (av:NW) (ay:Ox):∀x:TsR (rhI 0 R3.ks),im lp jn aF av ay x.1 x.2.1 x.2.2.1 x.2.2.2.1 x.2.2.2.2.1 x.2.2.2.2.2.1 x.2.2.2.2.2.2.1=Ml lp jn (Dn.look [(149,R9 aF)]) (yE zH zD (Gj [(150,SO ay),(106,Ts av)] [] (jb prog shs ud its [] [(32,r32),(92,r92),(112,bn)]))) ak 4 102 f102 R3 x:=fun x=>by kernel_rfl
theorem Ra:R3.ok prog 102:=SCtr.of_den (ap (sG (q32) (iK (by kernel_rfl) Ri (iK (by kernel_rfl) RL (oV))) (oC))) aE (oH Rx (rQ)) (hl:=ak) (d:=4) func102 rfl (by decide) (XB lpK jnK aF av ay)
def iC (_:Lp) (_:Jn) (x0:(List (List Int))×Int×(List Int)×(List Int)×(List Int)×Int×Int) (x1:Int):Option Int :=
 bif decide (x1<(↑x0.2.2.2.2.1.length:Int)) then bif inB x1 x0.2.2.2.2.1.length then some (x0.2.2.2.2.1.getD x1.toNat 0) else none else some 0
def aH (x0:(List (List Int))×Int×(List Int)×(List Int)×(List Int)×Int×Int) (x1:Int):Option Int:=iC lpK jnK x0 x1
abbrev Om:=((List (List Int))×Int×(List Int)×(List Int)×(List Int)×Int×Int)->(Int)->Option (Int)
def RU (aH:Om):PCtr:=⟨JP,[i64],.one i64,fun x y=>aH x y.1⟩
def QJ:PCtr:=RU aH
theorem Xx (lp:Lp) (jn:Jn):∀(x:QJ.s.T) (y:TsS QJ.as),iC lp jn x y.1=GW lp jn (cx [] [(32,r32),(92,r92),(112,bn)]) ak 4 104 f104 QJ x y:=fun x y=>by kernel_rfl
theorem RH:QJ.ok prog 104:=PCtr.of_den (ap (q32)) aE (hl:=ak) (d:=4) func104 rfl (by decide) (Xx lpK jnK)
def gD (lp:Lp) (_:Jn) (aH:Om) (x0:(List (List Int))×Int×(List Int)×(List Int)×(List Int)×Int×Int) (x1:Int):Option Int :=
 ah (aH x0 x1) fun (t:Int)=>lp (Int×Int×PUnit) Int (fun (again:Int×Int×PUnit->Option Int) (x:Int×Int×PUnit) =>
 let v7:List Int:=x0.1.getD x.2.1.toNat [];bif decide (x.2.1<(↑x0.1.length:Int)) then bif inB x.2.1 x0.1.length then bif inB x.2.1 x0.2.2.1.length then ah (aH x0 (x0.2.2.1.getD x.2.1.toNat 0)) fun (t:Int)=>bif inB x1 v7.length then again (IntKind.wrap .i64 (x.1 - IntKind.wrap .i64 (t*v7.getD x1.toNat 0)),IntKind.wrap .i64 (x.2.1+1),PUnit.unit) else none else none else none else some x.1) (IntKind.wrap .i64 (t*x0.2.1),0,PUnit.unit)
def bK (x0:(List (List Int))×Int×(List Int)×(List Int)×(List Int)×Int×Int) (x1:Int):Option Int:=gD lpK jnK aH x0 x1
abbrev TB:=((List (List Int))×Int×(List Int)×(List Int)×(List Int)×Int×Int)->(Int)->Option (Int)
def Qj:PCtr:=⟨JP,[i64],.one i64,fun x y=>bK x y.1⟩
theorem WW (lp:Lp) (jn:Jn) (aH:Om):∀(x:Qj.s.T) (y:TsS Qj.as),gD lp jn aH x y.1=GW lp jn (yE zH zD (Gj [(104,RU aH)] [] (jb prog shs ud its [] [(32,r32),(92,r92),(112,bn)]))) ak 4 151 f151 Qj x y:=fun x y=>by kernel_rfl
theorem Vp:Qj.ok prog 151:=PCtr.of_den (ap (sG (q32) (iK (by kernel_rfl) RH (oV)) (oC))) aE (hl:=ak) (d:=4) func151 rfl (by decide) (WW lpK jnK aH)
def gE (lp:Lp) (_:Jn) (aF:NC) (ay:Ox) (bK:TB) (x0:List Nat×List (Option (List Int))) (x1:Int) (x2:List Int) (x3:List Int) (x4:List Int) (x5:Int) (x6:Int):Option ((List Nat×List (Option (List Int)))×Int×(List Int)×(List Int)×(List Int)×Int×Int×Bool×Unit) :=
 lp ((List Nat×List (Option (List Int)))×Int×List Int×List Int×List Int×Int×Int×PUnit) ((List Nat×List (Option (List Int)))×Int×List Int×List Int×List Int×Int × Int×Bool×PUnit) (fun (again:(List Nat×List (Option (List Int)))×Int×List Int×List Int×List Int×Int×Int×PUnit->Option ((List Nat×List (Option (List Int)))×Int × List Int×List Int×List Int×Int×Int×Bool×PUnit)) (x:(List Nat×List (Option (List Int)))×Int×List Int×List Int×List Int×Int×Int×PUnit)=>lp (Int×Int × PUnit) ((List Nat×List (Option (List Int)))×Int×List Int×List Int×List Int×Int×Int×Bool×PUnit) (fun (again_1:Int×Int×PUnit->Option ((List Nat×List (Option (List Int)))×Int×List Int×List Int×List Int×Int×Int×Bool×PUnit)) (x_1:Int×Int×PUnit) =>
 let v13:Bool:=decide (x_1.1<0);
 let v14:Int×PUnit:=(IntKind.wrap .i64 (x_1.2.1+1),PUnit.unit);
 let v15:Bool:=decide (x_1.2.1<x.2.2.2.2.2.1);
 let v16:Bool:=!v15||v15;bif v16 then bif v16 then bif bif v15 then v13 else false then ah (bif List.all x.1.1 fun (x_2:Nat)=>fH x.1.2 x_2 then bK (List.map (fun (x_2:Nat)=>bG x.1.2 x_2) x.1.1,x.2.1,x.2.2.1,x.2.2.2.1,x.2.2.2.2.1,x.2.2.2.2.2.1, x.2.2.2.2.2.2.1) x_1.2.1 else none) fun (t:Int)=>bif decide (t<0) then again_1 (x_1.2.1,v14) else again_1 (x_1.1,v14) else bif v13 then some (x.1,x.2.1,x.2.2.1,x.2.2.2.1,x.2.2.2.2.1,x.2.2.2.2.2.1,x.2.2.2.2.2.2.1,true,PUnit.unit) else ah (bif List.all x.1.1 fun (x_2:Nat)=>fH x.1.2 x_2 then ay (List.map (fun (x_2:Nat)=>bG x.1.2 x_2) x.1.1,x.2.1,x.2.2.1,x.2.2.2.1, x.2.2.2.2.1,x.2.2.2.2.2.1,x.2.2.2.2.2.2.1) x_1.1 else none) fun (t:Int)=>bif decide (t<0) then some (x.1,x.2.1, x.2.2.1,x.2.2.2.1,x.2.2.2.2.1,x.2.2.2.2.2.1,x.2.2.2.2.2.2.1,false,PUnit.unit) else ah (aF x.1 x.2.1 x.2.2.1 x.2.2.2.1 x.2.2.2.2.1 x.2.2.2.2.2.1 x.2.2.2.2.2.2.1 t x_1.1) fun (y:(List Nat×List (Option (List Int)))×Int×List Int × List Int×List Int×Int×Int×PUnit)=>again (y.1,y.2.1,y.2.2.1,y.2.2.2.1,y.2.2.2.2.1,y.2.2.2.2.2.1,y.2.2.2.2.2.2.1, PUnit.unit) else none else none) ((-1),0,PUnit.unit)) (x0,x1,x2,x3,x4,x5,x6,PUnit.unit)
def bB (x0:List Nat×List (Option (List Int))) (x1:Int) (x2:List Int) (x3:List Int) (x4:List Int) (x5:Int) (x6:Int):Option ((List Nat×List (Option (List Int)))×Int×(List Int)×(List Int)×(List Int)×Int×Int×Bool×Unit):=gE lpK jnK aF ay bK x0 x1 x2 x3 x4 x5 x6
abbrev SC:=(List Nat×List (Option (List Int)))->(Int)->(List Int)->(List Int)->(List Int)->(Int)->(Int)->Option ((List Nat×List (Option (List Int)))×Int×(List Int)×(List Int)×(List Int)×Int×Int×Bool×Unit)
def U0 (bB:SC):SCtr:=⟨[.b [.x (.tab 79 .ref 3 i64),.d i64,.row 3 i64,.row 3 i64,.row 3 i64,.d i64,.d i64]],[(false,[.d .bool])],fun x=>bB x.1 x.2.1 x.2.2.1 x.2.2.2.1 x.2.2.2.2.1 x.2.2.2.2.2.1 x.2.2.2.2.2.2.1⟩
def R7:SCtr:=U0 bB
theorem Xt (lp:Lp) (jn:Jn) (aF:NC) (ay:Ox) (bK:TB):∀x:TsR (rhI 0 R7.ks),gE lp jn aF ay bK x.1 x.2.1 x.2.2.1 x.2.2.2.1 x.2.2.2.2.1 x.2.2.2.2.2.1 x.2.2.2.2.2.2.1=Ml lp jn (Dn.look [(149,R9 aF)]) (yE zH zD (Gj [(151,⟨JP,[i64],.one i64,fun x y=>bK x y.1⟩),(150,SO ay)] [] (jb prog shs ud its [] [(32,r32),(92,r92),(112,bn)]))) ak 4 103 f103 R7 x:=fun x=>by kernel_rfl
theorem UK:R7.ok prog 103:=SCtr.of_den (ap (sG (q32) (iK (by kernel_rfl) Vp (iK (by kernel_rfl) Ri (oV))) (oC))) aE (oH Rx (rQ)) (hl:=ak) (d:=4) func103 rfl (by decide) (Xt lpK jnK aF ay bK)
def mQ (_:Lp) (_:Jn) (x0:Bool) (x1:Int) (x2:Int):Option ((Int×Int)×Int×Unit) :=
 
 let v5:Int:=IntKind.wrap .i64 x1;
 let v6:Int:=IntKind.wrap .i64 x2;
 let v7:Bool:=decide (x1>1152921504606846976);
 let v8:Bool:=!v7;bif !v8||v8 then bif v7||v8 then bif bif v7 then true else decide (x2>1152921504606846976) then some ((0,0),5,PUnit.unit) else bif x0 then some ((IntKind.wrap .i64 (0 - v5),v6),0,PUnit.unit) else some ((v5,v6),0,PUnit.unit) else none else none
def bh (x0:Bool) (x1:Int) (x2:Int):Option ((Int×Int)×Int×Unit):=mQ lpK jnK x0 x1 x2
abbrev t62:=(Bool)->(Int)->(Int)->Option ((Int×Int)×Int×Unit)
def k62 (bh:t62):Ctr:=⟨[.bool,(.int .u64),(.int .u64)],[],[],.tup [T47,i64],fun x _ _=>bh x.1 x.2.1 x.2.2.1⟩
def c62:Ctr:=k62 bh
theorem e62 (lp:Lp) (jn:Jn):∀(x:TsS c62.as) (F:TsF c62.fs) (y:TsS c62.cs),mQ lp jn x.1 x.2.1 x.2.2.1=bM lp jn (cx [] [(32,r32),(92,r92),(112,bn)]) ak 4 62 f62 c62 x F y:=fun x F y=>by kernel_rfl
theorem SA:c62.ok prog 62:=Ctr.of_den (ap (q32)) aE (hl:=ak) (d:=4) func62 rfl (by decide) (e62 lpK jnK)
def pS (_:Lp) (_:Jn) (bv:t59) (aA:t60) (bh:t62) (x0:Int) (x1:Int):Option ((Int×Int)×Int×Unit) :=
 
 let v4:Bool:=!decide (x0=0);
 let v5:Bool:=!v4||v4;bif decide (x1=0) then some ((0,0),16,PUnit.unit) else ah (aA x0) fun (t:Int)=>ah (aA x1) fun (t_1:Int)=>ah (bv t t_1) fun (t_2:Int) =>
 let v9:Bool:=nzB t_2;bif v5 then bif v5 then bif v5&&v5 then bif v5 then bif v9 then bif v9 then ah (bh (bif v4 then !decide (decide (x0<0)=decide (x1<(0 : Int))) else false) (IntKind.wrap .u64 (Int.tdiv t t_2)) (IntKind.wrap .u64 (Int.tdiv t_1 t_2))) fun (t:(Int×Int)×Int×PUnit)=>some (t.1,t.2.1, PUnit.unit) else none else none else none else none else none else none
def fu (x0:Int) (x1:Int):Option ((Int×Int)×Int×Unit):=pS lpK jnK bv aA bh x0 x1
abbrev SL:=(Int)->(Int)->Option ((Int×Int)×Int×Unit)
def TD (fu:SL):Ctr:=⟨[i64,i64],[],[],.tup [T47,i64],fun x _ _=>fu x.1 x.2.1⟩
def Ku:Ctr:=TD fu
theorem V0 (lp:Lp) (jn:Jn) (bv:t59) (aA:t60) (bh:t62):∀(x:TsS Ku.as) (F:TsF Ku.fs) (y:TsS Ku.cs),pS lp jn bv aA bh x.1 x.2.1=bM lp jn (cx [(62,k62 bh),(60,k60 aA),(59,k59 bv)] [(32,r32),(92,r92),(112,bn)]) ak 4 114 f114 Ku x F y:=fun x F y=>by kernel_rfl
theorem Vi:Ku.ok prog 114:=Ctr.of_den (ap (af (af (af (q32) (by kernel_rfl) OU) (by kernel_rfl) LS) (by kernel_rfl) SA)) aE (hl:=ak) (d:=4) func114 rfl (by decide) (V0 lpK jnK bv aA bh)
def iB (_:Lp) (_:Jn) (fu:SL) (x0:(List (List Int))×Int×(List Int)×(List Int)×(List Int)×Int×Int) (x1:Int):Option (Int×Int) :=
 ah (fu x1 x0.2.1) fun (t:(Int×Int)×Int×PUnit)=>some t.1
def aJ (x0:(List (List Int))×Int×(List Int)×(List Int)×(List Int)×Int×Int) (x1:Int):Option (Int×Int):=iB lpK jnK fu x0 x1
abbrev LJ:=((List (List Int))×Int×(List Int)×(List Int)×(List Int)×Int×Int)->(Int)->Option (Int×Int)
def S1 (aJ:LJ):PCtr:=⟨JP,[i64],.one T47,fun x y=>aJ x y.1⟩
def Q0:PCtr:=S1 aJ
theorem WU (lp:Lp) (jn:Jn) (fu:SL):∀(x:Q0.s.T) (y:TsS Q0.as),iB lp jn fu x y.1=GW lp jn (cx [(114,TD fu)] [(32,r32),(92,r92),(112,bn)]) ak 4 105 f105 Q0 x y:=fun x y=>by kernel_rfl
theorem Rm:Q0.ok prog 105:=PCtr.of_den (ap (af (q32) (by kernel_rfl) Vi)) aE (hl:=ak) (d:=4) func105 rfl (by decide) (WU lpK jnK fu)
def jk (lp:Lp) (jn:Jn) (aX:t99) (cn:NM) (bf:LU) (aL:M7) (bB:SC) (aH:Om) (aJ:LJ) (x0:(List Int)×List ((List Int)×Int×Int)):Option (((Int×Int)×(List (Int×Int))×List (Int×Int))×Int×Unit) :=
 ah (aX x0) fun (t:Bool)=>bif !t then some (((0,0),[],[]),1,PUnit.unit) else ah (cn x0) fun (t:Bool)=>bif !t then some ((((0 : Int),0),[],[]),5,PUnit.unit) else lp (Int×Int×PUnit) (((Int×Int)×List (Int×Int)×List (Int×Int))×Int×PUnit) (fun (again:Int×Int×PUnit -> Option (((Int×Int)×List (Int×Int)×List (Int×Int))×Int×PUnit)) (x:Int×Int×PUnit) =>
 let v7:Int×PUnit:=(IntKind.wrap .i64 (x.2.1+1),PUnit.unit);
 let v8:Int:=IntKind.wrap .i64 ((↑x0.1.length:Int)+x.1);bif decide (x.2.1<(↑x0.2.length:Int)) then bif inB x.2.1 x0.2.length then bif !decide ((x0.2.getD x.2.1.toNat ([],0,0)).2.1=3) then again (IntKind.wrap .i64 (x.1+1),v7) else again (x.1, v7) else none else ah (bf x0.1) fun (t:List Int)=>lp (Int×Int×(List Nat×List (Option (List Int)))×Int×List Int×List Int×List Int×Int×Int × PUnit) (((Int×Int)×List (Int×Int)×List (Int×Int))×Int×PUnit) (fun (again:Int×Int×(List Nat×List (Option (List Int)))×Int×List Int×List Int×List Int×Int × Int×PUnit->Option (((Int×Int)×List (Int×Int)×List (Int×Int))×Int×PUnit)) (x:Int×Int×(List Nat×List (Option (List Int)))×Int×List Int×List Int×List Int × Int×Int×PUnit) =>
 let v12:Int:=IntKind.wrap .i64 (x.1+1);
 let v13:List Int×Int×Int:=x0.2.getD x.2.1.toNat ([],0,0);
 let v14:List Int:=List.replicate (Int.toNat (IntKind.wrap .i64 (x.2.2.2.2.2.2.2.2.1+1))) 0;
 let v15:Bool:=inB x.1 (Int.toNat (IntKind.wrap .i64 (x.2.2.2.2.2.2.2.2.1+1)));
 let v16:Bool:=Nat.ble (Nat.succ x.1.toNat) (Int.toNat (IntKind.wrap .i64 (x.2.2.2.2.2.2.2.2.1+1)));
 let v17:Int:=IntKind.wrap .i64 (x.2.2.2.2.2.2.2.1+x.2.1);
 let v18:List Int:=List.take (Int.toNat (IntKind.wrap .i64 (x.2.2.2.2.2.2.2.2.1+1))) v13.1;
 let v19:List Int:=List.set (List.take 0 v14++v18++List.drop (0+List.length v18) v14) x.2.2.2.2.2.2.2.2.1.toNat v13.2.2;bif decide (x.2.1<(↑x0.2.length:Int)) then bif inB x.2.1 x0.2.length then bif decide (0<=IntKind.wrap .i64 (x.2.2.2.2.2.2.2.2.1+(1 : Int)))&&dQ (Int.toNat (IntKind.wrap .i64 (x.2.2.2.2.2.2.2.2.1+1))) 8 then bif inB x.2.2.2.2.2.2.2.2.1 (Int.toNat (IntKind.wrap .i64 (x.2.2.2.2.2.2.2.2.1+1))) then bif Nat.ble (Nat.succ x.2.2.2.2.2.2.2.2.1.toNat) (Int.toNat (IntKind.wrap IntKind.i64 (x.2.2.2.2.2.2.2.2.1+1))) then jn (Int×List Int×PUnit) (((Int×Int)×List (Int×Int)×List (Int×Int))×Int×PUnit) (fun (x_1:Int × List Int×PUnit) =>
 let v21:List Int×PUnit:=(x_1.2.1,PUnit.unit);jn (Int×List Int×PUnit) (((Int×Int)×List (Int×Int)×List (Int×Int))×Int×PUnit) (fun (x_2:Int×List Int × PUnit)=>bif inB v17 x_2.2.1.length then bif Nat.ble (Nat.succ v17.toNat) x_2.2.1.length then bif dQ (List.length x.2.2.1.1+1) (24 : Nat) then bif dQ (List.length x.2.2.2.2.2.1+1) 8 then bif dQ (List.length x.2.2.2.2.1+1) 8 then again (x_1.1, IntKind.wrap .i64 (x.2.1+1),(x.2.2.1.1++[List.length x.2.2.1.2+0],x.2.2.1.2++[some (x_2.2.1.set v17.toNat (1 : Int))]),x.2.2.2.1,x.2.2.2.2.1++[v17],x.2.2.2.2.2.1++[x_2.1],x.2.2.2.2.2.2.1,x.2.2.2.2.2.2.2.1, x.2.2.2.2.2.2.2.2.1,PUnit.unit) else none else none else none else none else none) fun (j:Int×List Int×PUnit->Option (((Int×Int)×List (Int×Int)×List (Int×Int))×Int×PUnit))=>bif decide (v13.2.2<0) then lp (Int×List Int×PUnit) (((Int×Int)×List (Int×Int)×List (Int×Int))×Int×PUnit) (fun (again : Int×List Int×PUnit->Option (((Int×Int)×List (Int×Int)×List (Int×Int))×Int×PUnit)) (x:Int×List Int×PUnit) =>
 let v25:Bool:=inB x.1 x.2.1.length;
 let v26:Bool:=Nat.ble (Nat.succ x.1.toNat) x.2.1.length;bif decide (x.1<(↑x_1.2.1.length:Int)) then bif v25 then bif v26 then bif v25 then bif v26 then again (IntKind.wrap .i64 (x.1+1),x.2.1.set x.1.toNat (IntKind.wrap .i64 (0 - x.2.1.getD x.1.toNat 0)), PUnit.unit) else none else none else none else none else j ((-1),x.2.1,PUnit.unit)) (0,v21) else j (1,v21)) fun (j:Int×List Int×PUnit->Option (((Int × Int)×List (Int×Int)×List (Int×Int))×Int×PUnit))=>bif decide (v13.2.1=1) then bif v15 then bif v16 then j (v12,v19.set x.1.toNat 1, PUnit.unit) else none else none else jn (Int×List Int×PUnit) (((Int×Int)×List (Int×Int)×List (Int×Int))×Int×PUnit) (fun (x:Int×List Int×PUnit)=>j (x.1, x.2.1,PUnit.unit)) fun (j:Int×List Int×PUnit->Option (((Int×Int)×List (Int×Int)×List (Int×Int))×Int×PUnit))=>bif decide (v13.2.1=2) then bif v15 then bif v16 then j (v12,v19.set x.1.toNat (-1),PUnit.unit) else none else none else j (x.1,v19,PUnit.unit) else none else none else none else none else ah (aL x.2.2.1 x.2.2.2.1 x.2.2.2.2.1 x.2.2.2.2.2.1 x.2.2.2.2.2.2.1 x.2.2.2.2.2.2.2.1 x.2.2.2.2.2.2.2.2.1) fun (y:(List Nat×List (Option (List Int)))×Int×List Int×List Int×List Int×Int×Int×Bool×PUnit)=>bif !y.2.2.2.2.2.2.2.1 then some (((0,0),[],[]),22,PUnit.unit) else ah (bB y.1 y.2.1 y.2.2.1 y.2.2.2.1 y.2.2.2.2.1 y.2.2.2.2.2.1 y.2.2.2.2.2.2.1) fun (y:(List Nat×List (Option (List Int)))×Int×List Int×List Int×List Int×Int×Int×Bool × PUnit)=>bif !y.2.2.2.2.2.2.2.1 then some (((0,0),[],[]),21,PUnit.unit) else bif decide (0<=(↑x0.1.length:Int))&&dQ (Int.toNat (↑x0.1.length:Int)) 8 then lp (Int×Int×List Int×PUnit) (((Int×Int)×List (Int×Int)×List (Int×Int))×Int×PUnit) (fun (again:Int×Int × List Int×PUnit->Option (((Int×Int)×List (Int×Int)×List (Int×Int))×Int×PUnit)) (x:Int×Int×List Int×PUnit) =>
 let v24:Int:=IntKind.wrap .i64 (x.2.1+1);
 let v25:Bool:=inB x.2.1 y.1.1.length;
 let v26:Bool:=Nat.ble (Nat.succ x.2.1.toNat) y.1.1.length;
 let v27:Int:=y.2.2.1.getD x.2.1.toNat 0;bif decide (x.2.1<(↑y.2.2.1.length:Int)) then bif inB x.2.1 y.2.2.1.length then bif Nat.ble (Nat.succ x.2.1.toNat) y.2.2.1.length then ah (bif List.all y.1.1 fun (x:Nat)=>fH y.1.2 x then aH (List.map (fun (x:Nat)=>bG y.1.2 x) y.1.1,y.2.1,y.2.2.1,y.2.2.2.1,y.2.2.2.2.1,y.2.2.2.2.2.1,y.2.2.2.2.2.2.1) v27 else none) fun (t:Int)=>bif v25 then bif v26 then bif inB y.2.2.2.2.2.2.1 (List.length (bG y.1.2 (y.1.1.getD x.2.1.toNat 0))) then bif Nat.ble (Nat.succ y.2.2.2.2.2.2.1.toNat) (List.length (bG y.1.2 (y.1.1.getD x.2.1.toNat 0))) then bif decide (v27<(↑x.2.2.1.length:Int)) then bif v25 then bif v26 then bif inB y.2.2.2.2.2.2.1 (List.length (bG y.1.2 (y.1.1.getD x.2.1.toNat 0))) then bif Nat.ble (Nat.succ y.2.2.2.2.2.2.1.toNat) (List.length (bG y.1.2 (y.1.1.getD x.2.1.toNat 0))) then bif inB v27 x.2.2.1.length then bif Nat.ble (Nat.succ v27.toNat) x.2.2.1.length then again (IntKind.wrap .i64 (x.1+IntKind.wrap .i64 (t*List.getD (bG y.1.2 (y.1.1.getD x.2.1.toNat 0)) y.2.2.2.2.2.2.1.toNat 0)),v24,x.2.2.1.set v27.toNat (List.getD (bG y.1.2 (y.1.1.getD x.2.1.toNat 0)) y.2.2.2.2.2.2.1.toNat 0),PUnit.unit) else none else none else none else none else none else none else again (IntKind.wrap .i64 (x.1+IntKind.wrap .i64 (t*List.getD (bG y.1.2 (y.1.1.getD x.2.1.toNat 0)) y.2.2.2.2.2.2.1.toNat 0)),v24,x.2.2.1,PUnit.unit) else none else none else none else none else none else none else ah (bif List.all y.1.1 fun (x:Nat) =>fH y.1.2 x then aJ (List.map (fun (x:Nat)=>bG y.1.2 x) y.1.1,y.2.1,y.2.2.1,y.2.2.2.1,y.2.2.2.2.1, y.2.2.2.2.2.1,y.2.2.2.2.2.2.1) x.1 else none) fun (t:Int×Int)=>lp (Int×(Int×Int)×List (Int×Int)×List (Int×Int)×PUnit) (((Int×Int) × List (Int×Int)×List (Int×Int))×Int×PUnit) (fun (again:Int×(Int×Int)×List (Int×Int)×List (Int×Int)×PUnit->Option (((Int×Int)×List (Int×Int)×List (Int × Int))×Int×PUnit)) (x_1:Int×(Int×Int)×List (Int×Int)×List (Int×Int)×PUnit) =>
 let v31:List (Int×Int)×PUnit:=(x_1.2.2.2.1,PUnit.unit);bif decide (x_1.1<(↑x.2.2.1.length:Int)) then bif inB x_1.1 x.2.2.1.length then bif Nat.ble (Nat.succ x_1.1.toNat) x.2.2.1.length then ah (bif List.all y.1.1 fun (x:Nat)=>fH y.1.2 x then aJ (List.map (fun (x : Nat)=>bG y.1.2 x) y.1.1,y.2.1,y.2.2.1,y.2.2.2.1,y.2.2.2.2.1,y.2.2.2.2.2.1,y.2.2.2.2.2.2.1) (x.2.2.1.getD x_1.1.toNat 0) else none) fun (t:Int×Int)=>bif dQ (List.length x_1.2.2.1+1) 16 then again (IntKind.wrap .i64 (x_1.1+1),x_1.2.1,x_1.2.2.1++[t],v31) else none else none else none else lp (Int×(Int×Int)×List (Int×Int)×List (Int×Int)×PUnit) (((Int×Int) × List (Int×Int)×List (Int×Int))×Int×PUnit) (fun (again:Int×(Int×Int)×List (Int×Int)×List (Int×Int)×PUnit->Option (((Int×Int)×List (Int×Int)×List (Int × Int))×Int×PUnit)) (x:Int×(Int×Int)×List (Int×Int)×List (Int×Int)×PUnit) =>
 let v34:Int:=IntKind.wrap .i64 (y.2.2.2.2.2.1+x.1);bif decide (x.1<(↑x0.2.length:Int)) then lp (Int×Int×PUnit) (((Int×Int)×List (Int × Int)×List (Int×Int))×Int×PUnit) (fun (again_1:Int×Int×PUnit->Option (((Int×Int)×List (Int×Int)×List (Int×Int))×Int×PUnit)) (x_2:Int×Int×PUnit)=>bif decide (x_2.2.1<(↑y.2.2.1.length:Int)) then bif inB x_2.2.1 y.2.2.1.length then bif Nat.ble (Nat.succ x_2.2.1.toNat) y.2.2.1.length then ah (bif List.all y.1.1 fun (x:Nat)=>fH y.1.2 x then aH (List.map (fun (x:Nat)=>bG y.1.2 x) y.1.1,y.2.1, y.2.2.1,y.2.2.2.1,y.2.2.2.2.1,y.2.2.2.2.2.1,y.2.2.2.2.2.2.1) (y.2.2.1.getD x_2.2.1.toNat 0) else none) fun (t:Int)=>bif inB x_2.2.1 y.1.1.length then bif Nat.ble (Nat.succ x_2.2.1.toNat) y.1.1.length then bif inB v34 (List.length (bG y.1.2 (y.1.1.getD x_2.2.1.toNat 0))) then bif Nat.ble (Nat.succ v34.toNat) (List.length (bG y.1.2 (y.1.1.getD x_2.2.1.toNat (0 : Nat)))) then again_1 (IntKind.wrap .i64 (x_2.1+IntKind.wrap .i64 (t*List.getD (bG y.1.2 (y.1.1.getD x_2.2.1.toNat 0)) v34.toNat 0)),IntKind.wrap .i64 (x_2.2.1+1),PUnit.unit) else none else none else none else none else none else none else bif inB x.1 y.2.2.2.1.length then bif Nat.ble (Nat.succ x.1.toNat) y.2.2.2.1.length then ah (bif List.all y.1.1 fun (x:Nat)=>fH y.1.2 x then aJ (List.map (fun (x:Nat)=>bG y.1.2 x) y.1.1,y.2.1,y.2.2.1,y.2.2.2.1,y.2.2.2.2.1,y.2.2.2.2.2.1, y.2.2.2.2.2.2.1) (IntKind.wrap .i64 (y.2.2.2.1.getD x.1.toNat 0*x_2.1)) else none) fun (t:Int×Int)=>bif dQ (List.length x.2.2.2.1+1) 16 then again (IntKind.wrap .i64 (x.1+1),x.2.1,x.2.2.1,x.2.2.2.1++[t],PUnit.unit) else none else none else none) (0,0,PUnit.unit) else some ((x.2.1,x.2.2.1,x.2.2.2.1),0,PUnit.unit)) (0,x_1.2.1,x_1.2.2.1,v31)) ((0 : Int),t,[],[],PUnit.unit)) (0,0,List.replicate (Int.toNat (↑x0.1.length:Int)) 0,PUnit.unit) else none) ((↑x0.1.length:Int),(0 : Int),([],[]),1,[],[],t,v8,IntKind.wrap .i64 (v8+(↑x0.2.length:Int)),PUnit.unit)) (0,0,PUnit.unit)
def cO (x0:(List Int)×List ((List Int)×Int×Int)):Option (((Int×Int)×(List (Int×Int))×List (Int×Int))×Int×Unit):=jk lpK jnK aX cn bf aL bB aH aJ x0
abbrev t56:=((List Int)×List ((List Int)×Int×Int))->Option (((Int×Int)×(List (Int×Int))×List (Int×Int))×Int×Unit)
def c56:Ctr:=⟨[T82],[],[],.tup [T94,i64],fun x _ _=>cO x.1⟩
theorem e56 (lp:Lp) (jn:Jn) (aX:t99) (cn:NM) (bf:LU) (aL:M7) (bB:SC) (aH:Om) (aJ:LJ):∀(x:TsS c56.as) (F:TsF c56.fs) (y:TsS c56.cs),jk lp jn aX cn bf aL bB aH aJ x.1=NA lp jn (Dn.look [(103,U0 bB),(102,Sc aL)]) (yE zH zD (Gj [(105,S1 aJ),(104,RU aH)] [] (jb prog shs ud its [(100,Tq cn),(99,k99 aX)] [(32,r32),(92,r92),(112,Sk bf)]))) ak 4 56 f56 c56 x F y:=fun x F y=>by kernel_rfl
theorem XJ:c56.ok prog 56:=Ctr.of_denS (ap (sG (af (af (q32) (by kernel_rfl) Ti) (by kernel_rfl) RE) (iK (by kernel_rfl) Rm (iK (by kernel_rfl) RH (oV))) (oC))) aE (oH UK (oH Ra (rQ))) (hl:=ak) (d:=4) func56 rfl (by decide) (e56 lpK jnK aX cn bf aL bB aH aJ)
set_option maxRecDepth 100000
def pY (_:Lp) (_:Jn) (aW:t55) (cO:t56) (x0:(List (ByteArray×Int))×List (ByteArray×(List (ByteArray×Int×Int×Int))×Bool)):Option ((List (Int×Int))×Int×Unit) :=
 ah (aW x0) fun (t:(List Int×List (List Int×Int×Int))×Int×PUnit)=>bif !decide (t.2.1=0) then some ([],t.2.1,PUnit.unit) else ah (cO t.1) fun (t:((Int×Int)×List (Int×Int)×List (Int×Int))×Int×PUnit)=>bif !decide (t.2.1=0) then some ([],t.2.1,PUnit.unit) else some (t.1.2.1,0,PUnit.unit)
def cE (x0:(List (ByteArray×Int))×List (ByteArray×(List (ByteArray×Int×Int×Int))×Bool)):Option ((List (Int×Int))×Int×Unit):=pY lpK jnK aW cO x0
abbrev t20:=((List (ByteArray×Int))×List (ByteArray×(List (ByteArray×Int×Int×Int))×Bool))->Option ((List (Int×Int))×Int×Unit)
def k20 (cE:t20):Ctr:=⟨[T25],[],[],.tup [(.sl T47),i64],fun x _ _=>cE x.1⟩
def c20:Ctr:=k20 cE
theorem e20 (lp:Lp) (jn:Jn) (aW:t55) (cO:t56):∀(x:TsS c20.as) (F:TsF c20.fs) (y:TsS c20.cs),pY lp jn aW cO x.1=bM lp jn (cx [(56,⟨[T82],[],[],.tup [T94,i64],fun x _ _=>cO x.1⟩),(55,k55 aW)] [(32,r32),(92,r92),(112,bn)]) ak 4 20 f20 c20 x F y:=fun x F y=>by kernel_rfl
theorem Tt:c20.ok prog 20:=Ctr.of_den (ap (af (af (q32) (by kernel_rfl) R5) (by kernel_rfl) XJ)) aE (hl:=ak) (d:=4) func20 rfl (by decide) (e20 lpK jnK aW cO)
def gF (lp:Lp) (jn:Jn) (aX:t99) (cn:NM) (bf:LU) (aL:M7) (av:NW) (aJ:LJ) (x0:(List Int)×List ((List Int)×Int×Int)):Option ((List (Int×Int))×Int×Unit) :=
 ah (aX x0) fun (t:Bool)=>bif !t then some ([],1,PUnit.unit) else ah (cn x0) fun (t:Bool)=>bif !t then some ([],5,PUnit.unit) else lp (Int×Int×PUnit) (List (Int×Int)×Int×PUnit) (fun (again:Int×Int×PUnit->Option (List (Int×Int)×Int×PUnit)) (x:Int×Int×PUnit) =>
 let v7:Int×PUnit:=(IntKind.wrap .i64 (x.2.1+1),PUnit.unit);
 let v8:Int:=IntKind.wrap .i64 ((↑x0.1.length:Int)+x.1);bif decide (x.2.1<(↑x0.2.length:Int)) then bif inB x.2.1 x0.2.length then bif !decide ((x0.2.getD x.2.1.toNat ([],0,0)).2.1=3) then again (IntKind.wrap .i64 (x.1+1),v7) else again (x.1, v7) else none else ah (bf x0.1) fun (t:List Int)=>lp (Int×Int×(List Nat×List (Option (List Int)))×Int×List Int×List Int×List Int×Int×Int × PUnit) (List (Int×Int)×Int×PUnit) (fun (again:Int×Int×(List Nat×List (Option (List Int)))×Int×List Int×List Int×List Int×Int×Int×PUnit->Option (List (Int × Int)×Int×PUnit)) (x:Int×Int×(List Nat×List (Option (List Int)))×Int×List Int×List Int×List Int×Int×Int×PUnit) =>
 let v12:Int:=IntKind.wrap .i64 (x.1+1);
 let v13:List Int×Int×Int:=x0.2.getD x.2.1.toNat ([],0,0);
 let v14:List Int:=List.replicate (Int.toNat (IntKind.wrap .i64 (x.2.2.2.2.2.2.2.2.1+1))) 0;
 let v15:Bool:=inB x.1 (Int.toNat (IntKind.wrap .i64 (x.2.2.2.2.2.2.2.2.1+1)));
 let v16:Bool:=Nat.ble (Nat.succ x.1.toNat) (Int.toNat (IntKind.wrap .i64 (x.2.2.2.2.2.2.2.2.1+1)));
 let v17:Int:=IntKind.wrap .i64 (x.2.2.2.2.2.2.2.1+x.2.1);
 let v18:List Int:=List.take (Int.toNat (IntKind.wrap .i64 (x.2.2.2.2.2.2.2.2.1+1))) v13.1;
 let v19:List Int:=List.set (List.take 0 v14++v18++List.drop (0+List.length v18) v14) x.2.2.2.2.2.2.2.2.1.toNat v13.2.2;bif decide (x.2.1<(↑x0.2.length:Int)) then bif inB x.2.1 x0.2.length then bif decide (0<=IntKind.wrap .i64 (x.2.2.2.2.2.2.2.2.1+(1 : Int)))&&dQ (Int.toNat (IntKind.wrap .i64 (x.2.2.2.2.2.2.2.2.1+1))) 8 then bif inB x.2.2.2.2.2.2.2.2.1 (Int.toNat (IntKind.wrap .i64 (x.2.2.2.2.2.2.2.2.1+1))) then bif Nat.ble (Nat.succ x.2.2.2.2.2.2.2.2.1.toNat) (Int.toNat (IntKind.wrap IntKind.i64 (x.2.2.2.2.2.2.2.2.1+1))) then jn (Int×List Int×PUnit) (List (Int×Int)×Int×PUnit) (fun (x_1:Int×List Int×PUnit) =>
 let v21:List Int×PUnit:=(x_1.2.1,PUnit.unit);jn (Int×List Int×PUnit) (List (Int×Int)×Int×PUnit) (fun (x_2:Int×List Int×PUnit)=>bif inB v17 x_2.2.1.length then bif Nat.ble (Nat.succ v17.toNat) x_2.2.1.length then bif dQ (List.length x.2.2.1.1+1) 24 then bif dQ (List.length x.2.2.2.2.2.1+1) 8 then bif dQ (List.length x.2.2.2.2.1+1) 8 then again (x_1.1,IntKind.wrap .i64 (x.2.1+(1 : Int)),(x.2.2.1.1++[List.length x.2.2.1.2+0],x.2.2.1.2++[some (x_2.2.1.set v17.toNat 1)]),x.2.2.2.1, x.2.2.2.2.1++[v17],x.2.2.2.2.2.1++[x_2.1],x.2.2.2.2.2.2.1,x.2.2.2.2.2.2.2.1,x.2.2.2.2.2.2.2.2.1, PUnit.unit) else none else none else none else none else none) fun (j:Int×List Int×PUnit->Option (List (Int×Int)×Int×PUnit))=>bif decide (v13.2.2<0) then lp (Int×List Int×PUnit) (List (Int×Int)×Int×PUnit) (fun (again:Int×List Int×PUnit->Option (List (Int×Int)×Int×PUnit)) (x:Int×List Int×PUnit) =>
 let v25:Bool:=inB x.1 x.2.1.length;
 let v26:Bool:=Nat.ble (Nat.succ x.1.toNat) x.2.1.length;bif decide (x.1<(↑x_1.2.1.length:Int)) then bif v25 then bif v26 then bif v25 then bif v26 then again (IntKind.wrap .i64 (x.1+1),x.2.1.set x.1.toNat (IntKind.wrap .i64 (0 - x.2.1.getD x.1.toNat 0)), PUnit.unit) else none else none else none else none else j ((-1),x.2.1,PUnit.unit)) (0,v21) else j (1,v21)) fun (j:Int×List Int×PUnit->Option (List (Int×Int)×Int×PUnit))=>bif decide (v13.2.1=1) then bif v15 then bif v16 then j (v12,v19.set x.1.toNat 1,PUnit.unit) else none else none else jn (Int×List Int×PUnit) (List (Int×Int)×Int×PUnit) (fun (x:Int×List Int×PUnit)=>j (x.1,x.2.1,PUnit.unit)) fun (j:Int×List Int×PUnit->Option (List (Int × Int)×Int×PUnit))=>bif decide (v13.2.1=2) then bif v15 then bif v16 then j (v12,v19.set x.1.toNat (-1),PUnit.unit) else none else none else j (x.1,v19,PUnit.unit) else none else none else none else none else ah (aL x.2.2.1 x.2.2.2.1 x.2.2.2.2.1 x.2.2.2.2.2.1 x.2.2.2.2.2.2.1 x.2.2.2.2.2.2.2.1 x.2.2.2.2.2.2.2.2.1) fun (y:(List Nat×List (Option (List Int)))×Int×List Int×List Int×List Int×Int×Int×Bool×PUnit)=>bif y.2.2.2.2.2.2.2.1 then some ([],12,PUnit.unit) else lp (List (Int×Int)×Int×PUnit) (List (Int×Int)×Int×PUnit) (fun (again:List (Int×Int)×Int×PUnit->Option (List (Int×Int)×Int×PUnit)) (x:List (Int×Int)×Int×PUnit)=>bif decide (x.2.1<(↑x0.2.length:Int)) then bif inB x.2.1 y.2.2.2.1.length then bif Nat.ble (Nat.succ x.2.1.toNat) y.2.2.2.1.length then ah (bif List.all y.1.1 fun (x:Nat) =>fH y.1.2 x then av (List.map (fun (x:Nat)=>bG y.1.2 x) y.1.1,y.2.1,y.2.2.1,y.2.2.2.1,y.2.2.2.2.1, y.2.2.2.2.2.1,y.2.2.2.2.2.2.1) (IntKind.wrap .i64 (y.2.2.2.2.2.1+x.2.1)) else none) fun (t:Int)=>ah (bif List.all y.1.1 fun (x:Nat)=>fH y.1.2 x then aJ (List.map (fun (x:Nat)=>bG y.1.2 x) y.1.1,y.2.1,y.2.2.1,y.2.2.2.1,y.2.2.2.2.1, y.2.2.2.2.2.1,y.2.2.2.2.2.2.1) (IntKind.wrap .i64 (y.2.2.2.1.getD x.2.1.toNat 0*t)) else none) fun (t:Int×Int) => bif dQ (List.length x.1+1) 16 then again (x.1++[t],IntKind.wrap .i64 (x.2.1+1),PUnit.unit) else none else none else none else some (x.1,0,PUnit.unit)) ([],0,PUnit.unit)) ((↑x0.1.length:Int),0,([],[]),1,[],[],t,v8,IntKind.wrap .i64 (v8+(↑x0.2.length:Int)),PUnit.unit)) (0,0,PUnit.unit)
def ci (x0:(List Int)×List ((List Int)×Int×Int)):Option ((List (Int×Int))×Int×Unit):=gF lpK jnK aX cn bf aL av aJ x0
abbrev t57:=((List Int)×List ((List Int)×Int×Int))->Option ((List (Int×Int))×Int×Unit)
def c57:Ctr:=⟨[T82],[],[],.tup [(.sl T47),i64],fun x _ _=>ci x.1⟩
theorem e57 (lp:Lp) (jn:Jn) (aX:t99) (cn:NM) (bf:LU) (aL:M7) (av:NW) (aJ:LJ):∀(x:TsS c57.as) (F:TsF c57.fs) (y:TsS c57.cs),gF lp jn aX cn bf aL av aJ x.1=NA lp jn (Dn.look [(102,Sc aL)]) (yE zH zD (Gj [(105,S1 aJ),(106,Ts av)] [] (jb prog shs ud its [(100,Tq cn),(99,k99 aX)] [(32,r32),(92,r92),(112,Sk bf)]))) ak 4 57 f57 c57 x F y:=fun x F y=>by kernel_rfl
theorem XH:c57.ok prog 57:=Ctr.of_denS (ap (sG (af (af (q32) (by kernel_rfl) Ti) (by kernel_rfl) RE) (iK (by kernel_rfl) Rm (iK (by kernel_rfl) RL (oV))) (oC))) aE (oH Ra (rQ)) (hl:=ak) (d:=4) func57 rfl (by decide) (e57 lpK jnK aX cn bf aL av aJ)
def mU (_:Lp) (_:Jn) (aW:t55) (ci:t57) (x0:(List (ByteArray×Int))×List (ByteArray×(List (ByteArray×Int×Int×Int))×Bool)):Option ((List (Int×Int))×Int×Unit) :=
 ah (aW x0) fun (t:(List Int×List (List Int×Int×Int))×Int×PUnit)=>bif !decide (t.2.1=0) then some ([],t.2.1,PUnit.unit) else ah (ci t.1) fun (t:List (Int×Int)×Int×PUnit)=>some (t.1,t.2.1,PUnit.unit)
def bP (x0:(List (ByteArray×Int))×List (ByteArray×(List (ByteArray×Int×Int×Int))×Bool)):Option ((List (Int×Int))×Int×Unit):=mU lpK jnK aW ci x0
abbrev t21:=((List (ByteArray×Int))×List (ByteArray×(List (ByteArray×Int×Int×Int))×Bool))->Option ((List (Int×Int))×Int×Unit)
def k21 (bP:t21):Ctr:=⟨[T25],[],[],.tup [(.sl T47),i64],fun x _ _=>bP x.1⟩
def c21:Ctr:=k21 bP
theorem e21 (lp:Lp) (jn:Jn) (aW:t55) (ci:t57):∀(x:TsS c21.as) (F:TsF c21.fs) (y:TsS c21.cs),mU lp jn aW ci x.1=bM lp jn (cx [(57,⟨[T82],[],[],.tup [(.sl T47),i64],fun x _ _=>ci x.1⟩),(55,k55 aW)] [(32,r32),(92,r92),(112,bn)]) ak 4 21 f21 c21 x F y:=fun x F y=>by kernel_rfl
theorem Us:c21.ok prog 21:=Ctr.of_den (ap (af (af (q32) (by kernel_rfl) R5) (by kernel_rfl) XH)) aE (hl:=ak) (d:=4) func21 rfl (by decide) (e21 lpK jnK aW ci)
def lV (_:Lp) (_:Jn) (cE:t20) (bP:t21) (x0:(List (ByteArray×Int))×List (ByteArray×(List (ByteArray×Int×Int×Int))×Bool)):Option (((List (Int×Int))×Bool×List (Int×Int))×Int×Unit) :=
 ah (cE x0) fun (t:List (Int×Int)×Int×PUnit)=>bif decide (t.2.1=0) then some ((t.1,false,[]),0,PUnit.unit) else bif decide (t.2.1=(22 : Int)) then ah (bP x0) fun (t:List (Int×Int)×Int×PUnit)=>bif !decide (t.2.1=0) then some (([],false,[]),t.2.1,PUnit.unit) else some (([], true,t.1),0,PUnit.unit) else some (([],false,[]),t.2.1,PUnit.unit)
def aY (x0:(List (ByteArray×Int))×List (ByteArray×(List (ByteArray×Int×Int×Int))×Bool)):Option (((List (Int×Int))×Bool×List (Int×Int))×Int×Unit):=lV lpK jnK cE bP x0
abbrev t13:=((List (ByteArray×Int))×List (ByteArray×(List (ByteArray×Int×Int×Int))×Bool))->Option (((List (Int×Int))×Bool×List (Int×Int))×Int×Unit)
def k13 (aY:t13):Ctr:=⟨[T25],[],[],.tup [T30,i64],fun x _ _=>aY x.1⟩
def c13:Ctr:=k13 aY
theorem e13 (lp:Lp) (jn:Jn) (cE:t20) (bP:t21):∀(x:TsS c13.as) (F:TsF c13.fs) (y:TsS c13.cs),lV lp jn cE bP x.1=bM lp jn (cx [(21,k21 bP),(20,k20 cE)] [(32,r32),(92,r92),(112,bn)]) ak 4 13 f13 c13 x F y:=fun x F y=>by kernel_rfl
theorem Ub:c13.ok prog 13:=Ctr.of_den (ap (af (af (q32) (by kernel_rfl) Tt) (by kernel_rfl) Us)) aE (hl:=ak) (d:=4) func13 rfl (by decide) (e13 lpK jnK cE bP)
def nM (lp:Lp) (_:Jn) (x0:List (Int×Int)) (x1:List (Int×Int)):Option Bool :=
 bif !decide ((↑x0.length:Int)=(↑x1.length:Int)) then some false else lp (Int×PUnit) Bool (fun (again:Int×PUnit->Option Bool) (x:Int×PUnit)=>bif decide (x.1<(↑x0.length:Int)) then bif inB x.1 x0.length then bif inB x.1 x1.length then bif !(decide ((x0.getD x.1.toNat (0,(0 : Int))).1=(x1.getD x.1.toNat (0,0)).1)&&(decide ((x0.getD x.1.toNat (0,0)).2=(x1.getD x.1.toNat ((0 : Int),0)).2)&&true)) then some false else again (IntKind.wrap .i64 (x.1+1),PUnit.unit) else none else none else some true) (0,PUnit.unit)
def cU (x0:List (Int×Int)) (x1:List (Int×Int)):Option Bool:=nM lpK jnK x0 x1
abbrev t36:=(List (Int×Int))->(List (Int×Int))->Option (Bool)
def k36 (cU:t36):Ctr:=⟨[(.sl T47),(.sl T47)],[],[],.one .bool,fun x _ _=>cU x.1 x.2.1⟩
def c36:Ctr:=k36 cU
theorem e36 (lp:Lp) (jn:Jn):∀(x:TsS c36.as) (F:TsF c36.fs) (y:TsS c36.cs),nM lp jn x.1 x.2.1=bM lp jn (cx [] [(32,r32),(92,r92),(112,bn)]) ak 4 36 f36 c36 x F y:=fun x F y=>by kernel_rfl
theorem Wv:c36.ok prog 36:=Ctr.of_den (ap (q32)) aE (hl:=ak) (d:=4) func36 rfl (by decide) (e36 lpK jnK)
def qO (_:Lp) (_:Jn) (cU:t36) (x0:(List (Int×Int))×Bool×List (Int×Int)) (x1:(List (Int×Int))×Bool×List (Int×Int)):Option Bool :=
 
 let v4:Bool:=decide (x0.2.1=x1.2.1);
 let v5:Bool:=!v4||v4;bif v5 then bif v5 then bif v5&&v5 then ah (bif v4 then cU x0.1 x1.1 else some false) fun (t:Bool) =>
 let v7:Bool:=bif v4 then t else false;
 let v8:Bool:=!v7||v7;bif v5 then bif v8 then bif v8 then bif v8&&v8 then ah (bif v7 then cU x0.2.2 x1.2.2 else some false) fun (t:Bool)=>bif v8 then some (bif v7 then t else false) else none else none else none else none else none else none else none else none
def bA (x0:(List (Int×Int))×Bool×List (Int×Int)) (x1:(List (Int×Int))×Bool×List (Int×Int)):Option Bool:=qO lpK jnK cU x0 x1
abbrev t15:=((List (Int×Int))×Bool×List (Int×Int))->((List (Int×Int))×Bool×List (Int×Int))->Option (Bool)
def k15 (bA:t15):Ctr:=⟨[T30,T30],[],[],.one .bool,fun x _ _=>bA x.1 x.2.1⟩
def c15:Ctr:=k15 bA
theorem e15 (lp:Lp) (jn:Jn) (cU:t36):∀(x:TsS c15.as) (F:TsF c15.fs) (y:TsS c15.cs),qO lp jn cU x.1 x.2.1=bM lp jn (cx [(36,k36 cU)] [(32,r32),(92,r92),(112,bn)]) ak 4 15 f15 c15 x F y:=fun x F y=>by kernel_rfl
theorem WH:c15.ok prog 15:=Ctr.of_den (ap (af (q32) (by kernel_rfl) Wv)) aE (hl:=ak) (d:=4) func15 rfl (by decide) (e15 lpK jnK cU)
def fQ (lp:Lp) (_:Jn) (x0:List (Int×Int)) (f0:(((Int×Int)×Unit)->Option Bool)):Option Int :=
 lp (Int×PUnit) Int (fun (again:Int×PUnit->Option Int) (x:Int×PUnit)=>bif decide (x.1<(↑x0.length:Int)) then bif inB x.1 x0.length then ah (f0 (x0.getD x.1.toNat (0,0),PUnit.unit)) fun (t:Bool)=>bif t then some x.1 else again (IntKind.wrap .i64 (x.1+1),PUnit.unit) else none else some (-1)) (0,PUnit.unit)
def bz (x0:List (Int×Int)) (f0:(((Int×Int)×Unit)->Option Bool)):Option Int:=fQ lpK jnK x0 f0
abbrev t75:=(List (Int×Int))->((((Int×Int)×Unit)->Option Bool))->Option (Int)
def k75 (bz:t75):Ctr:=⟨[(.sl T47)],[([T47],.bool)],[],.one i64,fun x F _=>bz x.1 F.1⟩
def c75:Ctr:=k75 bz
theorem e75 (lp:Lp) (jn:Jn):∀(x:TsS c75.as) (F:TsF c75.fs) (y:TsS c75.cs),fQ lp jn x.1 F.1=bM lp jn (cx [] [(32,r32),(92,r92),(112,bn)]) ak 4 75 f75 c75 x F y:=fun x F y=>by kernel_rfl
theorem XD:c75.ok prog 75:=Ctr.of_den (ap (q32)) aE (hl:=ak) (d:=4) func75 rfl (by decide) (e75 lpK jnK)
def ff (_:Lp) (_:Jn) (bz:t75) (x0:List (Int×Int)) (f0:(((Int×Int)×Unit)->Option Bool)):Option Bool :=
 ah (bz x0 f0) fun (t:Int)=>some (decide (t>=0))
def ai (x0:List (Int×Int)) (f0:(((Int×Int)×Unit)->Option Bool)):Option Bool:=ff lpK jnK bz x0 f0
abbrev t34:=(List (Int×Int))->((((Int×Int)×Unit)->Option Bool))->Option (Bool)
def k34 (ai:t34):Ctr:=⟨[(.sl T47)],[([T47],.bool)],[],.one .bool,fun x F _=>ai x.1 F.1⟩
def c34:Ctr:=k34 ai
theorem e34 (lp:Lp) (jn:Jn) (bz:t75):∀(x:TsS c34.as) (F:TsF c34.fs) (y:TsS c34.cs),ff lp jn bz x.1 F.1=bM lp jn (cx [(75,k75 bz)] [(32,r32),(92,r92),(112,bn)]) ak 4 34 f34 c34 x F y:=fun x F y=>by kernel_rfl
theorem KH:c34.ok prog 34:=Ctr.of_den (ap (af (q32) (by kernel_rfl) XD)) aE (hl:=ak) (d:=4) func34 rfl (by decide) (e34 lpK jnK bz)
def lB (_:Lp) (_:Jn) (x0:(List (Int×Int))×Bool×List (Int×Int)):Option ((List (Int×Int))×(List (Int×Int))×Unit) :=
 bif x0.2.1 then some (x0.2.2,x0.1,PUnit.unit) else some (x0.1,x0.2.2,PUnit.unit)
def bU (x0:(List (Int×Int))×Bool×List (Int×Int)):Option ((List (Int×Int))×(List (Int×Int))×Unit):=lB lpK jnK x0
abbrev t49:=((List (Int×Int))×Bool×List (Int×Int))->Option ((List (Int×Int))×(List (Int×Int))×Unit)
def k49 (bU:t49):Ctr:=⟨[T30],[],[],.tup [(.sl T47),(.sl T47)],fun x _ _=>bU x.1⟩
def c49:Ctr:=k49 bU
theorem e49 (lp:Lp) (jn:Jn):∀(x:TsS c49.as) (F:TsF c49.fs) (y:TsS c49.cs),lB lp jn x.1=bM lp jn (cx [] [(32,r32),(92,r92),(112,bn)]) ak 4 49 f49 c49 x F y:=fun x F y=>by kernel_rfl
theorem Vh:c49.ok prog 49:=Ctr.of_den (ap (q32)) aE (hl:=ak) (d:=4) func49 rfl (by decide) (e49 lpK jnK)
def kl (_:Lp) (_:Jn) (ao:t58) (x0:Int×Int):Option Bool :=
 ah (ao x0) fun (t:Bool)=>some !t
def ef (x0:Int×Int):Option Bool:=kl lpK jnK ao x0
abbrev t93:=(Int×Int)->Option (Bool)
def c93:Ctr:=⟨[T47],[],[],.one .bool,fun x _ _=>ef x.1⟩
theorem e93 (lp:Lp) (jn:Jn) (ao:t58):∀(x:TsS c93.as) (F:TsF c93.fs) (y:TsS c93.cs),kl lp jn ao x.1=bM lp jn (cx [(58,k58 ao)] [(32,r32),(92,r92),(112,bn)]) ak 4 93 f93 c93 x F y:=fun x F y=>by kernel_rfl
theorem V3:c93.ok prog 93:=Ctr.of_den (ap (af (q32) (by kernel_rfl) C6)) aE (hl:=ak) (d:=4) func93 rfl (by decide) (e93 lpK jnK ao)
def lO (_:Lp) (_:Jn) (ai:t34) (ef:t93) (cW:t92) (x0:(List (Int×Int))×Bool×List (Int×Int)):Option Bool :=
 ah (cW [x0.1,x0.2.2]) fun (t:List (Int×Int))=>ah (ai t fun (x:(Int×Int)×PUnit)=>ef x.1) fun (t:Bool)=>some !t
def bQ (x0:(List (Int×Int))×Bool×List (Int×Int)):Option Bool:=lO lpK jnK ai ef cW x0
abbrev t51:=((List (Int×Int))×Bool×List (Int×Int))->Option (Bool)
def k51 (bQ:t51):Ctr:=⟨[T30],[],[],.one .bool,fun x _ _=>bQ x.1⟩
def c51:Ctr:=k51 bQ
theorem e51 (lp:Lp) (jn:Jn) (ai:t34) (ef:t93) (cW:t92):∀(x:TsS c51.as) (F:TsF c51.fs) (y:TsS c51.cs),lO lp jn ai ef cW x.1=bM lp jn (cx [(93,⟨[T47],[],[],.one .bool,fun x _ _=>ef x.1⟩),(34,k34 ai)] [(32,r32),(92,⟨[(.sl (.sl T47))],47,T47,fun x=>cW x.1⟩),(112,bn)]) ak 4 51 f51 c51 x F y:=fun x F y=>by kernel_rfl
theorem UZ:c51.ok prog 51:=Ctr.of_den (ap (af (af (q32) (by kernel_rfl) KH) (by kernel_rfl) V3)) aE (hl:=ak) (d:=4) func51 rfl (by decide) (e51 lpK jnK ai ef cW)
def kf (_:Lp) (_:Jn) (ao:t58) (x0:Int×Int):Option Bool :=
 ah (ao x0) fun (t:Bool)=>some !t
def dq (x0:Int×Int):Option Bool:=kf lpK jnK ao x0
abbrev Tx:=(Int×Int)->Option (Bool)
def KW:Ctr:=⟨[T47],[],[],.one .bool,fun x _ _=>dq x.1⟩
theorem W3 (lp:Lp) (jn:Jn) (ao:t58):∀(x:TsS KW.as) (F:TsF KW.fs) (y:TsS KW.cs),kf lp jn ao x.1=bM lp jn (cx [(58,k58 ao)] [(32,r32),(92,r92),(112,bn)]) ak 4 168 f168 KW x F y:=fun x F y=>by kernel_rfl
theorem U8:KW.ok prog 168:=Ctr.of_den (ap (af (q32) (by kernel_rfl) C6)) aE (hl:=ak) (d:=4) func168 rfl (by decide) (W3 lpK jnK ao)
def lM (_:Lp) (_:Jn) (ai:t34) (dq:Tx) (x0:List (Int×Int)):Option Bool :=
 ah (ai x0 fun (x:(Int×Int)×PUnit)=>dq x.1) fun (t:Bool)=>some !t
def eH (x0:List (Int×Int)):Option Bool:=lM lpK jnK ai dq x0
abbrev Uh:=(List (Int×Int))->Option (Bool)
def LN:Ctr:=⟨[(.sl T47)],[],[],.one .bool,fun x _ _=>eH x.1⟩
theorem Wt (lp:Lp) (jn:Jn) (ai:t34) (dq:Tx):∀(x:TsS LN.as) (F:TsF LN.fs) (y:TsS LN.cs),lM lp jn ai dq x.1=bM lp jn (cx [(168,⟨[T47],[],[],.one .bool,fun x _ _=>dq x.1⟩),(34,k34 ai)] [(32,r32),(92,r92),(112,bn)]) ak 4 130 f130 LN x F y:=fun x F y=>by kernel_rfl
theorem Va:LN.ok prog 130:=Ctr.of_den (ap (af (af (q32) (by kernel_rfl) KH) (by kernel_rfl) U8)) aE (hl:=ak) (d:=4) func130 rfl (by decide) (Wt lpK jnK ai dq)
def lQ (_:Lp) (_:Jn) (bZ:Fo) (x0:Int) (x1:Int):Option (Int×Int) :=
 ah (bZ x0 x1) fun (t:Int×Int×PUnit)=>some (t.1,t.2.1)
def aI (x0:Int) (x1:Int):Option (Int×Int):=lQ lpK jnK bZ x0 x1
abbrev t61:=(Int)->(Int)->Option (Int×Int)
def k61 (aI:t61):Ctr:=⟨[(.int .u64),(.int .u64)],[],[],.one nY,fun x _ _=>aI x.1 x.2.1⟩
def c61:Ctr:=k61 aI
theorem e61 (lp:Lp) (jn:Jn) (bZ:Fo):∀(x:TsS c61.as) (F:TsF c61.fs) (y:TsS c61.cs),lQ lp jn bZ x.1 x.2.1=bM lp jn (cx [(107,PF bZ)] [(32,r32),(92,r92),(112,bn)]) ak 4 61 f61 c61 x F y:=fun x F y=>by kernel_rfl
theorem S5:c61.ok prog 61:=Ctr.of_den (ap (af (q32) (by kernel_rfl) NV)) aE (hl:=ak) (d:=4) func61 rfl (by decide) (e61 lpK jnK bZ)
def qH (_:Lp) (_:Jn) (bv:t59) (aA:t60) (ao:t58) (bh:t62) (aI:t61) (x0:Int×Int) (x1:Int×Int):Option ((Int×Int)×Int×Unit) :=
 
 let v4:Int:=IntKind.wrap .u64 x1.2;
 let v5:Int:=IntKind.wrap .u64 x0.2;ah (ao x0) fun (t:Bool) =>
 let v7:Bool:=!t;
 let v8:Bool:=!v7;
 let v9:Bool:=!v8||v8;bif v9 then ah (bif v8 then ao x1 else some false) fun (t:Bool)=>bif v9 then bif v7||v8 then bif bif v7 then true else !t then some (((0 : Int),0),1,PUnit.unit) else ah (aA x0.1) fun (t:Int)=>ah (bv t v4) fun (t:Int) =>
 let v13:Bool:=nzB t;ah (aA x1.1) fun (t_1:Int)=>ah (bv t_1 v5) fun (t_2:Int) =>
 let v16:Bool:=nzB t_2;ah (aA x0.1) fun (t_3:Int)=>bif v13 then ah (aA x1.1) fun (t_4:Int)=>bif v16 then ah (aI (IntKind.wrap IntKind.u64 (Int.tdiv t_3 t)) (IntKind.wrap .u64 (Int.tdiv t_4 t_2))) fun (t_5:Int×Int) =>
 let v20:Bool:=decide (t_5.1>0);
 let v21:Bool:=decide (t_5.2>0);
 let v22:Bool:=!v20;
 let v23:Bool:=!v21||v21;
 let v24:Bool:=!v22||v22;bif v16 then bif v13 then ah (aI (IntKind.wrap .u64 (Int.tdiv v5 t_2)) (IntKind.wrap .u64 (Int.tdiv v4 t))) fun (t:Int×Int) =>bif v24 then bif v24 then bif v20||v22 then bif bif v20 then true else decide (t.1>0) then some ((0,0),5,PUnit.unit) else bif v23 then bif v23 then bif v23 then bif v23 then bif v23&&v23 then bif v23 then ah (bh (bif v21 then !decide (decide (x0.1<0)=decide (x1.1<0)) else false) t_5.2 t.2) fun (t:(Int×Int)×Int×PUnit)=>some (t.1,t.2.1,PUnit.unit) else none else none else none else none else none else none else none else none else none else none else none else none else none else none else none else none
def cD (x0:Int×Int) (x1:Int×Int):Option ((Int×Int)×Int×Unit):=qH lpK jnK bv aA ao bh aI x0 x1
abbrev t23:=(Int×Int)->(Int×Int)->Option ((Int×Int)×Int×Unit)
def k23 (cD:t23):Ctr:=⟨[T47,T47],[],[],.tup [T47,i64],fun x _ _=>cD x.1 x.2.1⟩
def c23:Ctr:=k23 cD
theorem e23 (lp:Lp) (jn:Jn) (bv:t59) (aA:t60) (ao:t58) (bh:t62) (aI:t61):∀(x:TsS c23.as) (F:TsF c23.fs) (y:TsS c23.cs),qH lp jn bv aA ao bh aI x.1 x.2.1=bM lp jn (cx [(61,k61 aI),(62,k62 bh),(58,k58 ao),(60,k60 aA),(59,k59 bv)] [(32,r32),(92,r92),(112,bn)]) ak 4 23 f23 c23 x F y:=fun x F y=>by kernel_rfl
theorem TS:c23.ok prog 23:=Ctr.of_den (ap (af (af (af (af (af (q32) (by kernel_rfl) OU) (by kernel_rfl) LS) (by kernel_rfl) C6) (by kernel_rfl) SA) (by kernel_rfl) S5)) aE (hl:=ak) (d:=4) func23 rfl (by decide) (e23 lpK jnK bv aA ao bh aI)
def mq (_:Lp) (_:Jn) (x0:Int×Int) (x1:Int×Int):Option (Int×Int) :=
 bif decide ((0:Int)<=0)&&decide ((0:Int)<=1) then bif decide (0<=qz x0.2 x1.2 0)&&decide (qz x0.2 x1.2 0<=1) then some (zI x0.1 x1.1 (qz x0.2 x1.2 0),zI x0.2 x1.2 0) else none else none
def fM (x0:Int×Int) (x1:Int×Int):Option (Int×Int):=mq lpK jnK x0 x1
abbrev Vy:=(Int×Int)->(Int×Int)->Option (Int×Int)
def Mc:Ctr:=⟨[nY,nY],[],[],.one nY,fun x _ _=>fM x.1 x.2.1⟩
theorem Wg (lp:Lp) (jn:Jn):∀(x:TsS Mc.as) (F:TsF Mc.fs) (y:TsS Mc.cs),mq lp jn x.1 x.2.1=bM lp jn (cx [] [(32,r32),(92,r92),(112,bn)]) ak 4 188 f188 Mc x F y:=fun x F y=>by kernel_rfl
theorem Vd:Mc.ok prog 188:=Ctr.of_den (ap (q32)) aE (hl:=ak) (d:=4) func188 rfl (by decide) (Wg lpK jnK)
def pF (_:Lp) (_:Jn) (x0:Int×Int) (x1:Int×Int):Option Bool :=
 
 let v4:Bool:=decide (x0.1=x1.1);
 let v5:Bool:=decide (x0.1<x1.1);
 let v6:Bool:=!v5;
 let v7:Bool:=!v6;
 let v8:Bool:=v6&&v4;
 let v9:Bool:=v7||v6;
 let v10:Bool:=!v8||v8;bif v9 then bif v9 then bif v9&&v9 then bif v9 then bif v10 then bif v10 then bif v10&&v10 then bif (v7||v9)&&(v7||(!v4||(v7||v8))) then bif v5 || v6 then some (bif v5 then true else bif v4 then decide (x0.2<x1.2) else false) else none else none else none else none else none else none else none else none else none
def cN (x0:Int×Int) (x1:Int×Int):Option Bool:=pF lpK jnK x0 x1
abbrev Nb:=(Int×Int)->(Int×Int)->Option (Bool)
def SI (cN:Nb):Ctr:=⟨[nY,nY],[],[],.one .bool,fun x _ _=>cN x.1 x.2.1⟩
def N2:Ctr:=SI cN
theorem WK (lp:Lp) (jn:Jn):∀(x:TsS N2.as) (F:TsF N2.fs) (y:TsS N2.cs),pF lp jn x.1 x.2.1=bM lp jn (cx [] [(32,r32),(92,r92),(112,bn)]) ak 4 189 f189 N2 x F y:=fun x F y=>by kernel_rfl
theorem Rb:N2.ok prog 189:=Ctr.of_den (ap (q32)) aE (hl:=ak) (d:=4) func189 rfl (by decide) (WK lpK jnK)
def kX (_:Lp) (_:Jn) (x0:Int×Int) (x1:Int×Int):Option (Int×Int) :=
 bif decide ((0:Int)<=0)&&decide ((0:Int)<=1) then bif decide (0<=oZ x0.2 x1.2 0)&&decide (oZ x0.2 x1.2 0<=1) then some (vH x0.1 x1.1 (oZ x0.2 x1.2 0),vH x0.2 x1.2 0) else none else none
def eW (x0:Int×Int) (x1:Int×Int):Option (Int×Int):=kX lpK jnK x0 x1
abbrev TN:=(Int×Int)->(Int×Int)->Option (Int×Int)
def Lj:Ctr:=⟨[nY,nY],[],[],.one nY,fun x _ _=>eW x.1 x.2.1⟩
theorem Xd (lp:Lp) (jn:Jn):∀(x:TsS Lj.as) (F:TsF Lj.fs) (y:TsS Lj.cs),kX lp jn x.1 x.2.1=bM lp jn (cx [] [(32,r32),(92,r92),(112,bn)]) ak 4 190 f190 Lj x F y:=fun x F y=>by kernel_rfl
theorem U6:Lj.ok prog 190:=Ctr.of_den (ap (q32)) aE (hl:=ak) (d:=4) func190 rfl (by decide) (Xd lpK jnK)
def pD (_:Lp) (_:Jn) (cQ:MH) (x0:Int×Int) (x1:Int):Option ((Int×Int)×Int×Unit) :=
 
 let v4:Bool:=nzB x1;bif v4 then ah (cQ (Int.tmod x0.1 x1) x0.2 x1) fun (t:Int×Int×PUnit)=>bif v4 then some ((IntKind.wrap .u64 (Int.tdiv x0.1 x1), t.1),t.2.1,PUnit.unit) else none else none
def eq (x0:Int×Int) (x1:Int):Option ((Int×Int)×Int×Unit):=pD lpK jnK cQ x0 x1
abbrev Sd:=(Int×Int)->(Int)->Option ((Int×Int)×Int×Unit)
def VG (eq:Sd):Ctr:=⟨[nY,(.int .u64)],[],[],.tup [nY,(.int .u64)],fun x _ _=>eq x.1 x.2.1⟩
def KG:Ctr:=VG eq
theorem Xj (lp:Lp) (jn:Jn) (cQ:MH):∀(x:TsS KG.as) (F:TsF KG.fs) (y:TsS KG.cs),pD lp jn cQ x.1 x.2.1=bM lp jn (cx [(185,SE cQ)] [(32,r32),(92,r92),(112,bn)]) ak 4 191 f191 KG x F y:=fun x F y=>by kernel_rfl
theorem US:KG.ok prog 191:=Ctr.of_den (ap (af (q32) (by kernel_rfl) Rc)) aE (hl:=ak) (d:=4) func191 rfl (by decide) (Xj lpK jnK cQ)
def qU (_:Lp) (jn:Jn) (bv:t59) (aA:t60) (ao:t58) (bh:t62) (aI:t61) (fM:Vy) (cN:Nb) (eW:TN) (eq:Sd) (x0:Int×Int) (x1:Int×Int):Option ((Int×Int)×Int×Unit) :=
 
 let v4:Int:=IntKind.wrap .u64 x0.2;
 let v5:Int:=IntKind.wrap .u64 x1.2;
 let v6:Bool:=decide (x0.1<0);ah (ao x0) fun (t:Bool) =>
 let v8:Bool:=!t;
 let v9:Bool:=!v8;
 let v10:Bool:=!v9||v9;bif v10 then ah (bif v9 then ao x1 else some false) fun (t:Bool)=>bif v10 then bif v8||v9 then bif bif v8 then true else !t then some (((0 : Int),0),1,PUnit.unit) else ah (bv v4 v5) fun (t:Int) =>
 let v13:Bool:=nzB t;
 let v14:Int:=IntKind.wrap .u64 (Int.tdiv v4 t);ah (aA x0.1) fun (t_1:Int)=>bif v13 then ah (aI t_1 (IntKind.wrap .u64 (Int.tdiv v5 t))) fun (t_2:Int×Int)=>ah (aA x1.1) fun (t_3:Int)=>bif v13 then ah (aI t_3 v14) fun (t_4:Int×Int)=>jn (Bool×(Int×Int)×PUnit) ((Int×Int) × Int×PUnit) (fun (x:Bool×(Int×Int)×PUnit)=>bif decide (x.2.1.1=0)&&(decide (x.2.1.2=0)&&true) then some ((0,1),(0 : Int),PUnit.unit) else ah (eq x.2.1 t) fun (t_5:(Int×Int)×Int×PUnit)=>ah (bv t t_5.2.1) fun (t:Int)=>ah (eq x.2.1 t) fun (t_6 : (Int×Int)×Int×PUnit) =>
 let v23:Bool:=decide (t_6.1.1>0);
 let v24:Bool:=!v23;
 let v25:Bool:=!v24||v24;bif v13 then bif nzB t then ah (aI v14 (IntKind.wrap .u64 (Int.tdiv v5 t))) fun (t:Int×Int)=>bif v25 then bif v25 then bif v23 || v24 then bif bif v23 then true else decide (t.1>0) then some ((0,0),5,PUnit.unit) else ah (bh x.1 t_6.1.2 t.2) fun (t:(Int × Int)×Int×PUnit)=>some (t.1,t.2.1,PUnit.unit) else none else none else none else none else none) fun (j:Bool×(Int×Int)×PUnit->Option ((Int×Int)×Int×PUnit)) =>bif decide (v6=decide (x1.1<0)) then ah (fM t_2 t_4) fun (t:Int×Int)=>j (v6,t,PUnit.unit) else ah (cN t_2 t_4) fun (t:Bool)=>jn (Bool × (Int×Int)×PUnit) ((Int×Int)×Int×PUnit) (fun (x:Bool×(Int×Int)×PUnit)=>j (x.1,x.2.1,PUnit.unit)) fun (j:Bool×(Int×Int)×PUnit->Option ((Int×Int) × Int×PUnit))=>bif t then ah (eW t_4 t_2) fun (t:Int×Int)=>j (!v6,t,PUnit.unit) else ah (eW t_2 t_4) fun (t:Int×Int)=>j (v6,t,PUnit.unit) else none else none else none else none else none
def cA (x0:Int×Int) (x1:Int×Int):Option ((Int×Int)×Int×Unit):=qU lpK jnK bv aA ao bh aI fM cN eW eq x0 x1
abbrev G2:=(Int×Int)->(Int×Int)->Option ((Int×Int)×Int×Unit)
def Qd (cA:G2):Ctr:=⟨[T47,T47],[],[],.tup [T47,i64],fun x _ _=>cA x.1 x.2.1⟩
def J8:Ctr:=Qd cA
theorem Xz (lp:Lp) (jn:Jn) (bv:t59) (aA:t60) (ao:t58) (bh:t62) (aI:t61) (fM:Vy) (cN:Nb) (eW:TN) (eq:Sd):∀(x:TsS J8.as) (F:TsF J8.fs) (y:TsS J8.cs),qU lp jn bv aA ao bh aI fM cN eW eq x.1 x.2.1=bM lp jn (cx [(191,VG eq),(190,⟨[nY,nY],[],[],.one nY,fun x _ _=>eW x.1 x.2.1⟩),(189,SI cN),(188,⟨[nY,nY],[],[],.one nY,fun x _ _=>fM x.1 x.2.1⟩),(61,k61 aI),(62,k62 bh),(58,k58 ao),(60,k60 aA),(59,k59 bv)] [(32,r32),(92,r92),(112,bn)]) ak 4 171 f171 J8 x F y:=fun x F y=>by kernel_rfl
theorem Nq:J8.ok prog 171:=Ctr.of_den (ap (af (af (af (af (af (af (af (af (af (q32) (by kernel_rfl) OU) (by kernel_rfl) LS) (by kernel_rfl) C6) (by kernel_rfl) SA) (by kernel_rfl) S5) (by kernel_rfl) Vd) (by kernel_rfl) Rb) (by kernel_rfl) U6) (by kernel_rfl) US)) aE (hl:=ak) (d:=4) func171 rfl (by decide) (Xz lpK jnK bv aA ao bh aI fM cN eW eq)
def jX (lp:Lp) (jn:Jn) (cD:t23) (cA:G2) (x0:Int) (x1:List Int) (x2:List (Int×Int)):Option (Int×(Int×Int)) :=
 lp (Int×Int×(Int×Int)×(Int×Int)×PUnit) (Int×Int×Int) (fun (again:Int×Int×(Int×Int)×(Int×Int)×PUnit->Option (Int×Int×Int)) (x:Int×Int×(Int×Int) × (Int×Int)×PUnit)=>bif decide (x.1<(↑x1.length:Int)) then bif inB x.1 x1.length then bif inB x.1 x2.length then ah (cD (x1.getD x.1.toNat 0,1) (x2.getD x.1.toNat (0,0))) fun (t:(Int×Int)×Int×PUnit)=>jn (Int×(Int×Int)×PUnit) (Int×Int×Int) (fun (x_1:Int×(Int×Int)×PUnit)=>bif !decide (x_1.1=0) then some (x_1.1,0,1) else again (IntKind.wrap .i64 (x.1+1), x.2.1,x.2.2.1,x_1.2.1,PUnit.unit)) fun (j:Int×(Int×Int)×PUnit->Option (Int×Int×Int))=>bif decide (t.2.1=0) then ah (cA x.2.2.2.1 t.1) fun (t:(Int×Int)×Int×PUnit)=>j (t.2.1,t.1,PUnit.unit) else j (t.2.1,t.1,PUnit.unit) else none else none else some (x.2.1, x.2.2.2.1)) (0,x0,(0,0),(0,1),PUnit.unit)
def ce (x0:Int) (x1:List Int) (x2:List (Int×Int)):Option (Int×(Int×Int)):=jX lpK jnK cD cA x0 x1 x2
abbrev RZ:=(Int)->(List Int)->(List (Int×Int))->Option (Int×(Int×Int))
def TZ (ce:RZ):MCtr:=⟨SG,[(.sl i64),(.sl T47)],.one T47,fun x y=>ce x y.1 y.2.1⟩
def Q6:MCtr:=TZ ce
theorem Xg (lp:Lp) (jn:Jn) (cD:t23) (cA:G2):∀(x:Q6.s.T) (y:TsS Q6.as),jX lp jn cD cA x y.1 y.2.1=Sf lp jn (cx [(171,Qd cA),(23,k23 cD)] [(32,r32),(92,r92),(112,bn)]) ak 4 133 f133 Q6 x y:=fun x y=>by kernel_rfl
theorem VC:Q6.ok prog 133:=MCtr.of_den (ap (af (af (q32) (by kernel_rfl) TS) (by kernel_rfl) Nq)) aE (hl:=ak) (d:=4) func133 rfl (by decide) rfl (Xg lpK jnK cD cA)
def qD (_:Lp) (jn:Jn) (aA:t60) (ao:t58) (aI:t61) (cN:Nb) (x0:Int×Int) (x1:Int×Int):Option (Int×Int×Unit) :=
 
 let v4:Bool:=decide (x0.1<0);ah (ao x0) fun (t:Bool) =>
 let v6:Bool:=!t;
 let v7:Bool:=!v6;
 let v8:Bool:=!v7||v7;bif v8 then ah (bif v7 then ao x1 else some false) fun (t:Bool)=>bif v8 then bif v6||v7 then bif bif v6 then true else !t then some ((0 : Int),1,PUnit.unit) else ah (aA x0.1) fun (t:Int)=>ah (aI t (IntKind.wrap .u64 x1.2)) fun (t:Int×Int)=>ah (aA x1.1) fun (t_1:Int)=>ah (aI t_1 (IntKind.wrap .u64 x0.2)) fun (t_2:Int×Int)=>bif !decide (v4=decide (x1.1<0)) then bif v4 then some ((-1), 0,PUnit.unit) else some (1,0,PUnit.unit) else jn ((Int×Int)×(Int×Int)×PUnit) (Int×Int×PUnit) (fun (x:(Int×Int)×(Int×Int)×PUnit)=>ah (cN x.1 x.2.1) fun (t:Bool)=>bif t then some ((-1),0,PUnit.unit) else ah (cN x.2.1 x.1) fun (t:Bool)=>bif t then some (1, 0,PUnit.unit) else some (0,0,PUnit.unit)) fun (j:(Int×Int)×(Int×Int)×PUnit->Option (Int×Int×PUnit))=>bif v4 then j (t_2,t,PUnit.unit) else j (t,t_2,PUnit.unit) else none else none else none
def ic (x0:Int×Int) (x1:Int×Int):Option (Int×Int×Unit):=qD lpK jnK aA ao aI cN x0 x1
abbrev UC:=(Int×Int)->(Int×Int)->Option (Int×Int×Unit)
def Ov:Ctr:=⟨[T47,T47],[],[],.tup [i64,i64],fun x _ _=>ic x.1 x.2.1⟩
theorem Xu (lp:Lp) (jn:Jn) (aA:t60) (ao:t58) (aI:t61) (cN:Nb):∀(x:TsS Ov.as) (F:TsF Ov.fs) (y:TsS Ov.cs),qD lp jn aA ao aI cN x.1 x.2.1=bM lp jn (cx [(189,SI cN),(61,k61 aI),(58,k58 ao),(60,k60 aA)] [(32,r32),(92,r92),(112,bn)]) ak 4 187 f187 Ov x F y:=fun x F y=>by kernel_rfl
theorem Tv:Ov.ok prog 187:=Ctr.of_den (ap (af (af (af (af (q32) (by kernel_rfl) LS) (by kernel_rfl) C6) (by kernel_rfl) S5) (by kernel_rfl) Rb)) aE (hl:=ak) (d:=4) func187 rfl (by decide) (Xu lpK jnK aA ao aI cN)
def ou (_:Lp) (_:Jn) (ic:UC) (x0:Int×Int) (x1:Int):Option Int :=
 ah (ic x0 (x1,1)) fun (t:Int×Int×PUnit)=>some t.1
def fI (x0:Int×Int) (x1:Int):Option Int:=ou lpK jnK ic x0 x1
abbrev T1:=(Int×Int)->(Int)->Option (Int)
def KL:Ctr:=⟨[T47,i64],[],[],.one i64,fun x _ _=>fI x.1 x.2.1⟩
theorem Wz (lp:Lp) (jn:Jn) (ic:UC):∀(x:TsS KL.as) (F:TsF KL.fs) (y:TsS KL.cs),ou lp jn ic x.1 x.2.1=bM lp jn (cx [(187,⟨[T47,T47],[],[],.tup [i64,i64],fun x _ _=>ic x.1 x.2.1⟩)] [(32,r32),(92,r92),(112,bn)]) ak 4 169 f169 KL x F y:=fun x F y=>by kernel_rfl
theorem Uc:KL.ok prog 169:=Ctr.of_den (ap (af (q32) (by kernel_rfl) Tv)) aE (hl:=ak) (d:=4) func169 rfl (by decide) (Wz lpK jnK ic)
def kE (lp:Lp) (_:Jn) (x0:(List Int)×List ((List Int)×Int×Int)) (x1:Int):Option (List Int) :=
 lp (List Int×Int×PUnit) (List Int) (fun (again:List Int×Int×PUnit->Option (List Int)) (x:List Int×Int×PUnit)=>bif decide (x.2.1<(↑x0.2.length:Int)) then bif inB x.2.1 x0.2.length then bif inB x1 (List.length (x0.2.getD x.2.1.toNat ([],0,0)).1) then bif dQ (List.length x.1+(1 : Nat)) 8 then again (x.1++[List.getD (x0.2.getD x.2.1.toNat ([],0,0)).1 x1.toNat 0],IntKind.wrap .i64 (x.2.1 + 1),PUnit.unit) else none else none else none else some x.1) ([],0,PUnit.unit)
def dN (x0:(List Int)×List ((List Int)×Int×Int)) (x1:Int):Option (List Int):=kE lpK jnK x0 x1
abbrev VH:=((List Int)×List ((List Int)×Int×Int))->(Int)->Option (List Int)
def KB:Ctr:=⟨[T82,i64],[],[],.one (.sl i64),fun x _ _=>dN x.1 x.2.1⟩
theorem W7 (lp:Lp) (jn:Jn):∀(x:TsS KB.as) (F:TsF KB.fs) (y:TsS KB.cs),kE lp jn x.1 x.2.1=bM lp jn (cx [] [(32,r32),(92,r92),(112,bn)]) ak 4 170 f170 KB x F y:=fun x F y=>by kernel_rfl
theorem Ve:KB.ok prog 170:=Ctr.of_den (ap (q32)) aE (hl:=ak) (d:=4) func170 rfl (by decide) (W7 lpK jnK)
def iW (_:Lp) (_:Jn) (_:Int):Option Int :=
 some 0
def cZ (x0:Int):Option Int:=iW lpK jnK x0
abbrev Vv:=(Int)->Option (Int)
def MW:Ctr:=⟨[i64],[],[],.one i64,fun x _ _=>cZ x.1⟩
theorem WL (lp:Lp) (jn:Jn):∀(x:TsS MW.as) (F:TsF MW.fs) (y:TsS MW.cs),iW lp jn x.1=bM lp jn (cx [] [(32,r32),(92,r92),(112,bn)]) ak 4 132 f132 MW x F y:=fun x F y=>by kernel_rfl
theorem TE:MW.ok prog 132:=Ctr.of_den (ap (q32)) aE (hl:=ak) (d:=4) func132 rfl (by decide) (WL lpK jnK)
def kM (lp:Lp) (_:Jn) (x0:(List Int)×List ((List Int)×Int×Int)):Option (List Int) :=
 lp (List Int×Int×PUnit) (List Int) (fun (again:List Int×Int×PUnit->Option (List Int)) (x:List Int×Int×PUnit)=>bif decide (x.2.1<(↑x0.2.length:Int)) then bif inB x.2.1 x0.2.length then bif dQ (List.length x.1+1) 8 then again (x.1++[(x0.2.getD x.2.1.toNat ([],0,(0 : Int))).2.2],IntKind.wrap .i64 (x.2.1+1),PUnit.unit) else none else none else some x.1) ([],0,PUnit.unit)
def dR (x0:(List Int)×List ((List Int)×Int×Int)):Option (List Int):=kM lpK jnK x0
abbrev T0:=((List Int)×List ((List Int)×Int×Int))->Option (List Int)
def Kb:Ctr:=⟨[T82],[],[],.one (.sl i64),fun x _ _=>dR x.1⟩
theorem W4 (lp:Lp) (jn:Jn):∀(x:TsS Kb.as) (F:TsF Kb.fs) (y:TsS Kb.cs),kM lp jn x.1=bM lp jn (cx [] [(32,r32),(92,r92),(112,bn)]) ak 4 134 f134 Kb x F y:=fun x F y=>by kernel_rfl
theorem VD:Kb.ok prog 134:=Ctr.of_den (ap (q32)) aE (hl:=ak) (d:=4) func134 rfl (by decide) (W4 lpK jnK)
def kD (lp:Lp) (_:Jn) (x0:(List Int)×List ((List Int)×Int×Int)) (x1:List (Int×Int)):Option Bool :=
 lp (Int×PUnit) Bool (fun (again:Int×PUnit->Option Bool) (x:Int×PUnit) =>
 let v6:Bool:=inB x.1 x1.length;
 let v7:Bool:=decide ((x0.2.getD x.1.toNat ([],0,0)).2.1=1);
 let v8:Bool:=decide ((x0.2.getD x.1.toNat ([],0,0)).2.1=2);
 let v9:Bool:=!v7;
 let v10:Bool:=bif v7 then decide ((x1.getD x.1.toNat (0,0)).1>0) else false;
 let v11:Bool:=!v10;
 let v12:Bool:=!v11;
 let v13:Bool:=v9||v7;
 let v14:Bool:=v11&&v8;
 let v15:Bool:=!v14;
 let v16:Bool:=v12||v11;
 let v17:Bool:=v15||v14;bif decide (x.1<(↑x0.2.length:Int)) then bif inB x.1 x0.2.length then bif v13&&(v13&&(v9||v6)) then bif v13 then bif v13 then bif v13 then bif v13 then bif v16 then bif v16 then bif v16 then bif v17&&(v17&&(v15||v6)) then bif v17 then bif v17 then bif v17 then bif (v12||v16)&&(v12||(!v8||(v12 || v14))) then bif v10||v11 then bif bif v10 then true else bif v8 then decide ((x1.getD x.1.toNat (0,0)).1<0) else false then some false else again (IntKind.wrap .i64 (x.1+1),PUnit.unit) else none else none else none else none else none else none else none else none else none else none else none else none else none else none else none else some true) (0,PUnit.unit)
def dJ (x0:(List Int)×List ((List Int)×Int×Int)) (x1:List (Int×Int)):Option Bool:=kD lpK jnK x0 x1
abbrev UL:=((List Int)×List ((List Int)×Int×Int))->(List (Int×Int))->Option (Bool)
def MX:Ctr:=⟨[T82,(.sl T47)],[],[],.one .bool,fun x _ _=>dJ x.1 x.2.1⟩
theorem VY (lp:Lp) (jn:Jn):∀(x:TsS MX.as) (F:TsF MX.fs) (y:TsS MX.cs),kD lp jn x.1 x.2.1=bM lp jn (cx [] [(32,r32),(92,r92),(112,bn)]) ak 4 135 f135 MX x F y:=fun x F y=>by kernel_rfl
theorem UA:MX.ok prog 135:=Ctr.of_den (ap (q32)) aE (hl:=ak) (d:=4) func135 rfl (by decide) (VY lpK jnK)
def jH (lp:Lp) (_:Jn) (aX:t99) (eH:Uh) (fI:T1) (dN:VH) (cZ:Vv) (dR:T0) (dJ:UL) (ce:RZ) (x0:(List Int)×List ((List Int)×Int×Int)) (x1:List (Int×Int)):Option (Bool×Int×Unit) :=
 ah (aX x0) fun (t:Bool) =>
 let v5:Bool:=!t;
 let v6:Bool:=!v5;
 let v7:Bool:=!v6||v6;bif v7 then ah (bif v6 then eH x1 else some false) fun (t:Bool)=>bif v7 then bif v5||v6 then bif bif v5 then true else !t then some (false, 1,PUnit.unit) else bif !decide ((↑x1.length:Int)=(↑x0.2.length:Int)) then some (false,3,PUnit.unit) else lp (Bool×Int×Int×PUnit) (Bool × Int×PUnit) (fun (again:Bool×Int×Int×PUnit->Option (Bool×Int×PUnit)) (x:Bool×Int×Int×PUnit)=>bif decide (x.2.1<(↑x0.1.length:Int)) then ah (dN x0 x.2.1) fun (t:List Int)=>ah (ce x.2.2.1 t x1) fun (t:Int×Int×Int)=>ah (cZ x.2.1) fun (t_1:Int)=>ah (fI t.2 t_1) fun (t_2:Int) =>
 let v15:Bool:=decide (t_2<=0);bif !v15||v15 then again (bif v15 then x.1 else false,IntKind.wrap .i64 (x.2.1+1),t.1,PUnit.unit) else none else ah (dR x0) fun (t:List Int)=>ah (ce x.2.2.1 t x1) fun (t:Int×Int×Int) =>
 let v13:Bool:=decide (t.2.1>0);
 let v14:Bool:=!v13||v13;bif v14&&v14 then ah (bif v13 then dJ x0 x1 else some false) fun (t_1:Bool) =>
 let v16:Bool:=bif v13 then t_1 else false;
 let v17:Bool:=bif v16 then x.1 else false;
 let v18:Bool:=!v17||v17;bif v14 then bif !v16||v16 then bif v18 then bif v18 then bif v18 then some (bif v17 then decide (t.1=0) else false,t.1,PUnit.unit) else none else none else none else none else none else none) (true,0,0,PUnit.unit) else none else none else none
def bO (x0:(List Int)×List ((List Int)×Int×Int)) (x1:List (Int×Int)):Option (Bool×Int×Unit):=jH lpK jnK aX eH fI dN cZ dR dJ ce x0 x1
abbrev t94:=((List Int)×List ((List Int)×Int×Int))->(List (Int×Int))->Option (Bool×Int×Unit)
def k94 (bO:t94):Ctr:=⟨[T82,(.sl T47)],[],[],.tup [.bool,i64],fun x _ _=>bO x.1 x.2.1⟩
def c94:Ctr:=k94 bO
theorem e94 (lp:Lp) (jn:Jn) (aX:t99) (eH:Uh) (fI:T1) (dN:VH) (cZ:Vv) (dR:T0) (dJ:UL) (ce:RZ):∀(x:TsS c94.as) (F:TsF c94.fs) (y:TsS c94.cs),jH lp jn aX eH fI dN cZ dR dJ ce x.1 x.2.1=bM lp jn (yE zH zD (Gj [] [(133,TZ ce)] (jb prog shs ud its [(135,⟨[T82,(.sl T47)],[],[],.one .bool,fun x _ _=>dJ x.1 x.2.1⟩),(134,⟨[T82],[],[],.one (.sl i64),fun x _ _=>dR x.1⟩),(132,⟨[i64],[],[],.one i64,fun x _ _=>cZ x.1⟩),(170,⟨[T82,i64],[],[],.one (.sl i64),fun x _ _=>dN x.1 x.2.1⟩),(169,⟨[T47,i64],[],[],.one i64,fun x _ _=>fI x.1 x.2.1⟩),(130,⟨[(.sl T47)],[],[],.one .bool,fun x _ _=>eH x.1⟩),(99,k99 aX)] [(32,r32),(92,r92),(112,bn)]))) ak 4 94 f94 c94 x F y:=fun x F y=>by kernel_rfl
theorem Wk:c94.ok prog 94:=Ctr.of_den (ap (sG (af (af (af (af (af (af (af (q32) (by kernel_rfl) Ti) (by kernel_rfl) Va) (by kernel_rfl) Uc) (by kernel_rfl) Ve) (by kernel_rfl) TE) (by kernel_rfl) VD) (by kernel_rfl) UA) (oV) (JC (by kernel_rfl) VC (oC)))) aE (hl:=ak) (d:=4) func94 rfl (by decide) (e94 lpK jnK aX eH fI dN cZ dR dJ ce)
def nt (_:Lp) (_:Jn) (aW:t55) (bO:t94) (x0:(List (ByteArray×Int))×List (ByteArray×(List (ByteArray×Int×Int×Int))×Bool)) (x1:List (Int×Int)):Option (Bool×Int×Unit) :=
 ah (aW x0) fun (t:(List Int×List (List Int×Int×Int))×Int×PUnit)=>bif !decide (t.2.1=0) then some (false,t.2.1,PUnit.unit) else ah (bO t.1 x1) fun (t:Bool×Int×PUnit)=>some (t.1,t.2.1,PUnit.unit)
def dy (x0:(List (ByteArray×Int))×List (ByteArray×(List (ByteArray×Int×Int×Int))×Bool)) (x1:List (Int×Int)):Option (Bool×Int×Unit):=nt lpK jnK aW bO x0 x1
abbrev t52:=((List (ByteArray×Int))×List (ByteArray×(List (ByteArray×Int×Int×Int))×Bool))->(List (Int×Int))->Option (Bool×Int×Unit)
def k52 (dy:t52):Ctr:=⟨[T25,(.sl T47)],[],[],.tup [.bool,i64],fun x _ _=>dy x.1 x.2.1⟩
def c52:Ctr:=k52 dy
theorem e52 (lp:Lp) (jn:Jn) (aW:t55) (bO:t94):∀(x:TsS c52.as) (F:TsF c52.fs) (y:TsS c52.cs),nt lp jn aW bO x.1 x.2.1=bM lp jn (cx [(94,k94 bO),(55,k55 aW)] [(32,r32),(92,r92),(112,bn)]) ak 4 52 f52 c52 x F y:=fun x F y=>by kernel_rfl
theorem VW:c52.ok prog 52:=Ctr.of_den (ap (af (af (q32) (by kernel_rfl) R5) (by kernel_rfl) Wk)) aE (hl:=ak) (d:=4) func52 rfl (by decide) (e52 lpK jnK aW bO)
def jQ (_:Lp) (_:Jn) (ao:t58) (x0:Int×Int):Option Bool :=
 ah (ao x0) fun (t:Bool)=>some !t
def dx (x0:Int×Int):Option Bool:=jQ lpK jnK ao x0
abbrev VA:=(Int×Int)->Option (Bool)
def NS:Ctr:=⟨[T47],[],[],.one .bool,fun x _ _=>dx x.1⟩
theorem Xc (lp:Lp) (jn:Jn) (ao:t58):∀(x:TsS NS.as) (F:TsF NS.fs) (y:TsS NS.cs),jQ lp jn ao x.1=bM lp jn (cx [(58,k58 ao)] [(32,r32),(92,r92),(112,bn)]) ak 4 172 f172 NS x F y:=fun x F y=>by kernel_rfl
theorem U3:NS.ok prog 172:=Ctr.of_den (ap (af (q32) (by kernel_rfl) C6)) aE (hl:=ak) (d:=4) func172 rfl (by decide) (Xc lpK jnK ao)
def lP (_:Lp) (_:Jn) (bF:t72) (ai:t34) (dx:VA) (x0:(List (ByteArray×Int))×List (ByteArray×(List (ByteArray×Int×Int×Int))×Bool)) (x1:List (Int×Int)):Option ((List (List Int))×Int×Unit) :=
 ah (bF x0) fun (t:List (List Int)×Int×PUnit)=>bif !decide (t.2.1=0) then some ([],t.2.1,PUnit.unit) else ah (ai x1 fun (x : (Int×Int)×PUnit)=>dx x.1) fun (t_1:Bool)=>bif t_1 then some ([],1,PUnit.unit) else bif !decide ((↑x1.length:Int)=(↑x0.2.length : Int)) then some ([],3,PUnit.unit) else some (t.1,0,PUnit.unit)
def dw (x0:(List (ByteArray×Int))×List (ByteArray×(List (ByteArray×Int×Int×Int))×Bool)) (x1:List (Int×Int)):Option ((List (List Int))×Int×Unit):=lP lpK jnK bF ai dx x0 x1
abbrev Sq:=((List (ByteArray×Int))×List (ByteArray×(List (ByteArray×Int×Int×Int))×Bool))->(List (Int×Int))->Option ((List (List Int))×Int×Unit)
def U7 (dw:Sq):Ctr:=⟨[T25,(.sl T47)],[],[],.tup [(.sl (.sl i64)),i64],fun x _ _=>dw x.1 x.2.1⟩
def LC:Ctr:=U7 dw
theorem WN (lp:Lp) (jn:Jn) (bF:t72) (ai:t34) (dx:VA):∀(x:TsS LC.as) (F:TsF LC.fs) (y:TsS LC.cs),lP lp jn bF ai dx x.1 x.2.1=bM lp jn (cx [(172,⟨[T47],[],[],.one .bool,fun x _ _=>dx x.1⟩),(34,k34 ai),(72,k72 bF)] [(32,r32),(92,r92),(112,bn)]) ak 4 136 f136 LC x F y:=fun x F y=>by kernel_rfl
theorem UX:LC.ok prog 136:=Ctr.of_den (ap (af (af (af (q32) (by kernel_rfl) TA) (by kernel_rfl) KH) (by kernel_rfl) U3)) aE (hl:=ak) (d:=4) func136 rfl (by decide) (WN lpK jnK bF ai dx)
def ut (_:Lp) (_:Jn) (x0:Int):Option (Int×Int) :=
 some (x0,1)
def cG (x0:Int):Option (Int×Int):=ut lpK jnK x0
abbrev M9:=(Int)->Option (Int×Int)
def R1 (cG:M9):Ctr:=⟨[i64],[],[],.one T47,fun x _ _=>cG x.1⟩
def MF:Ctr:=R1 cG
theorem WG (lp:Lp) (jn:Jn):∀(x:TsS MF.as) (F:TsF MF.fs) (y:TsS MF.cs),ut lp jn x.1=bM lp jn (cx [] [(32,r32),(92,r92),(112,bn)]) ak 4 137 f137 MF x F y:=fun x F y=>by kernel_rfl
theorem Ru:MF.ok prog 137:=Ctr.of_den (ap (q32)) aE (hl:=ak) (d:=4) func137 rfl (by decide) (WG lpK jnK)
def mW (_:Lp) (_:Jn) (cD:t23) (cA:G2) (cG:M9) (x0:Int×Int) (x1:Int) (x2:Int×Int):Option ((Int×Int)×Int×Unit) :=
 ah (cG x1) fun (t:Int×Int)=>ah (cD t x2) fun (t:(Int×Int)×Int×PUnit)=>bif !decide (t.2.1=0) then some ((0,0),t.2.1, PUnit.unit) else ah (cA x0 t.1) fun (t:(Int×Int)×Int×PUnit)=>some (t.1,t.2.1,PUnit.unit)
def dZ (x0:Int×Int) (x1:Int) (x2:Int×Int):Option ((Int×Int)×Int×Unit):=mW lpK jnK cD cA cG x0 x1 x2
abbrev RS:=(Int×Int)->(Int)->(Int×Int)->Option ((Int×Int)×Int×Unit)
def Vf (dZ:RS):Ctr:=⟨[T47,i64,T47],[],[],.tup [T47,i64],fun x _ _=>dZ x.1 x.2.1 x.2.2.1⟩
def KR:Ctr:=Vf dZ
theorem Ws (lp:Lp) (jn:Jn) (cD:t23) (cA:G2) (cG:M9):∀(x:TsS KR.as) (F:TsF KR.fs) (y:TsS KR.cs),mW lp jn cD cA cG x.1 x.2.1 x.2.2.1=bM lp jn (cx [(137,R1 cG),(171,Qd cA),(23,k23 cD)] [(32,r32),(92,r92),(112,bn)]) ak 4 138 f138 KR x F y:=fun x F y=>by kernel_rfl
theorem Vx:KR.ok prog 138:=Ctr.of_den (ap (af (af (af (q32) (by kernel_rfl) TS) (by kernel_rfl) Nq) (by kernel_rfl) Ru)) aE (hl:=ak) (d:=4) func138 rfl (by decide) (Ws lpK jnK cD cA cG)
def rC (_:Lp) (_:Jn) (ao:t58) (cA:G2) (x0:Int×Int) (x1:Int×Int):Option ((Int×Int)×Int×Unit) :=
 ah (ao x0) fun (t:Bool) =>
 let v5:Bool:=!t;
 let v6:Bool:=!v5;
 let v7:Bool:=!v6||v6;bif v7 then ah (bif v6 then ao x1 else some false) fun (t:Bool)=>bif v7 then bif v5||v6 then bif bif v5 then true else !t then some (((0 : Int),0),1,PUnit.unit) else ah (cA x0 (IntKind.wrap .i64 (0 - x1.1),x1.2)) fun (t:(Int×Int)×Int×PUnit)=>some (t.1,t.2.1, PUnit.unit) else none else none else none
def ib (x0:Int×Int) (x1:Int×Int):Option ((Int×Int)×Int×Unit):=rC lpK jnK ao cA x0 x1
abbrev UD:=(Int×Int)->(Int×Int)->Option ((Int×Int)×Int×Unit)
def KE:Ctr:=⟨[T47,T47],[],[],.tup [T47,i64],fun x _ _=>ib x.1 x.2.1⟩
theorem Xe (lp:Lp) (jn:Jn) (ao:t58) (cA:G2):∀(x:TsS KE.as) (F:TsF KE.fs) (y:TsS KE.cs),rC lp jn ao cA x.1 x.2.1=bM lp jn (cx [(171,Qd cA),(58,k58 ao)] [(32,r32),(92,r92),(112,bn)]) ak 4 139 f139 KE x F y:=fun x F y=>by kernel_rfl
theorem TJ:KE.ok prog 139:=Ctr.of_den (ap (af (af (q32) (by kernel_rfl) C6) (by kernel_rfl) Nq)) aE (hl:=ak) (d:=4) func139 rfl (by decide) (Xe lpK jnK ao cA)
def fB (lp:Lp) (_:Jn) (dw:Sq) (cG:M9) (dZ:RS) (ib:UD) (x0:(List (ByteArray×Int))×List (ByteArray×(List (ByteArray×Int×Int×Int))×Bool)) (x1:List (Int×Int)):Option ((List (Int×Int))×Int×Unit) :=
 ah (dw x0 x1) fun (t:List (List Int)×Int×PUnit)=>bif !decide (t.2.1=0) then some ([],t.2.1,PUnit.unit) else lp (List (Int×Int)×Int×Int × PUnit) (List (Int×Int)×Int×PUnit) (fun (again:List (Int×Int)×Int×Int×PUnit->Option (List (Int×Int)×Int×PUnit)) (x:List (Int×Int)×Int×Int×PUnit) =>
 let v7:List Int:=t.1.getD x.2.2.1.toNat [];bif decide (x.2.2.1<(↑t.1.length:Int)) then ah (cG 0) fun (t_1:Int×Int)=>lp (Int×(Int×Int)×PUnit) (List (Int×Int)×Int×PUnit) (fun (again_1:Int×(Int×Int)×PUnit->Option (List (Int×Int)×Int×PUnit)) (x_1:Int×(Int×Int)×PUnit) => bif decide (x_1.1<(↑x1.length:Int)) then bif inB x.2.2.1 t.1.length then bif inB x_1.1 v7.length then bif inB x_1.1 x1.length then ah (dZ x_1.2.1 (v7.getD x_1.1.toNat 0) (x1.getD x_1.1.toNat (0,0))) fun (t:(Int×Int)×Int×PUnit) =>
 let v12:Bool:=!decide (t.2.1=0);bif v12 then bif v12 then some ([],t.2.1,PUnit.unit) else some (x.1,0,PUnit.unit) else again_1 (IntKind.wrap IntKind.i64 (x_1.1+1),t.1,PUnit.unit) else none else none else none else bif inB x.2.2.1 x0.1.length then ah (cG (x0.1.getD x.2.2.1.toNat ({ data:={ toList:=[] } },0)).2) fun (t:Int×Int)=>ah (ib t x_1.2.1) fun (t:(Int×Int)×Int×PUnit) =>
 let v13:Bool:=!decide (t.2.1=0);bif v13 then bif v13 then some ([],t.2.1,PUnit.unit) else some (x.1,0,PUnit.unit) else bif dQ (List.length x.1 + 1) 16 then again (x.1++[t.1],t.2.1,IntKind.wrap .i64 (x.2.2.1+1),PUnit.unit) else none else none) (0,t_1,PUnit.unit) else bif !decide (x.2.1=0) then some ([],x.2.1,PUnit.unit) else some (x.1,0,PUnit.unit)) ([],0,0,PUnit.unit)
def bw (x0:(List (ByteArray×Int))×List (ByteArray×(List (ByteArray×Int×Int×Int))×Bool)) (x1:List (Int×Int)):Option ((List (Int×Int))×Int×Unit):=fB lpK jnK dw cG dZ ib x0 x1
abbrev t95:=((List (ByteArray×Int))×List (ByteArray×(List (ByteArray×Int×Int×Int))×Bool))->(List (Int×Int))->Option ((List (Int×Int))×Int×Unit)
def k95 (bw:t95):Ctr:=⟨[T25,(.sl T47)],[],[],.tup [(.sl T47),i64],fun x _ _=>bw x.1 x.2.1⟩
def c95:Ctr:=k95 bw
theorem e95 (lp:Lp) (jn:Jn) (dw:Sq) (cG:M9) (dZ:RS) (ib:UD):∀(x:TsS c95.as) (F:TsF c95.fs) (y:TsS c95.cs),fB lp jn dw cG dZ ib x.1 x.2.1=bM lp jn (cx [(139,⟨[T47,T47],[],[],.tup [T47,i64],fun x _ _=>ib x.1 x.2.1⟩),(138,Vf dZ),(137,R1 cG),(136,U7 dw)] [(32,r32),(92,r92),(112,bn)]) ak 4 95 f95 c95 x F y:=fun x F y=>by kernel_rfl
theorem W9:c95.ok prog 95:=Ctr.of_den (ap (af (af (af (af (q32) (by kernel_rfl) UX) (by kernel_rfl) Ru) (by kernel_rfl) Vx) (by kernel_rfl) TJ)) aE (hl:=ak) (d:=4) func95 rfl (by decide) (e95 lpK jnK dw cG dZ ib)
def jE (_:Lp) (_:Jn) (x0:Int×Int):Option Bool :=
 some !decide (x0.1=0)
def du (x0:Int×Int):Option Bool:=jE lpK jnK x0
abbrev t96:=(Int×Int)->Option (Bool)
def c96:Ctr:=⟨[T47],[],[],.one .bool,fun x _ _=>du x.1⟩
theorem e96 (lp:Lp) (jn:Jn):∀(x:TsS c96.as) (F:TsF c96.fs) (y:TsS c96.cs),jE lp jn x.1=bM lp jn (cx [] [(32,r32),(92,r92),(112,bn)]) ak 4 96 f96 c96 x F y:=fun x F y=>by kernel_rfl
theorem Ww:c96.ok prog 96:=Ctr.of_den (ap (q32)) aE (hl:=ak) (d:=4) func96 rfl (by decide) (e96 lpK jnK)
def lG (_:Lp) (_:Jn) (ai:t34) (bw:t95) (du:t96) (x0:(List (ByteArray×Int))×List (ByteArray×(List (ByteArray×Int×Int×Int))×Bool)) (x1:List (Int×Int)):Option (Bool×Int×Unit) :=
 ah (bw x0 x1) fun (t:List (Int×Int)×Int×PUnit)=>bif !decide (t.2.1=0) then some (false,t.2.1,PUnit.unit) else ah (ai t.1 fun (x:(Int×Int)×PUnit)=>du x.1) fun (t:Bool)=>some (!t,0,PUnit.unit)
def cV (x0:(List (ByteArray×Int))×List (ByteArray×(List (ByteArray×Int×Int×Int))×Bool)) (x1:List (Int×Int)):Option (Bool×Int×Unit):=lG lpK jnK ai bw du x0 x1
abbrev t53:=((List (ByteArray×Int))×List (ByteArray×(List (ByteArray×Int×Int×Int))×Bool))->(List (Int×Int))->Option (Bool×Int×Unit)
def k53 (cV:t53):Ctr:=⟨[T25,(.sl T47)],[],[],.tup [.bool,i64],fun x _ _=>cV x.1 x.2.1⟩
def c53:Ctr:=k53 cV
theorem e53 (lp:Lp) (jn:Jn) (ai:t34) (bw:t95) (du:t96):∀(x:TsS c53.as) (F:TsF c53.fs) (y:TsS c53.cs),lG lp jn ai bw du x.1 x.2.1=bM lp jn (cx [(96,⟨[T47],[],[],.one .bool,fun x _ _=>du x.1⟩),(95,k95 bw),(34,k34 ai)] [(32,r32),(92,r92),(112,bn)]) ak 4 53 f53 c53 x F y:=fun x F y=>by kernel_rfl
theorem V6:c53.ok prog 53:=Ctr.of_den (ap (af (af (af (q32) (by kernel_rfl) KH) (by kernel_rfl) W9) (by kernel_rfl) Ww)) aE (hl:=ak) (d:=4) func53 rfl (by decide) (e53 lpK jnK ai bw du)
def jM (_:Lp) (_:Jn) (x0:Int×Int):Option Bool :=
 some (decide (x0.1<0))
def eg (x0:Int×Int):Option Bool:=jM lpK jnK x0
abbrev t54:=(Int×Int)->Option (Bool)
def c54:Ctr:=⟨[T47],[],[],.one .bool,fun x _ _=>eg x.1⟩
theorem e54 (lp:Lp) (jn:Jn):∀(x:TsS c54.as) (F:TsF c54.fs) (y:TsS c54.cs),jM lp jn x.1=bM lp jn (cx [] [(32,r32),(92,r92),(112,bn)]) ak 4 54 f54 c54 x F y:=fun x F y=>by kernel_rfl
theorem Xb:c54.ok prog 54:=Ctr.of_den (ap (q32)) aE (hl:=ak) (d:=4) func54 rfl (by decide) (e54 lpK jnK)
def lN (_:Lp) (jn:Jn) (aR:t50) (ai:t34) (bU:t49) (bQ:t51) (dy:t52) (cV:t53) (eg:t54) (x0:(List (ByteArray×Int))×List (ByteArray×(List (ByteArray×Int×Int×Int))×Bool)) (x1:(List (Int×Int))×Bool×List (Int×Int)):Option (Bool×Int×Unit) :=
 ah (bU x1) fun (t:List (Int×Int)×List (Int×Int)×PUnit)=>jn (Int×PUnit) (Bool×Int×PUnit) (fun (x:Int×PUnit)=>ah (aR x0) fun (t_1:Bool) =>
 let v7:Bool:=!t_1;
 let v8:Bool:=!v7;
 let v9:Bool:=!v8||v8;bif v9 then ah (bif v8 then bQ x1 else some false) fun (t_2:Bool)=>bif v9 then bif v7||v8 then bif bif v7 then true else !t_2 then some (false,1,PUnit.unit) else bif decide ((↑t.2.1.length:Int)>0) then some (false,19,PUnit.unit) else bif !decide ((↑t.1.length:Int) = x.1) then some (false,3,PUnit.unit) else bif x1.2.1 then ah (dy x0 t.1) fun (t:Bool×Int×PUnit)=>some (t.1,t.2.1,PUnit.unit) else ah (cV x0 t.1) fun (t_3:Bool×Int×PUnit) =>
 let v12:Bool:=decide (t_3.2.1=0);
 let v13:Bool:=bif v12 then t_3.1 else false;
 let v14:Bool:=!v13||v13;bif !v12||v12 then bif v14 then ah (bif v13 then ai t.1 fun (x:(Int×Int)×PUnit)=>eg x.1 else some false) fun (t:Bool)=>bif v14 then bif v14 then some (bif v13 then !t else false,t_3.2.1,PUnit.unit) else none else none else none else none else none else none else none) fun (j : Int×PUnit->Option (Bool×Int×PUnit))=>bif x1.2.1 then j ((↑x0.1.length:Int),PUnit.unit) else j ((↑x0.2.length:Int),PUnit.unit)
def aB (x0:(List (ByteArray×Int))×List (ByteArray×(List (ByteArray×Int×Int×Int))×Bool)) (x1:(List (Int×Int))×Bool×List (Int×Int)):Option (Bool×Int×Unit):=lN lpK jnK aR ai bU bQ dy cV eg x0 x1
abbrev t19:=((List (ByteArray×Int))×List (ByteArray×(List (ByteArray×Int×Int×Int))×Bool))->((List (Int×Int))×Bool×List (Int×Int))->Option (Bool×Int×Unit)
def k19 (aB:t19):Ctr:=⟨[T25,T30],[],[],.tup [.bool,i64],fun x _ _=>aB x.1 x.2.1⟩
def c19:Ctr:=k19 aB
theorem e19 (lp:Lp) (jn:Jn) (aR:t50) (ai:t34) (bU:t49) (bQ:t51) (dy:t52) (cV:t53) (eg:t54):∀(x:TsS c19.as) (F:TsF c19.fs) (y:TsS c19.cs),lN lp jn aR ai bU bQ dy cV eg x.1 x.2.1=bM lp jn (cx [(54,⟨[T47],[],[],.one .bool,fun x _ _=>eg x.1⟩),(53,k53 cV),(52,k52 dy),(51,k51 bQ),(49,k49 bU),(34,k34 ai),(50,k50 aR)] [(32,r32),(92,r92),(112,bn)]) ak 4 19 f19 c19 x F y:=fun x F y=>by kernel_rfl
theorem UT:c19.ok prog 19:=Ctr.of_den (ap (af (af (af (af (af (af (af (q32) (by kernel_rfl) Sr) (by kernel_rfl) KH) (by kernel_rfl) Vh) (by kernel_rfl) UZ) (by kernel_rfl) VW) (by kernel_rfl) V6) (by kernel_rfl) Xb)) aE (hl:=ak) (d:=4) func19 rfl (by decide) (e19 lpK jnK aR ai bU bQ dy cV eg)
def yh (_:Lp) (_:Jn) (x0:Int):Option (Int×Int) :=
 some (x0,1)
def aO (x0:Int):Option (Int×Int):=yh lpK jnK x0
abbrev t24:=(Int)->Option (Int×Int)
def k24 (aO:t24):Ctr:=⟨[i64],[],[],.one T47,fun x _ _=>aO x.1⟩
def c24:Ctr:=k24 aO
theorem e24 (lp:Lp) (jn:Jn):∀(x:TsS c24.as) (F:TsF c24.fs) (y:TsS c24.cs),yh lp jn x.1=bM lp jn (cx [] [(32,r32),(92,r92),(112,bn)]) ak 4 24 f24 c24 x F y:=fun x F y=>by kernel_rfl
theorem R8:c24.ok prog 24:=Ctr.of_den (ap (q32)) aE (hl:=ak) (d:=4) func24 rfl (by decide) (e24 lpK jnK)
def tq (lp:Lp) (_:Jn) (x0:List Int) (x1:Int) (x2:Int):Option (List Int) :=
 lp (List Int×Int×PUnit) (List Int) (fun (again:List Int×Int×PUnit->Option (List Int)) (x:List Int×Int×PUnit)=>bif decide (x.2.1>=0) then bif decide ((0 : Int)<=IntKind.wrap .i64 (8*x.2.1)) then bif dQ (List.length x.1+1) 1 then again (x.1++[IntKind.wrap IntKind.u8 (Int.fdiv x1 (2 ^ min (Int.toNat (IntKind.wrap .i64 (8*x.2.1))) 64))],IntKind.wrap .i64 (x.2.1 - 1),PUnit.unit) else none else none else bif Nat.ble (1 : Nat) x.1.length then some x.1 else none) (x0,IntKind.wrap .i64 (x2 - 1),PUnit.unit)
def fF (x0:List Int) (x1:Int) (x2:Int):Option (List Int):=tq lpK jnK x0 x1 x2
def a63:ACtr:=⟨[i64,i64],5,(.int .u8),fun l x=>fF l x.1 x.2.1⟩
theorem e63 (lp:Lp) (jn:Jn):∀(l:List a63.e.T) (x:TsS a63.as),tq lp jn l x.1 x.2.1=S8 lp jn (cx [] [(32,r32),(92,r92),(112,bn)]) ak 4 63 f63 a63 l x:=fun l x=>by kernel_rfl
theorem XG:a63.ok prog 63:=ACtr.of_den (ap (q32)) aE (hl:=ak) (d:=4) func63 rfl (by decide) (e63 lpK jnK)
def tg (lp:Lp) (_:Jn) (x0:List Int):Option Int :=
 lp (Int×Int×PUnit) Int (fun (again:Int×Int×PUnit->Option Int) (x:Int×Int×PUnit)=>bif decide (x.2.1<(↑x0.length:Int)) then bif inB x.2.1 x0.length then again (IntKind.wrap IntKind.u32 (IntKind.wrap IntKind.u32 (IntKind.wrap IntKind.u32 (31*x.1)+IntKind.wrap IntKind.u32 (x0.getD x.2.1.toNat (0 : Int)))+1),IntKind.wrap .i64 (x.2.1+1),PUnit.unit) else none else some (IntKind.wrap .i64 x.1)) (0,0,PUnit.unit)
def eB (x0:List Int):Option Int:=tg lpK jnK x0
abbrev t64:=(List Int)->Option (Int)
def k64 (eB:t64):Ctr:=⟨[(.sl (.int .u8))],[],[],.one i64,fun x _ _=>eB x.1⟩
def c64:Ctr:=k64 eB
theorem e64 (lp:Lp) (jn:Jn):∀(x:TsS c64.as) (F:TsF c64.fs) (y:TsS c64.cs),tg lp jn x.1=bM lp jn (cx [] [(32,r32),(92,r92),(112,bn)]) ak 4 64 f64 c64 x F y:=fun x F y=>by kernel_rfl
theorem XF:c64.ok prog 64:=Ctr.of_den (ap (q32)) aE (hl:=ak) (d:=4) func64 rfl (by decide) (e64 lpK jnK)
def oJ (lp:Lp) (jn:Jn) (bU:t49) (bQ:t51) (eB:t64) (fF:(List Int)->(Int)->(Int)->Option (List Int)) (x0:(List (Int×Int))×Bool×List (Int×Int)):Option ((List Int)×Int×Unit) :=
 ah (bU x0) fun (t:List (Int×Int)×List (Int×Int)×PUnit) =>
 let v4:List Int:=[IntKind.wrap IntKind.u8 (↑t.1.length:Int)];ah (bQ x0) fun (t_1:Bool)=>bif !t_1 then some ([],1,PUnit.unit) else bif decide ((↑t.2.1.length:Int)>0) then some ([],19,PUnit.unit) else bif decide ((↑t.1.length:Int)>20) then some ([],4,PUnit.unit) else jn (List Int×PUnit) (List Int×Int×PUnit) (fun (x:List Int×PUnit)=>lp (List Int×Int×PUnit) (List Int×Int×PUnit) (fun (again:List Int×Int×PUnit->Option (List Int×Int×PUnit)) (x:List Int×Int×PUnit) =>
 let v9:Int×Int:=t.1.getD x.2.1.toNat (0,0);bif decide (x.2.1<(↑t.1.length:Int)) then bif inB x.2.1 t.1.length then ah (fF x.1 v9.1 8) fun (t:List Int)=>ah (fF t v9.2 8) fun (t:List Int)=>again (t,IntKind.wrap .i64 (x.2.1+1), PUnit.unit) else none else ah (eB x.1) fun (t:Int)=>ah (fF x.1 t 4) fun (t:List Int)=>some (t,0,PUnit.unit)) (x.1,0, PUnit.unit)) fun (j:List Int×PUnit->Option (List Int×Int×PUnit))=>bif x0.2.1 then j (84 ::67 ::1 ::v4,PUnit.unit) else j (84 ::(67 : Int) ::0 ::v4,PUnit.unit)
def cj (x0:(List (Int×Int))×Bool×List (Int×Int)):Option ((List Int)×Int×Unit):=oJ lpK jnK bU bQ eB fF x0
abbrev t25:=((List (Int×Int))×Bool×List (Int×Int))->Option ((List Int)×Int×Unit)
def k25 (cj:t25):Ctr:=⟨[T30],[],[],.tup [(.sl (.int .u8)),i64],fun x _ _=>cj x.1⟩
def c25:Ctr:=k25 cj
theorem e25 (lp:Lp) (jn:Jn) (bU:t49) (bQ:t51) (eB:t64) (fF:(List Int)->(Int)->(Int)->Option (List Int)):∀(x:TsS c25.as) (F:TsF c25.fs) (y:TsS c25.cs),oJ lp jn bU bQ eB fF x.1=bM lp jn (yE zH zD (Ty [(63,⟨[i64,i64],5,(.int .u8),fun l x=>fF l x.1 x.2.1⟩)] (jb prog shs ud its [(64,k64 eB),(51,k51 bQ),(49,k49 bU)] [(32,r32),(92,r92),(112,bn)]))) ak 4 25 f25 c25 x F y:=fun x F y=>by kernel_rfl
theorem Xr:c25.ok prog 25:=Ctr.of_den (ap (Qc (af (af (af (q32) (by kernel_rfl) Vh) (by kernel_rfl) UZ) (by kernel_rfl) XF) (IY (by kernel_rfl) XG (NB)))) aE (hl:=ak) (d:=4) func25 rfl (by decide) (e25 lpK jnK bU bQ eB fF)
def qm (_:Lp) (_:Jn) (aO:t24) (x0:Int):Option ((List (ByteArray×Int))×List (ByteArray×(List (ByteArray×Int×Int×Int))×Bool)) :=
 ah (aO 1) fun (t:Int×Int) =>
 let v4:ByteArray×Int×Int×Int:=({ data:=#[] },0,t);some ([({ data:=#[(98:UInt8)] },300)],[({ data:=#[(114:UInt8)] },[v4,({ data:=#[(98 : UInt8)] },x0,t),v4],true)])
def eG (x0:Int):Option ((List (ByteArray×Int))×List (ByteArray×(List (ByteArray×Int×Int×Int))×Bool)):=qm lpK jnK aO x0
abbrev t37:=(Int)->Option ((List (ByteArray×Int))×List (ByteArray×(List (ByteArray×Int×Int×Int))×Bool))
def c37:Ctr:=⟨[i64],[],[],.one T25,fun x _ _=>eG x.1⟩
theorem e37 (lp:Lp) (jn:Jn) (aO:t24):∀(x:TsS c37.as) (F:TsF c37.fs) (y:TsS c37.cs),qm lp jn aO x.1=bM lp jn (cx [(24,k24 aO)] [(32,r32),(92,r92),(112,bn)]) ak 4 37 f37 c37 x F y:=fun x F y=>by kernel_rfl
theorem WX:c37.ok prog 37:=Ctr.of_den (ap (af (q32) (by kernel_rfl) R8)) aE (hl:=ak) (d:=4) func37 rfl (by decide) (e37 lpK jnK aO)
def yt (_:Lp) (_:Jn) (x0:Bool) (x1:List (Int×Int)):Option ((List (Int×Int))×Bool×List (Int×Int)) :=
 bif x0 then some ([],true,x1) else some (x1,false,[])
def iA (x0:Bool) (x1:List (Int×Int)):Option ((List (Int×Int))×Bool×List (Int×Int)):=yt lpK jnK x0 x1
abbrev t38:=(Bool)->(List (Int×Int))->Option ((List (Int×Int))×Bool×List (Int×Int))
def k38 (iA:t38):Ctr:=⟨[.bool,(.sl T47)],[],[],.one T30,fun x _ _=>iA x.1 x.2.1⟩
def c38:Ctr:=k38 iA
theorem e38 (lp:Lp) (jn:Jn):∀(x:TsS c38.as) (F:TsF c38.fs) (y:TsS c38.cs),yt lp jn x.1 x.2.1=bM lp jn (cx [] [(32,r32),(92,r92),(112,bn)]) ak 4 38 f38 c38 x F y:=fun x F y=>by kernel_rfl
theorem W8:c38.ok prog 38:=Ctr.of_den (ap (q32)) aE (hl:=ak) (d:=4) func38 rfl (by decide) (e38 lpK jnK)
def ta (_:Lp) (_:Jn) (aY:t13) (bA:t15) (aB:t19) (aO:t24) (cj:t25) (eG:t37) (iA:t38):Option Bool :=
 ah (eG 2) fun (t:List (ByteArray×Int)×List (ByteArray×List (ByteArray×Int×Int×Int)×Bool))=>ah (aY t) fun (t:(List (Int×Int)×Bool × List (Int×Int))×Int×PUnit) =>
 let v4:Bool:=decide (t.2.1=0);
 let v5:Bool:=!v4||v4;ah (eG (-2)) fun (t_1:List (ByteArray×Int)×List (ByteArray×List (ByteArray×Int×Int×Int)×Bool))=>ah (aY t_1) fun (t_2:(List (Int×Int)×Bool×List (Int×Int))×Int×PUnit)=>ah (eG (-2)) fun (t_3:List (ByteArray×Int)×List (ByteArray×List (ByteArray×Int × Int×Int)×Bool))=>ah (aO 1) fun (t_4:Int×Int)=>ah (iA true [t_4]) fun (t_5:List (Int×Int)×Bool×List (Int×Int))=>ah (aB t_3 t_5) fun (t_6:Bool×Int×PUnit)=>ah (cj ([],false,[])) fun (t_7:List Int×Int×PUnit)=>ah (bif v4 then aO 150 else some (0,(0 : Int))) fun (t_8:Int×Int)=>bif v5 then bif v5 then ah (bif v4 then iA false [t_8] else some ([],false,[])) fun (t_9:List (Int×Int)×Bool×List (Int×Int))=>bif v5&&v5 then ah (bif v4 then bA t.1 t_9 else some false) fun (t:Bool) =>
 let v16:Bool:=bif v4 then t else false;
 let v17:Bool:=!v16||v16;
 let v18:Bool:=bif v16 then decide (t_2.2.1=0) else false;
 let v19:Bool:=bif v18 then t_2.1.2.1 else false;
 let v20:Bool:=!v18||v18;
 let v21:Bool:=bif v19 then decide ((↑t_2.1.2.2.length:Int)=1) else false;
 let v22:Bool:=!v19||v19;
 let v23:Bool:=bif v21 then decide (t_6.2.1=0) else false;
 let v24:Bool:=bif v23 then t_6.1 else false;
 let v25:Bool:=bif v24 then decide (t_7.2.1=0) else false;
 let v26:Bool:=!v21||v21;
 let v27:Bool:=!v24||v24;
 let v28:Bool:=!v25||v25;bif v5 then bif v17 then bif v17 then bif v20 then bif v20 then bif v22 then bif v22 then bif v22 then bif v22 then bif v26 then bif v26 then bif !v23 || v23 then bif v27 then bif v27 then bif v28 then bif v28 then bif v28 then some (bif v25 then decide ((↑t_7.1.length:Int)=8) else false) else none else none else none else none else none else none else none else none else none else none else none else none else none else none else none else none else none else none else none else none
def aN:Option Bool:=ta lpK jnK aY bA aB aO cj eG iA
abbrev t11:=Option (Bool)
def k11 (aN:t11):Ctr:=⟨[],[],[],.one .bool,fun _ _ _=>aN⟩
def c11:Ctr:=k11 aN
theorem e11 (lp:Lp) (jn:Jn) (aY:t13) (bA:t15) (aB:t19) (aO:t24) (cj:t25) (eG:t37) (iA:t38):∀(x:TsS c11.as) (F:TsF c11.fs) (y:TsS c11.cs),ta lp jn aY bA aB aO cj eG iA=bM lp jn (cx [(38,k38 iA),(37,⟨[i64],[],[],.one T25,fun x _ _=>eG x.1⟩),(25,k25 cj),(24,k24 aO),(19,k19 aB),(15,k15 bA),(13,k13 aY)] [(32,r32),(92,r92),(112,bn)]) ak 4 11 f11 c11 x F y:=fun x F y=>by kernel_rfl
theorem V2:c11.ok prog 11:=Ctr.of_den (ap (af (af (af (af (af (af (af (q32) (by kernel_rfl) Ub) (by kernel_rfl) WH) (by kernel_rfl) UT) (by kernel_rfl) R8) (by kernel_rfl) Xr) (by kernel_rfl) WX) (by kernel_rfl) W8)) aE (hl:=ak) (d:=4) func11 rfl (by decide) (e11 lpK jnK aY bA aB aO cj eG iA)
def oi (lp:Lp) (_:Jn) (x0:(List (ByteArray×Int))×List (ByteArray×(List (ByteArray×Int×Int×Int))×Bool)):Option Bool :=
 
 let v3:Bool:=decide ((↑x0.1.length:Int)>9);
 let v4:Bool:=!v3;
 let v5:Bool:=!v4||v4;bif v5 then bif v5 then bif v5 then bif v3||v4 then bif bif v3 then true else decide ((↑x0.2.length:Int)>9) then some false else lp (Int × PUnit) Bool (fun (again:Int×PUnit->Option Bool) (x:Int×PUnit)=>bif decide (x.1<(↑x0.1.length:Int)) then bif inB x.1 x0.1.length then bif decide ((↑(ByteArray.size (x0.1.getD x.1.toNat ({ data:={ toList:=[] } },0)).1):Int)>60) then some false else again (IntKind.wrap .i64 (x.1 + 1),PUnit.unit) else none else lp (Int×PUnit) Bool (fun (again:Int×PUnit->Option Bool) (x:Int×PUnit) =>
 let v10:Bool:=inB x.1 x0.2.length;
 let v11:Bool:=decide ((↑(ByteArray.size (x0.2.getD x.1.toNat ({ data:={ toList:=[] } },[],false)).1):Int)>60);
 let v12:Bool:=!v11;
 let v13:Bool:=!v12;
 let v14:Bool:=v13||v12;bif decide (x.1<(↑x0.2.length:Int)) then bif v10 then bif v14 then bif v14&&(v14&&(v13||v10)) then bif v14 then bif v14 then bif v14 then bif v14 then bif v11||v12 then bif bif v11 then true else decide ((↑(List.length (x0.2.getD x.1.toNat ({ data:={ toList:=[] } },[],false)).2.1):Int) > 13) then some false else lp (Int×PUnit) Bool (fun (again_1:Int×PUnit->Option Bool) (x_1:Int×PUnit)=>bif v10 then bif decide (x_1.1<(↑(List.length (x0.2.getD x.1.toNat ({ data:={ toList:=[] } },[],false)).2.1):Int)) then bif v10 then bif inB x_1.1 (List.length (x0.2.getD x.1.toNat ({ data:={ toList:=[] } },[],false)).2.1) then bif decide ((↑(ByteArray.size (List.getD (x0.2.getD x.1.toNat ({ data:={ toList:=[] } },[],false)).2.1 x_1.1.toNat ({ data:={ toList:=[] } },0,0,0)).1):Int)>60) then some false else again_1 (IntKind.wrap .i64 (x_1.1+1), PUnit.unit) else none else none else again (IntKind.wrap .i64 (x.1+1),PUnit.unit) else none) (0,PUnit.unit) else none else none else none else none else none else none else none else none else some true) (0,PUnit.unit)) (0,PUnit.unit) else none else none else none else none
def bi (x0:(List (ByteArray×Int))×List (ByteArray×(List (ByteArray×Int×Int×Int))×Bool)):Option Bool:=oi lpK jnK x0
abbrev t12:=((List (ByteArray×Int))×List (ByteArray×(List (ByteArray×Int×Int×Int))×Bool))->Option (Bool)
def k12 (bi:t12):Ctr:=⟨[T25],[],[],.one .bool,fun x _ _=>bi x.1⟩
def c12:Ctr:=k12 bi
theorem e12 (lp:Lp) (jn:Jn):∀(x:TsS c12.as) (F:TsF c12.fs) (y:TsS c12.cs),oi lp jn x.1=bM lp jn (cx [] [(32,r32),(92,r92),(112,bn)]) ak 4 12 f12 c12 x F y:=fun x F y=>by kernel_rfl
theorem V7:c12.ok prog 12:=Ctr.of_den (ap (q32)) aE (hl:=ak) (d:=4) func12 rfl (by decide) (e12 lpK jnK)
def rp (_:Lp) (_:Jn) (x0:Int):Option Bool :=
 
 let v3:Bool:=decide (x0>=97);
 let v4:Bool:=decide (x0>=65);
 let v5:Bool:=!v3||v3;
 let v6:Bool:=bif v3 then decide (x0<=122) else false;
 let v7:Bool:=!v6;
 let v8:Bool:=!v7;
 let v9:Bool:=v7&&v4;
 let v10:Bool:=v8||v7;bif v5 then bif v5 then bif v10 then bif v10 then bif !v9||v9 then bif (v8||v10)&&(v8||(!v4||(v8||v9))) then bif v6||v7 then some (bif v6 then true else bif v4 then decide (x0<=90) else false) else none else none else none else none else none else none else none
def cu (x0:Int):Option Bool:=rp lpK jnK x0
abbrev t76:=(Int)->Option (Bool)
def k76 (cu:t76):Ctr:=⟨[(.int .u8)],[],[],.one .bool,fun x _ _=>cu x.1⟩
def c76:Ctr:=k76 cu
theorem e76 (lp:Lp) (jn:Jn):∀(x:TsS c76.as) (F:TsF c76.fs) (y:TsS c76.cs),rp lp jn x.1=bM lp jn (cx [] [(32,r32),(92,r92),(112,bn)]) ak 4 76 f76 c76 x F y:=fun x F y=>by kernel_rfl
theorem Vq:c76.ok prog 76:=Ctr.of_den (ap (q32)) aE (hl:=ak) (d:=4) func76 rfl (by decide) (e76 lpK jnK)
def tf (_:Lp) (_:Jn) (x0:Int):Option Bool :=
 
 let v3:Bool:=decide (x0>=48);
 let v4:Bool:=!v3||v3;bif v4 then bif v4 then some (bif v3 then decide (x0<=57) else false) else none else none
def gj (x0:Int):Option Bool:=tf lpK jnK x0
abbrev Vk:=(Int)->Option (Bool)
def Ny:Ctr:=⟨[(.int .u8)],[],[],.one .bool,fun x _ _=>gj x.1⟩
theorem XA (lp:Lp) (jn:Jn):∀(x:TsS Ny.as) (F:TsF Ny.fs) (y:TsS Ny.cs),tf lp jn x.1=bM lp jn (cx [] [(32,r32),(92,r92),(112,bn)]) ak 4 115 f115 Ny x F y:=fun x F y=>by kernel_rfl
theorem TQ:Ny.ok prog 115:=Ctr.of_den (ap (q32)) aE (hl:=ak) (d:=4) func115 rfl (by decide) (XA lpK jnK)
def qj (lp:Lp) (_:Jn) (cu:t76) (gj:Vk) (x0:ByteArray) (x1:Int):Option Int :=
 lp (Int×PUnit) Int (fun (again:Int×PUnit->Option Int) (x:Int×PUnit) =>
 let v6:Bool:=inB x.1 (ByteArray.size x0);
 let v7:Int:=fy x0 x.1.toNat;
 let v8:Bool:=decide (x.1<(↑(ByteArray.size x0):Int));
 let v9:Bool:=!v8;
 let v10:Bool:=v9||v8;
 let v11:Bool:=v9||v10;bif v10&&(v10&&(v9||v6)) then bif v10 then ah (bif v8 then cu v7 else some false) fun (t:Bool) =>
 let v13:Bool:=v8&&!t;
 let v14:Bool:=!v13;
 let v15:Bool:=v14||v13;bif v10 then bif v15&&(v15&&(v14||v6)) then bif v15 then ah (bif v13 then gj v7 else some false) fun (t_1:Bool) =>
 let v17:Bool:=bif t then true else t_1;
 let v18:Bool:=v8&&!v17;
 let v19:Bool:=!v18;
 let v20:Bool:=v19||v18;bif v11&&(v9||(t||(v9||v13))) then bif v10 then bif v20&&(v20&&(v19||v6)) then bif v20 then bif v11&&(v9||(v17||(v9||v18))) then bif v10 then bif bif v8 then bif v17 then true else decide (v7=95) else false then again (IntKind.wrap .i64 (x.1+1),PUnit.unit) else some x.1 else none else none else none else none else none else none else none else none else none else none else none) (x1,PUnit.unit)
def gm (x0:ByteArray) (x1:Int):Option Int:=qj lpK jnK cu gj x0 x1
abbrev t77:=(ByteArray)->(Int)->Option (Int)
def c77:Ctr:=⟨[.str,i64],[],[],.one i64,fun x _ _=>gm x.1 x.2.1⟩
theorem e77 (lp:Lp) (jn:Jn) (cu:t76) (gj:Vk):∀(x:TsS c77.as) (F:TsF c77.fs) (y:TsS c77.cs),qj lp jn cu gj x.1 x.2.1=bM lp jn (cx [(115,⟨[(.int .u8)],[],[],.one .bool,fun x _ _=>gj x.1⟩),(76,k76 cu)] [(32,r32),(92,r92),(112,bn)]) ak 4 77 f77 c77 x F y:=fun x F y=>by kernel_rfl
theorem V4:c77.ok prog 77:=Ctr.of_den (ap (af (af (q32) (by kernel_rfl) Vq) (by kernel_rfl) TQ)) aE (hl:=ak) (d:=4) func77 rfl (by decide) (e77 lpK jnK cu gj)
def nA (_:Lp) (_:Jn) (cu:t76) (gm:t77) (x0:ByteArray):Option Bool :=
 
 let v3:Bool:=decide ((↑(ByteArray.size x0):Int)=0);
 let v4:Bool:=!v3;
 let v5:Bool:=!v4||v4;
 let v6:Bool:=bif v3 then true else decide ((↑(ByteArray.size x0):Int)>20);
 let v7:Bool:=!v6;
 let v8:Bool:=!v7;
 let v9:Bool:=v8||v7;bif v5 then bif v5 then bif v3||v4 then bif v9&&(v8||inB 0 (ByteArray.size x0)) then bif v9 then ah (bif v7 then cu (fy x0 (0 : Nat)) else some false) fun (t:Bool)=>bif v9 then bif v6||v7 then bif bif v6 then true else !t then some false else ah (gm x0 0) fun (t:Int)=>some (decide (t = (↑(ByteArray.size x0):Int))) else none else none else none else none else none else none else none
def eL (x0:ByteArray):Option Bool:=nA lpK jnK cu gm x0
abbrev t39:=(ByteArray)->Option (Bool)
def c39:Ctr:=⟨[.str],[],[],.one .bool,fun x _ _=>eL x.1⟩
theorem e39 (lp:Lp) (jn:Jn) (cu:t76) (gm:t77):∀(x:TsS c39.as) (F:TsF c39.fs) (y:TsS c39.cs),nA lp jn cu gm x.1=bM lp jn (cx [(77,⟨[.str,i64],[],[],.one i64,fun x _ _=>gm x.1 x.2.1⟩),(76,k76 cu)] [(32,r32),(92,r92),(112,bn)]) ak 4 39 f39 c39 x F y:=fun x F y=>by kernel_rfl
theorem WI:c39.ok prog 39:=Ctr.of_den (ap (af (af (q32) (by kernel_rfl) Vq) (by kernel_rfl) V4)) aE (hl:=ak) (d:=4) func39 rfl (by decide) (e39 lpK jnK cu gm)
def jY (lp:Lp) (_:Jn) (x0:(List (ByteArray×Int))×List (ByteArray×(List (ByteArray×Int×Int×Int))×Bool)) (x1:ByteArray):Option Int :=
 lp (Int×PUnit) Int (fun (again:Int×PUnit->Option Int) (x:Int×PUnit)=>bif decide (x.1<(↑x0.1.length:Int)) then bif inB x.1 x0.1.length then bif List.beq (ByteArray.toList (x0.1.getD x.1.toNat ({ data:={ toList:=[] } },0)).1) (ByteArray.toList x1) then some x.1 else again (IntKind.wrap .i64 (x.1+1),PUnit.unit) else none else some (-1)) (0,PUnit.unit)
def bj (x0:(List (ByteArray×Int))×List (ByteArray×(List (ByteArray×Int×Int×Int))×Bool)) (x1:ByteArray):Option Int:=jY lpK jnK x0 x1
abbrev t40:=((List (ByteArray×Int))×List (ByteArray×(List (ByteArray×Int×Int×Int))×Bool))->(ByteArray)->Option (Int)
def k40 (bj:t40):Ctr:=⟨[T25,.str],[],[],.one i64,fun x _ _=>bj x.1 x.2.1⟩
def c40:Ctr:=k40 bj
theorem e40 (lp:Lp) (jn:Jn):∀(x:TsS c40.as) (F:TsF c40.fs) (y:TsS c40.cs),jY lp jn x.1 x.2.1=bM lp jn (cx [] [(32,r32),(92,r92),(112,bn)]) ak 4 40 f40 c40 x F y:=fun x F y=>by kernel_rfl
theorem VN:c40.ok prog 40:=Ctr.of_den (ap (q32)) aE (hl:=ak) (d:=4) func40 rfl (by decide) (e40 lpK jnK)
def kS (lp:Lp) (_:Jn) (x0:(List (ByteArray×Int))×List (ByteArray×(List (ByteArray×Int×Int×Int))×Bool)) (x1:ByteArray):Option Int :=
 lp (Int×PUnit) Int (fun (again:Int×PUnit->Option Int) (x:Int×PUnit)=>bif decide (x.1<(↑x0.2.length:Int)) then bif inB x.1 x0.2.length then bif List.beq (ByteArray.toList (x0.2.getD x.1.toNat ({ data:={ toList:=[] } },[],false)).1) (ByteArray.toList x1) then some x.1 else again (IntKind.wrap .i64 (x.1+1),PUnit.unit) else none else some (-1)) (0,PUnit.unit)
def dL (x0:(List (ByteArray×Int))×List (ByteArray×(List (ByteArray×Int×Int×Int))×Bool)) (x1:ByteArray):Option Int:=kS lpK jnK x0 x1
abbrev t41:=((List (ByteArray×Int))×List (ByteArray×(List (ByteArray×Int×Int×Int))×Bool))->(ByteArray)->Option (Int)
def c41:Ctr:=⟨[T25,.str],[],[],.one i64,fun x _ _=>dL x.1 x.2.1⟩
theorem e41 (lp:Lp) (jn:Jn):∀(x:TsS c41.as) (F:TsF c41.fs) (y:TsS c41.cs),kS lp jn x.1 x.2.1=bM lp jn (cx [] [(32,r32),(92,r92),(112,bn)]) ak 4 41 f41 c41 x F y:=fun x F y=>by kernel_rfl
theorem VU:c41.ok prog 41:=Ctr.of_den (ap (q32)) aE (hl:=ak) (d:=4) func41 rfl (by decide) (e41 lpK jnK)
def qd (_:Lp) (_:Jn) (x0:Int×Int) (x1:Int×Int):Option Bool :=
 
 let v4:Bool:=decide (x0.1=x1.1);
 let v5:Bool:=decide (x0.1<x1.1);
 let v6:Bool:=!v5;
 let v7:Bool:=!v6;
 let v8:Bool:=v6&&v4;
 let v9:Bool:=v7||v6;
 let v10:Bool:=!v8||v8;bif v9 then bif v9 then bif v9&&v9 then bif v9 then bif v10 then bif v10 then bif v10&&v10 then bif (v7||v9)&&(v7||(!v4||(v7||v8))) then bif v5 || v6 then some (bif v5 then true else bif v4 then decide (x0.2<x1.2) else false) else none else none else none else none else none else none else none else none else none
def cH (x0:Int×Int) (x1:Int×Int):Option Bool:=qd lpK jnK x0 x1
abbrev JN:=(Int×Int)->(Int×Int)->Option (Bool)
def Vz (cH:JN):Ctr:=⟨[lS,lS],[],[],.one .bool,fun x _ _=>cH x.1 x.2.1⟩
def MS:Ctr:=Vz cH
theorem XE (lp:Lp) (jn:Jn):∀(x:TsS MS.as) (F:TsF MS.fs) (y:TsS MS.cs),qd lp jn x.1 x.2.1=bM lp jn (cx [] [(32,r32),(92,r92),(112,bn)]) ak 4 161 f161 MS x F y:=fun x F y=>by kernel_rfl
theorem Uw:MS.ok prog 161:=Ctr.of_den (ap (q32)) aE (hl:=ak) (d:=4) func161 rfl (by decide) (XE lpK jnK)
def px (_:Lp) (_:Jn) (x0:Int×Int) (x1:Int×Int):Option (Int×Int) :=
 
 let v4:Int:=IntKind.wrap .u64 (x0.1+x1.1);
 let v5:Int:=IntKind.wrap .u64 (x0.2+x1.2);bif decide (v5<x0.2) then some (IntKind.wrap .u64 (v4+1),v5) else some (v4,v5)
def eu (x0:Int×Int) (x1:Int×Int):Option (Int×Int):=px lpK jnK x0 x1
abbrev Qv:=(Int×Int)->(Int×Int)->Option (Int×Int)
def Tz (eu:Qv):Ctr:=⟨[lS,lS],[],[],.one lS,fun x _ _=>eu x.1 x.2.1⟩
def KS:Ctr:=Tz eu
theorem VP (lp:Lp) (jn:Jn):∀(x:TsS KS.as) (F:TsF KS.fs) (y:TsS KS.cs),px lp jn x.1 x.2.1=bM lp jn (cx [] [(32,r32),(92,r92),(112,bn)]) ak 4 163 f163 KS x F y:=fun x F y=>by kernel_rfl
theorem UQ:KS.ok prog 163:=Ctr.of_den (ap (q32)) aE (hl:=ak) (d:=4) func163 rfl (by decide) (VP lpK jnK)
def oc (_:Lp) (_:Jn) (x0:Int×Int) (x1:Int×Int):Option (Int×Int) :=
 
 let v4:Int:=IntKind.wrap .u64 (x0.1 - x1.1);
 let v5:Int:=IntKind.wrap .u64 (x0.2 - x1.2);bif decide (x0.2<x1.2) then some (IntKind.wrap .u64 (v4 - 1),v5) else some (v4,v5)
def cz (x0:Int×Int) (x1:Int×Int):Option (Int×Int):=oc lpK jnK x0 x1
abbrev MM:=(Int×Int)->(Int×Int)->Option (Int×Int)
def TG (cz:MM):Ctr:=⟨[lS,lS],[],[],.one lS,fun x _ _=>cz x.1 x.2.1⟩
def ME:Ctr:=TG cz
theorem XL (lp:Lp) (jn:Jn):∀(x:TsS ME.as) (F:TsF ME.fs) (y:TsS ME.cs),oc lp jn x.1 x.2.1=bM lp jn (cx [] [(32,r32),(92,r92),(112,bn)]) ak 4 164 f164 ME x F y:=fun x F y=>by kernel_rfl
theorem UB:ME.ok prog 164:=Ctr.of_den (ap (q32)) aE (hl:=ak) (d:=4) func164 rfl (by decide) (XL lpK jnK)
def pN (_:Lp) (_:Jn) (x0:Int×Int):Option (Int×Int) :=
 
 let v3:Int:=2 ^ 1;
 let v4:Bool:=decide ((0:Int)<=1);bif v4 then bif v4 then bif decide ((0:Int)<=63) then some (Int.fdiv x0.1 v3,IntKind.wrap .u64 (Int.fdiv x0.2 v3 + IntKind.wrap .u64 (x0.1*2 ^ 63))) else none else none else none
def fb (x0:Int×Int):Option (Int×Int):=pN lpK jnK x0
abbrev VK:=(Int×Int)->Option (Int×Int)
def Li:Ctr:=⟨[lS],[],[],.one lS,fun x _ _=>fb x.1⟩
theorem Wj (lp:Lp) (jn:Jn):∀(x:TsS Li.as) (F:TsF Li.fs) (y:TsS Li.cs),pN lp jn x.1=bM lp jn (cx [] [(32,r32),(92,r92),(112,bn)]) ak 4 180 f180 Li x F y:=fun x F y=>by kernel_rfl
theorem UG:Li.ok prog 180:=Ctr.of_den (ap (q32)) aE (hl:=ak) (d:=4) func180 rfl (by decide) (Wj lpK jnK)
def qA (lp:Lp) (_:Jn) (cH:JN) (eu:Qv) (cz:MM) (fb:VK) (x0:Int×Int) (x1:Int×Int):Option (Int×Int) :=
 bif decide (x0.1=0)&&(decide (x0.2=0)&&true) then some x1 else lp (Int×(Int×Int)×(Int×Int)×PUnit) (Int×Int) (fun (again:Int×(Int×Int)×(Int × Int)×PUnit->Option (Int×Int)) (x:Int×(Int×Int)×(Int×Int)×PUnit) =>
 let v6:Bool:=decide (IntKind.wrap .u64 (↑(Nat.land (Int.toNat (x.2.1.2 % Int.ofNat 18446744073709551616)) (Int.toNat (1 % Int.ofNat (18446744073709551616 : Nat)))):Int)=0);
 let v7:Bool:=!v6||v6;bif v7 then bif v7 then bif v7 then bif v7 then bif bif v6 then decide (IntKind.wrap .u64 (↑(Nat.land (Int.toNat (x.2.2.1.2 % Int.ofNat 18446744073709551616)) (Int.toNat (1 % Int.ofNat 18446744073709551616))):Int)=0) else false then ah (fb x.2.1) fun (t:Int×Int) => ah (fb x.2.2.1) fun (t_1:Int×Int)=>again (IntKind.wrap .i64 (x.1+1),t,t_1,PUnit.unit) else lp ((Int×Int)×(Int×Int)×PUnit) (Int × Int) (fun (again:(Int×Int)×(Int×Int)×PUnit->Option (Int×Int)) (x_1:(Int×Int)×(Int×Int)×PUnit) =>
 let v10:(Int×Int)×PUnit:=(x_1.2.1,PUnit.unit);bif !(decide (x_1.1.1=0)&&(decide (x_1.1.2=0)&&true)) then lp ((Int×Int)×PUnit) (Int×Int) (fun (again_1:(Int×Int)×PUnit->Option (Int×Int)) (x:(Int×Int)×PUnit)=>bif decide (IntKind.wrap .u64 (↑(Nat.land (Int.toNat (x.1.2 % Int.ofNat 18446744073709551616)) (Int.toNat (1 % Int.ofNat 18446744073709551616))):Int)=0) then ah (fb x.1) fun (t:Int×Int)=>again_1 (t, PUnit.unit) else lp ((Int×Int)×PUnit) (Int×Int) (fun (again_2:(Int×Int)×PUnit->Option (Int×Int)) (x_2:(Int×Int)×PUnit)=>bif decide (IntKind.wrap .u64 (↑(Nat.land (Int.toNat (x_2.1.2 % Int.ofNat 18446744073709551616)) (Int.toNat (1 % Int.ofNat 18446744073709551616))):Int)=0) then ah (fb x_2.1) fun (t:Int×Int)=>again_2 (t,PUnit.unit) else ah (cH x.1 x_2.1) fun (t:Bool)=>bif t then ah (cz x_2.1 x.1) fun (t:Int × Int)=>again (t,x.1,PUnit.unit) else ah (cz x.1 x_2.1) fun (t:Int×Int)=>again (t,x_2.1,PUnit.unit)) v10) (x_1.1,PUnit.unit) else lp (Int×(Int×Int) × PUnit) (Int×Int) (fun (again:Int×(Int×Int)×PUnit->Option (Int×Int)) (x:Int×(Int×Int)×PUnit)=>bif decide (x.1>0) then ah (eu x.2.1 x.2.1) fun (t:Int×Int)=>again (IntKind.wrap .i64 (x.1 - 1),t,PUnit.unit) else some x.2.1) (x.1,v10)) (x.2.1,x.2.2.1,PUnit.unit) else none else none else none else none) (0,x0,x1,PUnit.unit)
def fa (x0:Int×Int) (x1:Int×Int):Option (Int×Int):=qA lpK jnK cH eu cz fb x0 x1
abbrev O5:=(Int×Int)->(Int×Int)->Option (Int×Int)
def TO (fa:O5):Ctr:=⟨[lS,lS],[],[],.one lS,fun x _ _=>fa x.1 x.2.1⟩
def Nr:Ctr:=TO fa
theorem V1 (lp:Lp) (jn:Jn) (cH:JN) (eu:Qv) (cz:MM) (fb:VK):∀(x:TsS Nr.as) (F:TsF Nr.fs) (y:TsS Nr.cs),qA lp jn cH eu cz fb x.1 x.2.1=bM lp jn (cx [(180,⟨[lS],[],[],.one lS,fun x _ _=>fb x.1⟩),(164,TG cz),(163,Tz eu),(161,Vz cH)] [(32,r32),(92,r92),(112,bn)]) ak 4 152 f152 Nr x F y:=fun x F y=>by kernel_rfl
theorem Ux:Nr.ok prog 152:=Ctr.of_den (ap (af (af (af (af (q32) (by kernel_rfl) Uw) (by kernel_rfl) UQ) (by kernel_rfl) UB) (by kernel_rfl) UG)) aE (hl:=ak) (d:=4) func152 rfl (by decide) (V1 lpK jnK cH eu cz fb)
def py (_:Lp) (_:Jn) (x0:Int):Option Int :=
 
 let v3:Int:=IntKind.wrap .u64 x0;bif decide (x0<0) then some (IntKind.wrap .u64 (0 - v3)) else some v3
def bm (x0:Int):Option Int:=py lpK jnK x0
abbrev IW:=(Int)->Option (Int)
def Uj (bm:IW):Ctr:=⟨[i64],[],[],.one (.int .u64),fun x _ _=>bm x.1⟩
def KZ:Ctr:=Uj bm
theorem Wn (lp:Lp) (jn:Jn):∀(x:TsS KZ.as) (F:TsF KZ.fs) (y:TsS KZ.cs),py lp jn x.1=bM lp jn (cx [] [(32,r32),(92,r92),(112,bn)]) ak 4 153 f153 KZ x F y:=fun x F y=>by kernel_rfl
theorem Uf:KZ.ok prog 153:=Ctr.of_den (ap (q32)) aE (hl:=ak) (d:=4) func153 rfl (by decide) (Wn lpK jnK)
def og (_:Lp) (_:Jn) (fa:O5) (bm:IW) (x0:Int×Int):Option Bool :=
 
 let v3:Bool:=decide (x0.2<1);
 let v4:Bool:=!v3;
 let v5:Bool:=bif v3 then true else decide (x0.2>1152921504606846976);
 let v6:Bool:=!v4||v4;
 let v7:Bool:=!v5;
 let v8:Bool:=bif v5 then true else decide (x0.1<(-1152921504606846976));
 let v9:Bool:=!v8;
 let v10:Bool:=!v7||v7;
 let v11:Bool:=!v9||v9;bif v6 then bif v6 then bif v3||v4 then bif v10 then bif v10 then bif v5||v7 then bif v11 then bif v11 then bif v8||v9 then bif bif v8 then true else decide (x0.1>1152921504606846976) then some false else ah (bm x0.1) fun (t:Int)=>ah (bm x0.2) fun (t_1:Int)=>ah (fa (0, t) (0,t_1)) fun (t:Int×Int)=>some (decide (t.1=0)&&(decide (t.2=1)&&true)) else none else none else none else none else none else none else none else none else none
def dh (x0:Int×Int):Option Bool:=og lpK jnK fa bm x0
abbrev PC:=(Int×Int)->Option (Bool)
def T3 (dh:PC):Ctr:=⟨[T47],[],[],.one .bool,fun x _ _=>dh x.1⟩
def Nz:Ctr:=T3 dh
theorem Xp (lp:Lp) (jn:Jn) (fa:O5) (bm:IW):∀(x:TsS Nz.as) (F:TsF Nz.fs) (y:TsS Nz.cs),og lp jn fa bm x.1=bM lp jn (cx [(153,Uj bm),(152,TO fa)] [(32,r32),(92,r92),(112,bn)]) ak 4 108 f108 Nz x F y:=fun x F y=>by kernel_rfl
theorem TC:Nz.ok prog 108:=Ctr.of_den (ap (af (af (q32) (by kernel_rfl) Ux) (by kernel_rfl) Uf)) aE (hl:=ak) (d:=4) func108 rfl (by decide) (Xp lpK jnK fa bm)
def jO (_:Lp) (_:Jn) (dh:PC) (x0:Int×Int):Option Bool :=
 ah (dh x0) fun (t:Bool) =>
 let v4:Bool:=!t||t;
 let v5:Bool:=bif t then decide (x0.1>=x0.2) else false;
 let v6:Bool:=!v5||v5;bif v4 then bif v4 then bif v4&&v4 then bif v4 then bif v6 then bif v6 then bif v6 then some (bif v5 then decide (x0.1<=100) else false) else none else none else none else none else none else none else none
def dt (x0:Int×Int):Option Bool:=jO lpK jnK dh x0
abbrev Uo:=(Int×Int)->Option (Bool)
def M5:Ctr:=⟨[T47],[],[],.one .bool,fun x _ _=>dt x.1⟩
theorem VS (lp:Lp) (jn:Jn) (dh:PC):∀(x:TsS M5.as) (F:TsF M5.fs) (y:TsS M5.cs),jO lp jn dh x.1=bM lp jn (cx [(108,T3 dh)] [(32,r32),(92,r92),(112,bn)]) ak 4 116 f116 M5 x F y:=fun x F y=>by kernel_rfl
theorem Ue:M5.ok prog 116:=Ctr.of_den (ap (af (q32) (by kernel_rfl) TC)) aE (hl:=ak) (d:=4) func116 rfl (by decide) (VS lpK jnK dh)
def pA (_:Lp) (_:Jn) (aO:t24) (bj:t40) (dt:Uo) (x0:(List (ByteArray×Int))×List (ByteArray×(List (ByteArray×Int×Int×Int))×Bool)) (x1:ByteArray×Int×Int×Int) (x2:Bool):Option Bool :=
 
 let v5:Bool:=!x2||x2;
 let v6:Bool:=decide (x1.2.1=0);
 let v7:Bool:=decide (x1.2.1=1);
 let v8:Bool:=decide (x1.2.1=2);
 let v9:Bool:=!v7;
 let v10:Bool:=!v8;
 let v11:Bool:=bif v8 then true else v6;
 let v12:Bool:=!v9||v9;
 let v13:Bool:=!v10||v10;
 let v14:Bool:=!v11;
 let v15:Bool:=!v14||v14;bif v5 then ah (bif x2 then aO 1 else some (0,0)) fun (t:Int×Int) =>
 let v17:Bool:=bif x2 then !(decide (x1.2.2.1=t.1)&&(decide (x1.2.2.2=t.2)&&true)) else false;
 let v18:Bool:=!v17;
 let v19:Bool:=!v18||v18;bif v5&&v5 then bif v5 then bif v19 then bif v19 then ah (bif v18 then dt x1.2.2 else some false) fun (t:Bool)=>bif v19 then bif v17||v18 then bif bif v17 then true else !t then some false else bif List.beq (ByteArray.toList x1.1) (ByteArray.toList { data:=#[] }) then some v6 else ah (bj x0 x1.1) fun (t:Int)=>bif decide (t<0) then some false else bif x2 then bif v12 then bif v12 then bif v7||v9 then some (bif v7 then true else decide (x1.2.1=(-1 : Int))) else none else none else none else bif v13 then bif v13 then bif v8||v10 then bif v15 then bif v15 then bif v11||v14 then some (bif v11 then true else decide (x1.2.1 = (-2))) else none else none else none else none else none else none else none else none else none else none else none else none else none
def fx (x0:(List (ByteArray×Int))×List (ByteArray×(List (ByteArray×Int×Int×Int))×Bool)) (x1:ByteArray×Int×Int×Int) (x2:Bool):Option Bool:=pA lpK jnK aO bj dt x0 x1 x2
abbrev t78:=((List (ByteArray×Int))×List (ByteArray×(List (ByteArray×Int×Int×Int))×Bool))->(ByteArray×Int×Int×Int)->(Bool)->Option (Bool)
def k78 (fx:t78):Ctr:=⟨[T25,T74,.bool],[],[],.one .bool,fun x _ _=>fx x.1 x.2.1 x.2.2.1⟩
def c78:Ctr:=k78 fx
theorem e78 (lp:Lp) (jn:Jn) (aO:t24) (bj:t40) (dt:Uo):∀(x:TsS c78.as) (F:TsF c78.fs) (y:TsS c78.cs),pA lp jn aO bj dt x.1 x.2.1 x.2.2.1=bM lp jn (cx [(116,⟨[T47],[],[],.one .bool,fun x _ _=>dt x.1⟩),(40,k40 bj),(24,k24 aO)] [(32,r32),(92,r92),(112,bn)]) ak 4 78 f78 c78 x F y:=fun x F y=>by kernel_rfl
theorem Wl:c78.ok prog 78:=Ctr.of_den (ap (af (af (af (q32) (by kernel_rfl) R8) (by kernel_rfl) VN) (by kernel_rfl) Ue)) aE (hl:=ak) (d:=4) func78 rfl (by decide) (e78 lpK jnK aO bj dt)
def pJ (lp:Lp) (_:Jn) (fx:t78) (x0:(List (ByteArray×Int))×List (ByteArray×(List (ByteArray×Int×Int×Int))×Bool)) (x1:ByteArray×(List (ByteArray×Int×Int×Int))×Bool):Option Bool :=
 
 let v4:Bool:=!x1.2.2;
 let v5:Bool:=!v4;
 let v6:Bool:=!v5;
 let v7:Int:=IntKind.wrap .i64 ((↑x1.2.1.length:Int) - 1);
 let v8:Bool:=v6||v5;
 let v9:Bool:=decide ((↑x1.2.1.length:Int)<2);
 let v10:Bool:=!v9;
 let v11:Bool:=!v10||v10;bif v11 then bif v11 then bif v11 then bif v9||v10 then bif bif v9 then true else decide ((↑x1.2.1.length:Int)>10) then some false else lp (Int×PUnit) Bool (fun (again:Int×PUnit->Option Bool) (x:Int×PUnit) =>
 let v14:Bool:=decide (x.1=0);
 let v15:Bool:=!v14;
 let v16:Bool:=!v15||v15;bif decide (x.1<(↑x1.2.1.length:Int)) then bif inB x.1 x1.2.1.length then bif v16 then bif v16 then bif v16 then bif v16 && v16 then bif v14||v15 then ah (fx x0 (x1.2.1.getD x.1.toNat ({ data:={ toList:=[] } },0,0,0)) (bif v14 then true else decide (x.1=v7))) fun (t:Bool)=>bif !t then some false else again (IntKind.wrap .i64 (x.1+1),PUnit.unit) else none else none else none else none else none else none else bif v8 then bif v8 then bif v8 then bif v8 then bif v8&&(v8&&(v6||inB v7 x1.2.1.length)) then bif v8 then bif v8 then bif v8 then bif v4||v5 then some (bif v4 then true else List.beq (ByteArray.toList (x1.2.1.getD v7.toNat ({ data:={ toList:=[] } },0,0,0)).1) (ByteArray.toList { data:=#[] })) else none else none else none else none else none else none else none else none else none) (0,PUnit.unit) else none else none else none else none
def gt (x0:(List (ByteArray×Int))×List (ByteArray×(List (ByteArray×Int×Int×Int))×Bool)) (x1:ByteArray×(List (ByteArray×Int×Int×Int))×Bool):Option Bool:=pJ lpK jnK fx x0 x1
abbrev t42:=((List (ByteArray×Int))×List (ByteArray×(List (ByteArray×Int×Int×Int))×Bool))->(ByteArray×(List (ByteArray×Int×Int×Int))×Bool)->Option (Bool)
def c42:Ctr:=⟨[T25,T72],[],[],.one .bool,fun x _ _=>gt x.1 x.2.1⟩
theorem e42 (lp:Lp) (jn:Jn) (fx:t78):∀(x:TsS c42.as) (F:TsF c42.fs) (y:TsS c42.cs),pJ lp jn fx x.1 x.2.1=bM lp jn (cx [(78,k78 fx)] [(32,r32),(92,r92),(112,bn)]) ak 4 42 f42 c42 x F y:=fun x F y=>by kernel_rfl
theorem WV:c42.ok prog 42:=Ctr.of_den (ap (af (q32) (by kernel_rfl) Wl)) aE (hl:=ak) (d:=4) func42 rfl (by decide) (e42 lpK jnK fx)
def oq (lp:Lp) (_:Jn) (eL:t39) (bj:t40) (dL:t41) (gt:t42) (x0:(List (ByteArray×Int))×List (ByteArray×(List (ByteArray×Int×Int×Int))×Bool)):Option Bool :=
 
 let v3:Bool:=decide ((↑x0.1.length:Int)<1);
 let v4:Bool:=!v3;
 let v5:Bool:=bif v3 then true else decide ((↑x0.1.length:Int)>6);
 let v6:Bool:=!v4||v4;
 let v7:Bool:=!v5;
 let v8:Bool:=bif v5 then true else decide ((↑x0.2.length:Int)<1);
 let v9:Bool:=!v8;
 let v10:Bool:=!v7||v7;
 let v11:Bool:=!v9||v9;bif v6 then bif v6 then bif v6 then bif v3||v4 then bif v10 then bif v10 then bif v10 then bif v5||v7 then bif v11 then bif v11 then bif v11 then bif v8 || v9 then bif bif v8 then true else decide ((↑x0.2.length:Int)>6) then some false else lp (Int×PUnit) Bool (fun (again:Int×PUnit->Option Bool) (x:Int × PUnit)=>bif decide (x.1<(↑x0.1.length:Int)) then bif inB x.1 x0.1.length then ah (eL (x0.1.getD x.1.toNat ({ data:={ toList := [] } },0)).1) fun (t:Bool) =>
 let v15:Bool:=!t;
 let v16:Bool:=!v15;
 let v17:Bool:=!v16||v16;
 let v18:Bool:=v17&&v17;bif v17 then bif v18 then ah (bif v16 then bj x0 (x0.1.getD x.1.toNat ({ data:={ toList:=[] } },0)).1 else some 0) fun (t:Int) =>
 let v20:Bool:=bif v15 then true else !decide (t=x.1);
 let v21:Bool:=!v20;
 let v22:Bool:=!v21||v21;
 let v23:Bool:=bif v20 then true else decide ((x0.1.getD x.1.toNat ({ data:={ toList:=[] } },0)).2<0);
 let v24:Bool:=!v23;
 let v25:Bool:=!v24||v24;bif v18 then bif v15||v16 then bif v22 then bif v22 then bif v20||v21 then bif v25 then bif v25 then bif v23||v24 then bif bif v23 then true else decide ((x0.1.getD x.1.toNat ({ data:={ toList:=[] } },0)).2>16777216) then some false else again (IntKind.wrap .i64 (x.1+1), PUnit.unit) else none else none else none else none else none else none else none else none else none else none else none else lp (Int×Int×PUnit) Bool (fun (again:Int×Int × PUnit->Option Bool) (x:Int×Int×PUnit) =>
 let v16:Int×PUnit:=(IntKind.wrap .i64 (x.2.1+1),PUnit.unit);
 let v17:ByteArray×List (ByteArray×Int×Int×Int)×Bool:=x0.2.getD x.2.1.toNat ({ data:={ toList:=[] } },[],false);bif decide (x.2.1<(↑x0.2.length:Int)) then bif inB x.2.1 x0.2.length then ah (eL v17.1) fun (t:Bool) =>
 let v19:Bool:=!t;
 let v20:Bool:=!v19;
 let v21:Bool:=!v20||v20;
 let v22:Bool:=v21&&v21;bif v21 then bif v22 then ah (bif v20 then dL x0 v17.1 else some 0) fun (t:Int) =>
 let v24:Bool:=bif v19 then true else !decide (t=x.2.1);
 let v25:Bool:=!v24;
 let v26:Bool:=!v25||v25;bif v22 then bif v19||v20 then bif v26 then bif v26&&v26 then ah (bif v25 then bj x0 v17.1 else some 0) fun (t:Int) =>
 let v28:Bool:=bif v24 then true else decide (t>=0);
 let v29:Bool:=!v28;
 let v30:Bool:=!v29||v29;bif v26 then bif v24||v25 then bif v30&&v30 then ah (bif v29 then gt x0 v17 else some false) fun (t:Bool)=>bif v30 then bif v28||v29 then bif bif v28 then true else !t then some false else bif v17.2.2 then again (IntKind.wrap .i64 (x.1+1),v16) else again (x.1,v16) else none else none else none else none else none else none else none else none else none else none else none else none else some (decide (x.1<=1))) (0,0,PUnit.unit)) (0, PUnit.unit) else none else none else none else none else none else none else none else none else none else none else none else none
def aZ (x0:(List (ByteArray×Int))×List (ByteArray×(List (ByteArray×Int×Int×Int))×Bool)):Option Bool:=oq lpK jnK eL bj dL gt x0
abbrev t14:=((List (ByteArray×Int))×List (ByteArray×(List (ByteArray×Int×Int×Int))×Bool))->Option (Bool)
def k14 (aZ:t14):Ctr:=⟨[T25],[],[],.one .bool,fun x _ _=>aZ x.1⟩
def c14:Ctr:=k14 aZ
theorem e14 (lp:Lp) (jn:Jn) (eL:t39) (bj:t40) (dL:t41) (gt:t42):∀(x:TsS c14.as) (F:TsF c14.fs) (y:TsS c14.cs),oq lp jn eL bj dL gt x.1=bM lp jn (cx [(42,⟨[T25,T72],[],[],.one .bool,fun x _ _=>gt x.1 x.2.1⟩),(41,⟨[T25,.str],[],[],.one i64,fun x _ _=>dL x.1 x.2.1⟩),(40,k40 bj),(39,⟨[.str],[],[],.one .bool,fun x _ _=>eL x.1⟩)] [(32,r32),(92,r92),(112,bn)]) ak 4 14 f14 c14 x F y:=fun x F y=>by kernel_rfl
theorem Wm:c14.ok prog 14:=Ctr.of_den (ap (af (af (af (af (q32) (by kernel_rfl) WI) (by kernel_rfl) VN) (by kernel_rfl) VU) (by kernel_rfl) WV)) aE (hl:=ak) (d:=4) func14 rfl (by decide) (e14 lpK jnK eL bj dL gt)
def BR (_:Lp) (_:Jn) (x0:Int):Option Int :=
 some (if IntKind.wrap .i64 (0 - x0)>x0 then IntKind.wrap .i64 (0 - x0) else x0)
def mP (x0:Int):Option Int:=BR lpK jnK x0
abbrev WO:=(Int)->Option (Int)
def wY (lp:Lp) (_:Jn) (mP:WO) (x0:(List Int)×List ((List Int)×Int×Int)):Option (List Int) :=
 lp (Int×Int×PUnit) (List Int) (fun (again:Int×Int×PUnit->Option (List Int)) (x:Int×Int×PUnit)=>bif decide (x.2.1<(↑x0.1.length:Int)) then bif inB x.2.1 x0.1.length then ah (mP (x0.1.getD x.2.1.toNat 0)) fun (t:Int)=>again (IntKind.wrap .i64 (x.1+t),IntKind.wrap IntKind.i64 (x.2.1+1),PUnit.unit) else none else lp (List Int×Int×PUnit) (List Int) (fun (again:List Int×Int×PUnit->Option (List Int)) (x:List Int×Int × PUnit) =>
 let v7:Bool:=inB x.2.1 x0.2.length;
 let v8:List Int×Int×Int:=x0.2.getD x.2.1.toNat ([],0,0);bif decide (x.2.1<(↑x0.2.length:Int)) then bif v7 then ah (mP v8.2.2) fun (t:Int)=>lp (Int×Int×PUnit) (List Int) (fun (again_1:Int×Int×PUnit->Option (List Int)) (x_1:Int×Int×PUnit)=>bif decide (x_1.2.1 < (↑x0.1.length:Int)) then bif v7 then bif inB x_1.2.1 v8.1.length then ah (mP (v8.1.getD x_1.2.1.toNat 0)) fun (t:Int) => again_1 (IntKind.wrap .i64 (x_1.1+t),IntKind.wrap .i64 (x_1.2.1+1),PUnit.unit) else none else none else bif dQ (List.length x.1+1) (8 : Nat) then again (x.1++[x_1.1],IntKind.wrap .i64 (x.2.1+1),PUnit.unit) else none) (IntKind.wrap .i64 (1+t),0,PUnit.unit) else none else some x.1) ([x.1],0,PUnit.unit)) (1,0,PUnit.unit)
def oj (x0:(List Int)×List ((List Int)×Int×Int)):Option (List Int):=wY lpK jnK mP x0
abbrev t79:=((List Int)×List ((List Int)×Int×Int))->Option (List Int)
end
end Go.Proofs.YtegbncajloeepaaGreat
