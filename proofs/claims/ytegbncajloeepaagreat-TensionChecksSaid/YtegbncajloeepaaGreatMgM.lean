/- r50: the shapes of its types, and the places of its loops. r50: what its functions answer (printed by a program), and that they do. r50: what its functions answer (printed by a program), and that they do; part 2. -/
import Derived.Test.YtegbncajloeepaaGreatProg
import Derived.KernelRfl
import Derived.Test.YtegbncajloeepaaGreatMgL

namespace Go.Proofs.YtegbncajloeepaaGreat
open Tryz Dn Dn.Sh
abbrev i64:Sh:=.int .i64
abbrev T45:Sh:=.agg (.pair .str i64)
abbrev T47:Sh:=.agg (.pair i64 i64)
abbrev T74:Sh:=.agg (.pair .str (.pair i64 T47))
abbrev T72:Sh:=.agg (.pair .str (.pair (.sl T74) .bool))
abbrev T25:Sh:=.agg (.pair (.sl T45) (.sl T72))
abbrev T30:Sh:=.agg (.pair (.sl T47) (.pair .bool (.sl T47)))
abbrev Ce:Sh:=.agg (.pair (.sl i64) (.pair i64 i64))
abbrev T82:Sh:=.agg (.pair (.sl i64) (.sl Ce))
abbrev T94:Sh:=.agg (.pair T47 (.pair (.sl T47) (.sl T47)))
abbrev nC:Sh:=.agg (.pair (.int .u64) (.int .u64))
abbrev G4:Sh:=.agg (.pair (.sl (.sl i64)) (.pair i64 (.pair (.sl i64) (.pair (.sl i64) (.pair (.sl i64) (.pair i64 i64))))))
abbrev P6:Sh:=.agg i64
abbrev ia:Sh:=.agg (.pair (.int .u64) (.int .u64))
abbrev tN:Sh:=.agg (.pair .bool (.pair (.int .u64) (.int .u64)))
def shs:TypeId->Option Sh
 | 3=>some i64
 | 4=>some .bool
 | 5=>some (.int .u8)
 | 9=>some .str
 | 28=>some (.sl T47)
 | 45=>some T45
 | 47=>some T47
 | 72=>some T72
 | 74=>some T74
 | 79=>some (.sl i64)
 | 124=>some Ce
 | _=>none
def Mn:Nat->Option Hd
 | 3=>some ⟨[(3,false,[.d i64]),(11,false,[.d i64])],[],[]⟩
 | 11=>some ⟨[(6,false,[.row 47 T47]),(27,false,[.d i64])],[],[]⟩
 | _=>none
def L4:Nat->Option Hd
 | 2=>some ⟨[(3,false,[.d i64])],[],[]⟩
 | _=>none
def K1:Nat->Option Hd
 | 2=>some ⟨[(8,false,[.d i64])],[],[]⟩
 | _=>none
def Nb:Nat->Option Hd
 | 1=>some ⟨[(0,false,[.d (.int .u64)]),(1,false,[.d (.int .u64)])],[],[]⟩
 | _=>none
def Nf:Nat->Option Hd
 | 5=>some ⟨[(17,false,[.d i64])],[],[]⟩
 | _=>none
def Mq:Nat->Option Hd
 | 6=>some ⟨[(27,false,[.d i64])],[],[(3,some 0,.x (.map 133 .str .bool))]⟩
 | 13=>some ⟨[(7,false,[.d i64]),(46,false,[.d i64])],[],[(3,some 0,.x (.map 133 .str .bool))]⟩
 | _=>none
def NC:Nat->Option Hd
 | 5=>some ⟨[(20,false,[.d i64])],[],[(4,none,.x (.tab 79 .ref 3 i64))]⟩
 | 10=>some ⟨[(34,false,[.d i64])],[],[(4,none,.x (.tab 79 .ref 3 i64))]⟩
 | 13=>some ⟨[(42,false,[.d i64])],[],[(4,none,.x (.tab 79 .ref 3 i64))]⟩
 | _=>none
def NJ:Nat->Option Hd
 | 5=>some ⟨[(4,false,[.row 3 i64]),(13,false,[.d i64])],[],[]⟩
 | _=>none
def Oi:Nat->Option Hd
 | 9=>some ⟨[(34,false,[.d i64])],[(9,[.d (.sl i64),.row 124 Ce])],[]⟩
 | _=>none
def M8:Nat->Option Hd
 | 8=>some ⟨[(8,false,[.d i64])],[],[(7,none,.row 3 i64)]⟩
 | _=>none
def OB:Nat->Option Hd
 | 1000002=>some ⟨[],[],[]⟩
 | 1000005=>some ⟨[],[],[]⟩
 | _=>none
def HZ:Nat->Option Hd
 | 2=>some ⟨[(8,false,[.d i64])],[],[]⟩
 | _=>none
def Lo:Nat->Option Hd
 | 2=>some ⟨[(8,false,[.d i64])],[],[]⟩
 | _=>none
def Ie:Nat->Option Hd
 | 3=>some ⟨[(5,false,[.d i64]),(14,false,[.d i64])],[],[]⟩
 | _=>none
def Jj:Nat->Option Hd
 | 5=>some ⟨[(3,false,[.d i64]),(4,false,[.d i64])],[],[]⟩
 | _=>none
def LI:Nat->Option Hd
 | 1000002=>some ⟨[],[],[]⟩
 | _=>none
def L3:Nat->Option Hd
 | 4=>some ⟨[(4,false,[.row 3 i64]),(18,false,[.d i64])],[],[]⟩
 | 10=>some ⟨[(7,false,[.d i64]),(34,false,[.d i64])],[],[]⟩
 | _=>none
def I4:Nat->Option Hd
 | 4=>some ⟨[(5,false,[.d i64]),(24,false,[.d i64])],[],[]⟩
 | 12=>some ⟨[(9,false,[.d i64]),(51,false,[.d i64])],[(46,[.x (.tab 79 .ref 3 i64),.d i64,.row 3 i64,.row 3 i64,.row 3 i64,.d i64,.d i64])],[]⟩
 | 28=>some ⟨[(95,false,[.d i64])],[],[(12,none,.row 3 i64)]⟩
 | _=>none
def Hy:Nat->Option Hd
 | 1000019=>some ⟨[(9,false,[.d i64])],[],[(12,none,.row 3 i64)]⟩
 | 1000022=>some ⟨[(9,false,[.d i64])],[],[(12,none,.row 3 i64)]⟩
 | 1000026=>some ⟨[(13,false,[.d i64])],[],[(12,none,.row 3 i64)]⟩
 | _=>none
def Jz:Nat->Option Hd
 | 3=>some ⟨[(5,false,[.d i64]),(13,false,[.d i64])],[],[]⟩
 | _=>none
def L0:Nat->Option Hd
 | 1000008=>some ⟨[(10,false,[.d .bool])],[(2,[.d tN]),(3,[.d tN])],[]⟩
 | _=>none
def IT:Nat->Option Hd
 | 1000002=>some ⟨[(0,false,[.d (.int .u64)]),(2,false,[.d i64])],[],[]⟩
 | 1000005=>some ⟨[(0,false,[.d (.int .u64)]),(2,false,[.d i64])],[],[]⟩
 | _=>none
def Ji:Nat->Option Hd
 | 17=>some ⟨[(15,false,[.d (.int .u64)]),(16,false,[.d (.int .u64)])],[],[]⟩
 | 24=>some ⟨[(16,false,[.d (.int .u64)]),(18,false,[.d (.int .u64)])],[],[]⟩
 | _=>none
def IB:Nat->Option Hd
 | 0=>some ⟨[(15,false,[.d (.int .u64)])],[],[]⟩
 | 2=>some ⟨[(18,false,[.d (.int .u64)])],[],[]⟩
 | 1000002=>some ⟨[],[],[]⟩
 | 1000004=>some ⟨[],[],[]⟩
 | _=>none
def IA:Nat->Option Hd
 | 2=>some ⟨[(29,false,[.d i64])],[],[(0,some 0,.x (.tab 79 .ref 3 i64))]⟩
 | 7=>some ⟨[(43,false,[.d i64])],[],[(0,some 0,.x (.tab 79 .ref 3 i64))]⟩
 | 17=>some ⟨[(98,false,[.d i64])],[],[(0,some 0,.x (.tab 79 .ref 3 i64))]⟩
 | 20=>some ⟨[(104,false,[.d i64])],[],[(0,some 0,.x (.tab 79 .ref 3 i64))]⟩
 | _=>none
def JB:Nat->Option Hd
 | 3=>some ⟨[(5,false,[.d i64]),(14,false,[.d i64])],[],[]⟩
 | _=>none
def KJ:Nat->Option Hd
 | 1=>some ⟨[],[(0,[.x (.tab 79 .ref 3 i64),.d i64,.row 3 i64,.row 3 i64,.row 3 i64,.d i64,.d i64])],[]⟩
 | 3=>some ⟨[(3,false,[.d i64]),(4,false,[.d i64])],[],[]⟩
 | 12=>some ⟨[(44,false,[.d i64])],[(0,[.x (.tab 79 .ref 3 i64),.d i64,.row 3 i64,.row 3 i64,.row 3 i64,.d i64,.d i64])],[]⟩
 | 15=>some ⟨[(6,false,[.d i64])],[(0,[.x (.tab 79 .ref 3 i64),.d i64,.row 3 i64,.row 3 i64,.row 3 i64,.d i64,.d i64])],[]⟩
 | _=>none
def Jw:Nat->Option Hd
 | 3=>some ⟨[(5,false,[.d i64]),(21,false,[.d i64])],[],[]⟩
 | _=>none
def H4:Nat->Option Hd
 | 1=>some ⟨[],[(0,[.x (.tab 79 .ref 3 i64),.d i64,.row 3 i64,.row 3 i64,.row 3 i64,.d i64,.d i64])],[]⟩
 | 3=>some ⟨[(3,false,[.d i64]),(4,false,[.d i64])],[],[]⟩
 | _=>none
def MY:Nat->Option Hd
 | 14=>some ⟨[(6,false,[.d i64]),(43,false,[.d i64])],[],[(7,none,.row 3 i64)]⟩
 | 22=>some ⟨[(94,false,[.d i64])],[(5,[.d T47,.row 47 T47,.row 47 T47])],[]⟩
 | 27=>some ⟨[(110,false,[.d i64])],[(5,[.d T47,.row 47 T47,.row 47 T47])],[]⟩
 | 31=>some ⟨[(13,false,[.d i64]),(118,false,[.d i64])],[],[]⟩
 | _=>none
def Nr:Nat->Option Hd
 | 10=>some ⟨[(5,false,[.row 47 T47]),(20,false,[.d i64])],[],[]⟩
 | _=>none
def Nv:Nat->Option Hd
 | 4=>some ⟨[(13,false,[.d i64])],[],[]⟩
 | _=>none
def NB:Nat->Option Hd
 | 2=>some ⟨[(8,false,[.d i64])],[],[]⟩
 | _=>none
def Io:Nat->Option Hd
 | 1000002=>some ⟨[],[],[]⟩
 | _=>none
def HU:Nat->Option Hd
 | 1000008=>some ⟨[(9,false,[.d .bool])],[(10,[.d nC])],[]⟩
 | 1000010=>some ⟨[(9,false,[.d .bool])],[(10,[.d nC])],[]⟩
 | _=>none
def Iq:Nat->Option Hd
 | 3=>some ⟨[(15,false,[.d i64])],[(0,[.d P6]),(6,[.d T47]),(7,[.d T47])],[]⟩
 | _=>none
def Jd:Nat->Option Hd
 | 1000007=>some ⟨[(11,false,[.d i64])],[(10,[.d T47])],[]⟩
 | _=>none
def J2:Nat->Option Hd
 | 1000009=>some ⟨[],[(6,[.d nC]),(7,[.d nC])],[]⟩
 | _=>none
def LQ:Nat->Option Hd
 | 3=>some ⟨[(5,false,[.row 3 i64]),(11,false,[.d i64])],[],[]⟩
 | _=>none
def JE:Nat->Option Hd
 | 3=>some ⟨[(9,false,[.d .bool]),(14,false,[.d i64])],[(0,[.d P6])],[]⟩
 | _=>none
def Kq:Nat->Option Hd
 | 3=>some ⟨[(3,false,[.row 3 i64]),(9,false,[.d i64])],[],[]⟩
 | _=>none
def IW:Nat->Option Hd
 | 2=>some ⟨[(10,false,[.d i64])],[],[]⟩
 | _=>none
def N1:Nat->Option Hd
 | 7=>some ⟨[(8,false,[.row 47 T47]),(9,false,[.d i64]),(25,false,[.d i64])],[],[]⟩
 | 11=>some ⟨[(31,false,[.d i64])],[(11,[.d T47])],[]⟩
 | _=>none
def NF:Nat->Option Hd
 | 1000004=>some ⟨[(8,false,[.d i64])],[],[]⟩
 | _=>none
def Oc:Nat->Option Hd
 | 2=>some ⟨[(0,false,[.row 5 (.int .u8)]),(7,false,[.d i64])],[],[]⟩
 | _=>none
def Mu:Nat->Option Hd
 | 3=>some ⟨[(3,false,[.d (.int .u32)]),(8,false,[.d i64])],[],[]⟩
 | _=>none
def No:Nat->Option Hd
 | 12=>some ⟨[(6,false,[.row 5 (.int .u8)]),(36,false,[.d i64])],[],[]⟩
 | _=>none
def Oz:Nat->Option Hd
 | 1000010=>some ⟨[],[],[(6,none,.row 5 (.int .u8))]⟩
 | _=>none
def NR:Nat->Option Hd
 | 4=>some ⟨[(3,false,[.d i64])],[],[]⟩
 | 9=>some ⟨[(4,false,[.d i64])],[],[]⟩
 | 14=>some ⟨[(5,false,[.d i64])],[],[]⟩
 | _=>none
def Od:Nat->Option Hd
 | 1=>some ⟨[(1,false,[.d i64])],[],[]⟩
 | _=>none
def Ox:Nat->Option Hd
 | 2=>some ⟨[(5,false,[.d i64])],[],[]⟩
 | _=>none
def Ou:Nat->Option Hd
 | 2=>some ⟨[(5,false,[.d i64])],[],[]⟩
 | _=>none
def J6:Nat->Option Hd
 | 4=>some ⟨[(5,false,[.d i64])],[(2,[.d ia]),(3,[.d ia])],[]⟩
 | 6=>some ⟨[],[(2,[.d ia]),(3,[.d ia])],[]⟩
 | 7=>some ⟨[],[(2,[.d ia])],[]⟩
 | 9=>some ⟨[],[(3,[.d ia])],[]⟩
 | 14=>some ⟨[(5,false,[.d i64])],[(3,[.d ia])],[]⟩
 | _=>none
def MH:Nat->Option Hd
 | 4=>some ⟨[(5,false,[.d i64])],[],[]⟩
 | _=>none
def MJ:Nat->Option Hd
 | 4=>some ⟨[(3,false,[.d i64])],[],[]⟩
 | 11=>some ⟨[(5,false,[.d i64]),(6,false,[.d i64])],[],[]⟩
 | _=>none
def MX:Nat->Option Hd
 | 3=>some ⟨[(3,false,[.d i64]),(4,false,[.d i64])],[],[]⟩
 | 8=>some ⟨[(5,false,[.row 3 i64]),(6,false,[.d i64])],[],[]⟩
 | 12=>some ⟨[(7,false,[.d i64]),(8,false,[.d i64])],[],[]⟩
 | _=>none
def Mp:Nat->Option Hd
 | 3=>some ⟨[(6,false,[.d i64]),(7,false,[.d i64])],[],[]⟩
 | _=>none
def MU:Nat->Option Hd
 | 5=>some ⟨[(6,false,[.d i64]),(7,false,[.d i64])],[],[]⟩
 | _=>none
def LV:Nat->Option Hd
 | 3=>some ⟨[(5,false,[.d i64]),(6,false,[.d i64])],[],[]⟩
 | _=>none
def Np:Nat->Option Hd
 | 3=>some ⟨[(3,false,[.x (.tab 79 .ref 3 i64)]),(4,false,[.d i64])],[],[]⟩
 | 7=>some ⟨[(5,false,[.row 3 i64]),(6,false,[.d i64])],[],[]⟩
 | _=>none
def ML:Nat->Option Hd
 | 4=>some ⟨[(7,false,[.d i64])],[(5,[.d (.sl i64),.row 124 Ce])],[]⟩
 | _=>none
def Mz:Nat->Option Hd
 | 3=>some ⟨[(3,false,[.row 3 i64]),(4,false,[.d i64])],[],[]⟩
 | _=>none
def Nt:Nat->Option Hd
 | 2=>some ⟨[(3,false,[.d i64])],[],[]⟩
 | _=>none
def Ib:Nat->Option Hd
 | 5=>some ⟨[(8,false,[.d i64])],[(2,[.d ia]),(6,[.d ia]),(7,[.d ia])],[]⟩
 | _=>none
def NT:Nat->Option Hd
 | 3=>some ⟨[(7,false,[.d i64])],[(4,[.d T47]),(6,[.d T47])],[]⟩
 | _=>none
def Ki:Nat->Option Hd
 | 3=>some ⟨[(5,false,[.row 3 i64]),(6,false,[.d i64])],[],[]⟩
 | _=>none
def Om:Nat->Option Hd
 | 3=>some ⟨[(8,false,[.d .bool]),(9,false,[.d i64])],[],[]⟩
 | _=>none
def Mo:Nat->Option Hd
 | 3=>some ⟨[(3,false,[.row 3 i64]),(4,false,[.d i64])],[],[]⟩
 | _=>none
def Na:Nat->Option Hd
 | 2=>some ⟨[(5,false,[.d i64])],[],[]⟩
 | _=>none
def LX:Nat->Option Hd
 | 3=>some ⟨[(7,false,[.d i64])],[(4,[.d T47]),(6,[.d T47])],[]⟩
 | _=>none
def Oy:Nat->Option Hd
 | 7=>some ⟨[(8,false,[.row 47 T47]),(9,false,[.d i64])],[],[]⟩
 | _=>none
def OD:Nat->Option Hd
 | 5=>some ⟨[(8,false,[.d i64])],[],[]⟩
 | _=>none
def NW:Nat->Option Hd
 | 18=>some ⟨[(9,false,[.d .bool]),(10,false,[.d i64])],[],[]⟩
 | _=>none
def MQ:Nat->Option Hd
 | 1000009=>some ⟨[(8,false,[.d i64])],[],[]⟩
 | _=>none
def Oe:Nat->Option Hd
 | 3=>some ⟨[(4,false,[.d i64])],[(3,[.row 45 T45,.row 72 T72])],[]⟩
 | _=>none
def Qe:Nat->Option Hd
 | 10=>some ⟨[(45,false,[.d i64])],[],[(7,some 0,.row 45 T45)]⟩
 | 20=>some ⟨[(69,false,[.d i64])],[(9,[.row 47 T47,.d .bool,.d (.sl T47)])],[]⟩
 | _=>none
def QY:Nat->Option Hd
 | 1000018=>some ⟨[],[(9,[.row 47 T47,.d .bool,.d (.sl T47)])],[]⟩
 | _=>none
def NQ:Nat->Option Hd
 | 2=>some ⟨[(0,false,[.row 5 (.int .u8)]),(7,false,[.d i64])],[],[]⟩
 | _=>none
def Nk:Nat->Option Hd
 | 3=>some ⟨[(3,false,[.d i64]),(4,false,[.d i64])],[],[]⟩
 | _=>none
def OP:Nat->Option Hd
 | 11=>some ⟨[(6,false,[.row 5 (.int .u8)]),(7,false,[.d i64])],[],[]⟩
 | _=>none
def Oj:Nat->Option Hd
 | 1000009=>some ⟨[],[],[(6,none,.row 5 (.int .u8))]⟩
 | _=>none
def OS:Nat->Option Hd
 | 4=>some ⟨[(13,false,[.d i64])],[],[]⟩
 | _=>none
def Nz:Nat->Option Hd
 | 4=>some ⟨[(5,false,[.d i64])],[],[]⟩
 | _=>none
def Ol:Nat->Option Hd
 | 3=>some ⟨[(3,false,[.d i64]),(8,false,[.d i64])],[],[]⟩
 | _=>none
def NN:Nat->Option Hd
 | 12=>some ⟨[(5,false,[.row 47 T47]),(6,false,[.d i64])],[(2,[.d T30])],[]⟩
 | _=>none
def Oq:Nat->Option Hd
 | 3=>some ⟨[(3,false,[.d i64]),(4,false,[.d i64])],[],[]⟩
 | _=>none
def NO:Nat->Option Hd
 | 12=>some ⟨[(5,false,[.row 47 T47]),(6,false,[.d i64])],[],[]⟩
 | _=>none
def Ka:Nat->Option Hd
 | 2=>some ⟨[(8,false,[.d i64])],[],[]⟩
 | _=>none
def Ku:Nat->Option Hd
 | 1000007=>some ⟨[(12,false,[.d (.int .u64)]),(13,false,[.d (.int .u64)]),(18,false,[.d .bool])],[],[]⟩
 | 1000008=>some ⟨[(12,false,[.d (.int .u64)]),(13,false,[.d (.int .u64)]),(14,false,[.d (.int .u64)]),(15,false,[.d (.int .u64)]),(18,false,[.d .bool])],[],[]⟩
 | _=>none
def Ik:Nat->Option Hd
 | 3=>some ⟨[(20,false,[.d i64])],[(5,[.x (.tab 79 .ref 3 i64),.d i64,.row 3 i64,.row 3 i64,.d .bool])],[]⟩
 | 9=>some ⟨[(40,false,[.d i64])],[(5,[.x (.tab 79 .ref 3 i64),.d i64,.row 3 i64,.row 3 i64,.d .bool])],[]⟩
 | 14=>some ⟨[(10,false,[.d i64]),(11,false,[.d i64])],[],[]⟩
 | 19=>some ⟨[(10,false,[.d i64])],[(5,[.x (.tab 79 .ref 3 i64),.d i64,.row 3 i64,.row 3 i64,.d .bool])],[]⟩
 | 26=>some ⟨[(130,false,[.d i64])],[],[(5,some 0,.x (.tab 79 .ref 3 i64))]⟩
 | 31=>some ⟨[(144,false,[.d i64])],[],[(5,some 0,.x (.tab 79 .ref 3 i64))]⟩
 | _=>none
def Ni:Nat->Option Hd
 | 10=>some ⟨[(7,false,[.x (.tab 79 .ref 3 i64)]),(37,false,[.d i64])],[],[]⟩
 | 16=>some ⟨[(64,false,[.d i64])],[],[]⟩
 | 25=>some ⟨[(13,false,[.row 47 T47]),(80,false,[.d i64])],[],[]⟩
 | _=>none
def Q6:Nat->List Nat
 | 2000014=>[7]
 | _=>[]
def aj:FuncId->Hint
 | 92=>{loop:=Mn}
 | 127=>{loop:=L4}
 | 154=>{loop:=K1}
 | 59=>{loop:=Nb}
 | 91=>{loop:=Nf}
 | 50=>{loop:=Mq}
 | 72=>{loop:=NC}
 | 73=>{loop:=NJ}
 | 97=>{loop:=Oi}
 | 98=>{loop:=M8,join:=OB}
 | 174=>{loop:=HZ}
 | 175=>{loop:=Lo}
 | 146=>{loop:=Ie}
 | 148=>{loop:=Jj,join:=LI}
 | 100=>{loop:=L3}
 | 101=>{loop:=I4,join:=Hy}
 | 106=>{loop:=Jz}
 | 177=>{join:=L0}
 | 194=>{join:=IT}
 | 185=>{loop:=Ji,join:=IB}
 | 149=>{loop:=IA}
 | 150=>{loop:=JB}
 | 102=>{loop:=KJ}
 | 151=>{loop:=Jw}
 | 103=>{loop:=H4}
 | 56=>{loop:=MY}
 | 57=>{loop:=Nr}
 | 36=>{loop:=Nv}
 | 75=>{loop:=NB}
 | 129=>{join:=Io}
 | 171=>{join:=HU}
 | 133=>{loop:=Iq,join:=Jd}
 | 187=>{join:=J2}
 | 170=>{loop:=LQ}
 | 131=>{loop:=JE}
 | 134=>{loop:=Kq}
 | 135=>{loop:=IW}
 | 95=>{loop:=N1}
 | 19=>{join:=NF}
 | 63=>{loop:=Oc}
 | 64=>{loop:=Mu}
 | 25=>{loop:=No,join:=Oz}
 | 12=>{loop:=NR}
 | 77=>{loop:=Od}
 | 40=>{loop:=Ox}
 | 41=>{loop:=Ou}
 | 152=>{loop:=J6}
 | 42=>{loop:=MH}
 | 14=>{loop:=MJ}
 | 79=>{loop:=MX}
 | 80=>{loop:=Mp}
 | 43=>{loop:=MU}
 | 118=>{loop:=LV}
 | 81=>{loop:=Np}
 | 44=>{loop:=ML}
 | 45=>{loop:=Mz}
 | 70=>{loop:=Nt}
 | 186=>{loop:=Ib}
 | 83=>{loop:=NT}
 | 119=>{loop:=Ki}
 | 82=>{loop:=Om}
 | 84=>{loop:=Mo}
 | 86=>{loop:=Na}
 | 124=>{loop:=LX}
 | 87=>{loop:=Oy}
 | 48=>{loop:=OD}
 | 18=>{loop:=NW,join:=MQ}
 | 22=>{loop:=Oe}
 | 6=>{loop:=Qe,join:=QY,thaw:=Q6}
 | 65=>{loop:=NQ}
 | 66=>{loop:=Nk}
 | 26=>{loop:=OP,join:=Oj}
 | 27=>{loop:=OS}
 | 67=>{loop:=Nz}
 | 68=>{loop:=Ol}
 | 29=>{loop:=NN}
 | 69=>{loop:=Oq}
 | 30=>{loop:=NO}
 | 181=>{loop:=Ka}
 | 159=>{join:=Ku}
 | 113=>{loop:=Ik}
 | 74=>{loop:=Ni}
 | _=>{}
def yk (p : String) : Bool := p == "program.go:104" || p == "ref.go:45" || p == "tension.go:104" || p == "ref.go:107"
def ym:TypeId->Option XP
 | 108=>some (.tab 79 .ref 3 i64)
 | 109=>some (.tab 79 .ref 3 i64)
 | _=>none
def sJ:List Nat:=[89,175,144,145,101,149,102,103,129,131]
def its:List (Nat×ICtr):=[]
theorem So:Kz prog its:=Gn
end Go.Proofs.YtegbncajloeepaaGreat

namespace Go.Proofs.YtegbncajloeepaaGreat
noncomputable section
open Tryz Dn Dn.Sh
set_option maxRecDepth 100000
theorem av:prog.follows .mixedOrders=true:=by kernel_rfl
theorem QX:BI prog sJ=true:=by kernel_rfl
theorem q0:(iP prog shs sJ its [] []).ok:=Gr QX So
abbrev cx (l) (r):=xW ym yk (iP prog shs sJ its l r)
def mg (_:Lp) (_:Jn) (x0:List Int):Option (List Int) :=
 bif eQ (0+List.length x0) 8 then some x0 else none
def bo (x0:List Int):Option (List Int):=mg lpK jnK x0
abbrev Km:=(List Int)->Option (List Int)
def QN (bo:Km):RCtr:=⟨[(.sl i64)],3,i64,fun x=>bo x.1⟩
def aJ:RCtr:=QN bo
theorem UF (lp:Lp) (jn:Jn):∀x:TsS aJ.as,mg lp jn x.1=Bw lp jn (cx [] []) aj 4 112 f112 aJ.t aJ.e (yt aJ.as x true):=fun x=>by kernel_rfl
theorem PM:aJ.ok prog 112:=RCtr.of_den_nil (c:=aJ) (al (q0)) av (hl:=aj) (d:=4) rfl func112 rfl (by decide) (UF lpK jnK) fun x h=>by
 obtain ⟨l,u⟩:=x
 simp only at h
 subst h
 kernel_rfl
theorem R4:(iP prog shs sJ its [] [(112,aJ)]).ok:=uG q0 (by kernel_rfl) PM
def iZ (lp:Lp) (jn:Jn) (x0:List (List (Int×Int))):Option (List (Int×Int)) :=
 lp (Int×Int×PUnit) (List (Int×Int)) (fun (again:Int×Int×PUnit->Option (List (Int×Int))) (x:Int×Int×PUnit)=>bif decide (x.2.1<(↑x0.length:Int)) then bif inB x.2.1 x0.length then bif decide (IntKind.wrap .i64 (x.1+(↑(List.length (x0.getD x.2.1.toNat [])):Int))<0) then none else again (IntKind.wrap .i64 (x.1+(↑(List.length (x0.getD x.2.1.toNat [])):Int)),IntKind.wrap .i64 (x.2.1+1),PUnit.unit) else none else jn PUnit (List (Int×Int)) (fun (_:PUnit)=>bif decide (IntKind.wrap .i64 (x.1 - IntKind.wrap .i64 ((↑0:Int) - (↑0:Int)))>0) then bif slB (0 : Int) (↑0:Int) 0 then bif decide (0<IntKind.wrap .i64 (x.1 - IntKind.wrap .i64 ((↑0:Int) - (↑0:Int))))&&eQ (Int.toNat (IntKind.wrap .i64 (x.1 - IntKind.wrap .i64 ((↑0:Int) - (↑0:Int))))) 16 then bif slB 0 (↑0:Int) (Int.toNat (IntKind.wrap IntKind.i64 (x.1 - IntKind.wrap .i64 ((↑0:Int) - (↑0:Int)))))&&decide (0<Int.toNat (IntKind.wrap .i64 (x.1 - IntKind.wrap .i64 ((↑0:Int) - (↑0:Int))))) then lp (List (Int×Int)×Int×PUnit) (List (Int×Int)) (fun (again:List (Int×Int)×Int×PUnit->Option (List (Int×Int))) (x : List (Int×Int)×Int×PUnit) =>
 let v8:List (Int×Int):=x0.getD x.2.1.toNat [];bif decide (x.2.1<(↑x0.length:Int)) then bif inB x.2.1 x0.length then bif eQ (List.length x.1+List.length v8) 16 then again (x.1++v8,IntKind.wrap .i64 (x.2.1+1),PUnit.unit) else none else none else some x.1) (List.take (Int.toNat (↑(0 : Nat):Int)) (List.replicate (Int.toNat (IntKind.wrap .i64 (x.1 - IntKind.wrap .i64 ((↑0:Int) - (↑0:Int))))) (0,0)),0, PUnit.unit) else none else none else none else lp (List (Int×Int)×Int×PUnit) (List (Int×Int)) (fun (again:List (Int×Int)×Int×PUnit->Option (List (Int×Int))) (x:List (Int×Int)×Int×PUnit) =>
 let v8:List (Int×Int):=x0.getD x.2.1.toNat [];bif decide (x.2.1<(↑x0.length:Int)) then bif inB x.2.1 x0.length then bif eQ (List.length x.1+List.length v8) 16 then again (x.1++v8,IntKind.wrap .i64 (x.2.1+1),PUnit.unit) else none else none else some x.1) ([],0, PUnit.unit)) fun (j:PUnit->Option (List (Int×Int)))=>bif decide (x.1<0) then none else j PUnit.unit) (0,0,PUnit.unit)
def cS (x0:List (List (Int×Int))):Option (List (Int×Int)):=iZ lpK jnK x0
abbrev t92:=(List (List (Int×Int)))->Option (List (Int×Int))
def r92:RCtr:=⟨[(.sl (.sl T47))],47,T47,fun x=>cS x.1⟩
theorem e92 (lp:Lp) (jn:Jn):∀x:TsS r92.as,iZ lp jn x.1=Bw lp jn (cx [] [(112,aJ)]) aj 4 92 f92 r92.t r92.e (jj r92.as x 0):=fun x=>by kernel_rfl
theorem RL:r92.ok prog 92:=RCtr.of_den (c:=r92) (al (R4)) av (hl:=aj) (d:=4) func92 rfl (by decide) (e92 lpK jnK)
theorem q92:(iP prog shs sJ its [] [(92,r92),(112,aJ)]).ok:=uG R4 (by kernel_rfl) RL
def mN (_:Lp) (_:Jn) (x0:List Int):Option (List Int) :=
 bif eQ (0+List.length x0) 1 then some x0 else none
def vP (x0:List Int):Option (List Int):=mN lpK jnK x0
def r32:RCtr:=⟨[(.sl (.int .u8))],5,(.int .u8),fun x=>vP x.1⟩
theorem e32 (lp:Lp) (jn:Jn):∀x:TsS r32.as,mN lp jn x.1=Bw lp jn (cx [] [(92,r92),(112,aJ)]) aj 4 32 f32 r32.t r32.e (yt r32.as x true):=fun x=>by kernel_rfl
theorem R1:r32.ok prog 32:=RCtr.of_den_nil (c:=r32) (al (q92)) av (hl:=aj) (d:=4) rfl func32 rfl (by decide) (e32 lpK jnK) fun x h=>by
 obtain ⟨l,u⟩:=x
 simp only at h
 subst h
 kernel_rfl
theorem q32:(iP prog shs sJ its [] [(32,r32),(92,r92),(112,aJ)]).ok:=uG q92 (by kernel_rfl) R1
def kg (_:Lp) (_:Jn) (x0:Int) (x1:Int) (x2:Int):Option Bool :=
 
 let v5:Bool:=decide (x0>=x1);
 let v6:Bool:=!v5||v5;bif v6&&v6 then bif v6 then some (bif v5 then decide (x0<=x2) else false) else none else none
def bf (x0:Int) (x1:Int) (x2:Int):Option Bool:=kg lpK jnK x0 x1 x2
abbrev t88:=(Int)->(Int)->(Int)->Option (Bool)
def k88 (bf:t88):Ctr:=⟨[i64,i64,i64],[],[],.one .bool,fun x _ _=>bf x.1 x.2.1 x.2.2.1⟩
def c88:Ctr:=k88 bf
theorem e88 (lp:Lp) (jn:Jn):∀(x:TsS c88.as) (F:TsF c88.fs) (y:TsS c88.cs),kg lp jn x.1 x.2.1 x.2.2.1=aX lp jn (cx [] [(32,r32),(92,r92),(112,aJ)]) aj 4 88 f88 c88 x F y:=fun x F y=>by kernel_rfl
theorem RY:c88.ok prog 88:=Ctr.of_den (al (q32)) av (hl:=aj) (d:=4) func88 rfl (by decide) (e88 lpK jnK)
def kA (_:Lp) (_:Jn) (x0:Int):Option Bool :=
 
 let v3:Bool:=decide (x0>=97);
 let v4:Bool:=decide (x0>=65);
 let v5:Bool:=!v3||v3;
 let v6:Bool:=bif v3 then decide (x0<=122) else false;
 let v7:Bool:=!v6;
 let v8:Bool:=!v7;
 let v9:Bool:=v7&&v4;
 let v10:Bool:=v8||v7;bif v5 then bif v5 then bif v10 then bif v10 then bif !v9||v9 then bif (v8||v10)&&(v8||(!v4||(v8||v9))) then bif v6||v7 then some (bif v6 then true else bif v4 then decide (x0<=90) else false) else none else none else none else none else none else none else none
def bg (x0:Int):Option Bool:=kA lpK jnK x0
abbrev H2:=(Int)->Option (Bool)
def P8 (bg:H2):Ctr:=⟨[(.int .u8)],[],[],.one .bool,fun x _ _=>bg x.1⟩
def KS:Ctr:=P8 bg
theorem VN (lp:Lp) (jn:Jn):∀(x:TsS KS.as) (F:TsF KS.fs) (y:TsS KS.cs),kA lp jn x.1=aX lp jn (cx [] [(32,r32),(92,r92),(112,aJ)]) aj 4 126 f126 KS x F y:=fun x F y=>by kernel_rfl
theorem Pk:KS.ok prog 126:=Ctr.of_den (al (q32)) av (hl:=aj) (d:=4) func126 rfl (by decide) (VN lpK jnK)
def ln (_:Lp) (_:Jn) (x0:Int):Option Bool :=
 
 let v3:Bool:=decide (x0>=48);
 let v4:Bool:=!v3||v3;bif v4 then bif v4 then some (bif v3 then decide (x0<=57) else false) else none else none
def dN (x0:Int):Option Bool:=ln lpK jnK x0
abbrev Sp:=(Int)->Option (Bool)
def H9:Ctr:=⟨[(.int .u8)],[],[],.one .bool,fun x _ _=>dN x.1⟩
theorem Uc (lp:Lp) (jn:Jn):∀(x:TsS H9.as) (F:TsF H9.fs) (y:TsS H9.cs),ln lp jn x.1=aX lp jn (cx [] [(32,r32),(92,r92),(112,aJ)]) aj 4 166 f166 H9 x F y:=fun x F y=>by kernel_rfl
theorem Rl:H9.ok prog 166:=Ctr.of_den (al (q32)) av (hl:=aj) (d:=4) func166 rfl (by decide) (Uc lpK jnK)
def jm (lp:Lp) (_:Jn) (bg:H2) (dN:Sp) (x0:ByteArray):Option Int :=
 lp (Int×PUnit) Int (fun (again:Int×PUnit->Option Int) (x:Int×PUnit) =>
 let v5:Bool:=inB x.1 (ByteArray.size x0);
 let v6:Int:=fw x0 x.1.toNat;
 let v7:Bool:=decide (x.1<(↑(ByteArray.size x0):Int));
 let v8:Bool:=!v7;
 let v9:Bool:=v8||v7;
 let v10:Bool:=v8||v9;bif v9&&(v9&&(v8||v5)) then bif v9 then ah (bif v7 then bg v6 else some false) fun (t:Bool) =>
 let v12:Bool:=v7&&!t;
 let v13:Bool:=!v12;
 let v14:Bool:=v13||v12;bif v9 then bif v14&&(v14&&(v13||v5)) then bif v14 then ah (bif v12 then dN v6 else some false) fun (t_1:Bool) =>
 let v16:Bool:=bif t then true else t_1;
 let v17:Bool:=v7&&!v16;
 let v18:Bool:=!v17;
 let v19:Bool:=v18||v17;bif v10&&(v8||(t||(v8||v12))) then bif v9 then bif v19&&(v19&&(v18||v5)) then bif v19 then bif v10&&(v8||(v16||(v8||v17))) then bif v9 then bif bif v7 then bif v16 then true else decide (v6=95) else false then again (IntKind.wrap .i64 (x.1+1),PUnit.unit) else some x.1 else none else none else none else none else none else none else none else none else none else none else none) (0,PUnit.unit)
def dy (x0:ByteArray):Option Int:=jm lpK jnK bg dN x0
abbrev S6:=(ByteArray)->Option (Int)
def HR:Ctr:=⟨[.str],[],[],.one i64,fun x _ _=>dy x.1⟩
theorem US (lp:Lp) (jn:Jn) (bg:H2) (dN:Sp):∀(x:TsS HR.as) (F:TsF HR.fs) (y:TsS HR.cs),jm lp jn bg dN x.1=aX lp jn (cx [(166,⟨[(.int .u8)],[],[],.one .bool,fun x _ _=>dN x.1⟩),(126,P8 bg)] [(32,r32),(92,r92),(112,aJ)]) aj 4 127 f127 HR x F y:=fun x F y=>by kernel_rfl
theorem Ts:HR.ok prog 127:=Ctr.of_den (al (aa (aa (q32) (by kernel_rfl) Pk) (by kernel_rfl) Rl)) av (hl:=aj) (d:=4) func127 rfl (by decide) (US lpK jnK bg dN)
def jU (_:Lp) (_:Jn) (bg:H2) (dy:S6) (x0:ByteArray):Option Bool :=
 
 let v3:Bool:=!List.beq (ByteArray.toList x0) (ByteArray.toList { data:=#[] });
 let v4:Bool:=!v3||v3;
 let v5:Bool:=bif v3 then decide ((↑(ByteArray.size x0):Int)<=20) else false;
 let v6:Bool:=!v5;
 let v7:Bool:=v6||v5;bif v4 then bif v4 then bif v4 then bif v7&&(v6||inB 0 (ByteArray.size x0)) then bif v7 then ah (bif v5 then bg (fw x0 0) else some false) fun (t:Bool) =>
 let v9:Bool:=bif v5 then t else false;
 let v10:Bool:=!v9||v9;bif v7 then bif v10 then ah (bif v9 then dy x0 else some 0) fun (t:Int)=>bif v10 then bif v10&&v10 then bif v10 then some (bif v9 then decide (t=(↑(ByteArray.size x0):Int)) else false) else none else none else none else none else none else none else none else none else none else none
def de (x0:ByteArray):Option Bool:=jU lpK jnK bg dy x0
abbrev t90:=(ByteArray)->Option (Bool)
def c90:Ctr:=⟨[.str],[],[],.one .bool,fun x _ _=>de x.1⟩
theorem e90 (lp:Lp) (jn:Jn) (bg:H2) (dy:S6):∀(x:TsS c90.as) (F:TsF c90.fs) (y:TsS c90.cs),jU lp jn bg dy x.1=aX lp jn (cx [(127,⟨[.str],[],[],.one i64,fun x _ _=>dy x.1⟩),(126,P8 bg)] [(32,r32),(92,r92),(112,aJ)]) aj 4 90 f90 c90 x F y:=fun x F y=>by kernel_rfl
theorem T3:c90.ok prog 90:=Ctr.of_den (al (aa (aa (q32) (by kernel_rfl) Pk) (by kernel_rfl) Ts)) av (hl:=aj) (d:=4) func90 rfl (by decide) (e90 lpK jnK bg dy)
def gG (lp:Lp) (_:Jn) (x0:List (ByteArray×Int)) (f0:(((ByteArray×Int)×Unit)->Option Bool)):Option Int :=
 lp (Int×PUnit) Int (fun (again:Int×PUnit->Option Int) (x:Int×PUnit)=>bif decide (x.1<(↑x0.length:Int)) then bif inB x.1 x0.length then ah (f0 (x0.getD x.1.toNat ({ data:={ toList:=[] } },0),PUnit.unit)) fun (t:Bool)=>bif t then some x.1 else again (IntKind.wrap .i64 (x.1+1), PUnit.unit) else none else some (-1)) (0,PUnit.unit)
def bF (x0:List (ByteArray×Int)) (f0:(((ByteArray×Int)×Unit)->Option Bool)):Option Int:=gG lpK jnK x0 f0
abbrev QD:=(List (ByteArray×Int))->((((ByteArray×Int)×Unit)->Option Bool))->Option (Int)
def Ta (bF:QD):Ctr:=⟨[(.sl T45)],[([T45],.bool)],[],.one i64,fun x F _=>bF x.1 F.1⟩
def LR:Ctr:=Ta bF
theorem U8 (lp:Lp) (jn:Jn):∀(x:TsS LR.as) (F:TsF LR.fs) (y:TsS LR.cs),gG lp jn x.1 F.1=aX lp jn (cx [] [(32,r32),(92,r92),(112,aJ)]) aj 4 154 f154 LR x F y:=fun x F y=>by kernel_rfl
theorem Sk:LR.ok prog 154:=Ctr.of_den (al (q32)) av (hl:=aj) (d:=4) func154 rfl (by decide) (U8 lpK jnK)
def ke (_:Lp) (_:Jn) (x0:ByteArray×Int) (y0:ByteArray):Option Bool :=
 some (List.beq (ByteArray.toList x0.1) (ByteArray.toList y0))
def eH (x0:ByteArray×Int) (y0:ByteArray):Option Bool:=ke lpK jnK x0 y0
abbrev SU:=(ByteArray×Int)->(ByteArray)->Option (Bool)
def Mg:Ctr:=⟨[T45],[],[.str],.one .bool,fun x _ y=>eH x.1 y.1⟩
theorem Ul (lp:Lp) (jn:Jn):∀(x:TsS Mg.as) (F:TsF Mg.fs) (y:TsS Mg.cs),ke lp jn x.1 y.1=aX lp jn (cx [] [(32,r32),(92,r92),(112,aJ)]) aj 4 155 f155 Mg x F y:=fun x F y=>by kernel_rfl
theorem Tm:Mg.ok prog 155:=Ctr.of_den (al (q32)) av (hl:=aj) (d:=4) func155 rfl (by decide) (Ul lpK jnK)
def mr (_:Lp) (_:Jn) (bF:QD) (eH:SU) (x0:(List (ByteArray×Int))×List (ByteArray×(List (ByteArray×Int×Int×Int))×Bool)) (x1:ByteArray):Option Int :=
 ah (bF x0.1 fun (x:(ByteArray×Int)×PUnit)=>eH x.1 x1) fun (t:Int)=>some t
def bH (x0:(List (ByteArray×Int))×List (ByteArray×(List (ByteArray×Int×Int×Int))×Bool)) (x1:ByteArray):Option Int:=mr lpK jnK bF eH x0 x1
abbrev KQ:=((List (ByteArray×Int))×List (ByteArray×(List (ByteArray×Int×Int×Int))×Bool))->(ByteArray)->Option (Int)
def QU (bH:KQ):Ctr:=⟨[T25,.str],[],[],.one i64,fun x _ _=>bH x.1 x.2.1⟩
def JC:Ctr:=QU bH
theorem UT (lp:Lp) (jn:Jn) (bF:QD) (eH:SU):∀(x:TsS JC.as) (F:TsF JC.fs) (y:TsS JC.cs),mr lp jn bF eH x.1 x.2.1=aX lp jn (cx [(155,⟨[T45],[],[.str],.one .bool,fun x _ y=>eH x.1 y.1⟩),(154,Ta bF)] [(32,r32),(92,r92),(112,aJ)]) aj 4 109 f109 JC x F y:=fun x F y=>by kernel_rfl
theorem Pu:JC.ok prog 109:=Ctr.of_den (al (aa (aa (q32) (by kernel_rfl) Sk) (by kernel_rfl) Tm)) av (hl:=aj) (d:=4) func109 rfl (by decide) (UT lpK jnK bF eH)
def qc (lp:Lp) (_:Jn) (x0:Int) (x1:Int):Option Int :=
 lp (Int×Int×PUnit) Int (fun (again:Int×Int×PUnit->Option Int) (x:Int×Int×PUnit)=>bif !decide (x.2.1=0) then bif nzB x.2.1 then again (x.2.1, Int.tmod x.1 x.2.1,PUnit.unit) else none else some x.1) (x0,x1,PUnit.unit)
def bi (x0:Int) (x1:Int):Option Int:=qc lpK jnK x0 x1
abbrev t59:=(Int)->(Int)->Option (Int)
def k59 (bi:t59):Ctr:=⟨[(.int .u64),(.int .u64)],[],[],.one (.int .u64),fun x _ _=>bi x.1 x.2.1⟩
def c59:Ctr:=k59 bi
theorem e59 (lp:Lp) (jn:Jn):∀(x:TsS c59.as) (F:TsF c59.fs) (y:TsS c59.cs),qc lp jn x.1 x.2.1=aX lp jn (cx [] [(32,r32),(92,r92),(112,aJ)]) aj 4 59 f59 c59 x F y:=fun x F y=>by kernel_rfl
theorem MI:c59.ok prog 59:=Ctr.of_den (al (q32)) av (hl:=aj) (d:=4) func59 rfl (by decide) (e59 lpK jnK)
def pc (_:Lp) (_:Jn) (x0:Int):Option Int :=
 
 let v3:Int:=IntKind.wrap .u64 x0;bif decide (x0<0) then some (IntKind.wrap .u64 (0 - v3)) else some v3
def ay (x0:Int):Option Int:=pc lpK jnK x0
abbrev t60:=(Int)->Option (Int)
def k60 (ay:t60):Ctr:=⟨[i64],[],[],.one (.int .u64),fun x _ _=>ay x.1⟩
def c60:Ctr:=k60 ay
theorem e60 (lp:Lp) (jn:Jn):∀(x:TsS c60.as) (F:TsF c60.fs) (y:TsS c60.cs),pc lp jn x.1=aX lp jn (cx [] [(32,r32),(92,r92),(112,aJ)]) aj 4 60 f60 c60 x F y:=fun x F y=>by kernel_rfl
theorem HP:c60.ok prog 60:=Ctr.of_den (al (q32)) av (hl:=aj) (d:=4) func60 rfl (by decide) (e60 lpK jnK)
def nA (_:Lp) (_:Jn) (bi:t59) (ay:t60) (x0:Int×Int):Option Bool :=
 
 let v3:Bool:=decide (x0.2>=1);
 let v4:Bool:=!v3||v3;
 let v5:Bool:=bif v3 then decide (x0.2<=1152921504606846976) else false;
 let v6:Bool:=bif v5 then decide (x0.1>=(-1152921504606846976)) else false;
 let v7:Bool:=!v5||v5;
 let v8:Bool:=bif v6 then decide (x0.1<=1152921504606846976) else false;
 let v9:Bool:=!v6||v6;
 let v10:Bool:=!v8||v8;bif v4 then bif v4 then bif v4 then bif v7 then bif v7 then bif v7 then bif v9 then bif v9 then bif v9 then bif v10 then bif v10 then ah (bif v8 then ay x0.1 else some 0) fun (t:Int)=>bif v10 then bif v10 then bif v10&&v10 then ah (bif v8 then bi t (IntKind.wrap .u64 x0.2) else some (0 : Int)) fun (t:Int)=>bif v10 then bif v10 then some (bif v8 then decide (t=1) else false) else none else none else none else none else none else none else none else none else none else none else none else none else none else none else none else none
def ao (x0:Int×Int):Option Bool:=nA lpK jnK bi ay x0
abbrev t58:=(Int×Int)->Option (Bool)
def k58 (ao:t58):Ctr:=⟨[T47],[],[],.one .bool,fun x _ _=>ao x.1⟩
def c58:Ctr:=k58 ao
theorem e58 (lp:Lp) (jn:Jn) (bi:t59) (ay:t60):∀(x:TsS c58.as) (F:TsF c58.fs) (y:TsS c58.cs),nA lp jn bi ay x.1=aX lp jn (cx [(60,k60 ay),(59,k59 bi)] [(32,r32),(92,r92),(112,aJ)]) aj 4 58 f58 c58 x F y:=fun x F y=>by kernel_rfl
theorem CM:c58.ok prog 58:=Ctr.of_den (al (aa (aa (q32) (by kernel_rfl) MI) (by kernel_rfl) HP)) av (hl:=aj) (d:=4) func58 rfl (by decide) (e58 lpK jnK bi ay)
def lk (_:Lp) (_:Jn) (ao:t58) (x0:Int×Int):Option Bool :=
 ah (ao x0) fun (t:Bool) =>
 let v4:Bool:=!t||t;
 let v5:Bool:=bif t then decide (x0.1>=x0.2) else false;
 let v6:Bool:=!v5||v5;bif v4 then bif v4 then bif v4&&v4 then bif v4 then bif v6 then bif v6 then bif v6 then some (bif v5 then decide (x0.1<=100) else false) else none else none else none else none else none else none else none
def eC (x0:Int×Int):Option Bool:=lk lpK jnK ao x0
abbrev Tf:=(Int×Int)->Option (Bool)
def KZ:Ctr:=⟨[T47],[],[],.one .bool,fun x _ _=>eC x.1⟩
theorem U0 (lp:Lp) (jn:Jn) (ao:t58):∀(x:TsS KZ.as) (F:TsF KZ.fs) (y:TsS KZ.cs),lk lp jn ao x.1=aX lp jn (cx [(58,k58 ao)] [(32,r32),(92,r92),(112,aJ)]) aj 4 167 f167 KZ x F y:=fun x F y=>by kernel_rfl
theorem SP:KZ.ok prog 167:=Ctr.of_den (al (aa (q32) (by kernel_rfl) CM)) av (hl:=aj) (d:=4) func167 rfl (by decide) (U0 lpK jnK ao)
def mJ (_:Lp) (_:Jn) (bH:KQ) (eC:Tf) (x0:(List (ByteArray×Int))×List (ByteArray×(List (ByteArray×Int×Int×Int))×Bool)) (x1:ByteArray×Int×Int×Int) (x2:Bool):Option Bool :=
 
 let v5:Bool:=!x2;
 let v6:Bool:=v5||x2;
 let v7:Bool:=decide (x1.2.1=0);
 let v8:Bool:=decide (x1.2.1=1);
 let v9:Bool:=decide (x1.2.1=2);
 let v10:Bool:=!v8;
 let v11:Bool:=!v9;
 let v12:Bool:=bif v9 then true else v7;
 let v13:Bool:=!v10||v10;
 let v14:Bool:=!v11||v11;
 let v15:Bool:=!v12;
 let v16:Bool:=bif x2 then !(decide (x1.2.2.1=1)&&(decide (x1.2.2.2=1)&&true)) else false;
 let v17:Bool:=!v16;
 let v18:Bool:=!v17;
 let v19:Bool:=v17&&v5;
 let v20:Bool:=!v15||v15;
 let v21:Bool:=v18||v17;
 let v22:Bool:=!v19||v19;bif v6 then bif v6&&v6 then bif v6 then bif v21 then bif v21 then bif v22 then bif v22 then ah (bif v19 then eC x1.2.2 else some false) fun (t:Bool)=>bif v22 then bif (v18||v21)&&(v18||(!v5||(v18||v19))) then bif v16||v17 then bif bif v16 then true else bif v5 then !t else false then some false else bif List.beq (ByteArray.toList x1.1) (ByteArray.toList { data:=#[] }) then some v7 else ah (bH x0 x1.1) fun (t:Int)=>bif decide (t<0) then some false else bif x2 then bif v13 then bif v13 then bif v8||v10 then some (bif v8 then true else decide (x1.2.1=(-1))) else none else none else none else bif v14 then bif v14 then bif v9||v11 then bif v20 then bif v20 then bif v12||v15 then some (bif v12 then true else decide (x1.2.1=(-2))) else none else none else none else none else none else none else none else none else none else none else none else none else none else none else none else none
def dV (x0:(List (ByteArray×Int))×List (ByteArray×(List (ByteArray×Int×Int×Int))×Bool)) (x1:ByteArray×Int×Int×Int) (x2:Bool):Option Bool:=mJ lpK jnK bH eC x0 x1 x2
abbrev QA:=((List (ByteArray×Int))×List (ByteArray×(List (ByteArray×Int×Int×Int))×Bool))->(ByteArray×Int×Int×Int)->(Bool)->Option (Bool)
def RN (dV:QA):Ctr:=⟨[T25,T74,.bool],[],[],.one .bool,fun x _ _=>dV x.1 x.2.1 x.2.2.1⟩
def HX:Ctr:=RN dV
theorem VW (lp:Lp) (jn:Jn) (bH:KQ) (eC:Tf):∀(x:TsS HX.as) (F:TsF HX.fs) (y:TsS HX.cs),mJ lp jn bH eC x.1 x.2.1 x.2.2.1=aX lp jn (cx [(167,⟨[T47],[],[],.one .bool,fun x _ _=>eC x.1⟩),(109,QU bH)] [(32,r32),(92,r92),(112,aJ)]) aj 4 128 f128 HX x F y:=fun x F y=>by kernel_rfl
theorem TL:HX.ok prog 128:=Ctr.of_den (al (aa (aa (q32) (by kernel_rfl) Pu) (by kernel_rfl) SP)) av (hl:=aj) (d:=4) func128 rfl (by decide) (VW lpK jnK bH eC)
def me (lp:Lp) (_:Jn) (bf:t88) (dV:QA) (x0:(List (ByteArray×Int))×List (ByteArray×(List (ByteArray×Int×Int×Int))×Bool)) (x1:ByteArray×(List (ByteArray×Int×Int×Int))×Bool):Option Bool :=
 
 let v4:Bool:=!x1.2.2;
 let v5:Bool:=!v4;
 let v6:Bool:=!v5;
 let v7:Int:=IntKind.wrap .i64 ((↑x1.2.1.length:Int) - 1);
 let v8:Bool:=v6||v5;ah (bf (↑x1.2.1.length:Int) 2 10) fun (t:Bool)=>bif !t then some false else lp (Int×PUnit) Bool (fun (again : Int×PUnit->Option Bool) (x:Int×PUnit) =>
 let v12:Bool:=decide (x.1=0);
 let v13:Bool:=!v12;
 let v14:Bool:=!v13||v13;bif decide (x.1<(↑x1.2.1.length:Int)) then bif inB x.1 x1.2.1.length then bif v14 then bif v14&&v14 then bif v12||v13 then ah (dV x0 (x1.2.1.getD x.1.toNat ({ data:={ toList:=[] } },0,0,0)) (bif v12 then true else decide (x.1=v7))) fun (t : Bool)=>bif !t then some false else again (IntKind.wrap .i64 (x.1+1),PUnit.unit) else none else none else none else none else bif v8 then bif v8 then bif v8&&(v8 && (v6||inB v7 x1.2.1.length)) then bif v8 then bif v8 then bif v8 then bif v4||v5 then some (bif v4 then true else List.beq (ByteArray.toList (x1.2.1.getD v7.toNat ({ data:={ toList:=[] } },0,0,0)).1) (ByteArray.toList { data:=#[] })) else none else none else none else none else none else none else none) (0,PUnit.unit)
def fa (x0:(List (ByteArray×Int))×List (ByteArray×(List (ByteArray×Int×Int×Int))×Bool)) (x1:ByteArray×(List (ByteArray×Int×Int×Int))×Bool):Option Bool:=me lpK jnK bf dV x0 x1
abbrev t91:=((List (ByteArray×Int))×List (ByteArray×(List (ByteArray×Int×Int×Int))×Bool))->(ByteArray×(List (ByteArray×Int×Int×Int))×Bool)->Option (Bool)
def c91:Ctr:=⟨[T25,T72],[],[],.one .bool,fun x _ _=>fa x.1 x.2.1⟩
theorem e91 (lp:Lp) (jn:Jn) (bf:t88) (dV:QA):∀(x:TsS c91.as) (F:TsF c91.fs) (y:TsS c91.cs),me lp jn bf dV x.1 x.2.1=aX lp jn (cx [(128,RN dV),(88,k88 bf)] [(32,r32),(92,r92),(112,aJ)]) aj 4 91 f91 c91 x F y:=fun x F y=>by kernel_rfl
theorem VA:c91.ok prog 91:=Ctr.of_den (al (aa (aa (q32) (by kernel_rfl) RY) (by kernel_rfl) TL)) av (hl:=aj) (d:=4) func91 rfl (by decide) (e91 lpK jnK bf dV)
def lm (lp:Lp) (_:Jn) (bf:t88) (de:t90) (fa:t91) (x0:(List (ByteArray×Int))×List (ByteArray×(List (ByteArray×Int×Int×Int))×Bool)):Option Bool :=
 ah (bf (↑x0.1.length:Int) 1 6) fun (t:Bool) =>
 let v4:Bool:=!t;
 let v5:Bool:=!v4;
 let v6:Bool:=!v5||v5;bif v6 then bif v6 then bif v6 then ah (bif v5 then bf (↑x0.2.length:Int) 1 6 else some false) fun (t:Bool)=>bif v6 then bif v4||v5 then bif bif v4 then true else !t then some false else lp (Int×List (ByteArray×Bool)×PUnit) Bool (fun (again:Int×List (ByteArray×Bool)×PUnit->Option Bool) (x:Int×List (ByteArray×Bool)×PUnit) =>
 let v10:ByteArray×Int:=x0.1.getD x.1.toNat ({ data:={ toList:=[] } },0);bif decide (x.1<(↑x0.1.length:Int)) then bif inB x.1 x0.1.length then ah (de v10.1) fun (t:Bool) =>
 let v12:Bool:=!t||t;bif v12&&v12 then bif v12 then bif v12 then bif (!!!bif t then !iu str Sh.bool v10.1 false x.2.1 else false)||!!bif t then !iu str Sh.bool v10.1 false x.2.1 else false then bif (!!!bif t then !iu str Sh.bool v10.1 false x.2.1 else false)||!!bif t then !iu str Sh.bool v10.1 false x.2.1 else false then ah (bif !!bif t then !iu str Sh.bool v10.1 false x.2.1 else false then bf v10.2 0 16777216 else some false) fun (t_1:Bool)=>bif (!!!bif t then !iu str Sh.bool v10.1 false x.2.1 else false)||!!bif t then !iu str Sh.bool v10.1 false x.2.1 else false then bif (!bif t then !iu str Sh.bool v10.1 false x.2.1 else false)||!!bif t then !iu str Sh.bool v10.1 false x.2.1 else false then bif bif !bif t then !iu str Sh.bool v10.1 false x.2.1 else false then true else !t_1 then some false else again (IntKind.wrap .i64 (x.1+1),pT str Sh.bool v10.1 true x.2.1,PUnit.unit) else none else none else none else none else none else none else none else none else lp (Int×Int×List (ByteArray×Bool)×PUnit) Bool (fun (again:Int×Int×List (ByteArray×Bool)×PUnit->Option Bool) (x:Int×Int×List (ByteArray×Bool)×PUnit) =>
 let v13:ByteArray×List (ByteArray×Int×Int×Int)×Bool:=x0.2.getD x.2.1.toNat ({ data:={ toList:=[] } },[],false);bif decide (x.2.1<(↑x0.2.length:Int)) then bif inB x.2.1 x0.2.length then ah (de v13.1) fun (t:Bool) =>
 let v15:Bool:=!t||t;bif v15&&v15 then bif v15 then bif v15 then bif ((!!!bif t then !iu str Sh.bool v13.1 false x.2.2.1 else false)||!!bif t then !iu str Sh.bool v13.1 false x.2.2.1 else false)&&((!!!bif t then !iu str Sh.bool v13.1 false x.2.2.1 else false)||!!bif t then !iu str Sh.bool v13.1 false x.2.2.1 else false) then ah (bif !!bif t then !iu str Sh.bool v13.1 false x.2.2.1 else false then fa x0 v13 else some false) fun (t_1:Bool)=>bif (!!!bif t then !iu str Sh.bool v13.1 false x.2.2.1 else false)||!!bif t then !iu str Sh.bool v13.1 false x.2.2.1 else false then bif (!bif t then !iu str Sh.bool v13.1 false x.2.2.1 else false)||!!bif t then !iu str Sh.bool v13.1 false x.2.2.1 else false then bif bif !bif t then !iu str Sh.bool v13.1 false x.2.2.1 else false then true else !t_1 then some false else bif v13.2.2 then again (IntKind.wrap .i64 (x.1+1),IntKind.wrap .i64 (x.2.1+1),pT str Sh.bool v13.1 true x.2.2.1,PUnit.unit) else again (x.1,IntKind.wrap .i64 (x.2.1+1),pT str Sh.bool v13.1 true x.2.2.1,PUnit.unit) else none else none else none else none else none else none else none else some (decide (x.1<=1))) (0,0,x.2.1,PUnit.unit)) (0,[],PUnit.unit) else none else none else none else none else none
def aN (x0:(List (ByteArray×Int))×List (ByteArray×(List (ByteArray×Int×Int×Int))×Bool)):Option Bool:=lm lpK jnK bf de fa x0
abbrev t50:=((List (ByteArray×Int))×List (ByteArray×(List (ByteArray×Int×Int×Int))×Bool))->Option (Bool)
def k50 (aN:t50):Ctr:=⟨[T25],[],[],.one .bool,fun x _ _=>aN x.1⟩
def c50:Ctr:=k50 aN
theorem e50 (lp:Lp) (jn:Jn) (bf:t88) (de:t90) (fa:t91):∀(x:TsS c50.as) (F:TsF c50.fs) (y:TsS c50.cs),lm lp jn bf de fa x.1=aX lp jn (cx [(91,⟨[T25,T72],[],[],.one .bool,fun x _ _=>fa x.1 x.2.1⟩),(90,⟨[.str],[],[],.one .bool,fun x _ _=>de x.1⟩),(88,k88 bf)] [(32,r32),(92,r92),(112,aJ)]) aj 4 50 f50 c50 x F y:=fun x F y=>by kernel_rfl
theorem QH:c50.ok prog 50:=Ctr.of_den (al (aa (aa (aa (q32) (by kernel_rfl) RY) (by kernel_rfl) T3) (by kernel_rfl) VA)) av (hl:=aj) (d:=4) func50 rfl (by decide) (e50 lpK jnK bf de fa)
def nO (lp:Lp) (_:Jn) (bH:KQ) (aN:t50) (x0:(List (ByteArray×Int))×List (ByteArray×(List (ByteArray×Int×Int×Int))×Bool)):Option ((List (List Int))×Int×Unit) :=
 ah (aN x0) fun (t:Bool)=>bif !t then some ([],1,PUnit.unit) else bif decide (0<=(↑x0.1.length:Int))&&eQ (Int.toNat (↑x0.1.length : Int)) 24 then lp (Int×(List Nat×List (Option (List Int)))×PUnit) (List (List Int)×Int×PUnit) (fun (again:Int×(List Nat×List (Option (List Int)))×PUnit -> Option (List (List Int)×Int×PUnit)) (x:Int×(List Nat×List (Option (List Int)))×PUnit)=>bif decide (x.1<(↑(List.length (Nat.brecOn (motive:=fun (x:Nat)=>Nat->List Nat) (Int.toNat (↑x0.1.length:Int)) (fun (x:Nat) (f:Nat.below (motive:=fun (x:Nat)=>Nat->List (T ref)) x) (x_1:Nat)=>(match (motive:=(x:Nat)->Nat->Nat.below (motive:=fun (x:Nat)=>Nat->List (T ref)) x->List Nat) x,x_1 with | 0,x=>fun (_:PUnit)=>[] | Nat.succ n,k=>fun (x:(Nat->List Nat) ×' Nat.rec PUnit (fun (n:Nat) (n_ih:Type)=>(fun (x:Nat)=>Nat->List (T ref)) n ×' n_ih) n)=>(k+0) ::x.1 (k+1)) f) 0)):Int)) then bif decide (0 <= (↑x0.2.length:Int))&&eQ (Int.toNat (↑x0.2.length:Int)) 8 then bif inB x.1 x.2.1.1.length then bif Nat.ble (Nat.succ x.1.toNat) x.2.1.1.length then again (IntKind.wrap .i64 (x.1+1),(x.2.1.1.set x.1.toNat x.2.1.2.length,x.2.1.2++[some (List.replicate (Int.toNat (↑x0.2.length:Int)) 0)]),PUnit.unit) else none else none else none else lp (Int×(List Nat×List (Option (List Int)))×PUnit) (List (List Int)×Int×PUnit) (fun (again:Int×(List Nat×List (Option (List Int)))×PUnit->Option (List (List Int)×Int×PUnit)) (x:Int×(List Nat×List (Option (List Int))) × PUnit)=>bif decide (x.1<(↑x0.2.length:Int)) then bif inB x.1 x0.2.length then lp (Int×(List Nat×List (Option (List Int)))×PUnit) (List (List Int)×Int × PUnit) (fun (again_1:Int×(List Nat×List (Option (List Int)))×PUnit->Option (List (List Int)×Int×PUnit)) (x_1:Int×(List Nat×List (Option (List Int)))×PUnit) =>
 let v10:Int:=IntKind.wrap .i64 (x_1.1+1);
 let v11:(List Nat×List (Option (List Int)))×PUnit:=(x_1.2.1,PUnit.unit);
 let v12:ByteArray×Int×Int×Int:=List.getD (x0.2.getD x.1.toNat ({ data:={ toList:=[] } },[],false)).2.1 x_1.1.toNat ({ data:={ toList:=[] } },0,0,0);bif decide (x_1.1<(↑(List.length (x0.2.getD x.1.toNat ({ data:={ toList:=[] } },[],false)).2.1):Int)) then bif inB x_1.1 (List.length (x0.2.getD x.1.toNat ({ data:={ toList:=[] } },[],false)).2.1) then ah (bH x0 v12.1) fun (t:Int)=>bif decide (t>=(0 : Int)) then bif inB t x_1.2.1.1.length then bif Nat.ble (Nat.succ t.toNat) x_1.2.1.1.length then bif inB x.1 (List.length (bw x_1.2.1.2 (x_1.2.1.1.getD t.toNat 0))) then bif Nat.ble (Nat.succ x.1.toNat) (List.length (bw x_1.2.1.2 (x_1.2.1.1.getD t.toNat (0 : Nat)))) then bif inB x.1 (List.length (bw x_1.2.1.2 (x_1.2.1.1.getD t.toNat 0))) then bif Nat.ble (Nat.succ x.1.toNat) (List.length (bw x_1.2.1.2 (x_1.2.1.1.getD t.toNat 0))) then again_1 (v10,(x_1.2.1.1,x_1.2.1.2.set (x_1.2.1.1.getD t.toNat 0) (some (List.set (bw x_1.2.1.2 (x_1.2.1.1.getD t.toNat 0)) x.1.toNat (IntKind.wrap .i64 (List.getD (bw x_1.2.1.2 (x_1.2.1.1.getD t.toNat 0)) x.1.toNat 0+v12.2.1))))),PUnit.unit) else none else none else none else none else none else none else again_1 (v10,v11) else none else again (IntKind.wrap .i64 (x.1+1),v11)) (0,x.2.1,PUnit.unit) else none else bif List.all x.2.1.1 fun (x_1:Nat)=>gu x.2.1.2 x_1 then some (List.map (fun (x_1:Nat)=>bw x.2.1.2 x_1) x.2.1.1,0,PUnit.unit) else none) (0,x.2.1,PUnit.unit)) (0, (Nat.brecOn (motive:=fun (x:Nat)=>Nat->List Nat) (Int.toNat (↑x0.1.length:Int)) (fun (x:Nat) (f:Nat.below (motive:=fun (x:Nat)=>Nat->List (T ref)) x) (x_1:Nat)=>(match (motive:=(x:Nat)->Nat->Nat.below (motive:=fun (x:Nat)=>Nat->List (T ref)) x->List Nat) x,x_1 with | 0,x=>fun (_:PUnit)=>[] | Nat.succ n,k=>fun (x:(Nat->List Nat) ×' Nat.rec PUnit (fun (n:Nat) (n_ih:Type)=>(fun (x:Nat)=>Nat->List (T ref)) n ×' n_ih) n)=>(k+0) ::x.1 (k+1)) f) 0,List.replicate (Int.toNat (↑x0.1.length:Int)) (some [])),PUnit.unit) else none
def bq (x0:(List (ByteArray×Int))×List (ByteArray×(List (ByteArray×Int×Int×Int))×Bool)):Option ((List (List Int))×Int×Unit):=nO lpK jnK bH aN x0
abbrev t72:=((List (ByteArray×Int))×List (ByteArray×(List (ByteArray×Int×Int×Int))×Bool))->Option ((List (List Int))×Int×Unit)
def k72 (bq:t72):Ctr:=⟨[T25],[],[],.tup [(.sl (.sl i64)),i64],fun x _ _=>bq x.1⟩
def c72:Ctr:=k72 bq
theorem e72 (lp:Lp) (jn:Jn) (bH:KQ) (aN:t50):∀(x:TsS c72.as) (F:TsF c72.fs) (y:TsS c72.cs),nO lp jn bH aN x.1=aX lp jn (cx [(50,k50 aN),(109,QU bH)] [(32,r32),(92,r92),(112,aJ)]) aj 4 72 f72 c72 x F y:=fun x F y=>by kernel_rfl
theorem RV:c72.ok prog 72:=Ctr.of_den (al (aa (aa (q32) (by kernel_rfl) Pu) (by kernel_rfl) QH)) av (hl:=aj) (d:=4) func72 rfl (by decide) (e72 lpK jnK bH aN)
def jl (lp:Lp) (_:Jn) (aN:t50) (x0:(List (ByteArray×Int))×List (ByteArray×(List (ByteArray×Int×Int×Int))×Bool)):Option ((List Int)×Int×Unit) :=
 ah (aN x0) fun (t:Bool)=>bif !t then some ([],1,PUnit.unit) else lp (List Int×Int×PUnit) (List Int×Int×PUnit) (fun (again:List Int×Int×PUnit -> Option (List Int×Int×PUnit)) (x:List Int×Int×PUnit)=>bif decide (x.2.1<(↑x0.1.length:Int)) then bif inB x.2.1 x0.1.length then bif eQ (List.length x.1+1) 8 then again (x.1++[(x0.1.getD x.2.1.toNat ({ data:={ toList:=[] } },0)).2],IntKind.wrap .i64 (x.2.1+1),PUnit.unit) else none else none else some (x.1,0,PUnit.unit)) ([],0,PUnit.unit)
def cG (x0:(List (ByteArray×Int))×List (ByteArray×(List (ByteArray×Int×Int×Int))×Bool)):Option ((List Int)×Int×Unit):=jl lpK jnK aN x0
abbrev t73:=((List (ByteArray×Int))×List (ByteArray×(List (ByteArray×Int×Int×Int))×Bool))->Option ((List Int)×Int×Unit)
def k73 (cG:t73):Ctr:=⟨[T25],[],[],.tup [(.sl i64),i64],fun x _ _=>cG x.1⟩
def c73:Ctr:=k73 cG
theorem e73 (lp:Lp) (jn:Jn) (aN:t50):∀(x:TsS c73.as) (F:TsF c73.fs) (y:TsS c73.cs),jl lp jn aN x.1=aX lp jn (cx [(50,k50 aN)] [(32,r32),(92,r92),(112,aJ)]) aj 4 73 f73 c73 x F y:=fun x F y=>by kernel_rfl
theorem T2:c73.ok prog 73:=Ctr.of_den (al (aa (q32) (by kernel_rfl) QH)) av (hl:=aj) (d:=4) func73 rfl (by decide) (e73 lpK jnK aN)
def oB (lp:Lp) (_:Jn) (bq:t72) (cG:t73) (x0:(List (ByteArray×Int))×List (ByteArray×(List (ByteArray×Int×Int×Int))×Bool)) (x1:List Int):Option (((List Int)×List ((List Int)×Int×Int))×Int×Unit) :=
 ah (bq x0) fun (t:List (List Int)×Int×PUnit)=>bif !decide (t.2.1=0) then some (([],[]),t.2.1,PUnit.unit) else ah (cG x0) fun (t_1 : List Int×Int×PUnit)=>bif !decide (t_1.2.1=0) then some (([],[]),t_1.2.1,PUnit.unit) else lp (Int×List Int×List (List Int×Int×Int)×PUnit) ((List Int×List (List Int×Int×Int))×Int×PUnit) (fun (again:Int×List Int×List (List Int×Int×Int)×PUnit->Option ((List Int×List (List Int×Int×Int))×Int×PUnit)) (x:Int×List Int×List (List Int×Int×Int)×PUnit)=>bif decide (x.1<(↑t.1.length:Int)) then bif inB x.1 t.1.length then bif inB x.1 t_1.1.length then bif eQ (List.length x.2.2.1+1) 40 then again (IntKind.wrap .i64 (x.1+1),x.2.1,x.2.2.1++[(t.1.getD x.1.toNat [],3,t_1.1.getD x.1.toNat 0)],PUnit.unit) else none else none else none else some ((x.2.1,x.2.2.1),0, PUnit.unit)) (0,x1,[],PUnit.unit)
def gp (x0:(List (ByteArray×Int))×List (ByteArray×(List (ByteArray×Int×Int×Int))×Bool)) (x1:List Int):Option (((List Int)×List ((List Int)×Int×Int))×Int×Unit):=oB lpK jnK bq cG x0 x1
abbrev t97:=((List (ByteArray×Int))×List (ByteArray×(List (ByteArray×Int×Int×Int))×Bool))->(List Int)->Option (((List Int)×List ((List Int)×Int×Int))×Int×Unit)
def c97:Ctr:=⟨[T25,(.sl i64)],[],[],.tup [T82,i64],fun x _ _=>gp x.1 x.2.1⟩
theorem e97 (lp:Lp) (jn:Jn) (bq:t72) (cG:t73):∀(x:TsS c97.as) (F:TsF c97.fs) (y:TsS c97.cs),oB lp jn bq cG x.1 x.2.1=aX lp jn (cx [(73,k73 cG),(72,k72 bq)] [(32,r32),(92,r92),(112,aJ)]) aj 4 97 f97 c97 x F y:=fun x F y=>by kernel_rfl
theorem Vk:c97.ok prog 97:=Ctr.of_den (al (aa (aa (q32) (by kernel_rfl) RV) (by kernel_rfl) T2)) av (hl:=aj) (d:=4) func97 rfl (by decide) (e97 lpK jnK bq cG)
def oQ (_:Lp) (_:Jn) (x0:Int) (x1:Int):Option (Int×Int×Unit) :=
 
 let v4:Int:=2 ^ 32;
 let v5:Int:=Int.fdiv x0 v4;
 let v6:Int:=Int.fdiv x1 v4;
 let v7:Bool:=decide ((0:Int)<=32);
 let v8:Int:=IntKind.wrap .u64 (↑(Nat.land (Int.toNat (x1 % Int.ofNat 18446744073709551616)) (Int.toNat (4294967295 % Int.ofNat 18446744073709551616))) : Int);
 let v9:Int:=IntKind.wrap .u64 (↑(Nat.land (Int.toNat (x0 % Int.ofNat 18446744073709551616)) (Int.toNat (4294967295 % Int.ofNat 18446744073709551616))) : Int);
 let v10:Int:=IntKind.wrap .u64 (IntKind.wrap .u64 (v5*v8)+Int.fdiv (IntKind.wrap .u64 (v9*v8)) v4);bif v7 then bif v7 then bif v7 then bif v7 then bif v7 then some (IntKind.wrap .u64 (IntKind.wrap .u64 (IntKind.wrap .u64 (v5*v6)+Int.fdiv v10 v4)+Int.fdiv (IntKind.wrap .u64 (IntKind.wrap .u64 (↑(Nat.land (Int.toNat (v10 % Int.ofNat 18446744073709551616)) (Int.toNat (4294967295 % Int.ofNat 18446744073709551616))):Int)+IntKind.wrap .u64 (v9 * v6))) v4),IntKind.wrap .u64 (x0*x1),PUnit.unit) else none else none else none else none else none
def bG (x0:Int) (x1:Int):Option (Int×Int×Unit):=oQ lpK jnK x0 x1
abbrev Ew:=(Int)->(Int)->Option (Int×Int×Unit)
def NM (bG:Ew):Ctr:=⟨[(.int .u64),(.int .u64)],[],[],.tup [(.int .u64),(.int .u64)],fun x _ _=>bG x.1 x.2.1⟩
def Kg:Ctr:=NM bG
theorem Vn (lp:Lp) (jn:Jn):∀(x:TsS Kg.as) (F:TsF Kg.fs) (y:TsS Kg.cs),oQ lp jn x.1 x.2.1=aX lp jn (cx [] [(32,r32),(92,r92),(112,aJ)]) aj 4 107 f107 Kg x F y:=fun x F y=>by kernel_rfl
theorem KM:Kg.ok prog 107:=Ctr.of_den (al (q32)) av (hl:=aj) (d:=4) func107 rfl (by decide) (Vn lpK jnK)
def ue (_:Lp) (_:Jn) (x0:Int) (x1:Int):Option (Int×Int×Unit) :=
 
 let v4:Int:=IntKind.wrap .u64 (IntKind.wrap .u64 x0*IntKind.wrap .u64 x1);bif decide ((0:Int)<=32) then some (IntKind.wrap IntKind.u32 (Int.fdiv v4 (2 ^ 32)),IntKind.wrap IntKind.u32 v4,PUnit.unit) else none
def ip (x0:Int) (x1:Int):Option (Int×Int×Unit):=ue lpK jnK x0 x1
def SX (ip:(Int)->(Int)->Option (Int×Int×Unit)):Ctr:=⟨[(.int .u32),(.int .u32)],[],[],.tup [(.int .u32),(.int .u32)],fun x _ _=>ip x.1 x.2.1⟩
def Hx:Ctr:=SX ip
theorem U3 (lp:Lp) (jn:Jn):∀(x:TsS Hx.as) (F:TsF Hx.fs) (y:TsS Hx.cs),ue lp jn x.1 x.2.1=aX lp jn (cx [] [(32,r32),(92,r92),(112,aJ)]) aj 4 173 f173 Hx x F y:=fun x F y=>by kernel_rfl
theorem R0:Hx.ok prog 173:=Ctr.of_den (al (q32)) av (hl:=aj) (d:=4) func173 rfl (by decide) (U3 lpK jnK)
def sN (_:Lp) (_:Jn) (bG:Ew) (_:(Int)->(Int)->Option (Int×Int×Unit)) (x0:Int) (x1:Int):Option (Int×Int×Unit) :=
 ah (bG x0 x1) fun (t:Int×Int×PUnit)=>some (t.1,t.2.1,PUnit.unit)
def gL (x0:Int) (x1:Int):Option (Int×Int×Unit):=sN lpK jnK bG ip x0 x1
abbrev P0:=(Int)->(Int)->Option (Int×Int×Unit)
def Re (gL:P0):Ctr:=⟨[(.int .u64),(.int .u64)],[],[],.tup [(.int .u64),(.int .u64)],fun x _ _=>gL x.1 x.2.1⟩
def JK:Ctr:=Re gL
theorem Ud (lp:Lp) (jn:Jn) (bG:Ew) (ip:(Int)->(Int)->Option (Int×Int×Unit)):∀(x:TsS JK.as) (F:TsF JK.fs) (y:TsS JK.cs),sN lp jn bG ip x.1 x.2.1=aX lp jn (cx [(173,SX ip),(107,NM bG)] [(32,r32),(92,r92),(112,aJ)]) aj 4 140 f140 JK x F y:=fun x F y=>by kernel_rfl
theorem S8:JK.ok prog 140:=Ctr.of_den (al (aa (aa (q32) (by kernel_rfl) KM) (by kernel_rfl) R0)) av (hl:=aj) (d:=4) func140 rfl (by decide) (Ud lpK jnK bG ip)
def iX (lp:Lp) (jn:Jn) (gL:P0) (x0:List Int) (x1:Int):Option (List Int) :=
 jn PUnit (List Int) (fun (_:PUnit)=>ah (gL (IntKind.wrap .u64 (↑x0.length:Int)) (IntKind.wrap .u64 x1)) fun (t:Int×Int×PUnit) =>
 let v6:List Int:=List.take (Int.toNat (IntKind.wrap .i64 t.2.1)) x0;
 let v7:List Int:=List.replicate (Int.toNat (IntKind.wrap .i64 t.2.1)) 0;
 let v8:Bool:=decide (t.1>0);
 let v9:Bool:=!v8;bif !v9||v9 then bif v8||v9 then jn PUnit (List Int) (fun (_:PUnit)=>bif decide (0<=IntKind.wrap .i64 t.2.1)&&eQ (Int.toNat (IntKind.wrap .i64 t.2.1)) 8 then lp (Int×List Int×PUnit) (List Int) (fun (again:Int×List Int×PUnit->Option (List Int)) (x:Int×List Int×PUnit) =>
 let v13:List Int:=List.take x.1.toNat x.2.1;
 let v14:List Int:=List.take (Int.toNat (↑x.2.1.length:Int) - Int.toNat x.1) (List.drop 0 v13);bif decide (x.1<(↑x.2.1.length:Int)) then bif slB x.1 (↑x.2.1.length:Int) x.2.1.length then bif slB 0 x.1 x.2.1.length then bif Nat.ble x.1.toNat (Int.toNat (↑x.2.1.length:Int))&&(Nat.ble (Int.toNat (↑x.2.1.length:Int)) x.2.1.length&&Nat.ble x.1.toNat x.2.1.length) then again (IntKind.wrap IntKind.i64 (x.1+(↑v14.length:Int)),v13++v14++List.drop (Int.toNat x.1+List.length v14) x.2.1,PUnit.unit) else none else none else none else some x.2.1) ((↑v6.length:Int),List.take 0 v7++v6++List.drop (0+List.length v6) v7,PUnit.unit) else none) fun (j:PUnit->Option (List Int))=>bif bif v8 then true else decide (t.2.1>9223372036854775807) then none else j PUnit.unit else none else none) fun (j:PUnit->Option (List Int))=>bif decide (x1<0) then none else j PUnit.unit
def cf (x0:List Int) (x1:Int):Option (List Int):=iX lpK jnK gL x0 x1
abbrev t98:=(List Int)->(Int)->Option (List Int)
def k98 (cf:t98):Ctr:=⟨[(.sl i64),i64],[],[],.one (.sl i64),fun x _ _=>cf x.1 x.2.1⟩
def c98:Ctr:=k98 cf
theorem e98 (lp:Lp) (jn:Jn) (gL:P0):∀(x:TsS c98.as) (F:TsF c98.fs) (y:TsS c98.cs),iX lp jn gL x.1 x.2.1=aX lp jn (cx [(140,Re gL)] [(32,r32),(92,r92),(112,aJ)]) aj 4 98 f98 c98 x F y:=fun x F y=>by kernel_rfl
theorem Vq:c98.ok prog 98:=Ctr.of_den (al (aa (q32) (by kernel_rfl) S8)) av (hl:=aj) (d:=4) func98 rfl (by decide) (e98 lpK jnK gL)
def ll (_:Lp) (_:Jn) (gp:t97) (cf:t98) (x0:(List (ByteArray×Int))×List (ByteArray×(List (ByteArray×Int×Int×Int))×Bool)):Option (((List Int)×List ((List Int)×Int×Int))×Int×Unit) :=
 ah (cf [1] (↑x0.2.length:Int)) fun (t:List Int)=>ah (gp x0 t) fun (t:(List Int×List (List Int×Int×Int))×Int×PUnit)=>some (t.1,t.2.1,PUnit.unit)
def aV (x0:(List (ByteArray×Int))×List (ByteArray×(List (ByteArray×Int×Int×Int))×Bool)):Option (((List Int)×List ((List Int)×Int×Int))×Int×Unit):=ll lpK jnK gp cf x0
abbrev t55:=((List (ByteArray×Int))×List (ByteArray×(List (ByteArray×Int×Int×Int))×Bool))->Option (((List Int)×List ((List Int)×Int×Int))×Int×Unit)
def k55 (aV:t55):Ctr:=⟨[T25],[],[],.tup [T82,i64],fun x _ _=>aV x.1⟩
def c55:Ctr:=k55 aV
theorem e55 (lp:Lp) (jn:Jn) (gp:t97) (cf:t98):∀(x:TsS c55.as) (F:TsF c55.fs) (y:TsS c55.cs),ll lp jn gp cf x.1=aX lp jn (cx [(98,k98 cf),(97,⟨[T25,(.sl i64)],[],[],.tup [T82,i64],fun x _ _=>gp x.1 x.2.1⟩)] [(32,r32),(92,r92),(112,aJ)]) aj 4 55 f55 c55 x F y:=fun x F y=>by kernel_rfl
theorem Q7:c55.ok prog 55:=Ctr.of_den (al (aa (aa (q32) (by kernel_rfl) Vk) (by kernel_rfl) Vq)) av (hl:=aj) (d:=4) func55 rfl (by decide) (e55 lpK jnK gp cf)
def iI (_:Lp) (_:Jn) (x0:Int) (y0:Int):Option Bool :=
 
 let v4:Bool:=decide (x0<IntKind.wrap .i64 (0 - y0));
 let v5:Bool:=!v4;
 let v6:Bool:=!v5||v5;bif v6&&v6 then bif v4||v5 then some (bif v4 then true else decide (x0>y0)) else none else none
def bI (x0:Int) (y0:Int):Option Bool:=iI lpK jnK x0 y0
abbrev TJ:=(Int)->(Int)->Option (Bool)
def I0:Ctr:=⟨[i64],[],[i64],.one .bool,fun x _ y=>bI x.1 y.1⟩
theorem VT (lp:Lp) (jn:Jn):∀(x:TsS I0.as) (F:TsF I0.fs) (y:TsS I0.cs),iI lp jn x.1 y.1=aX lp jn (cx [] [(32,r32),(92,r92),(112,aJ)]) aj 4 142 f142 I0 x F y:=fun x F y=>by kernel_rfl
theorem R5:I0.ok prog 142:=Ctr.of_den (al (q32)) av (hl:=aj) (d:=4) func142 rfl (by decide) (VT lpK jnK)
def jD (_:Lp) (_:Jn) (bI:TJ) (x0:Int):Option ((Int×Unit)->Option Bool) :=
 some fun (x:Int×PUnit)=>bI x.1 x0
def cR (x0:Int):Option ((Int×Unit)->Option Bool):=jD lpK jnK bI x0
abbrev Rq:=(Int)->Option ((Int×Unit)->Option Bool)
def PU:FCtr:=⟨[i64],[i64],.bool,fun x=>cR x.1⟩
theorem Vu (lp:Lp) (jn:Jn) (bI:TJ):∀x:TsS PU.as,jD lp jn bI x.1=QF lp jn (cx [(142,⟨[i64],[],[i64],.one .bool,fun x _ y=>bI x.1 y.1⟩)] [(32,r32),(92,r92),(112,aJ)]) aj 4 141 f141 PU x:=fun x=>by kernel_rfl
theorem PF:PU.ok prog 141:=FCtr.of_den (al (aa (q32) (by kernel_rfl) R5)) av (hl:=aj) (d:=4) func141 rfl (by decide) (Vu lpK jnK bI)
def gE (lp:Lp) (_:Jn) (x0:List Int) (f0:((Int×Unit)->Option Bool)):Option Int :=
 lp (Int×PUnit) Int (fun (again:Int×PUnit->Option Int) (x:Int×PUnit)=>bif decide (x.1<(↑x0.length:Int)) then bif inB x.1 x0.length then ah (f0 (x0.getD x.1.toNat 0,PUnit.unit)) fun (t:Bool)=>bif t then some x.1 else again (IntKind.wrap .i64 (x.1+1),PUnit.unit) else none else some (-1)) (0,PUnit.unit)
def br (x0:List Int) (f0:((Int×Unit)->Option Bool)):Option Int:=gE lpK jnK x0 f0
abbrev PP:=(List Int)->(((Int×Unit)->Option Bool))->Option (Int)
def TN (br:PP):Ctr:=⟨[(.sl i64)],[([i64],.bool)],[],.one i64,fun x F _=>br x.1 F.1⟩
def JF:Ctr:=TN br
theorem U5 (lp:Lp) (jn:Jn):∀(x:TsS JF.as) (F:TsF JF.fs) (y:TsS JF.cs),gE lp jn x.1 F.1=aX lp jn (cx [] [(32,r32),(92,r92),(112,aJ)]) aj 4 174 f174 JF x F y:=fun x F y=>by kernel_rfl
theorem Td:JF.ok prog 174:=Ctr.of_den (al (q32)) av (hl:=aj) (d:=4) func174 rfl (by decide) (U5 lpK jnK)
def fR (_:Lp) (_:Jn) (br:PP) (x0:List Int) (f0:((Int×Unit)->Option Bool)):Option Bool :=
 ah (br x0 f0) fun (t:Int)=>some (decide (t>=0))
def aM (x0:List Int) (f0:((Int×Unit)->Option Bool)):Option Bool:=fR lpK jnK br x0 f0
abbrev Qu:=(List Int)->(((Int×Unit)->Option Bool))->Option (Bool)
def Tj (aM:Qu):Ctr:=⟨[(.sl i64)],[([i64],.bool)],[],.one .bool,fun x F _=>aM x.1 F.1⟩
def JN:Ctr:=Tj aM
theorem T1 (lp:Lp) (jn:Jn) (br:PP):∀(x:TsS JN.as) (F:TsF JN.fs) (y:TsS JN.cs),fR lp jn br x.1 F.1=aX lp jn (cx [(174,TN br)] [(32,r32),(92,r92),(112,aJ)]) aj 4 143 f143 JN x F y:=fun x F y=>by kernel_rfl
theorem Rt:JN.ok prog 143:=Ctr.of_den (al (aa (q32) (by kernel_rfl) Td)) av (hl:=aj) (d:=4) func143 rfl (by decide) (T1 lpK jnK br)
def ju (lp:Lp) (_:Jn) (x0:List ((List Int)×Int×Int)) (f0:((((List Int)×Int×Int)×Unit)->Option Bool)):Option Int :=
 lp (Int×PUnit) Int (fun (again:Int×PUnit->Option Int) (x:Int×PUnit)=>bif decide (x.1<(↑x0.length:Int)) then bif inB x.1 x0.length then ah (f0 (x0.getD x.1.toNat ([],0,0),PUnit.unit)) fun (t:Bool)=>bif t then some x.1 else again (IntKind.wrap .i64 (x.1+1),PUnit.unit) else none else some (-1)) (0,PUnit.unit)
def bU (x0:List ((List Int)×Int×Int)) (f0:((((List Int)×Int×Int)×Unit)->Option Bool)):Option Int:=ju lpK jnK x0 f0
abbrev PO:=(List ((List Int)×Int×Int))->(((((List Int)×Int×Int)×Unit)->Option Bool))->Option (Int)
def Sj (bU:PO):Ctr:=⟨[(.sl Ce)],[([Ce],.bool)],[],.one i64,fun x F _=>bU x.1 F.1⟩
def K5:Ctr:=Sj bU
theorem VB (lp:Lp) (jn:Jn):∀(x:TsS K5.as) (F:TsF K5.fs) (y:TsS K5.cs),ju lp jn x.1 F.1=aX lp jn (cx [] [(32,r32),(92,r92),(112,aJ)]) aj 4 175 f175 K5 x F y:=fun x F y=>by kernel_rfl
theorem Ru:K5.ok prog 175:=Ctr.of_den (al (q32)) av (hl:=aj) (d:=4) func175 rfl (by decide) (VB lpK jnK)
def iG (_:Lp) (_:Jn) (bU:PO) (x0:List ((List Int)×Int×Int)) (f0:((((List Int)×Int×Int)×Unit)->Option Bool)):Option Bool :=
 ah (bU x0 f0) fun (t:Int)=>some (decide (t>=0))
def cb (x0:List ((List Int)×Int×Int)) (f0:((((List Int)×Int×Int)×Unit)->Option Bool)):Option Bool:=iG lpK jnK bU x0 f0
def RF (cb:(List ((List Int)×Int×Int))->(((((List Int)×Int×Int)×Unit)->Option Bool))->Option (Bool)):Ctr:=⟨[(.sl Ce)],[([Ce],.bool)],[],.one .bool,fun x F _=>cb x.1 F.1⟩
def JJ:Ctr:=RF cb
theorem Uu (lp:Lp) (jn:Jn) (bU:PO):∀(x:TsS JJ.as) (F:TsF JJ.fs) (y:TsS JJ.cs),iG lp jn bU x.1 F.1=aX lp jn (cx [(175,Sj bU)] [(32,r32),(92,r92),(112,aJ)]) aj 4 144 f144 JJ x F y:=fun x F y=>by kernel_rfl
theorem R3:JJ.ok prog 144:=Ctr.of_den (al (aa (q32) (by kernel_rfl) Ru)) av (hl:=aj) (d:=4) func144 rfl (by decide) (Uu lpK jnK bU)
def ls (lp:Lp) (_:Jn) (aM:Qu) (_:(List ((List Int)×Int×Int))->(((((List Int)×Int×Int)×Unit)->Option Bool))->Option (Bool)) (cR:Rq) (x0:(List Int)×List ((List Int)×Int×Int)):Option Bool :=
 
 let v3:Bool:=decide ((↑x0.1.length:Int)<1);
 let v4:Bool:=!v3;
 let v5:Bool:=bif v3 then true else decide ((↑x0.1.length:Int)>12);
 let v6:Bool:=!v4||v4;
 let v7:Bool:=!v5;
 let v8:Bool:=bif v5 then true else decide ((↑x0.2.length:Int)>6);
 let v9:Bool:=!v8;
 let v10:Bool:=!v7||v7;
 let v11:Bool:=!v9||v9;bif v6 then bif v6 then bif v6 then bif v3||v4 then bif v10 then bif v10 then bif v10 then bif v5||v7 then bif v11 then bif v11 then ah (bif v9 then cR 1048576 else some fun (_:Int×PUnit)=>none) fun (t:Int×PUnit->Option Bool)=>bif v11&&v11 then ah (bif v9 then aM x0.1 t else some false) fun (t:Bool)=>bif v8||v9 then bif bif v8 then true else t then some false else lp (Int×PUnit) Bool (fun (again:Int×PUnit->Option Bool) (x:Int×PUnit) =>
 let v16:List Int×Int×Int:=x0.2.getD x.1.toNat ([],0,0);
 let v17:Bool:=decide (v16.2.1<1);
 let v18:Bool:=decide (v16.2.1>3);
 let v19:Bool:=!decide ((↑v16.1.length:Int)=(↑x0.1.length:Int));
 let v20:Bool:=!v19;
 let v21:Bool:=!v20||v20;bif decide (x.1<(↑x0.2.length:Int)) then bif inB x.1 x0.2.length then bif v21 then bif v21 then ah (bif v20 then cR 1048576 else some fun (_:Int×PUnit)=>none) fun (t:Int×PUnit->Option Bool)=>bif v21&&v21 then ah (bif v20 then aM v16.1 t else some false) fun (t:Bool) =>
 let v24:Bool:=bif v19 then true else t;
 let v25:Bool:=!v24;
 let v26:Bool:=bif v24 then true else v17;
 let v27:Bool:=!v26;
 let v28:Bool:=bif v26 then true else v18;
 let v29:Bool:=!v25||v25;
 let v30:Bool:=!v28;
 let v31:Bool:=!v27||v27;
 let v32:Bool:=!v30||v30;bif v19||v20 then bif v29 then bif v29 then bif v24||v25 then bif v31 then bif v31 then bif v26||v27 then bif v32 then ah (bif v30 then cR 1073741824 else some fun (_:Int×PUnit)=>none) fun (t:Int×PUnit->Option Bool)=>bif v32 then bif v32&&v32 then ah (bif v30 then t (v16.2.2, PUnit.unit) else some false) fun (t:Bool)=>bif v28||v30 then bif bif v28 then true else t then some !decide (x.1>=0) else again (IntKind.wrap .i64 (x.1+(1 : Int)),PUnit.unit) else none else none else none else none else none else none else none else none else none else none else none else none else none else none else none else some !decide ((-1:Int)>=0)) (0,PUnit.unit) else none else none else none else none else none else none else none else none else none else none else none else none
def aW (x0:(List Int)×List ((List Int)×Int×Int)):Option Bool:=ls lpK jnK aM cb cR x0
abbrev t99:=((List Int)×List ((List Int)×Int×Int))->Option (Bool)
def k99 (aW:t99):Ctr:=⟨[T82],[],[],.one .bool,fun x _ _=>aW x.1⟩
def c99:Ctr:=k99 aW
theorem e99 (lp:Lp) (jn:Jn) (aM:Qu) (cb:(List ((List Int)×Int×Int))->(((((List Int)×Int×Int)×Unit)->Option Bool))->Option (Bool)) (cR:Rq):∀(x:TsS c99.as) (F:TsF c99.fs) (y:TsS c99.cs),ls lp jn aM cb cR x.1=aX lp jn (xW ym yk (R7 [(141,⟨[i64],[i64],.bool,fun x=>cR x.1⟩)] (iP prog shs sJ its [(144,RF cb),(143,Tj aM)] [(32,r32),(92,r92),(112,aJ)]))) aj 4 99 f99 c99 x F y:=fun x F y=>by kernel_rfl
theorem Qv:c99.ok prog 99:=Ctr.of_den (al (OM (aa (aa (q32) (by kernel_rfl) Rt) (by kernel_rfl) R3) (Gj (by kernel_rfl) PF (Kk)))) av (hl:=aj) (d:=4) func99 rfl (by decide) (e99 lpK jnK aM cb cR)
def qz (_:Lp) (_:Jn) (x0:Int):Option Int :=
 
 let v3:Int:=IntKind.wrap .u64 x0;bif decide (x0<0) then some (IntKind.wrap .u64 (0 - v3)) else some v3
def bO (x0:Int):Option Int:=qz lpK jnK x0
abbrev LU:=(Int)->Option (Int)
def QT (bO:LU):Ctr:=⟨[i64],[],[],.one (.int .u64),fun x _ _=>bO x.1⟩
def J3:Ctr:=QT bO
theorem T5 (lp:Lp) (jn:Jn):∀(x:TsS J3.as) (F:TsF J3.fs) (y:TsS J3.cs),qz lp jn x.1=aX lp jn (cx [] [(32,r32),(92,r92),(112,aJ)]) aj 4 147 f147 J3 x F y:=fun x F y=>by kernel_rfl
theorem Ps:J3.ok prog 147:=Ctr.of_den (al (q32)) av (hl:=aj) (d:=4) func147 rfl (by decide) (T5 lpK jnK)
def nP (lp:Lp) (_:Jn) (bO:LU) (x0:List Int) (x1:Int):Option Int :=
 ah (bO x1) fun (t:Int)=>lp (Int×Int×PUnit) Int (fun (again:Int×Int×PUnit->Option Int) (x:Int×Int×PUnit)=>bif decide (x.2.1<(↑x0.length : Int)) then bif inB x.2.1 x0.length then ah (bO (x0.getD x.2.1.toNat 0)) fun (t:Int)=>again (IntKind.wrap .i64 (x.1 + IntKind.wrap .i64 t),IntKind.wrap .i64 (x.2.1+1),PUnit.unit) else none else some x.1) (IntKind.wrap .i64 (1+IntKind.wrap .i64 t), 0,PUnit.unit)
def eF (x0:List Int) (x1:Int):Option Int:=nP lpK jnK bO x0 x1
abbrev R8:=(List Int)->(Int)->Option (Int)
def Jq:Ctr:=⟨[(.sl i64),i64],[],[],.one i64,fun x _ _=>eF x.1 x.2.1⟩
theorem UJ (lp:Lp) (jn:Jn) (bO:LU):∀(x:TsS Jq.as) (F:TsF Jq.fs) (y:TsS Jq.cs),nP lp jn bO x.1 x.2.1=aX lp jn (cx [(147,QT bO)] [(32,r32),(92,r92),(112,aJ)]) aj 4 146 f146 Jq x F y:=fun x F y=>by kernel_rfl
theorem SC:Jq.ok prog 146:=Ctr.of_den (al (aa (q32) (by kernel_rfl) Ps)) av (hl:=aj) (d:=4) func146 rfl (by decide) (UJ lpK jnK bO)
def nR (lp:Lp) (jn:Jn) (x0:List Int):Option Int :=
 jn PUnit Int (fun (_:PUnit)=>bif inB 0 x0.length then lp (Int×Int×PUnit) Int (fun (again:Int×Int×PUnit->Option Int) (x:Int×Int×PUnit)=>bif decide (x.2.1<(↑x0.length:Int)) then bif inB x.2.1 x0.length then again (if x0.getD x.2.1.toNat 0>x.1 then x0.getD x.2.1.toNat 0 else x.1,IntKind.wrap .i64 (x.2.1+1),PUnit.unit) else none else some x.1) (x0.getD 0 0,1,PUnit.unit) else none) fun (j:PUnit->Option Int)=>bif decide ((↑x0.length:Int)<1) then none else j PUnit.unit
def ff (x0:List Int):Option Int:=nR lpK jnK x0
abbrev Ri:=(List Int)->Option (Int)
def HC:Ctr:=⟨[(.sl i64)],[],[],.one i64,fun x _ _=>ff x.1⟩
theorem Vi (lp:Lp) (jn:Jn):∀(x:TsS HC.as) (F:TsF HC.fs) (y:TsS HC.cs),nR lp jn x.1=aX lp jn (cx [] [(32,r32),(92,r92),(112,aJ)]) aj 4 148 f148 HC x F y:=fun x F y=>by kernel_rfl
theorem Rz:HC.ok prog 148:=Ctr.of_den (al (q32)) av (hl:=aj) (d:=4) func148 rfl (by decide) (Vi lpK jnK)
def qN (lp:Lp) (_:Jn) (eF:R8) (ff:Ri) (x0:(List Int)×List ((List Int)×Int×Int)):Option Bool :=
 ah (eF x0.1 0) fun (t:Int)=>lp (List Int×Int×PUnit) Bool (fun (again:List Int×Int×PUnit->Option Bool) (x:List Int×Int×PUnit) =>
 let v6:List Int×Int×Int:=x0.2.getD x.2.1.toNat ([],0,0);bif decide (x.2.1<(↑x0.2.length:Int)) then bif inB x.2.1 x0.2.length then ah (eF v6.1 v6.2.2) fun (t:Int)=>bif eQ (List.length x.1+1) 8 then again (x.1++[t],IntKind.wrap .i64 (x.2.1+1),PUnit.unit) else none else none else lp (Int×Int×PUnit) Bool (fun (again:Int×Int×PUnit->Option Bool) (x_1:Int×Int×PUnit) =>
 let v9:Int:=x.1.getD x_1.2.1.toNat 0;bif decide (x_1.2.1<(↑x.1.length:Int)) then bif inB x_1.2.1 x.1.length then bif Nat.ble (Nat.succ x_1.2.1.toNat) x.1.length then bif nzB v9 then bif decide (x_1.1>IntKind.wrap .i64 (Int.tdiv 17592186044416 v9)) then some false else again (IntKind.wrap .i64 (x_1.1*v9),IntKind.wrap .i64 (x_1.2.1+1),PUnit.unit) else none else none else none else ah (ff x.1) fun (t : Int)=>bif nzB t then some (decide (x_1.1<=IntKind.wrap .i64 (Int.tdiv 144115188075855872 t))) else none) (1,0,PUnit.unit)) ([t],0, PUnit.unit)
def cg (x0:(List Int)×List ((List Int)×Int×Int)):Option Bool:=qN lpK jnK eF ff x0
abbrev KE:=((List Int)×List ((List Int)×Int×Int))->Option (Bool)
def Qy (cg:KE):Ctr:=⟨[T82],[],[],.one .bool,fun x _ _=>cg x.1⟩
def KX:Ctr:=Qy cg
theorem UC (lp:Lp) (jn:Jn) (eF:R8) (ff:Ri):∀(x:TsS KX.as) (F:TsF KX.fs) (y:TsS KX.cs),qN lp jn eF ff x.1=aX lp jn (cx [(148,⟨[(.sl i64)],[],[],.one i64,fun x _ _=>ff x.1⟩),(146,⟨[(.sl i64),i64],[],[],.one i64,fun x _ _=>eF x.1 x.2.1⟩)] [(32,r32),(92,r92),(112,aJ)]) aj 4 100 f100 KX x F y:=fun x F y=>by kernel_rfl
theorem Pd:KX.ok prog 100:=Ctr.of_den (al (aa (aa (q32) (by kernel_rfl) SC) (by kernel_rfl) Rz)) av (hl:=aj) (d:=4) func100 rfl (by decide) (UC lpK jnK eF ff)
def ij (lp:Lp) (_:Jn) (x0:(List (List Int))×Int×(List Int)×(List Int)×(List Int)×Int×Int) (x1:Int):Option Int :=
 lp (Int×Int×PUnit) Int (fun (again:Int×Int×PUnit->Option Int) (x:Int×Int×PUnit) =>
 let v6:Int×PUnit:=(IntKind.wrap .i64 (x.2.1+1),PUnit.unit);
 let v7:List Int:=x0.1.getD x.2.1.toNat [];bif decide (x.2.1<(↑x0.1.length:Int)) then bif inB x.2.1 x0.1.length then bif inB x.2.1 x0.2.2.1.length then bif decide (x0.2.2.1.getD x.2.1.toNat 0>=x0.2.2.2.2.2.1) then bif inB x1 v7.length then again (IntKind.wrap .i64 (x.1+v7.getD x1.toNat 0),v6) else none else again (x.1,v6) else none else none else some x.1) (0,0,PUnit.unit)
def au (x0:(List (List Int))×Int×(List Int)×(List Int)×(List Int)×Int×Int) (x1:Int):Option Int:=ij lpK jnK x0 x1
abbrev Ls:=((List (List Int))×Int×(List Int)×(List Int)×(List Int)×Int×Int)->(Int)->Option (Int)
def PC (au:Ls):PCtr:=⟨G4,[i64],.one i64,fun x y=>au x y.1⟩
def Ms:PCtr:=PC au
theorem VP (lp:Lp) (jn:Jn):∀(x:Ms.s.T) (y:TsS Ms.as),ij lp jn x y.1=EA lp jn (cx [] [(32,r32),(92,r92),(112,aJ)]) aj 4 106 f106 Ms x y:=fun x y=>by kernel_rfl
theorem O5:Ms.ok prog 106:=PCtr.of_den (al (q32)) av (hl:=aj) (d:=4) func106 rfl (by decide) (VP lpK jnK)
def pK (_:Lp) (_:Jn) (bG:Ew) (bO:LU) (x0:Int) (x1:Int):Option (Bool×Int×Int) :=
 
 let v4:Bool:=!decide (decide (x0<0)=decide (x1<0));
 let v5:Bool:=!v4;
 let v6:Bool:=v5||v4;ah (bO x0) fun (t:Int)=>ah (bO x1) fun (t_1:Int)=>ah (bG t t_1) fun (t:Int×Int×PUnit) =>
 let v10:Bool:=!decide (t.1=0);
 let v11:Bool:=v4&&!v10;bif v6 then bif v6 then bif !v11||v11 then bif (v5||v6)&&(v5||(v10||(v5||v11))) then bif v6 then some (bif v4 then bif v10 then true else !decide (t.2.1=0) else false,t.1,t.2.1) else none else none else none else none else none
def bB (x0:Int) (x1:Int):Option (Bool×Int×Int):=pK lpK jnK bG bO x0 x1
abbrev Me:=(Int)->(Int)->Option (Bool×Int×Int)
def QM (bB:Me):Ctr:=⟨[i64,i64],[],[],.one tN,fun x _ _=>bB x.1 x.2.1⟩
def Kn:Ctr:=QM bB
theorem VL (lp:Lp) (jn:Jn) (bG:Ew) (bO:LU):∀(x:TsS Kn.as) (F:TsF Kn.fs) (y:TsS Kn.cs),pK lp jn bG bO x.1 x.2.1=aX lp jn (cx [(147,QT bO),(107,NM bG)] [(32,r32),(92,r92),(112,aJ)]) aj 4 176 f176 Kn x F y:=fun x F y=>by kernel_rfl
theorem O2:Kn.ok prog 176:=Ctr.of_den (al (aa (aa (q32) (by kernel_rfl) KM) (by kernel_rfl) Ps)) av (hl:=aj) (d:=4) func176 rfl (by decide) (VL lpK jnK bG bO)
def iC (_:Lp) (_:Jn) (x0:Bool×Int×Int) (x1:Bool×Int×Int):Option Int :=
 
 let v4:Bool:=decide (x0.2.1=x1.2.1);
 let v5:Bool:=!v4;
 let v6:Bool:=v5||v4;
 let v7:Bool:=!v5||v5;
 let v8:Bool:=bif v5 then decide (x0.2.1<x1.2.1) else false;
 let v9:Bool:=!v8;
 let v10:Bool:=!v9;
 let v11:Bool:=v9&&v4;
 let v12:Bool:=v10||v9;
 let v13:Bool:=!v11||v11;bif v7 then bif v7 then bif v7&&v7 then bif v7 then bif v12 then bif v12 then bif v12&&v12 then bif v12 then bif v13 then bif v13 then bif v13&&v13 then bif (v10||v12)&&(v10||(v5||(v10||v11))) then bif v8||v9 then bif bif v8 then true else bif v4 then decide (x0.2.2<x1.2.2) else false then some (-1) else bif v6 then bif v6 then bif v6&&v6 then bif v6 then bif bif v4 then decide (x0.2.2=x1.2.2) else false then some 0 else some 1 else none else none else none else none else none else none else none else none else none else none else none else none else none else none else none else none else none
def aw (x0:Bool×Int×Int) (x1:Bool×Int×Int):Option Int:=iC lpK jnK x0 x1
abbrev LK:=(Bool×Int×Int)->(Bool×Int×Int)->Option (Int)
def PZ (aw:LK):Ctr:=⟨[tN,tN],[],[],.one i64,fun x _ _=>aw x.1 x.2.1⟩
def IJ:Ctr:=PZ aw
theorem Ve (lp:Lp) (jn:Jn):∀(x:TsS IJ.as) (F:TsF IJ.fs) (y:TsS IJ.cs),iC lp jn x.1 x.2.1=aX lp jn (cx [] [(32,r32),(92,r92),(112,aJ)]) aj 4 192 f192 IJ x F y:=fun x F y=>by kernel_rfl
theorem Po:IJ.ok prog 192:=Ctr.of_den (al (q32)) av (hl:=aj) (d:=4) func192 rfl (by decide) (Ve lpK jnK)
def jd (_:Lp) (jn:Jn) (aw:LK) (x0:Bool×Int×Int) (x1:Bool×Int×Int):Option (Bool×Int×Int) :=
 
 let v4:Bool:=!x0.1;
 let v5:Bool:=!x1.1;
 let v6:Bool:=!v4;
 let v7:Bool:=v4&&v5;
 let v8:Bool:=v6||v4;
 let v9:Bool:=!v7;
 let v10:Bool:=v9||v7;
 let v11:Bool:=!decide (x1.2.1=0);
 let v12:Bool:=v7&&!v11;
 let v13:Bool:=decide ((0:Int)<=0)&&decide ((0:Int)<=1);
 let v14:Bool:=!v12||v12;bif !decide (x0.1=x1.1) then bif v13 then bif decide (0<=xK x0.2.2 x1.2.2 0)&&decide (xK x0.2.2 x1.2.2 (0 : Int)<=1) then bif v8 then bif v8 then bif v8 then bif v10 then bif v10 then bif v10 then bif v14 then bif v14 then bif (v9||v10)&&(v9||(v11||(v9||v12))) then bif (v6 || v8)&&(v6||(!v5||(v6||v7))) then bif x0.1||v4 then some (bif x0.1 then true else bif v5 then bif v11 then true else !decide (x1.2.2=0) else false,BO x0.2.1 x1.2.1 (xK x0.2.2 x1.2.2 0),BO x0.2.2 x1.2.2 0) else none else none else none else none else none else none else none else none else none else none else none else none else none else ah (aw x0 x1) fun (t:Int)=>jn (Bool×(Bool×Int×Int)×(Bool×Int×Int)×PUnit) (Bool×Int×Int) (fun (x:Bool×(Bool×Int×Int)×(Bool×Int×Int)×PUnit) =>
 let v17:Bool:=!x.1;
 let v18:Bool:=v17||x.1;
 let v19:Bool:=!decide (xI x.2.1.2.1 x.2.2.1.2.1 (uN x.2.1.2.2 x.2.2.1.2.2 0)=0);
 let v20:Bool:=x.1&&!v19;bif v13 then bif decide (0<=uN x.2.1.2.2 x.2.2.1.2.2 0)&&decide (uN x.2.1.2.2 x.2.2.1.2.2 (0 : Int)<=1) then bif v18 then bif v18 then bif !v20||v20 then bif (v17||v18)&&(v17||(v19||(v17||v20))) then bif v18 then some (bif x.1 then bif v19 then true else !decide (xI x.2.1.2.2 x.2.2.1.2.2 0=0) else false,xI x.2.1.2.1 x.2.2.1.2.1 (uN x.2.1.2.2 x.2.2.1.2.2 (0 : Int)),xI x.2.1.2.2 x.2.2.1.2.2 0) else none else none else none else none else none else none else none) fun (j:Bool×(Bool×Int×Int)×(Bool×Int × Int)×PUnit->Option (Bool×Int×Int))=>bif decide (t<0) then j (v4,x1,x0,PUnit.unit) else j (x0.1,x0,x1,PUnit.unit)
def bJ (x0:Bool×Int×Int) (x1:Bool×Int×Int):Option (Bool×Int×Int):=jd lpK jnK aw x0 x1
abbrev Pz:=(Bool×Int×Int)->(Bool×Int×Int)->Option (Bool×Int×Int)
def TO (bJ:Pz):Ctr:=⟨[tN,tN],[],[],.one tN,fun x _ _=>bJ x.1 x.2.1⟩
def Ir:Ctr:=TO bJ
theorem Vp (lp:Lp) (jn:Jn) (aw:LK):∀(x:TsS Ir.as) (F:TsF Ir.fs) (y:TsS Ir.cs),jd lp jn aw x.1 x.2.1=aX lp jn (cx [(192,PZ aw)] [(32,r32),(92,r92),(112,aJ)]) aj 4 177 f177 Ir x F y:=fun x F y=>by kernel_rfl
theorem Te:Ir.ok prog 177:=Ctr.of_den (al (aa (q32) (by kernel_rfl) Po)) av (hl:=aj) (d:=4) func177 rfl (by decide) (Vp lpK jnK aw)
def tW (_:Lp) (jn:Jn) (x0:Int):Option Int :=
 jn (Int×Int×PUnit) Int (fun (x:Int×Int×PUnit)=>jn (Int×Int×PUnit) Int (fun (x:Int×Int×PUnit) =>
 let v5:Int:=IntKind.wrap IntKind.u8 x.1;
 let v6:Int:=IntKind.wrap IntKind.u8 (Int.fdiv x.1 (2 ^ 8));bif decide (x.1>=256) then bif decide ((0:Int)<=8) then bif inB v6 256 then some (IntKind.wrap .i64 (IntKind.wrap .i64 (x.2.1+8)+IntKind.wrap .i64 (fw { data:=List.toArray (List.append (List.append [(0:UInt8),(1 : UInt8),(2:UInt8),(2:UInt8),(3:UInt8),(3:UInt8),(3:UInt8),(3:UInt8),(4:UInt8),(4:UInt8),(4:UInt8),(4:UInt8),(4:UInt8),(4:UInt8),(4:UInt8),(4 : UInt8),(5:UInt8),(5:UInt8),(5:UInt8),(5:UInt8),(5:UInt8),(5:UInt8),(5:UInt8),(5:UInt8),(5:UInt8),(5:UInt8),(5:UInt8),(5:UInt8),(5:UInt8),(5 : UInt8),(5:UInt8),(5:UInt8),(6:UInt8),(6:UInt8),(6:UInt8),(6:UInt8),(6:UInt8),(6:UInt8),(6:UInt8),(6:UInt8),(6:UInt8),(6:UInt8),(6:UInt8),(6 : UInt8),(6:UInt8),(6:UInt8),(6:UInt8),(6:UInt8),(6:UInt8),(6:UInt8),(6:UInt8),(6:UInt8),(6:UInt8),(6:UInt8),(6:UInt8),(6:UInt8),(6:UInt8),(6 : UInt8),(6:UInt8),(6:UInt8),(6:UInt8),(6:UInt8),(6:UInt8),(6:UInt8)] [(7:UInt8),(7:UInt8),(7:UInt8),(7:UInt8),(7:UInt8),(7:UInt8),(7:UInt8),(7 : UInt8),(7:UInt8),(7:UInt8),(7:UInt8),(7:UInt8),(7:UInt8),(7:UInt8),(7:UInt8),(7:UInt8),(7:UInt8),(7:UInt8),(7:UInt8),(7:UInt8),(7:UInt8),(7 : UInt8),(7:UInt8),(7:UInt8),(7:UInt8),(7:UInt8),(7:UInt8),(7:UInt8),(7:UInt8),(7:UInt8),(7:UInt8),(7:UInt8),(7:UInt8),(7:UInt8),(7:UInt8),(7 : UInt8),(7:UInt8),(7:UInt8),(7:UInt8),(7:UInt8),(7:UInt8),(7:UInt8),(7:UInt8),(7:UInt8),(7:UInt8),(7:UInt8),(7:UInt8),(7:UInt8),(7:UInt8),(7 : UInt8),(7:UInt8),(7:UInt8),(7:UInt8),(7:UInt8),(7:UInt8),(7:UInt8),(7:UInt8),(7:UInt8),(7:UInt8),(7:UInt8),(7:UInt8),(7:UInt8),(7:UInt8),(7 : UInt8)]) (List.append [(8:UInt8),(8:UInt8),(8:UInt8),(8:UInt8),(8:UInt8),(8:UInt8),(8:UInt8),(8:UInt8),(8:UInt8),(8:UInt8),(8:UInt8),(8:UInt8),(8 : UInt8),(8:UInt8),(8:UInt8),(8:UInt8),(8:UInt8),(8:UInt8),(8:UInt8),(8:UInt8),(8:UInt8),(8:UInt8),(8:UInt8),(8:UInt8),(8:UInt8),(8:UInt8),(8 : UInt8),(8:UInt8),(8:UInt8),(8:UInt8),(8:UInt8),(8:UInt8),(8:UInt8),(8:UInt8),(8:UInt8),(8:UInt8),(8:UInt8),(8:UInt8),(8:UInt8),(8:UInt8),(8 : UInt8),(8:UInt8),(8:UInt8),(8:UInt8),(8:UInt8),(8:UInt8),(8:UInt8),(8:UInt8),(8:UInt8),(8:UInt8),(8:UInt8),(8:UInt8),(8:UInt8),(8:UInt8),(8 : UInt8),(8:UInt8),(8:UInt8),(8:UInt8),(8:UInt8),(8:UInt8),(8:UInt8),(8:UInt8),(8:UInt8),(8:UInt8)] [(8:UInt8),(8:UInt8),(8:UInt8),(8:UInt8),(8 : UInt8),(8:UInt8),(8:UInt8),(8:UInt8),(8:UInt8),(8:UInt8),(8:UInt8),(8:UInt8),(8:UInt8),(8:UInt8),(8:UInt8),(8:UInt8),(8:UInt8),(8:UInt8),(8 : UInt8),(8:UInt8),(8:UInt8),(8:UInt8),(8:UInt8),(8:UInt8),(8:UInt8),(8:UInt8),(8:UInt8),(8:UInt8),(8:UInt8),(8:UInt8),(8:UInt8),(8:UInt8),(8 : UInt8),(8:UInt8),(8:UInt8),(8:UInt8),(8:UInt8),(8:UInt8),(8:UInt8),(8:UInt8),(8:UInt8),(8:UInt8),(8:UInt8),(8:UInt8),(8:UInt8),(8:UInt8),(8 : UInt8),(8:UInt8),(8:UInt8),(8:UInt8),(8:UInt8),(8:UInt8),(8:UInt8),(8:UInt8),(8:UInt8),(8:UInt8),(8:UInt8),(8:UInt8),(8:UInt8),(8:UInt8),(8 : UInt8),(8:UInt8),(8:UInt8),(8:UInt8)])) } v6.toNat))) else none else none else bif inB v5 256 then some (IntKind.wrap .i64 (x.2.1+IntKind.wrap IntKind.i64 (fw { data:=List.toArray (List.append (List.append [(0:UInt8),(1:UInt8),(2:UInt8),(2:UInt8),(3:UInt8),(3:UInt8),(3:UInt8),(3:UInt8),(4 : UInt8),(4:UInt8),(4:UInt8),(4:UInt8),(4:UInt8),(4:UInt8),(4:UInt8),(4:UInt8),(5:UInt8),(5:UInt8),(5:UInt8),(5:UInt8),(5:UInt8),(5:UInt8),(5 : UInt8),(5:UInt8),(5:UInt8),(5:UInt8),(5:UInt8),(5:UInt8),(5:UInt8),(5:UInt8),(5:UInt8),(5:UInt8),(6:UInt8),(6:UInt8),(6:UInt8),(6:UInt8),(6 : UInt8),(6:UInt8),(6:UInt8),(6:UInt8),(6:UInt8),(6:UInt8),(6:UInt8),(6:UInt8),(6:UInt8),(6:UInt8),(6:UInt8),(6:UInt8),(6:UInt8),(6:UInt8),(6 : UInt8),(6:UInt8),(6:UInt8),(6:UInt8),(6:UInt8),(6:UInt8),(6:UInt8),(6:UInt8),(6:UInt8),(6:UInt8),(6:UInt8),(6:UInt8),(6:UInt8),(6:UInt8)] [(7 : UInt8),(7:UInt8),(7:UInt8),(7:UInt8),(7:UInt8),(7:UInt8),(7:UInt8),(7:UInt8),(7:UInt8),(7:UInt8),(7:UInt8),(7:UInt8),(7:UInt8),(7:UInt8),(7 : UInt8),(7:UInt8),(7:UInt8),(7:UInt8),(7:UInt8),(7:UInt8),(7:UInt8),(7:UInt8),(7:UInt8),(7:UInt8),(7:UInt8),(7:UInt8),(7:UInt8),(7:UInt8),(7 : UInt8),(7:UInt8),(7:UInt8),(7:UInt8),(7:UInt8),(7:UInt8),(7:UInt8),(7:UInt8),(7:UInt8),(7:UInt8),(7:UInt8),(7:UInt8),(7:UInt8),(7:UInt8),(7 : UInt8),(7:UInt8),(7:UInt8),(7:UInt8),(7:UInt8),(7:UInt8),(7:UInt8),(7:UInt8),(7:UInt8),(7:UInt8),(7:UInt8),(7:UInt8),(7:UInt8),(7:UInt8),(7 : UInt8),(7:UInt8),(7:UInt8),(7:UInt8),(7:UInt8),(7:UInt8),(7:UInt8),(7:UInt8)]) (List.append [(8:UInt8),(8:UInt8),(8:UInt8),(8:UInt8),(8:UInt8),(8 : UInt8),(8:UInt8),(8:UInt8),(8:UInt8),(8:UInt8),(8:UInt8),(8:UInt8),(8:UInt8),(8:UInt8),(8:UInt8),(8:UInt8),(8:UInt8),(8:UInt8),(8:UInt8),(8 : UInt8),(8:UInt8),(8:UInt8),(8:UInt8),(8:UInt8),(8:UInt8),(8:UInt8),(8:UInt8),(8:UInt8),(8:UInt8),(8:UInt8),(8:UInt8),(8:UInt8),(8:UInt8),(8 : UInt8),(8:UInt8),(8:UInt8),(8:UInt8),(8:UInt8),(8:UInt8),(8:UInt8),(8:UInt8),(8:UInt8),(8:UInt8),(8:UInt8),(8:UInt8),(8:UInt8),(8:UInt8),(8 : UInt8),(8:UInt8),(8:UInt8),(8:UInt8),(8:UInt8),(8:UInt8),(8:UInt8),(8:UInt8),(8:UInt8),(8:UInt8),(8:UInt8),(8:UInt8),(8:UInt8),(8:UInt8),(8 : UInt8),(8:UInt8),(8:UInt8)] [(8:UInt8),(8:UInt8),(8:UInt8),(8:UInt8),(8:UInt8),(8:UInt8),(8:UInt8),(8:UInt8),(8:UInt8),(8:UInt8),(8:UInt8),(8 : UInt8),(8:UInt8),(8:UInt8),(8:UInt8),(8:UInt8),(8:UInt8),(8:UInt8),(8:UInt8),(8:UInt8),(8:UInt8),(8:UInt8),(8:UInt8),(8:UInt8),(8:UInt8),(8 : UInt8),(8:UInt8),(8:UInt8),(8:UInt8),(8:UInt8),(8:UInt8),(8:UInt8),(8:UInt8),(8:UInt8),(8:UInt8),(8:UInt8),(8:UInt8),(8:UInt8),(8:UInt8),(8 : UInt8),(8:UInt8),(8:UInt8),(8:UInt8),(8:UInt8),(8:UInt8),(8:UInt8),(8:UInt8),(8:UInt8),(8:UInt8),(8:UInt8),(8:UInt8),(8:UInt8),(8:UInt8),(8 : UInt8),(8:UInt8),(8:UInt8),(8:UInt8),(8:UInt8),(8:UInt8),(8:UInt8),(8:UInt8),(8:UInt8),(8:UInt8),(8:UInt8)])) } v5.toNat))) else none) fun (j:Int × Int×PUnit->Option Int)=>bif decide (x.1>=65536) then bif decide ((0:Int)<=16) then j (Int.fdiv x.1 (2 ^ 16),IntKind.wrap .i64 (x.2.1+16),PUnit.unit) else none else j (x.1,x.2.1,PUnit.unit)) fun (j:Int×Int×PUnit->Option Int)=>bif decide (x0>=4294967296) then bif decide (0<=32) then j (Int.fdiv x0 (2 ^ 32),32,PUnit.unit) else none else j (x0,0,PUnit.unit)
def gi (x0:Int):Option Int:=tW lpK jnK x0
abbrev Tu:=(Int)->Option (Int)
def IG:Ctr:=⟨[(.int .u64)],[],[],.one i64,fun x _ _=>gi x.1⟩
theorem Uz (lp:Lp) (jn:Jn):∀(x:TsS IG.as) (F:TsF IG.fs) (y:TsS IG.cs),tW lp jn x.1=aX lp jn (cx [] [(32,r32),(92,r92),(112,aJ)]) aj 4 194 f194 IG x F y:=fun x F y=>by kernel_rfl
theorem Rs:IG.ok prog 194:=Ctr.of_den (al (q32)) av (hl:=aj) (d:=4) func194 rfl (by decide) (Uz lpK jnK)
def gW (_:Lp) (_:Jn) (gi:Tu) (x0:Int):Option Int :=
 ah (gi x0) fun (t:Int)=>some (IntKind.wrap .i64 (64 - t))
def cD (x0:Int):Option Int:=gW lpK jnK gi x0
abbrev SN:=(Int)->Option (Int)
def Hw:Ctr:=⟨[(.int .u64)],[],[],.one i64,fun x _ _=>cD x.1⟩
theorem VX (lp:Lp) (jn:Jn) (gi:Tu):∀(x:TsS Hw.as) (F:TsF Hw.fs) (y:TsS Hw.cs),gW lp jn gi x.1=aX lp jn (cx [(194,⟨[(.int .u64)],[],[],.one i64,fun x _ _=>gi x.1⟩)] [(32,r32),(92,r92),(112,aJ)]) aj 4 193 f193 Hw x F y:=fun x F y=>by kernel_rfl
theorem RU:Hw.ok prog 193:=Ctr.of_den (al (aa (q32) (by kernel_rfl) Rs)) av (hl:=aj) (d:=4) func193 rfl (by decide) (VX lpK jnK gi)
def ov (lp:Lp) (jn:Jn) (cD:SN) (x0:Int) (x1:Int) (x2:Int):Option (Int×Int×Unit) :=
 
 let v5:Bool:=nzB x2;
 let v6:Int:=2 ^ 32;
 let v7:Bool:=decide ((0:Int)<=32);jn PUnit (Int×Int×PUnit) (fun (_:PUnit)=>jn PUnit (Int×Int×PUnit) (fun (_:PUnit)=>bif decide (x0=0) then bif v5 then bif v5 then some (IntKind.wrap .u64 (Int.tdiv x1 x2),Int.tmod x1 x2,PUnit.unit) else none else none else ah (cD x2) fun (t:Int) =>
 let v11:Int:=IntKind.wrap .u64 t;
 let v12:Bool:=decide (0<=v11);
 let v13:Int:=2 ^ min v11.toNat 64;
 let v14:Int:=IntKind.wrap .u64 (x2*v13);
 let v15:Int:=IntKind.wrap .u64 (x1*v13);
 let v16:Int:=Int.fdiv v14 v6;
 let v17:Int:=Int.fdiv v15 v6;
 let v18:Bool:=nzB v16;
 let v19:Int:=IntKind.wrap .u64 (↑(Nat.land (Int.toNat (v15 % Int.ofNat 18446744073709551616)) (Int.toNat (4294967295 % Int.ofNat 18446744073709551616))) : Int);
 let v20:Int:=IntKind.wrap .u64 (↑(Nat.land (Int.toNat (v14 % Int.ofNat 18446744073709551616)) (Int.toNat (4294967295 % Int.ofNat 18446744073709551616))) : Int);
 let v21:Int:=IntKind.wrap .u64 (↑(Nat.lor (Int.toNat (IntKind.wrap .u64 (x0*v13) % Int.ofNat 18446744073709551616)) (Int.toNat (Int.fdiv x1 (2 ^ min (Int.toNat (IntKind.wrap .u64 (64 - v11))) 64) % Int.ofNat 18446744073709551616))):Int);
 let v22:Int:=IntKind.wrap .u64 (Int.tdiv v21 v16);bif v12 then bif v7 then bif v12 then bif decide (0<=IntKind.wrap .u64 (64 - v11)) then bif v12 then bif v7 then bif v18 then jn (Int×PUnit) (Int×Int×PUnit) (fun (x:Int×PUnit) =>
 let v24:Int:=IntKind.wrap .u64 (IntKind.wrap .u64 (IntKind.wrap .u64 (v21*4294967296)+v17) - IntKind.wrap .u64 (x.1*v14));
 let v25:Int:=IntKind.wrap .u64 (Int.tdiv v24 v16);bif v18 then jn (Int×PUnit) (Int×Int×PUnit) (fun (x_1:Int×PUnit)=>bif v12 then some (IntKind.wrap .u64 (IntKind.wrap .u64 (x.1*4294967296)+x_1.1),Int.fdiv (IntKind.wrap .u64 (IntKind.wrap .u64 (IntKind.wrap .u64 (v24*4294967296) + v19) - IntKind.wrap .u64 (x_1.1*v14))) v13,PUnit.unit) else none) fun (j:Int×PUnit->Option (Int×Int×PUnit))=>lp (Int×Int×PUnit) (Int×Int×PUnit) (fun (again:Int×Int×PUnit->Option (Int×Int×PUnit)) (x:Int×Int×PUnit) =>
 let v29:Int×PUnit:=(IntKind.wrap .u64 (x.2.1 - 1),PUnit.unit);
 let v30:Bool:=decide (x.2.1>=4294967296);
 let v31:Bool:=!v30;
 let v32:Bool:=!v31||v31;
 let v33:Bool:=v32&&v32;bif v33 then bif v32 then bif v33 then bif v33 then bif v30||v31 then bif bif v30 then true else decide (IntKind.wrap .u64 (x.2.1*v20) > IntKind.wrap .u64 (IntKind.wrap .u64 (4294967296*x.1)+v19)) then bif decide (IntKind.wrap .u64 (x.1+v16)>=4294967296) then j v29 else again (IntKind.wrap .u64 (x.1+v16),v29) else j (x.2.1,PUnit.unit) else none else none else none else none else none) (IntKind.wrap .u64 (v24 - IntKind.wrap IntKind.u64 (v25*v16)),v25,PUnit.unit) else none) fun (j:Int×PUnit->Option (Int×Int×PUnit))=>lp (Int×Int×PUnit) (Int×Int×PUnit) (fun (again:Int×Int×PUnit -> Option (Int×Int×PUnit)) (x:Int×Int×PUnit) =>
 let v26:Int:=IntKind.wrap .u64 (x.1 - 1);
 let v27:Bool:=decide (x.1>=4294967296);
 let v28:Bool:=!v27;
 let v29:Bool:=!v28||v28;
 let v30:Bool:=v29&&v29;bif v30 then bif v29 then bif v30 then bif v30 then bif v27||v28 then bif bif v27 then true else decide (IntKind.wrap .u64 (x.1*v20) > IntKind.wrap .u64 (IntKind.wrap .u64 (4294967296*x.2.1)+v17)) then bif decide (IntKind.wrap .u64 (x.2.1+v16)>=4294967296) then j (v26,PUnit.unit) else again (v26,IntKind.wrap .u64 (x.2.1+v16),PUnit.unit) else j (x.1,PUnit.unit) else none else none else none else none else none) (v22, IntKind.wrap .u64 (v21 - IntKind.wrap .u64 (v22*v16)),PUnit.unit) else none else none else none else none else none else none else none) fun (j:PUnit->Option (Int × Int×PUnit))=>bif decide (x2<=x0) then none else j PUnit.unit) fun (j:PUnit->Option (Int×Int×PUnit))=>bif decide (x2=0) then none else j PUnit.unit
def cO (x0:Int) (x1:Int) (x2:Int):Option (Int×Int×Unit):=ov lpK jnK cD x0 x1 x2
abbrev Ip:=(Int)->(Int)->(Int)->Option (Int×Int×Unit)
def QP (cO:Ip):Ctr:=⟨[(.int .u64),(.int .u64),(.int .u64)],[],[],.tup [(.int .u64),(.int .u64)],fun x _ _=>cO x.1 x.2.1 x.2.2.1⟩
def K9:Ctr:=QP cO
theorem VS (lp:Lp) (jn:Jn) (cD:SN):∀(x:TsS K9.as) (F:TsF K9.fs) (y:TsS K9.cs),ov lp jn cD x.1 x.2.1 x.2.2.1=aX lp jn (cx [(193,⟨[(.int .u64)],[],[],.one i64,fun x _ _=>cD x.1⟩)] [(32,r32),(92,r92),(112,aJ)]) aj 4 185 f185 K9 x F y:=fun x F y=>by kernel_rfl
theorem OY:K9.ok prog 185:=Ctr.of_den (al (aa (q32) (by kernel_rfl) RU)) av (hl:=aj) (d:=4) func185 rfl (by decide) (VS lpK jnK cD)
def jv (_:Lp) (_:Jn) (cO:Ip) (x0:Bool×Int×Int) (x1:Int):Option Int :=
 ah (cO x0.2.1 x0.2.2 (IntKind.wrap .u64 x1)) fun (t:Int×Int×PUnit) =>
 let v5:Int:=IntKind.wrap .i64 t.1;bif x0.1 then some (IntKind.wrap .i64 (0 - v5)) else some v5
def cM (x0:Bool×Int×Int) (x1:Int):Option Int:=jv lpK jnK cO x0 x1
abbrev Tl:=(Bool×Int×Int)->(Int)->Option (Int)
def JP:Ctr:=⟨[tN,i64],[],[],.one i64,fun x _ _=>cM x.1 x.2.1⟩
theorem VU (lp:Lp) (jn:Jn) (cO:Ip):∀(x:TsS JP.as) (F:TsF JP.fs) (y:TsS JP.cs),jv lp jn cO x.1 x.2.1=aX lp jn (cx [(185,QP cO)] [(32,r32),(92,r92),(112,aJ)]) aj 4 178 f178 JP x F y:=fun x F y=>by kernel_rfl
theorem SI:JP.ok prog 178:=Ctr.of_den (al (aa (q32) (by kernel_rfl) OY)) av (hl:=aj) (d:=4) func178 rfl (by decide) (VU lpK jnK cO)
def jO (lp:Lp) (_:Jn) (bB:Me) (bJ:Pz) (cM:Tl) (x0:List Nat×List (Option (List Int))) (x1:Int) (x2:List Int) (x3:List Int) (x4:List Int) (x5:Int) (x6:Int) (x7:Int) (x8:Int):Option ((List Nat×List (Option (List Int)))×Int×(List Int)×(List Int)×(List Int)×Int×Int×Unit) :=
 
 let v11:List Int×List Int×List Int×Int×Int×PUnit:=(x2.set x7.toNat x8,x3,x4,x5,x6,PUnit.unit);bif inB x7 x0.1.length then bif Nat.ble (Nat.succ x7.toNat) x0.1.length then bif inB x8 (List.length (bw x0.2 (x0.1.getD x7.toNat 0))) then bif Nat.ble (Nat.succ x8.toNat) (List.length (bw x0.2 (x0.1.getD x7.toNat 0))) then lp (Int×(List Nat×List (Option (List Int)))×PUnit) ((List Nat×List (Option (List Int)))×Int×List Int×List Int×List Int×Int×Int×PUnit) (fun (again:Int×(List Nat×List (Option (List Int)))×PUnit->Option ((List Nat×List (Option (List Int)))×Int×List Int×List Int×List Int×Int×Int×PUnit)) (x:Int×(List Nat×List (Option (List Int)))×PUnit) =>
 let v14:Int:=IntKind.wrap .i64 (x.1+1);
 let v15:(List Nat×List (Option (List Int)))×PUnit:=(x.2.1,PUnit.unit);
 let v16:Int×(List Nat×List (Option (List Int)))×PUnit:=(0,v15);bif decide (x.1<(↑x0.1.length:Int)) then bif inB x.1 x.2.1.1.length then bif Nat.ble (Nat.succ x.1.toNat) x.2.1.1.length then bif decide (x.1=x7) then again (v14,v15) else bif inB x8 (List.length (bw x.2.1.2 (x.2.1.1.getD x.1.toNat 0))) then bif Nat.ble (Nat.succ x8.toNat) (List.length (bw x.2.1.2 (x.2.1.1.getD x.1.toNat 0))) then bif gu x.2.1.2 (x.2.1.1.getD x.1.toNat 0) then lp (Int×(List Nat×List (Option (List Int)))×PUnit) ((List Nat×List (Option (List Int)))×Int × List Int×List Int×List Int×Int×Int×PUnit) (fun (again_1:Int×(List Nat×List (Option (List Int)))×PUnit->Option ((List Nat×List (Option (List Int)))×Int×List Int × List Int×List Int×Int×Int×PUnit)) (x_1:Int×(List Nat×List (Option (List Int)))×PUnit)=>bif decide (x_1.1<(↑(List.length (bw x.2.1.2 (x.2.1.1.getD x.1.toNat 0))):Int)) then bif inB x_1.1 (List.length (bw x_1.2.1.2 (x.2.1.1.getD x.1.toNat 0))) then bif Nat.ble (Nat.succ x_1.1.toNat) (List.length (bw x_1.2.1.2 (x.2.1.1.getD x.1.toNat 0))) then ah (bB (List.getD (bw x_1.2.1.2 (x.2.1.1.getD x.1.toNat 0)) x_1.1.toNat 0) (List.getD (bw x0.2 (x0.1.getD x7.toNat 0)) x8.toNat 0)) fun (t:Bool×Int×Int)=>bif inB x7 x_1.2.1.1.length then bif Nat.ble (Nat.succ x7.toNat) x_1.2.1.1.length then bif inB x_1.1 (List.length (bw x_1.2.1.2 (x_1.2.1.1.getD x7.toNat 0))) then bif Nat.ble (Nat.succ x_1.1.toNat) (List.length (bw x_1.2.1.2 (x_1.2.1.1.getD x7.toNat 0))) then ah (bB (List.getD (bw x.2.1.2 (x.2.1.1.getD x.1.toNat 0)) x8.toNat 0) (List.getD (bw x_1.2.1.2 (x_1.2.1.1.getD x7.toNat 0)) x_1.1.toNat 0)) fun (t_1:Bool×Int×Int)=>ah (bJ t t_1) fun (t:Bool × Int×Int)=>ah (cM t x1) fun (t:Int)=>bif inB x_1.1 (List.length (bw x_1.2.1.2 (x.2.1.1.getD x.1.toNat 0))) then bif Nat.ble (Nat.succ x_1.1.toNat) (List.length (bw x_1.2.1.2 (x.2.1.1.getD x.1.toNat 0))) then again_1 (IntKind.wrap .i64 (x_1.1+(1 : Int)),(x_1.2.1.1,x_1.2.1.2.set (x.2.1.1.getD x.1.toNat 0) (some (List.set (bw x_1.2.1.2 (x.2.1.1.getD x.1.toNat 0)) x_1.1.toNat t))),PUnit.unit) else none else none else none else none else none else none else none else none else again (v14,x_1.2.1,PUnit.unit)) v16 else none else none else none else none else none else bif inB x7 x2.length then bif Nat.ble (Nat.succ x7.toNat) x2.length then bif decide (List.getD (bw x0.2 (x0.1.getD x7.toNat 0)) x8.toNat 0<0) then lp (Int×(List Nat×List (Option (List Int)))×PUnit) ((List Nat×List (Option (List Int))) × Int×List Int×List Int×List Int×Int×Int×PUnit) (fun (again:Int×(List Nat×List (Option (List Int)))×PUnit->Option ((List Nat×List (Option (List Int)))×Int×List Int×List Int×List Int×Int×Int×PUnit)) (x_1:Int×(List Nat×List (Option (List Int)))×PUnit)=>bif decide (x_1.1<(↑x.2.1.1.length:Int)) then bif inB x_1.1 x_1.2.1.1.length then bif Nat.ble (Nat.succ x_1.1.toNat) x_1.2.1.1.length then bif gu x_1.2.1.2 (x_1.2.1.1.getD x_1.1.toNat 0) then lp (Int×(List Nat×List (Option (List Int)))×PUnit) ((List Nat×List (Option (List Int)))×Int×List Int×List Int×List Int×Int×Int×PUnit) (fun (again_1:Int×(List Nat×List (Option (List Int)))×PUnit->Option ((List Nat×List (Option (List Int)))×Int×List Int×List Int×List Int×Int×Int×PUnit)) (x:Int × (List Nat×List (Option (List Int)))×PUnit)=>bif decide (x.1<(↑(List.length (bw x_1.2.1.2 (x_1.2.1.1.getD x_1.1.toNat 0))):Int)) then bif inB x.1 (List.length (bw x.2.1.2 (x_1.2.1.1.getD x_1.1.toNat 0))) then bif Nat.ble (Nat.succ x.1.toNat) (List.length (bw x.2.1.2 (x_1.2.1.1.getD x_1.1.toNat 0))) then bif inB x.1 (List.length (bw x.2.1.2 (x_1.2.1.1.getD x_1.1.toNat 0))) then bif Nat.ble (Nat.succ x.1.toNat) (List.length (bw x.2.1.2 (x_1.2.1.1.getD x_1.1.toNat 0))) then again_1 (IntKind.wrap .i64 (x.1+(1 : Int)),(x.2.1.1,x.2.1.2.set (x_1.2.1.1.getD x_1.1.toNat 0) (some (List.set (bw x.2.1.2 (x_1.2.1.1.getD x_1.1.toNat 0)) x.1.toNat (IntKind.wrap .i64 (0 - List.getD (bw x.2.1.2 (x_1.2.1.1.getD x_1.1.toNat 0)) x.1.toNat 0))))),PUnit.unit) else none else none else none else none else again (IntKind.wrap .i64 (x_1.1+1),x.2.1,PUnit.unit)) (0,x_1.2.1, PUnit.unit) else none else none else none else some (x_1.2.1,IntKind.wrap .i64 (0 - List.getD (bw x0.2 (x0.1.getD x7.toNat 0)) x8.toNat 0),v11)) v16 else some (x.2.1,List.getD (bw x0.2 (x0.1.getD x7.toNat 0)) x8.toNat 0,v11) else none else none) (0,x0, PUnit.unit) else none else none else none else none
def aI (x0:List Nat×List (Option (List Int))) (x1:Int) (x2:List Int) (x3:List Int) (x4:List Int) (x5:Int) (x6:Int) (x7:Int) (x8:Int):Option ((List Nat×List (Option (List Int)))×Int×(List Int)×(List Int)×(List Int)×Int×Int×Unit):=jO lpK jnK bB bJ cM x0 x1 x2 x3 x4 x5 x6 x7 x8
abbrev I3:=(List Nat×List (Option (List Int)))->(Int)->(List Int)->(List Int)->(List Int)->(Int)->(Int)->(Int)->(Int)->Option ((List Nat×List (Option (List Int)))×Int×(List Int)×(List Int)×(List Int)×Int×Int×Unit)
def Qc (aI:I3):SCtr:=⟨[.b [.x (.tab 79 .ref 3 i64),.d i64,.row 3 i64,.row 3 i64,.row 3 i64,.d i64,.d i64],.d i64,.d i64],[],fun x=>aI x.1 x.2.1 x.2.2.1 x.2.2.2.1 x.2.2.2.2.1 x.2.2.2.2.2.1 x.2.2.2.2.2.2.1 x.2.2.2.2.2.2.2.1 x.2.2.2.2.2.2.2.2.1⟩
def P9:SCtr:=Qc aI
theorem VJ (lp:Lp) (jn:Jn) (bB:Me) (bJ:Pz) (cM:Tl):∀x:TsR (rhI 0 P9.ks),jO lp jn bB bJ cM x.1 x.2.1 x.2.2.1 x.2.2.2.1 x.2.2.2.2.1 x.2.2.2.2.2.1 x.2.2.2.2.2.2.1 x.2.2.2.2.2.2.2.1 x.2.2.2.2.2.2.2.2.1=L8 lp jn (Dn.look []) (cx [(178,⟨[tN,i64],[],[],.one i64,fun x _ _=>cM x.1 x.2.1⟩),(177,TO bJ),(176,QM bB)] [(32,r32),(92,r92),(112,aJ)]) aj 4 149 f149 P9 x:=fun x=>by kernel_rfl
theorem OX:P9.ok prog 149:=SCtr.of_den (al (aa (aa (aa (q32) (by kernel_rfl) O2) (by kernel_rfl) Te) (by kernel_rfl) SI)) av (qL) (hl:=aj) (d:=4) func149 rfl (by decide) (VJ lpK jnK bB bJ cM)
def jQ (_:Lp) (_:Jn) (aw:LK) (x0:Bool×Int×Int) (x1:Bool×Int×Int):Option Int :=
 
 let v4:Bool:=!decide (x0.1=x1.1);
 let v5:Bool:=!v4||v4;bif v5 then bif v5 then bif bif v4 then x0.1 else false then some (-1) else bif v4 then some 1 else bif x0.1 then ah (aw x1 x0) fun (t:Int)=>some t else ah (aw x0 x1) fun (t:Int)=>some t else none else none
def cU (x0:Bool×Int×Int) (x1:Bool×Int×Int):Option Int:=jQ lpK jnK aw x0 x1
abbrev RA:=(Bool×Int×Int)->(Bool×Int×Int)->Option (Int)
def LH:Ctr:=⟨[tN,tN],[],[],.one i64,fun x _ _=>cU x.1 x.2.1⟩
theorem VE (lp:Lp) (jn:Jn) (aw:LK):∀(x:TsS LH.as) (F:TsF LH.fs) (y:TsS LH.cs),jQ lp jn aw x.1 x.2.1=aX lp jn (cx [(192,PZ aw)] [(32,r32),(92,r92),(112,aJ)]) aj 4 179 f179 LH x F y:=fun x F y=>by kernel_rfl
theorem Tk:LH.ok prog 179:=Ctr.of_den (al (aa (q32) (by kernel_rfl) Po)) av (hl:=aj) (d:=4) func179 rfl (by decide) (VE lpK jnK aw)
def jf (lp:Lp) (_:Jn) (bB:Me) (cU:RA) (x0:(List (List Int))×Int×(List Int)×(List Int)×(List Int)×Int×Int) (x1:Int):Option Int :=
 lp (Int×Int×PUnit) Int (fun (again:Int×Int×PUnit->Option Int) (x:Int×Int×PUnit) =>
 let v6:Int×PUnit:=(IntKind.wrap .i64 (x.2.1+1),PUnit.unit);
 let v7:Bool:=inB x.1 x0.1.length;
 let v8:List Int:=x0.1.getD x.1.toNat [];
 let v9:List Int:=x0.1.getD x.2.1.toNat [];
 let v10:Bool:=inB x1 v9.length;bif decide (x.2.1<(↑x0.1.length:Int)) then bif inB x.2.1 x0.1.length then bif v10 then bif decide (v9.getD x1.toNat 0<=0) then again (x.1,v6) else bif decide (x.1<0) then again (x.2.1,v6) else bif inB x0.2.2.2.2.2.2 v9.length then bif v7 then bif inB x1 v8.length then ah (bB (v9.getD x0.2.2.2.2.2.2.toNat 0) (v8.getD x1.toNat 0)) fun (t:Bool × Int×Int)=>bif v7 then bif inB x0.2.2.2.2.2.2 v8.length then bif v10 then ah (bB (v8.getD x0.2.2.2.2.2.2.toNat 0) (v9.getD x1.toNat 0)) fun (t_1:Bool×Int×Int)=>ah (cU t t_1) fun (t:Int) =>
 let v14:Bool:=decide (t=0);
 let v15:Bool:=decide (t<0);
 let v16:Bool:=!v15;
 let v17:Bool:=!v16;
 let v18:Bool:=v16&&v14;
 let v19:Bool:=!v18;
 let v20:Bool:=v17||v16;
 let v21:Bool:=v19||v18;bif v20 then bif v20 then bif v21 then bif v21 then bif v21 then bif v21&&(v21&&(v19||inB x.2.1 x0.2.2.1.length)) then bif v21 then bif v21 then bif v21 then bif v21 then bif v21&&(v21&&(v19||inB x.1 x0.2.2.1.length)) then bif v21 then bif v21&&v21 then bif (v17||v20)&&(v17||(!v14 || (v17||v18))) then bif v15||v16 then bif bif v15 then true else bif v14 then decide (x0.2.2.1.getD x.2.1.toNat 0<x0.2.2.1.getD x.1.toNat 0) else false then again (x.2.1,v6) else again (x.1,v6) else none else none else none else none else none else none else none else none else none else none else none else none else none else none else none else none else none else none else none else none else none else none else none else some x.1) ((-1),0,PUnit.unit)
def aG (x0:(List (List Int))×Int×(List Int)×(List Int)×(List Int)×Int×Int) (x1:Int):Option Int:=jf lpK jnK bB cU x0 x1
abbrev KT:=((List (List Int))×Int×(List Int)×(List Int)×(List Int)×Int×Int)->(Int)->Option (Int)
def Q1 (aG:KT):PCtr:=⟨G4,[i64],.one i64,fun x y=>aG x y.1⟩
def NL:PCtr:=Q1 aG
theorem UA (lp:Lp) (jn:Jn) (bB:Me) (cU:RA):∀(x:NL.s.T) (y:TsS NL.as),jf lp jn bB cU x y.1=EA lp jn (cx [(179,⟨[tN,tN],[],[],.one i64,fun x _ _=>cU x.1 x.2.1⟩),(176,QM bB)] [(32,r32),(92,r92),(112,aJ)]) aj 4 150 f150 NL x y:=fun x y=>by kernel_rfl
theorem OT:NL.ok prog 150:=PCtr.of_den (al (aa (aa (q32) (by kernel_rfl) O2) (by kernel_rfl) Tk)) av (hl:=aj) (d:=4) func150 rfl (by decide) (UA lpK jnK bB cU)
def jP (lp:Lp) (_:Jn) (aI:I3) (au:Ls) (aG:KT) (x0:List Nat×List (Option (List Int))) (x1:Int) (x2:List Int) (x3:List Int) (x4:List Int) (x5:Int) (x6:Int):Option ((List Nat×List (Option (List Int)))×Int×(List Int)×(List Int)×(List Int)×Int×Int×Bool×Unit) :=
 lp ((List Nat×List (Option (List Int)))×Int×List Int×List Int×List Int×Int×Int×PUnit) ((List Nat×List (Option (List Int)))×Int×List Int×List Int×List Int×Int × Int×Bool×PUnit) (fun (again:(List Nat×List (Option (List Int)))×Int×List Int×List Int×List Int×Int×Int×PUnit->Option ((List Nat×List (Option (List Int)))×Int × List Int×List Int×List Int×Int×Int×Bool×PUnit)) (x:(List Nat×List (Option (List Int)))×Int×List Int×List Int×List Int×Int×Int×PUnit)=>lp (Int×Int × PUnit) ((List Nat×List (Option (List Int)))×Int×List Int×List Int×List Int×Int×Int×Bool×PUnit) (fun (again_1:Int×Int×PUnit->Option ((List Nat×List (Option (List Int)))×Int×List Int×List Int×List Int×Int×Int×Bool×PUnit)) (x_1:Int×Int×PUnit) =>
 let v13:Bool:=decide (x_1.1<0);
 let v14:Int×PUnit:=(IntKind.wrap .i64 (x_1.2.1+1),PUnit.unit);
 let v15:Bool:=decide (x_1.2.1<x.2.2.2.2.2.1);
 let v16:Bool:=!v15||v15;bif v16 then bif v16 then bif bif v15 then v13 else false then ah (bif List.all x.1.1 fun (x_2:Nat)=>gu x.1.2 x_2 then au (List.map (fun (x_2:Nat)=>bw x.1.2 x_2) x.1.1,x.2.1,x.2.2.1,x.2.2.2.1,x.2.2.2.2.1,x.2.2.2.2.2.1, x.2.2.2.2.2.2.1) x_1.2.1 else none) fun (t:Int)=>bif decide (t>0) then again_1 (x_1.2.1,v14) else again_1 (x_1.1,v14) else bif v13 then ah (bif List.all x.1.1 fun (x_2:Nat)=>gu x.1.2 x_2 then au (List.map (fun (x_2:Nat)=>bw x.1.2 x_2) x.1.1,x.2.1,x.2.2.1, x.2.2.2.1,x.2.2.2.2.1,x.2.2.2.2.2.1,x.2.2.2.2.2.2.1) x.2.2.2.2.2.2.1 else none) fun (t:Int)=>bif decide (t>0) then some (x.1,x.2.1,x.2.2.1,x.2.2.2.1,x.2.2.2.2.1,x.2.2.2.2.2.1,x.2.2.2.2.2.2.1,false,PUnit.unit) else lp (Int×(List Nat×List (Option (List Int)))×Int×List Int×List Int×List Int×Int×Int×PUnit) ((List Nat×List (Option (List Int)))×Int×List Int×List Int×List Int×Int×Int × Bool×PUnit) (fun (again:Int×(List Nat×List (Option (List Int)))×Int×List Int×List Int×List Int×Int×Int×PUnit->Option ((List Nat×List (Option (List Int)))×Int × List Int×List Int×List Int×Int×Int×Bool×PUnit)) (x_2:Int×(List Nat×List (Option (List Int)))×Int×List Int×List Int×List Int×Int×Int×PUnit)=>bif decide (x_2.1<(↑x.1.1.length:Int)) then lp (Int×(List Nat×List (Option (List Int)))×Int×List Int×List Int×List Int×Int×Int×PUnit) ((List Nat×List (Option (List Int)))×Int×List Int×List Int×List Int×Int×Int×Bool×PUnit) (fun (again_2:Int×(List Nat×List (Option (List Int)))×Int×List Int×List Int×List Int×Int×Int×PUnit->Option ((List Nat×List (Option (List Int)))×Int×List Int×List Int×List Int×Int×Int×Bool×PUnit)) (x:Int×(List Nat×List (Option (List Int)))×Int×List Int×List Int×List Int×Int×Int×PUnit) =>
 let v22:Int:=IntKind.wrap .i64 (x.1+1);
 let v23:Bool:=decide (x.1<x.2.2.2.2.2.2.1);
 let v24:Bool:=!v23;
 let v25:Bool:=v24||v23;
 let v26:(List Nat×List (Option (List Int)))×Int×List Int×List Int×List Int×Int×Int×PUnit:=(x.2.1,x.2.2.1,x.2.2.2.1,x.2.2.2.2.1, x.2.2.2.2.2.1,x.2.2.2.2.2.2.1,x.2.2.2.2.2.2.2.1,PUnit.unit);bif v25 then bif v25 then bif v25 then bif v25&&(v25&&(v24||inB x_2.1 x.2.2.2.1.length)) then bif v25&&(v24||Nat.ble (Nat.succ x_2.1.toNat) x.2.2.2.1.length) then bif v25 then bif v25 then bif v25 then bif v25 && v25 then bif v25 then bif bif v23 then decide (x.2.2.2.1.getD x_2.1.toNat 0>=x.2.2.2.2.2.2.1) else false then bif inB x_2.1 x.2.1.1.length then bif Nat.ble (Nat.succ x_2.1.toNat) x.2.1.1.length then bif inB x.1 (List.length (bw x.2.1.2 (x.2.1.1.getD x_2.1.toNat 0))) then bif Nat.ble (Nat.succ x.1.toNat) (List.length (bw x.2.1.2 (x.2.1.1.getD x_2.1.toNat 0))) then bif !decide (List.getD (bw x.2.1.2 (x.2.1.1.getD x_2.1.toNat 0)) x.1.toNat 0=0) then ah (aI x.2.1 x.2.2.1 x.2.2.2.1 x.2.2.2.2.1 x.2.2.2.2.2.1 x.2.2.2.2.2.2.1 x.2.2.2.2.2.2.2.1 x_2.1 x.1) fun (y:(List Nat×List (Option (List Int)))×Int×List Int×List Int×List Int×Int×Int×PUnit)=>again_2 (v22,y.1,y.2.1,y.2.2.1,y.2.2.2.1,y.2.2.2.2.1,y.2.2.2.2.2.1, y.2.2.2.2.2.2.1,PUnit.unit) else again_2 (v22,v26) else none else none else none else none else again (IntKind.wrap .i64 (x_2.1+1),v26) else none else none else none else none else none else none else none else none else none else none) (0,x_2.2.1,x_2.2.2.1,x_2.2.2.2.1,x_2.2.2.2.2.1, x_2.2.2.2.2.2.1,x_2.2.2.2.2.2.2.1,x_2.2.2.2.2.2.2.2.1,PUnit.unit) else some (x_2.2.1,x_2.2.2.1,x_2.2.2.2.1, x_2.2.2.2.2.1,x_2.2.2.2.2.2.1,x_2.2.2.2.2.2.2.1,x_2.2.2.2.2.2.2.2.1,true,PUnit.unit)) (0,x.1,x.2.1, x.2.2.1,x.2.2.2.1,x.2.2.2.2.1,x.2.2.2.2.2.1,x.2.2.2.2.2.2.1,PUnit.unit) else ah (bif List.all x.1.1 fun (x_2:Nat) => gu x.1.2 x_2 then aG (List.map (fun (x_2:Nat)=>bw x.1.2 x_2) x.1.1,x.2.1,x.2.2.1,x.2.2.2.1,x.2.2.2.2.1, x.2.2.2.2.2.1,x.2.2.2.2.2.2.1) x_1.1 else none) fun (t:Int)=>ah (aI x.1 x.2.1 x.2.2.1 x.2.2.2.1 x.2.2.2.2.1 x.2.2.2.2.2.1 x.2.2.2.2.2.2.1 t x_1.1) fun (y:(List Nat×List (Option (List Int)))×Int×List Int×List Int×List Int×Int × Int×PUnit)=>again (y.1,y.2.1,y.2.2.1,y.2.2.2.1,y.2.2.2.2.1,y.2.2.2.2.2.1,y.2.2.2.2.2.2.1,PUnit.unit) else none else none) ((-1),0,PUnit.unit)) (x0,x1,x2,x3,x4,x5,x6,PUnit.unit)
def aP (x0:List Nat×List (Option (List Int))) (x1:Int) (x2:List Int) (x3:List Int) (x4:List Int) (x5:Int) (x6:Int):Option ((List Nat×List (Option (List Int)))×Int×(List Int)×(List Int)×(List Int)×Int×Int×Bool×Unit):=jP lpK jnK aI au aG x0 x1 x2 x3 x4 x5 x6
abbrev KA:=(List Nat×List (Option (List Int)))->(Int)->(List Int)->(List Int)->(List Int)->(Int)->(Int)->Option ((List Nat×List (Option (List Int)))×Int×(List Int)×(List Int)×(List Int)×Int×Int×Bool×Unit)
def Qg (aP:KA):SCtr:=⟨[.b [.x (.tab 79 .ref 3 i64),.d i64,.row 3 i64,.row 3 i64,.row 3 i64,.d i64,.d i64]],[(false,[.d .bool])],fun x=>aP x.1 x.2.1 x.2.2.1 x.2.2.2.1 x.2.2.2.2.1 x.2.2.2.2.2.1 x.2.2.2.2.2.2.1⟩
def QZ:SCtr:=Qg aP
theorem Vd (lp:Lp) (jn:Jn) (aI:I3) (au:Ls) (aG:KT):∀x:TsR (rhI 0 QZ.ks),jP lp jn aI au aG x.1 x.2.1 x.2.2.1 x.2.2.2.1 x.2.2.2.2.1 x.2.2.2.2.2.1 x.2.2.2.2.2.2.1=L8 lp jn (Dn.look [(149,Qc aI)]) (xW ym yk (Di [(150,Q1 aG),(106,PC au)] [] (iP prog shs sJ its [] [(32,r32),(92,r92),(112,aJ)]))) aj 4 102 f102 QZ x:=fun x=>by kernel_rfl
theorem O6:QZ.ok prog 102:=SCtr.of_den (al (rI (q32) (iB (by kernel_rfl) OT (iB (by kernel_rfl) O5 (nU))) (ol))) av (oe OX (qL)) (hl:=aj) (d:=4) func102 rfl (by decide) (Vd lpK jnK aI au aG)
def kS (_:Lp) (_:Jn) (x0:(List (List Int))×Int×(List Int)×(List Int)×(List Int)×Int×Int) (x1:Int):Option Int :=
 bif decide (x1<(↑x0.2.2.2.2.1.length:Int)) then bif inB x1 x0.2.2.2.2.1.length then some (x0.2.2.2.2.1.getD x1.toNat 0) else none else some 0
def aK (x0:(List (List Int))×Int×(List Int)×(List Int)×(List Int)×Int×Int) (x1:Int):Option Int:=kS lpK jnK x0 x1
abbrev H3:=((List (List Int))×Int×(List Int)×(List Int)×(List Int)×Int×Int)->(Int)->Option (Int)
def PD (aK:H3):PCtr:=⟨G4,[i64],.one i64,fun x y=>aK x y.1⟩
def Nq:PCtr:=PD aK
theorem TY (lp:Lp) (jn:Jn):∀(x:Nq.s.T) (y:TsS Nq.as),kS lp jn x y.1=EA lp jn (cx [] [(32,r32),(92,r92),(112,aJ)]) aj 4 104 f104 Nq x y:=fun x y=>by kernel_rfl
theorem Pp:Nq.ok prog 104:=PCtr.of_den (al (q32)) av (hl:=aj) (d:=4) func104 rfl (by decide) (TY lpK jnK)
def jc (lp:Lp) (_:Jn) (aK:H3) (x0:(List (List Int))×Int×(List Int)×(List Int)×(List Int)×Int×Int) (x1:Int):Option Int :=
 ah (aK x0 x1) fun (t:Int)=>lp (Int×Int×PUnit) Int (fun (again:Int×Int×PUnit->Option Int) (x:Int×Int×PUnit) =>
 let v7:List Int:=x0.1.getD x.2.1.toNat [];bif decide (x.2.1<(↑x0.1.length:Int)) then bif inB x.2.1 x0.1.length then bif inB x.2.1 x0.2.2.1.length then ah (aK x0 (x0.2.2.1.getD x.2.1.toNat 0)) fun (t:Int)=>bif inB x1 v7.length then again (IntKind.wrap .i64 (x.1 - IntKind.wrap .i64 (t*v7.getD x1.toNat 0)),IntKind.wrap .i64 (x.2.1+1),PUnit.unit) else none else none else none else some x.1) (IntKind.wrap .i64 (t*x0.2.1),0,PUnit.unit)
def cB (x0:(List (List Int))×Int×(List Int)×(List Int)×(List Int)×Int×Int) (x1:Int):Option Int:=jc lpK jnK aK x0 x1
abbrev Tr:=((List (List Int))×Int×(List Int)×(List Int)×(List Int)×Int×Int)->(Int)->Option (Int)
def NI:PCtr:=⟨G4,[i64],.one i64,fun x y=>cB x y.1⟩
theorem Uk (lp:Lp) (jn:Jn) (aK:H3):∀(x:NI.s.T) (y:TsS NI.as),jc lp jn aK x y.1=EA lp jn (xW ym yk (Di [(104,PD aK)] [] (iP prog shs sJ its [] [(32,r32),(92,r92),(112,aJ)]))) aj 4 151 f151 NI x y:=fun x y=>by kernel_rfl
theorem Ss:NI.ok prog 151:=PCtr.of_den (al (rI (q32) (iB (by kernel_rfl) Pp (nU)) (ol))) av (hl:=aj) (d:=4) func151 rfl (by decide) (Uk lpK jnK aK)
def je (lp:Lp) (_:Jn) (aI:I3) (aG:KT) (cB:Tr) (x0:List Nat×List (Option (List Int))) (x1:Int) (x2:List Int) (x3:List Int) (x4:List Int) (x5:Int) (x6:Int):Option ((List Nat×List (Option (List Int)))×Int×(List Int)×(List Int)×(List Int)×Int×Int×Bool×Unit) :=
 lp ((List Nat×List (Option (List Int)))×Int×List Int×List Int×List Int×Int×Int×PUnit) ((List Nat×List (Option (List Int)))×Int×List Int×List Int×List Int×Int × Int×Bool×PUnit) (fun (again:(List Nat×List (Option (List Int)))×Int×List Int×List Int×List Int×Int×Int×PUnit->Option ((List Nat×List (Option (List Int)))×Int × List Int×List Int×List Int×Int×Int×Bool×PUnit)) (x:(List Nat×List (Option (List Int)))×Int×List Int×List Int×List Int×Int×Int×PUnit)=>lp (Int×Int × PUnit) ((List Nat×List (Option (List Int)))×Int×List Int×List Int×List Int×Int×Int×Bool×PUnit) (fun (again_1:Int×Int×PUnit->Option ((List Nat×List (Option (List Int)))×Int×List Int×List Int×List Int×Int×Int×Bool×PUnit)) (x_1:Int×Int×PUnit) =>
 let v13:Bool:=decide (x_1.1<0);
 let v14:Int×PUnit:=(IntKind.wrap .i64 (x_1.2.1+1),PUnit.unit);
 let v15:Bool:=decide (x_1.2.1<x.2.2.2.2.2.1);
 let v16:Bool:=!v15||v15;bif v16 then bif v16 then bif bif v15 then v13 else false then ah (bif List.all x.1.1 fun (x_2:Nat)=>gu x.1.2 x_2 then cB (List.map (fun (x_2:Nat)=>bw x.1.2 x_2) x.1.1,x.2.1,x.2.2.1,x.2.2.2.1,x.2.2.2.2.1,x.2.2.2.2.2.1, x.2.2.2.2.2.2.1) x_1.2.1 else none) fun (t:Int)=>bif decide (t<0) then again_1 (x_1.2.1,v14) else again_1 (x_1.1,v14) else bif v13 then some (x.1,x.2.1,x.2.2.1,x.2.2.2.1,x.2.2.2.2.1,x.2.2.2.2.2.1,x.2.2.2.2.2.2.1,true,PUnit.unit) else ah (bif List.all x.1.1 fun (x_2:Nat)=>gu x.1.2 x_2 then aG (List.map (fun (x_2:Nat)=>bw x.1.2 x_2) x.1.1,x.2.1,x.2.2.1,x.2.2.2.1, x.2.2.2.2.1,x.2.2.2.2.2.1,x.2.2.2.2.2.2.1) x_1.1 else none) fun (t:Int)=>bif decide (t<0) then some (x.1,x.2.1, x.2.2.1,x.2.2.2.1,x.2.2.2.2.1,x.2.2.2.2.2.1,x.2.2.2.2.2.2.1,false,PUnit.unit) else ah (aI x.1 x.2.1 x.2.2.1 x.2.2.2.1 x.2.2.2.2.1 x.2.2.2.2.2.1 x.2.2.2.2.2.2.1 t x_1.1) fun (y:(List Nat×List (Option (List Int)))×Int×List Int × List Int×List Int×Int×Int×PUnit)=>again (y.1,y.2.1,y.2.2.1,y.2.2.2.1,y.2.2.2.2.1,y.2.2.2.2.2.1,y.2.2.2.2.2.2.1, PUnit.unit) else none else none) ((-1),0,PUnit.unit)) (x0,x1,x2,x3,x4,x5,x6,PUnit.unit)
def bK (x0:List Nat×List (Option (List Int))) (x1:Int) (x2:List Int) (x3:List Int) (x4:List Int) (x5:Int) (x6:Int):Option ((List Nat×List (Option (List Int)))×Int×(List Int)×(List Int)×(List Int)×Int×Int×Bool×Unit):=je lpK jnK aI aG cB x0 x1 x2 x3 x4 x5 x6
abbrev PT:=(List Nat×List (Option (List Int)))->(Int)->(List Int)->(List Int)->(List Int)->(Int)->(Int)->Option ((List Nat×List (Option (List Int)))×Int×(List Int)×(List Int)×(List Int)×Int×Int×Bool×Unit)
def S2 (bK:PT):SCtr:=⟨[.b [.x (.tab 79 .ref 3 i64),.d i64,.row 3 i64,.row 3 i64,.row 3 i64,.d i64,.d i64]],[(false,[.d .bool])],fun x=>bK x.1 x.2.1 x.2.2.1 x.2.2.2.1 x.2.2.2.2.1 x.2.2.2.2.2.1 x.2.2.2.2.2.2.1⟩
def Q4:SCtr:=S2 bK
theorem TR (lp:Lp) (jn:Jn) (aI:I3) (aG:KT) (cB:Tr):∀x:TsR (rhI 0 Q4.ks),je lp jn aI aG cB x.1 x.2.1 x.2.2.1 x.2.2.2.1 x.2.2.2.2.1 x.2.2.2.2.2.1 x.2.2.2.2.2.2.1=L8 lp jn (Dn.look [(149,Qc aI)]) (xW ym yk (Di [(151,⟨G4,[i64],.one i64,fun x y=>cB x y.1⟩),(150,Q1 aG)] [] (iP prog shs sJ its [] [(32,r32),(92,r92),(112,aJ)]))) aj 4 103 f103 Q4 x:=fun x=>by kernel_rfl
theorem Rh:Q4.ok prog 103:=SCtr.of_den (al (rI (q32) (iB (by kernel_rfl) Ss (iB (by kernel_rfl) OT (nU))) (ol))) av (oe OX (qL)) (hl:=aj) (d:=4) func103 rfl (by decide) (TR lpK jnK aI aG cB)
def mA (_:Lp) (_:Jn) (x0:Bool) (x1:Int) (x2:Int):Option ((Int×Int)×Int×Unit) :=
 
 let v5:Int:=IntKind.wrap .i64 x1;
 let v6:Int:=IntKind.wrap .i64 x2;
 let v7:Bool:=decide (x1>1152921504606846976);
 let v8:Bool:=!v7;bif !v8||v8 then bif v7||v8 then bif bif v7 then true else decide (x2>1152921504606846976) then some ((0,0),5,PUnit.unit) else bif x0 then some ((IntKind.wrap .i64 (0 - v5),v6),0,PUnit.unit) else some ((v5,v6),0,PUnit.unit) else none else none
def aY (x0:Bool) (x1:Int) (x2:Int):Option ((Int×Int)×Int×Unit):=mA lpK jnK x0 x1 x2
abbrev t62:=(Bool)->(Int)->(Int)->Option ((Int×Int)×Int×Unit)
def k62 (aY:t62):Ctr:=⟨[.bool,(.int .u64),(.int .u64)],[],[],.tup [T47,i64],fun x _ _=>aY x.1 x.2.1 x.2.2.1⟩
def c62:Ctr:=k62 aY
theorem e62 (lp:Lp) (jn:Jn):∀(x:TsS c62.as) (F:TsF c62.fs) (y:TsS c62.cs),mA lp jn x.1 x.2.1 x.2.2.1=aX lp jn (cx [] [(32,r32),(92,r92),(112,aJ)]) aj 4 62 f62 c62 x F y:=fun x F y=>by kernel_rfl
theorem P7:c62.ok prog 62:=Ctr.of_den (al (q32)) av (hl:=aj) (d:=4) func62 rfl (by decide) (e62 lpK jnK)
def uf (_:Lp) (_:Jn) (bi:t59) (ay:t60) (aY:t62) (x0:Int) (x1:Int):Option ((Int×Int)×Int×Unit) :=
 
 let v4:Bool:=!decide (x0=0);
 let v5:Bool:=!v4||v4;bif decide (x1=0) then some ((0,0),16,PUnit.unit) else ah (ay x0) fun (t:Int)=>ah (ay x1) fun (t_1:Int)=>ah (bi t t_1) fun (t_2:Int) =>
 let v9:Bool:=nzB t_2;bif v5 then bif v5 then bif v5&&v5 then bif v5 then bif v9 then bif v9 then ah (aY (bif v4 then !decide (decide (x0<0)=decide (x1<(0 : Int))) else false) (IntKind.wrap .u64 (Int.tdiv t t_2)) (IntKind.wrap .u64 (Int.tdiv t_1 t_2))) fun (t:(Int×Int)×Int×PUnit)=>some (t.1,t.2.1, PUnit.unit) else none else none else none else none else none else none
def gd (x0:Int) (x1:Int):Option ((Int×Int)×Int×Unit):=uf lpK jnK bi ay aY x0 x1
abbrev QC:=(Int)->(Int)->Option ((Int×Int)×Int×Unit)
def Tp (gd:QC):Ctr:=⟨[i64,i64],[],[],.tup [T47,i64],fun x _ _=>gd x.1 x.2.1⟩
def Ll:Ctr:=Tp gd
theorem VQ (lp:Lp) (jn:Jn) (bi:t59) (ay:t60) (aY:t62):∀(x:TsS Ll.as) (F:TsF Ll.fs) (y:TsS Ll.cs),uf lp jn bi ay aY x.1 x.2.1=aX lp jn (cx [(62,k62 aY),(60,k60 ay),(59,k59 bi)] [(32,r32),(92,r92),(112,aJ)]) aj 4 114 f114 Ll x F y:=fun x F y=>by kernel_rfl
theorem Sn:Ll.ok prog 114:=Ctr.of_den (al (aa (aa (aa (q32) (by kernel_rfl) MI) (by kernel_rfl) HP) (by kernel_rfl) P7)) av (hl:=aj) (d:=4) func114 rfl (by decide) (VQ lpK jnK bi ay aY)
def kE (_:Lp) (_:Jn) (gd:QC) (x0:(List (List Int))×Int×(List Int)×(List Int)×(List Int)×Int×Int) (x1:Int):Option (Int×Int) :=
 ah (gd x1 x0.2.1) fun (t:(Int×Int)×Int×PUnit)=>some t.1
def aL (x0:(List (List Int))×Int×(List Int)×(List Int)×(List Int)×Int×Int) (x1:Int):Option (Int×Int):=kE lpK jnK gd x0 x1
abbrev JQ:=((List (List Int))×Int×(List Int)×(List Int)×(List Int)×Int×Int)->(Int)->Option (Int×Int)
def PX (aL:JQ):PCtr:=⟨G4,[i64],.one T47,fun x y=>aL x y.1⟩
def Nn:PCtr:=PX aL
theorem Vo (lp:Lp) (jn:Jn) (gd:QC):∀(x:Nn.s.T) (y:TsS Nn.as),kE lp jn gd x y.1=EA lp jn (cx [(114,Tp gd)] [(32,r32),(92,r92),(112,aJ)]) aj 4 105 f105 Nn x y:=fun x y=>by kernel_rfl
theorem Pf:Nn.ok prog 105:=PCtr.of_den (al (aa (q32) (by kernel_rfl) Sn)) av (hl:=aj) (d:=4) func105 rfl (by decide) (Vo lpK jnK gd)
def pM (lp:Lp) (jn:Jn) (aW:t99) (cg:KE) (bo:Km) (aP:KA) (bK:PT) (aK:H3) (aL:JQ) (x0:(List Int)×List ((List Int)×Int×Int)):Option (((Int×Int)×(List (Int×Int))×List (Int×Int))×Int×Unit) :=
 ah (aW x0) fun (t:Bool)=>bif !t then some (((0,0),[],[]),1,PUnit.unit) else ah (cg x0) fun (t:Bool)=>bif !t then some ((((0 : Int),0),[],[]),5,PUnit.unit) else lp (Int×Int×PUnit) (((Int×Int)×List (Int×Int)×List (Int×Int))×Int×PUnit) (fun (again:Int×Int×PUnit -> Option (((Int×Int)×List (Int×Int)×List (Int×Int))×Int×PUnit)) (x:Int×Int×PUnit) =>
 let v7:Int×PUnit:=(IntKind.wrap .i64 (x.2.1+1),PUnit.unit);
 let v8:Int:=IntKind.wrap .i64 ((↑x0.1.length:Int)+x.1);bif decide (x.2.1<(↑x0.2.length:Int)) then bif inB x.2.1 x0.2.length then bif !decide ((x0.2.getD x.2.1.toNat ([],0,0)).2.1=3) then again (IntKind.wrap .i64 (x.1+1),v7) else again (x.1, v7) else none else ah (bo x0.1) fun (t:List Int)=>lp (Int×Int×(List Nat×List (Option (List Int)))×Int×List Int×List Int×List Int×Int×Int × PUnit) (((Int×Int)×List (Int×Int)×List (Int×Int))×Int×PUnit) (fun (again:Int×Int×(List Nat×List (Option (List Int)))×Int×List Int×List Int×List Int×Int × Int×PUnit->Option (((Int×Int)×List (Int×Int)×List (Int×Int))×Int×PUnit)) (x:Int×Int×(List Nat×List (Option (List Int)))×Int×List Int×List Int×List Int × Int×Int×PUnit) =>
 let v12:Int:=IntKind.wrap .i64 (x.1+1);
 let v13:List Int×Int×Int:=x0.2.getD x.2.1.toNat ([],0,0);
 let v14:List Int:=List.replicate (Int.toNat (IntKind.wrap .i64 (x.2.2.2.2.2.2.2.2.1+1))) 0;
 let v15:Bool:=inB x.1 (Int.toNat (IntKind.wrap .i64 (x.2.2.2.2.2.2.2.2.1+1)));
 let v16:Bool:=Nat.ble (Nat.succ x.1.toNat) (Int.toNat (IntKind.wrap .i64 (x.2.2.2.2.2.2.2.2.1+1)));
 let v17:Int:=IntKind.wrap .i64 (x.2.2.2.2.2.2.2.1+x.2.1);
 let v18:List Int:=List.take (Int.toNat (IntKind.wrap .i64 (x.2.2.2.2.2.2.2.2.1+1))) v13.1;
 let v19:List Int:=List.set (List.take 0 v14++v18++List.drop (0+List.length v18) v14) x.2.2.2.2.2.2.2.2.1.toNat v13.2.2;bif decide (x.2.1<(↑x0.2.length:Int)) then bif inB x.2.1 x0.2.length then bif decide (0<=IntKind.wrap .i64 (x.2.2.2.2.2.2.2.2.1+(1 : Int)))&&eQ (Int.toNat (IntKind.wrap .i64 (x.2.2.2.2.2.2.2.2.1+1))) 8 then bif inB x.2.2.2.2.2.2.2.2.1 (Int.toNat (IntKind.wrap .i64 (x.2.2.2.2.2.2.2.2.1+1))) then bif Nat.ble (Nat.succ x.2.2.2.2.2.2.2.2.1.toNat) (Int.toNat (IntKind.wrap IntKind.i64 (x.2.2.2.2.2.2.2.2.1+1))) then jn (Int×List Int×PUnit) (((Int×Int)×List (Int×Int)×List (Int×Int))×Int×PUnit) (fun (x_1:Int × List Int×PUnit) =>
 let v21:List Int×PUnit:=(x_1.2.1,PUnit.unit);jn (Int×List Int×PUnit) (((Int×Int)×List (Int×Int)×List (Int×Int))×Int×PUnit) (fun (x_2:Int×List Int × PUnit)=>bif inB v17 x_2.2.1.length then bif Nat.ble (Nat.succ v17.toNat) x_2.2.1.length then bif eQ (List.length x.2.2.1.1+1) (24 : Nat) then bif eQ (List.length x.2.2.2.2.2.1+1) 8 then bif eQ (List.length x.2.2.2.2.1+1) 8 then again (x_1.1, IntKind.wrap .i64 (x.2.1+1),(x.2.2.1.1++[List.length x.2.2.1.2+0],x.2.2.1.2++[some (x_2.2.1.set v17.toNat (1 : Int))]),x.2.2.2.1,x.2.2.2.2.1++[v17],x.2.2.2.2.2.1++[x_2.1],x.2.2.2.2.2.2.1,x.2.2.2.2.2.2.2.1, x.2.2.2.2.2.2.2.2.1,PUnit.unit) else none else none else none else none else none) fun (j:Int×List Int×PUnit->Option (((Int×Int)×List (Int×Int)×List (Int×Int))×Int×PUnit))=>bif decide (v13.2.2<0) then lp (Int×List Int×PUnit) (((Int×Int)×List (Int×Int)×List (Int×Int))×Int×PUnit) (fun (again : Int×List Int×PUnit->Option (((Int×Int)×List (Int×Int)×List (Int×Int))×Int×PUnit)) (x:Int×List Int×PUnit) =>
 let v25:Bool:=inB x.1 x.2.1.length;
 let v26:Bool:=Nat.ble (Nat.succ x.1.toNat) x.2.1.length;bif decide (x.1<(↑x_1.2.1.length:Int)) then bif v25 then bif v26 then bif v25 then bif v26 then again (IntKind.wrap .i64 (x.1+1),x.2.1.set x.1.toNat (IntKind.wrap .i64 (0 - x.2.1.getD x.1.toNat 0)), PUnit.unit) else none else none else none else none else j ((-1),x.2.1,PUnit.unit)) (0,v21) else j (1,v21)) fun (j:Int×List Int×PUnit->Option (((Int × Int)×List (Int×Int)×List (Int×Int))×Int×PUnit))=>bif decide (v13.2.1=1) then bif v15 then bif v16 then j (v12,v19.set x.1.toNat 1, PUnit.unit) else none else none else jn (Int×List Int×PUnit) (((Int×Int)×List (Int×Int)×List (Int×Int))×Int×PUnit) (fun (x:Int×List Int×PUnit)=>j (x.1, x.2.1,PUnit.unit)) fun (j:Int×List Int×PUnit->Option (((Int×Int)×List (Int×Int)×List (Int×Int))×Int×PUnit))=>bif decide (v13.2.1=2) then bif v15 then bif v16 then j (v12,v19.set x.1.toNat (-1),PUnit.unit) else none else none else j (x.1,v19,PUnit.unit) else none else none else none else none else ah (aP x.2.2.1 x.2.2.2.1 x.2.2.2.2.1 x.2.2.2.2.2.1 x.2.2.2.2.2.2.1 x.2.2.2.2.2.2.2.1 x.2.2.2.2.2.2.2.2.1) fun (y:(List Nat×List (Option (List Int)))×Int×List Int×List Int×List Int×Int×Int×Bool×PUnit)=>bif !y.2.2.2.2.2.2.2.1 then some (((0,0),[],[]),22,PUnit.unit) else ah (bK y.1 y.2.1 y.2.2.1 y.2.2.2.1 y.2.2.2.2.1 y.2.2.2.2.2.1 y.2.2.2.2.2.2.1) fun (y:(List Nat×List (Option (List Int)))×Int×List Int×List Int×List Int×Int×Int×Bool × PUnit)=>bif !y.2.2.2.2.2.2.2.1 then some (((0,0),[],[]),21,PUnit.unit) else bif decide (0<=(↑x0.1.length:Int))&&eQ (Int.toNat (↑x0.1.length:Int)) 8 then lp (Int×Int×List Int×PUnit) (((Int×Int)×List (Int×Int)×List (Int×Int))×Int×PUnit) (fun (again:Int×Int × List Int×PUnit->Option (((Int×Int)×List (Int×Int)×List (Int×Int))×Int×PUnit)) (x:Int×Int×List Int×PUnit) =>
 let v24:Int:=IntKind.wrap .i64 (x.2.1+1);
 let v25:Bool:=inB x.2.1 y.1.1.length;
 let v26:Bool:=Nat.ble (Nat.succ x.2.1.toNat) y.1.1.length;
 let v27:Int:=y.2.2.1.getD x.2.1.toNat 0;bif decide (x.2.1<(↑y.2.2.1.length:Int)) then bif inB x.2.1 y.2.2.1.length then bif Nat.ble (Nat.succ x.2.1.toNat) y.2.2.1.length then ah (bif List.all y.1.1 fun (x:Nat)=>gu y.1.2 x then aK (List.map (fun (x:Nat)=>bw y.1.2 x) y.1.1,y.2.1,y.2.2.1,y.2.2.2.1,y.2.2.2.2.1,y.2.2.2.2.2.1,y.2.2.2.2.2.2.1) v27 else none) fun (t:Int)=>bif v25 then bif v26 then bif inB y.2.2.2.2.2.2.1 (List.length (bw y.1.2 (y.1.1.getD x.2.1.toNat 0))) then bif Nat.ble (Nat.succ y.2.2.2.2.2.2.1.toNat) (List.length (bw y.1.2 (y.1.1.getD x.2.1.toNat 0))) then bif decide (v27<(↑x.2.2.1.length:Int)) then bif v25 then bif v26 then bif inB y.2.2.2.2.2.2.1 (List.length (bw y.1.2 (y.1.1.getD x.2.1.toNat 0))) then bif Nat.ble (Nat.succ y.2.2.2.2.2.2.1.toNat) (List.length (bw y.1.2 (y.1.1.getD x.2.1.toNat 0))) then bif inB v27 x.2.2.1.length then bif Nat.ble (Nat.succ v27.toNat) x.2.2.1.length then again (IntKind.wrap .i64 (x.1+IntKind.wrap .i64 (t*List.getD (bw y.1.2 (y.1.1.getD x.2.1.toNat 0)) y.2.2.2.2.2.2.1.toNat 0)),v24,x.2.2.1.set v27.toNat (List.getD (bw y.1.2 (y.1.1.getD x.2.1.toNat 0)) y.2.2.2.2.2.2.1.toNat 0),PUnit.unit) else none else none else none else none else none else none else again (IntKind.wrap .i64 (x.1+IntKind.wrap .i64 (t*List.getD (bw y.1.2 (y.1.1.getD x.2.1.toNat 0)) y.2.2.2.2.2.2.1.toNat 0)),v24,x.2.2.1,PUnit.unit) else none else none else none else none else none else none else ah (bif List.all y.1.1 fun (x:Nat) =>gu y.1.2 x then aL (List.map (fun (x:Nat)=>bw y.1.2 x) y.1.1,y.2.1,y.2.2.1,y.2.2.2.1,y.2.2.2.2.1, y.2.2.2.2.2.1,y.2.2.2.2.2.2.1) x.1 else none) fun (t:Int×Int)=>lp (Int×(Int×Int)×List (Int×Int)×List (Int×Int)×PUnit) (((Int×Int) × List (Int×Int)×List (Int×Int))×Int×PUnit) (fun (again:Int×(Int×Int)×List (Int×Int)×List (Int×Int)×PUnit->Option (((Int×Int)×List (Int×Int)×List (Int × Int))×Int×PUnit)) (x_1:Int×(Int×Int)×List (Int×Int)×List (Int×Int)×PUnit) =>
 let v31:List (Int×Int)×PUnit:=(x_1.2.2.2.1,PUnit.unit);bif decide (x_1.1<(↑x.2.2.1.length:Int)) then bif inB x_1.1 x.2.2.1.length then bif Nat.ble (Nat.succ x_1.1.toNat) x.2.2.1.length then ah (bif List.all y.1.1 fun (x:Nat)=>gu y.1.2 x then aL (List.map (fun (x : Nat)=>bw y.1.2 x) y.1.1,y.2.1,y.2.2.1,y.2.2.2.1,y.2.2.2.2.1,y.2.2.2.2.2.1,y.2.2.2.2.2.2.1) (x.2.2.1.getD x_1.1.toNat 0) else none) fun (t:Int×Int)=>bif eQ (List.length x_1.2.2.1+1) 16 then again (IntKind.wrap .i64 (x_1.1+1),x_1.2.1,x_1.2.2.1++[t],v31) else none else none else none else lp (Int×(Int×Int)×List (Int×Int)×List (Int×Int)×PUnit) (((Int×Int) × List (Int×Int)×List (Int×Int))×Int×PUnit) (fun (again:Int×(Int×Int)×List (Int×Int)×List (Int×Int)×PUnit->Option (((Int×Int)×List (Int×Int)×List (Int × Int))×Int×PUnit)) (x:Int×(Int×Int)×List (Int×Int)×List (Int×Int)×PUnit) =>
 let v34:Int:=IntKind.wrap .i64 (y.2.2.2.2.2.1+x.1);bif decide (x.1<(↑x0.2.length:Int)) then lp (Int×Int×PUnit) (((Int×Int)×List (Int × Int)×List (Int×Int))×Int×PUnit) (fun (again_1:Int×Int×PUnit->Option (((Int×Int)×List (Int×Int)×List (Int×Int))×Int×PUnit)) (x_2:Int×Int×PUnit)=>bif decide (x_2.2.1<(↑y.2.2.1.length:Int)) then bif inB x_2.2.1 y.2.2.1.length then bif Nat.ble (Nat.succ x_2.2.1.toNat) y.2.2.1.length then ah (bif List.all y.1.1 fun (x:Nat)=>gu y.1.2 x then aK (List.map (fun (x:Nat)=>bw y.1.2 x) y.1.1,y.2.1, y.2.2.1,y.2.2.2.1,y.2.2.2.2.1,y.2.2.2.2.2.1,y.2.2.2.2.2.2.1) (y.2.2.1.getD x_2.2.1.toNat 0) else none) fun (t:Int)=>bif inB x_2.2.1 y.1.1.length then bif Nat.ble (Nat.succ x_2.2.1.toNat) y.1.1.length then bif inB v34 (List.length (bw y.1.2 (y.1.1.getD x_2.2.1.toNat 0))) then bif Nat.ble (Nat.succ v34.toNat) (List.length (bw y.1.2 (y.1.1.getD x_2.2.1.toNat (0 : Nat)))) then again_1 (IntKind.wrap .i64 (x_2.1+IntKind.wrap .i64 (t*List.getD (bw y.1.2 (y.1.1.getD x_2.2.1.toNat 0)) v34.toNat 0)),IntKind.wrap .i64 (x_2.2.1+1),PUnit.unit) else none else none else none else none else none else none else bif inB x.1 y.2.2.2.1.length then bif Nat.ble (Nat.succ x.1.toNat) y.2.2.2.1.length then ah (bif List.all y.1.1 fun (x:Nat)=>gu y.1.2 x then aL (List.map (fun (x:Nat)=>bw y.1.2 x) y.1.1,y.2.1,y.2.2.1,y.2.2.2.1,y.2.2.2.2.1,y.2.2.2.2.2.1, y.2.2.2.2.2.2.1) (IntKind.wrap .i64 (y.2.2.2.1.getD x.1.toNat 0*x_2.1)) else none) fun (t:Int×Int)=>bif eQ (List.length x.2.2.2.1+1) 16 then again (IntKind.wrap .i64 (x.1+1),x.2.1,x.2.2.1,x.2.2.2.1++[t],PUnit.unit) else none else none else none) (0,0,PUnit.unit) else some ((x.2.1,x.2.2.1,x.2.2.2.1),0,PUnit.unit)) (0,x_1.2.1,x_1.2.2.1,v31)) ((0 : Int),t,[],[],PUnit.unit)) (0,0,List.replicate (Int.toNat (↑x0.1.length:Int)) 0,PUnit.unit) else none) ((↑x0.1.length:Int),(0 : Int),([],[]),1,[],[],t,v8,IntKind.wrap .i64 (v8+(↑x0.2.length:Int)),PUnit.unit)) (0,0,PUnit.unit)
def fE (x0:(List Int)×List ((List Int)×Int×Int)):Option (((Int×Int)×(List (Int×Int))×List (Int×Int))×Int×Unit):=pM lpK jnK aW cg bo aP bK aK aL x0
abbrev t56:=((List Int)×List ((List Int)×Int×Int))->Option (((Int×Int)×(List (Int×Int))×List (Int×Int))×Int×Unit)
def c56:Ctr:=⟨[T82],[],[],.tup [T94,i64],fun x _ _=>fE x.1⟩
theorem e56 (lp:Lp) (jn:Jn) (aW:t99) (cg:KE) (bo:Km) (aP:KA) (bK:PT) (aK:H3) (aL:JQ):∀(x:TsS c56.as) (F:TsF c56.fs) (y:TsS c56.cs),pM lp jn aW cg bo aP bK aK aL x.1=Kd lp jn (Dn.look [(103,S2 bK),(102,Qg aP)]) (xW ym yk (Di [(105,PX aL),(104,PD aK)] [] (iP prog shs sJ its [(100,Qy cg),(99,k99 aW)] [(32,r32),(92,r92),(112,QN bo)]))) aj 4 56 f56 c56 x F y:=fun x F y=>by kernel_rfl
theorem UW:c56.ok prog 56:=Ctr.of_denS (al (rI (aa (aa (q32) (by kernel_rfl) Qv) (by kernel_rfl) Pd) (iB (by kernel_rfl) Pf (iB (by kernel_rfl) Pp (nU))) (ol))) av (oe Rh (oe O6 (qL))) (hl:=aj) (d:=4) func56 rfl (by decide) (e56 lpK jnK aW cg bo aP bK aK aL)
set_option maxRecDepth 100000
def tM (_:Lp) (_:Jn) (aV:t55) (fE:t56) (x0:(List (ByteArray×Int))×List (ByteArray×(List (ByteArray×Int×Int×Int))×Bool)):Option ((List (Int×Int))×Int×Unit) :=
 ah (aV x0) fun (t:(List Int×List (List Int×Int×Int))×Int×PUnit)=>bif !decide (t.2.1=0) then some ([],t.2.1,PUnit.unit) else ah (fE t.1) fun (t:((Int×Int)×List (Int×Int)×List (Int×Int))×Int×PUnit)=>bif !decide (t.2.1=0) then some ([],t.2.1,PUnit.unit) else some (t.1.2.1,0,PUnit.unit)
def dK (x0:(List (ByteArray×Int))×List (ByteArray×(List (ByteArray×Int×Int×Int))×Bool)):Option ((List (Int×Int))×Int×Unit):=tM lpK jnK aV fE x0
abbrev t20:=((List (ByteArray×Int))×List (ByteArray×(List (ByteArray×Int×Int×Int))×Bool))->Option ((List (Int×Int))×Int×Unit)
def k20 (dK:t20):Ctr:=⟨[T25],[],[],.tup [(.sl T47),i64],fun x _ _=>dK x.1⟩
def c20:Ctr:=k20 dK
theorem e20 (lp:Lp) (jn:Jn) (aV:t55) (fE:t56):∀(x:TsS c20.as) (F:TsF c20.fs) (y:TsS c20.cs),tM lp jn aV fE x.1=aX lp jn (cx [(56,⟨[T82],[],[],.tup [T94,i64],fun x _ _=>fE x.1⟩),(55,k55 aV)] [(32,r32),(92,r92),(112,aJ)]) aj 4 20 f20 c20 x F y:=fun x F y=>by kernel_rfl
theorem TX:c20.ok prog 20:=Ctr.of_den (al (aa (aa (q32) (by kernel_rfl) Q7) (by kernel_rfl) UW)) av (hl:=aj) (d:=4) func20 rfl (by decide) (e20 lpK jnK aV fE)
def nX (lp:Lp) (jn:Jn) (aW:t99) (cg:KE) (bo:Km) (aP:KA) (au:Ls) (aL:JQ) (x0:(List Int)×List ((List Int)×Int×Int)):Option ((List (Int×Int))×Int×Unit) :=
 ah (aW x0) fun (t:Bool)=>bif !t then some ([],1,PUnit.unit) else ah (cg x0) fun (t:Bool)=>bif !t then some ([],5,PUnit.unit) else lp (Int×Int×PUnit) (List (Int×Int)×Int×PUnit) (fun (again:Int×Int×PUnit->Option (List (Int×Int)×Int×PUnit)) (x:Int×Int×PUnit) =>
 let v7:Int×PUnit:=(IntKind.wrap .i64 (x.2.1+1),PUnit.unit);
 let v8:Int:=IntKind.wrap .i64 ((↑x0.1.length:Int)+x.1);bif decide (x.2.1<(↑x0.2.length:Int)) then bif inB x.2.1 x0.2.length then bif !decide ((x0.2.getD x.2.1.toNat ([],0,0)).2.1=3) then again (IntKind.wrap .i64 (x.1+1),v7) else again (x.1, v7) else none else ah (bo x0.1) fun (t:List Int)=>lp (Int×Int×(List Nat×List (Option (List Int)))×Int×List Int×List Int×List Int×Int×Int × PUnit) (List (Int×Int)×Int×PUnit) (fun (again:Int×Int×(List Nat×List (Option (List Int)))×Int×List Int×List Int×List Int×Int×Int×PUnit->Option (List (Int × Int)×Int×PUnit)) (x:Int×Int×(List Nat×List (Option (List Int)))×Int×List Int×List Int×List Int×Int×Int×PUnit) =>
 let v12:Int:=IntKind.wrap .i64 (x.1+1);
 let v13:List Int×Int×Int:=x0.2.getD x.2.1.toNat ([],0,0);
 let v14:List Int:=List.replicate (Int.toNat (IntKind.wrap .i64 (x.2.2.2.2.2.2.2.2.1+1))) 0;
 let v15:Bool:=inB x.1 (Int.toNat (IntKind.wrap .i64 (x.2.2.2.2.2.2.2.2.1+1)));
 let v16:Bool:=Nat.ble (Nat.succ x.1.toNat) (Int.toNat (IntKind.wrap .i64 (x.2.2.2.2.2.2.2.2.1+1)));
 let v17:Int:=IntKind.wrap .i64 (x.2.2.2.2.2.2.2.1+x.2.1);
 let v18:List Int:=List.take (Int.toNat (IntKind.wrap .i64 (x.2.2.2.2.2.2.2.2.1+1))) v13.1;
 let v19:List Int:=List.set (List.take 0 v14++v18++List.drop (0+List.length v18) v14) x.2.2.2.2.2.2.2.2.1.toNat v13.2.2;bif decide (x.2.1<(↑x0.2.length:Int)) then bif inB x.2.1 x0.2.length then bif decide (0<=IntKind.wrap .i64 (x.2.2.2.2.2.2.2.2.1+(1 : Int)))&&eQ (Int.toNat (IntKind.wrap .i64 (x.2.2.2.2.2.2.2.2.1+1))) 8 then bif inB x.2.2.2.2.2.2.2.2.1 (Int.toNat (IntKind.wrap .i64 (x.2.2.2.2.2.2.2.2.1+1))) then bif Nat.ble (Nat.succ x.2.2.2.2.2.2.2.2.1.toNat) (Int.toNat (IntKind.wrap IntKind.i64 (x.2.2.2.2.2.2.2.2.1+1))) then jn (Int×List Int×PUnit) (List (Int×Int)×Int×PUnit) (fun (x_1:Int×List Int×PUnit) =>
 let v21:List Int×PUnit:=(x_1.2.1,PUnit.unit);jn (Int×List Int×PUnit) (List (Int×Int)×Int×PUnit) (fun (x_2:Int×List Int×PUnit)=>bif inB v17 x_2.2.1.length then bif Nat.ble (Nat.succ v17.toNat) x_2.2.1.length then bif eQ (List.length x.2.2.1.1+1) 24 then bif eQ (List.length x.2.2.2.2.2.1+1) 8 then bif eQ (List.length x.2.2.2.2.1+1) 8 then again (x_1.1,IntKind.wrap .i64 (x.2.1+(1 : Int)),(x.2.2.1.1++[List.length x.2.2.1.2+0],x.2.2.1.2++[some (x_2.2.1.set v17.toNat 1)]),x.2.2.2.1, x.2.2.2.2.1++[v17],x.2.2.2.2.2.1++[x_2.1],x.2.2.2.2.2.2.1,x.2.2.2.2.2.2.2.1,x.2.2.2.2.2.2.2.2.1, PUnit.unit) else none else none else none else none else none) fun (j:Int×List Int×PUnit->Option (List (Int×Int)×Int×PUnit))=>bif decide (v13.2.2<0) then lp (Int×List Int×PUnit) (List (Int×Int)×Int×PUnit) (fun (again:Int×List Int×PUnit->Option (List (Int×Int)×Int×PUnit)) (x:Int×List Int×PUnit) =>
 let v25:Bool:=inB x.1 x.2.1.length;
 let v26:Bool:=Nat.ble (Nat.succ x.1.toNat) x.2.1.length;bif decide (x.1<(↑x_1.2.1.length:Int)) then bif v25 then bif v26 then bif v25 then bif v26 then again (IntKind.wrap .i64 (x.1+1),x.2.1.set x.1.toNat (IntKind.wrap .i64 (0 - x.2.1.getD x.1.toNat 0)), PUnit.unit) else none else none else none else none else j ((-1),x.2.1,PUnit.unit)) (0,v21) else j (1,v21)) fun (j:Int×List Int×PUnit->Option (List (Int×Int)×Int×PUnit))=>bif decide (v13.2.1=1) then bif v15 then bif v16 then j (v12,v19.set x.1.toNat 1,PUnit.unit) else none else none else jn (Int×List Int×PUnit) (List (Int×Int)×Int×PUnit) (fun (x:Int×List Int×PUnit)=>j (x.1,x.2.1,PUnit.unit)) fun (j:Int×List Int×PUnit->Option (List (Int × Int)×Int×PUnit))=>bif decide (v13.2.1=2) then bif v15 then bif v16 then j (v12,v19.set x.1.toNat (-1),PUnit.unit) else none else none else j (x.1,v19,PUnit.unit) else none else none else none else none else ah (aP x.2.2.1 x.2.2.2.1 x.2.2.2.2.1 x.2.2.2.2.2.1 x.2.2.2.2.2.2.1 x.2.2.2.2.2.2.2.1 x.2.2.2.2.2.2.2.2.1) fun (y:(List Nat×List (Option (List Int)))×Int×List Int×List Int×List Int×Int×Int×Bool×PUnit)=>bif y.2.2.2.2.2.2.2.1 then some ([],12,PUnit.unit) else lp (List (Int×Int)×Int×PUnit) (List (Int×Int)×Int×PUnit) (fun (again:List (Int×Int)×Int×PUnit->Option (List (Int×Int)×Int×PUnit)) (x:List (Int×Int)×Int×PUnit)=>bif decide (x.2.1<(↑x0.2.length:Int)) then bif inB x.2.1 y.2.2.2.1.length then bif Nat.ble (Nat.succ x.2.1.toNat) y.2.2.2.1.length then ah (bif List.all y.1.1 fun (x:Nat) =>gu y.1.2 x then au (List.map (fun (x:Nat)=>bw y.1.2 x) y.1.1,y.2.1,y.2.2.1,y.2.2.2.1,y.2.2.2.2.1, y.2.2.2.2.2.1,y.2.2.2.2.2.2.1) (IntKind.wrap .i64 (y.2.2.2.2.2.1+x.2.1)) else none) fun (t:Int)=>ah (bif List.all y.1.1 fun (x:Nat)=>gu y.1.2 x then aL (List.map (fun (x:Nat)=>bw y.1.2 x) y.1.1,y.2.1,y.2.2.1,y.2.2.2.1,y.2.2.2.2.1, y.2.2.2.2.2.1,y.2.2.2.2.2.2.1) (IntKind.wrap .i64 (y.2.2.2.1.getD x.2.1.toNat 0*t)) else none) fun (t:Int×Int) => bif eQ (List.length x.1+1) 16 then again (x.1++[t],IntKind.wrap .i64 (x.2.1+1),PUnit.unit) else none else none else none else some (x.1,0,PUnit.unit)) ([],0,PUnit.unit)) ((↑x0.1.length:Int),0,([],[]),1,[],[],t,v8,IntKind.wrap .i64 (v8+(↑x0.2.length:Int)),PUnit.unit)) (0,0,PUnit.unit)
def fg (x0:(List Int)×List ((List Int)×Int×Int)):Option ((List (Int×Int))×Int×Unit):=nX lpK jnK aW cg bo aP au aL x0
abbrev t57:=((List Int)×List ((List Int)×Int×Int))->Option ((List (Int×Int))×Int×Unit)
def c57:Ctr:=⟨[T82],[],[],.tup [(.sl T47),i64],fun x _ _=>fg x.1⟩
theorem e57 (lp:Lp) (jn:Jn) (aW:t99) (cg:KE) (bo:Km) (aP:KA) (au:Ls) (aL:JQ):∀(x:TsS c57.as) (F:TsF c57.fs) (y:TsS c57.cs),nX lp jn aW cg bo aP au aL x.1=Kd lp jn (Dn.look [(102,Qg aP)]) (xW ym yk (Di [(105,PX aL),(106,PC au)] [] (iP prog shs sJ its [(100,Qy cg),(99,k99 aW)] [(32,r32),(92,r92),(112,QN bo)]))) aj 4 57 f57 c57 x F y:=fun x F y=>by kernel_rfl
theorem T7:c57.ok prog 57:=Ctr.of_denS (al (rI (aa (aa (q32) (by kernel_rfl) Qv) (by kernel_rfl) Pd) (iB (by kernel_rfl) Pf (iB (by kernel_rfl) O5 (nU))) (ol))) av (oe O6 (qL)) (hl:=aj) (d:=4) func57 rfl (by decide) (e57 lpK jnK aW cg bo aP au aL)
def pW (_:Lp) (_:Jn) (aV:t55) (fg:t57) (x0:(List (ByteArray×Int))×List (ByteArray×(List (ByteArray×Int×Int×Int))×Bool)):Option ((List (Int×Int))×Int×Unit) :=
 ah (aV x0) fun (t:(List Int×List (List Int×Int×Int))×Int×PUnit)=>bif !decide (t.2.1=0) then some ([],t.2.1,PUnit.unit) else ah (fg t.1) fun (t:List (Int×Int)×Int×PUnit)=>some (t.1,t.2.1,PUnit.unit)
def cC (x0:(List (ByteArray×Int))×List (ByteArray×(List (ByteArray×Int×Int×Int))×Bool)):Option ((List (Int×Int))×Int×Unit):=pW lpK jnK aV fg x0
abbrev t21:=((List (ByteArray×Int))×List (ByteArray×(List (ByteArray×Int×Int×Int))×Bool))->Option ((List (Int×Int))×Int×Unit)
def k21 (cC:t21):Ctr:=⟨[T25],[],[],.tup [(.sl T47),i64],fun x _ _=>cC x.1⟩
def c21:Ctr:=k21 cC
theorem e21 (lp:Lp) (jn:Jn) (aV:t55) (fg:t57):∀(x:TsS c21.as) (F:TsF c21.fs) (y:TsS c21.cs),pW lp jn aV fg x.1=aX lp jn (cx [(57,⟨[T82],[],[],.tup [(.sl T47),i64],fun x _ _=>fg x.1⟩),(55,k55 aV)] [(32,r32),(92,r92),(112,aJ)]) aj 4 21 f21 c21 x F y:=fun x F y=>by kernel_rfl
theorem Vf:c21.ok prog 21:=Ctr.of_den (al (aa (aa (q32) (by kernel_rfl) Q7) (by kernel_rfl) T7)) av (hl:=aj) (d:=4) func21 rfl (by decide) (e21 lpK jnK aV fg)
def pP (_:Lp) (_:Jn) (dK:t20) (cC:t21) (x0:(List (ByteArray×Int))×List (ByteArray×(List (ByteArray×Int×Int×Int))×Bool)):Option (((List (Int×Int))×Bool×List (Int×Int))×Int×Unit) :=
 ah (dK x0) fun (t:List (Int×Int)×Int×PUnit)=>bif decide (t.2.1=0) then some ((t.1,false,[]),0,PUnit.unit) else bif decide (t.2.1=(22 : Int)) then ah (cC x0) fun (t:List (Int×Int)×Int×PUnit)=>bif !decide (t.2.1=0) then some (([],false,[]),t.2.1,PUnit.unit) else some (([], true,t.1),0,PUnit.unit) else some (([],false,[]),t.2.1,PUnit.unit)
def bh (x0:(List (ByteArray×Int))×List (ByteArray×(List (ByteArray×Int×Int×Int))×Bool)):Option (((List (Int×Int))×Bool×List (Int×Int))×Int×Unit):=pP lpK jnK dK cC x0
abbrev t13:=((List (ByteArray×Int))×List (ByteArray×(List (ByteArray×Int×Int×Int))×Bool))->Option (((List (Int×Int))×Bool×List (Int×Int))×Int×Unit)
def k13 (bh:t13):Ctr:=⟨[T25],[],[],.tup [T30,i64],fun x _ _=>bh x.1⟩
def c13:Ctr:=k13 bh
theorem e13 (lp:Lp) (jn:Jn) (dK:t20) (cC:t21):∀(x:TsS c13.as) (F:TsF c13.fs) (y:TsS c13.cs),pP lp jn dK cC x.1=aX lp jn (cx [(21,k21 cC),(20,k20 dK)] [(32,r32),(92,r92),(112,aJ)]) aj 4 13 f13 c13 x F y:=fun x F y=>by kernel_rfl
theorem VC:c13.ok prog 13:=Ctr.of_den (al (aa (aa (q32) (by kernel_rfl) TX) (by kernel_rfl) Vf)) av (hl:=aj) (d:=4) func13 rfl (by decide) (e13 lpK jnK dK cC)
def mU (lp:Lp) (_:Jn) (x0:List (Int×Int)) (x1:List (Int×Int)):Option Bool :=
 bif !decide ((↑x0.length:Int)=(↑x1.length:Int)) then some false else lp (Int×PUnit) Bool (fun (again:Int×PUnit->Option Bool) (x:Int×PUnit)=>bif decide (x.1<(↑x0.length:Int)) then bif inB x.1 x0.length then bif inB x.1 x1.length then bif !(decide ((x0.getD x.1.toNat (0,(0 : Int))).1=(x1.getD x.1.toNat (0,0)).1)&&(decide ((x0.getD x.1.toNat (0,0)).2=(x1.getD x.1.toNat ((0 : Int),0)).2)&&true)) then some false else again (IntKind.wrap .i64 (x.1+1),PUnit.unit) else none else none else some true) (0,PUnit.unit)
def cQ (x0:List (Int×Int)) (x1:List (Int×Int)):Option Bool:=mU lpK jnK x0 x1
abbrev t36:=(List (Int×Int))->(List (Int×Int))->Option (Bool)
def k36 (cQ:t36):Ctr:=⟨[(.sl T47),(.sl T47)],[],[],.one .bool,fun x _ _=>cQ x.1 x.2.1⟩
def c36:Ctr:=k36 cQ
theorem e36 (lp:Lp) (jn:Jn):∀(x:TsS c36.as) (F:TsF c36.fs) (y:TsS c36.cs),mU lp jn x.1 x.2.1=aX lp jn (cx [] [(32,r32),(92,r92),(112,aJ)]) aj 4 36 f36 c36 x F y:=fun x F y=>by kernel_rfl
theorem Vs:c36.ok prog 36:=Ctr.of_den (al (q32)) av (hl:=aj) (d:=4) func36 rfl (by decide) (e36 lpK jnK)
def qn (_:Lp) (_:Jn) (cQ:t36) (x0:(List (Int×Int))×Bool×List (Int×Int)) (x1:(List (Int×Int))×Bool×List (Int×Int)):Option Bool :=
 
 let v4:Bool:=decide (x0.2.1=x1.2.1);
 let v5:Bool:=!v4||v4;bif v5 then bif v5 then bif v5&&v5 then ah (bif v4 then cQ x0.1 x1.1 else some false) fun (t:Bool) =>
 let v7:Bool:=bif v4 then t else false;
 let v8:Bool:=!v7||v7;bif v5 then bif v8 then bif v8 then bif v8&&v8 then ah (bif v7 then cQ x0.2.2 x1.2.2 else some false) fun (t:Bool)=>bif v8 then some (bif v7 then t else false) else none else none else none else none else none else none else none else none
def bp (x0:(List (Int×Int))×Bool×List (Int×Int)) (x1:(List (Int×Int))×Bool×List (Int×Int)):Option Bool:=qn lpK jnK cQ x0 x1
abbrev t15:=((List (Int×Int))×Bool×List (Int×Int))->((List (Int×Int))×Bool×List (Int×Int))->Option (Bool)
def k15 (bp:t15):Ctr:=⟨[T30,T30],[],[],.one .bool,fun x _ _=>bp x.1 x.2.1⟩
def c15:Ctr:=k15 bp
theorem e15 (lp:Lp) (jn:Jn) (cQ:t36):∀(x:TsS c15.as) (F:TsF c15.fs) (y:TsS c15.cs),qn lp jn cQ x.1 x.2.1=aX lp jn (cx [(36,k36 cQ)] [(32,r32),(92,r92),(112,aJ)]) aj 4 15 f15 c15 x F y:=fun x F y=>by kernel_rfl
theorem VM:c15.ok prog 15:=Ctr.of_den (al (aa (q32) (by kernel_rfl) Vs)) av (hl:=aj) (d:=4) func15 rfl (by decide) (e15 lpK jnK cQ)
def fL (lp:Lp) (_:Jn) (x0:List (Int×Int)) (f0:(((Int×Int)×Unit)->Option Bool)):Option Int :=
 lp (Int×PUnit) Int (fun (again:Int×PUnit->Option Int) (x:Int×PUnit)=>bif decide (x.1<(↑x0.length:Int)) then bif inB x.1 x0.length then ah (f0 (x0.getD x.1.toNat (0,0),PUnit.unit)) fun (t:Bool)=>bif t then some x.1 else again (IntKind.wrap .i64 (x.1+1),PUnit.unit) else none else some (-1)) (0,PUnit.unit)
def bj (x0:List (Int×Int)) (f0:(((Int×Int)×Unit)->Option Bool)):Option Int:=fL lpK jnK x0 f0
abbrev t75:=(List (Int×Int))->((((Int×Int)×Unit)->Option Bool))->Option (Int)
def k75 (bj:t75):Ctr:=⟨[(.sl T47)],[([T47],.bool)],[],.one i64,fun x F _=>bj x.1 F.1⟩
def c75:Ctr:=k75 bj
theorem e75 (lp:Lp) (jn:Jn):∀(x:TsS c75.as) (F:TsF c75.fs) (y:TsS c75.cs),fL lp jn x.1 F.1=aX lp jn (cx [] [(32,r32),(92,r92),(112,aJ)]) aj 4 75 f75 c75 x F y:=fun x F y=>by kernel_rfl
theorem TP:c75.ok prog 75:=Ctr.of_den (al (q32)) av (hl:=aj) (d:=4) func75 rfl (by decide) (e75 lpK jnK)
def fb (_:Lp) (_:Jn) (bj:t75) (x0:List (Int×Int)) (f0:(((Int×Int)×Unit)->Option Bool)):Option Bool :=
 ah (bj x0 f0) fun (t:Int)=>some (decide (t>=0))
def ai (x0:List (Int×Int)) (f0:(((Int×Int)×Unit)->Option Bool)):Option Bool:=fb lpK jnK bj x0 f0
abbrev t34:=(List (Int×Int))->((((Int×Int)×Unit)->Option Bool))->Option (Bool)
def k34 (ai:t34):Ctr:=⟨[(.sl T47)],[([T47],.bool)],[],.one .bool,fun x F _=>ai x.1 F.1⟩
def c34:Ctr:=k34 ai
theorem e34 (lp:Lp) (jn:Jn) (bj:t75):∀(x:TsS c34.as) (F:TsF c34.fs) (y:TsS c34.cs),fb lp jn bj x.1 F.1=aX lp jn (cx [(75,k75 bj)] [(32,r32),(92,r92),(112,aJ)]) aj 4 34 f34 c34 x F y:=fun x F y=>by kernel_rfl
theorem JA:c34.ok prog 34:=Ctr.of_den (al (aa (q32) (by kernel_rfl) TP)) av (hl:=aj) (d:=4) func34 rfl (by decide) (e34 lpK jnK bj)
def kZ (_:Lp) (_:Jn) (x0:(List (Int×Int))×Bool×List (Int×Int)):Option ((List (Int×Int))×(List (Int×Int))×Unit) :=
 bif x0.2.1 then some (x0.2.2,x0.1,PUnit.unit) else some (x0.1,x0.2.2,PUnit.unit)
def bA (x0:(List (Int×Int))×Bool×List (Int×Int)):Option ((List (Int×Int))×(List (Int×Int))×Unit):=kZ lpK jnK x0
abbrev t49:=((List (Int×Int))×Bool×List (Int×Int))->Option ((List (Int×Int))×(List (Int×Int))×Unit)
def k49 (bA:t49):Ctr:=⟨[T30],[],[],.tup [(.sl T47),(.sl T47)],fun x _ _=>bA x.1⟩
def c49:Ctr:=k49 bA
theorem e49 (lp:Lp) (jn:Jn):∀(x:TsS c49.as) (F:TsF c49.fs) (y:TsS c49.cs),kZ lp jn x.1=aX lp jn (cx [] [(32,r32),(92,r92),(112,aJ)]) aj 4 49 f49 c49 x F y:=fun x F y=>by kernel_rfl
theorem Sr:c49.ok prog 49:=Ctr.of_den (al (q32)) av (hl:=aj) (d:=4) func49 rfl (by decide) (e49 lpK jnK)
def jE (_:Lp) (_:Jn) (ao:t58) (x0:Int×Int):Option Bool :=
 ah (ao x0) fun (t:Bool)=>some !t
def eg (x0:Int×Int):Option Bool:=jE lpK jnK ao x0
abbrev t93:=(Int×Int)->Option (Bool)
def c93:Ctr:=⟨[T47],[],[],.one .bool,fun x _ _=>eg x.1⟩
theorem e93 (lp:Lp) (jn:Jn) (ao:t58):∀(x:TsS c93.as) (F:TsF c93.fs) (y:TsS c93.cs),jE lp jn ao x.1=aX lp jn (cx [(58,k58 ao)] [(32,r32),(92,r92),(112,aJ)]) aj 4 93 f93 c93 x F y:=fun x F y=>by kernel_rfl
theorem TW:c93.ok prog 93:=Ctr.of_den (al (aa (q32) (by kernel_rfl) CM)) av (hl:=aj) (d:=4) func93 rfl (by decide) (e93 lpK jnK ao)
def lc (_:Lp) (_:Jn) (ai:t34) (eg:t93) (cS:t92) (x0:(List (Int×Int))×Bool×List (Int×Int)):Option Bool :=
 ah (cS [x0.1,x0.2.2]) fun (t:List (Int×Int))=>ah (ai t fun (x:(Int×Int)×PUnit)=>eg x.1) fun (t:Bool)=>some !t
def bC (x0:(List (Int×Int))×Bool×List (Int×Int)):Option Bool:=lc lpK jnK ai eg cS x0
abbrev t51:=((List (Int×Int))×Bool×List (Int×Int))->Option (Bool)
def k51 (bC:t51):Ctr:=⟨[T30],[],[],.one .bool,fun x _ _=>bC x.1⟩
def c51:Ctr:=k51 bC
theorem e51 (lp:Lp) (jn:Jn) (ai:t34) (eg:t93) (cS:t92):∀(x:TsS c51.as) (F:TsF c51.fs) (y:TsS c51.cs),lc lp jn ai eg cS x.1=aX lp jn (cx [(93,⟨[T47],[],[],.one .bool,fun x _ _=>eg x.1⟩),(34,k34 ai)] [(32,r32),(92,⟨[(.sl (.sl T47))],47,T47,fun x=>cS x.1⟩),(112,aJ)]) aj 4 51 f51 c51 x F y:=fun x F y=>by kernel_rfl
theorem R9:c51.ok prog 51:=Ctr.of_den (al (aa (aa (q32) (by kernel_rfl) JA) (by kernel_rfl) TW)) av (hl:=aj) (d:=4) func51 rfl (by decide) (e51 lpK jnK ai eg cS)
def jr (_:Lp) (_:Jn) (ao:t58) (x0:Int×Int):Option Bool :=
 ah (ao x0) fun (t:Bool)=>some !t
def du (x0:Int×Int):Option Bool:=jr lpK jnK ao x0
abbrev TE:=(Int×Int)->Option (Bool)
def Lh:Ctr:=⟨[T47],[],[],.one .bool,fun x _ _=>du x.1⟩
theorem TU (lp:Lp) (jn:Jn) (ao:t58):∀(x:TsS Lh.as) (F:TsF Lh.fs) (y:TsS Lh.cs),jr lp jn ao x.1=aX lp jn (cx [(58,k58 ao)] [(32,r32),(92,r92),(112,aJ)]) aj 4 168 f168 Lh x F y:=fun x F y=>by kernel_rfl
theorem Tt:Lh.ok prog 168:=Ctr.of_den (al (aa (q32) (by kernel_rfl) CM)) av (hl:=aj) (d:=4) func168 rfl (by decide) (TU lpK jnK ao)
def lg (_:Lp) (_:Jn) (ai:t34) (du:TE) (x0:List (Int×Int)):Option Bool :=
 ah (ai x0 fun (x:(Int×Int)×PUnit)=>du x.1) fun (t:Bool)=>some !t
def eB (x0:List (Int×Int)):Option Bool:=lg lpK jnK ai du x0
abbrev RZ:=(List (Int×Int))->Option (Bool)
def LP:Ctr:=⟨[(.sl T47)],[],[],.one .bool,fun x _ _=>eB x.1⟩
theorem UZ (lp:Lp) (jn:Jn) (ai:t34) (du:TE):∀(x:TsS LP.as) (F:TsF LP.fs) (y:TsS LP.cs),lg lp jn ai du x.1=aX lp jn (cx [(168,⟨[T47],[],[],.one .bool,fun x _ _=>du x.1⟩),(34,k34 ai)] [(32,r32),(92,r92),(112,aJ)]) aj 4 130 f130 LP x F y:=fun x F y=>by kernel_rfl
theorem RB:LP.ok prog 130:=Ctr.of_den (al (aa (aa (q32) (by kernel_rfl) JA) (by kernel_rfl) Tt)) av (hl:=aj) (d:=4) func130 rfl (by decide) (UZ lpK jnK ai du)
def lf (_:Lp) (_:Jn) (bG:Ew) (x0:Int) (x1:Int):Option (Int×Int) :=
 ah (bG x0 x1) fun (t:Int×Int×PUnit)=>some (t.1,t.2.1)
def aE (x0:Int) (x1:Int):Option (Int×Int):=lf lpK jnK bG x0 x1
abbrev t61:=(Int)->(Int)->Option (Int×Int)
def k61 (aE:t61):Ctr:=⟨[(.int .u64),(.int .u64)],[],[],.one nC,fun x _ _=>aE x.1 x.2.1⟩
def c61:Ctr:=k61 aE
theorem e61 (lp:Lp) (jn:Jn) (bG:Ew):∀(x:TsS c61.as) (F:TsF c61.fs) (y:TsS c61.cs),lf lp jn bG x.1 x.2.1=aX lp jn (cx [(107,NM bG)] [(32,r32),(92,r92),(112,aJ)]) aj 4 61 f61 c61 x F y:=fun x F y=>by kernel_rfl
theorem QB:c61.ok prog 61:=Ctr.of_den (al (aa (q32) (by kernel_rfl) KM)) av (hl:=aj) (d:=4) func61 rfl (by decide) (e61 lpK jnK bG)
def ra (_:Lp) (_:Jn) (bi:t59) (ay:t60) (ao:t58) (aY:t62) (aE:t61) (x0:Int×Int) (x1:Int×Int):Option ((Int×Int)×Int×Unit) :=
 
 let v4:Int:=IntKind.wrap .u64 x1.2;
 let v5:Int:=IntKind.wrap .u64 x0.2;ah (ao x0) fun (t:Bool) =>
 let v7:Bool:=!t;
 let v8:Bool:=!v7;
 let v9:Bool:=!v8||v8;bif v9 then ah (bif v8 then ao x1 else some false) fun (t:Bool)=>bif v9 then bif v7||v8 then bif bif v7 then true else !t then some (((0 : Int),0),1,PUnit.unit) else ah (ay x0.1) fun (t:Int)=>ah (bi t v4) fun (t:Int) =>
 let v13:Bool:=nzB t;ah (ay x1.1) fun (t_1:Int)=>ah (bi t_1 v5) fun (t_2:Int) =>
 let v16:Bool:=nzB t_2;ah (ay x0.1) fun (t_3:Int)=>bif v13 then ah (ay x1.1) fun (t_4:Int)=>bif v16 then ah (aE (IntKind.wrap IntKind.u64 (Int.tdiv t_3 t)) (IntKind.wrap .u64 (Int.tdiv t_4 t_2))) fun (t_5:Int×Int) =>
 let v20:Bool:=decide (t_5.1>0);
 let v21:Bool:=decide (t_5.2>0);
 let v22:Bool:=!v20;
 let v23:Bool:=!v21||v21;
 let v24:Bool:=!v22||v22;bif v16 then bif v13 then ah (aE (IntKind.wrap .u64 (Int.tdiv v5 t_2)) (IntKind.wrap .u64 (Int.tdiv v4 t))) fun (t:Int×Int) =>bif v24 then bif v24 then bif v20||v22 then bif bif v20 then true else decide (t.1>0) then some ((0,0),5,PUnit.unit) else bif v23 then bif v23 then bif v23 then bif v23 then bif v23&&v23 then bif v23 then ah (aY (bif v21 then !decide (decide (x0.1<0)=decide (x1.1<0)) else false) t_5.2 t.2) fun (t:(Int×Int)×Int×PUnit)=>some (t.1,t.2.1,PUnit.unit) else none else none else none else none else none else none else none else none else none else none else none else none else none else none else none else none
def ce (x0:Int×Int) (x1:Int×Int):Option ((Int×Int)×Int×Unit):=ra lpK jnK bi ay ao aY aE x0 x1
abbrev t23:=(Int×Int)->(Int×Int)->Option ((Int×Int)×Int×Unit)
def k23 (ce:t23):Ctr:=⟨[T47,T47],[],[],.tup [T47,i64],fun x _ _=>ce x.1 x.2.1⟩
def c23:Ctr:=k23 ce
theorem e23 (lp:Lp) (jn:Jn) (bi:t59) (ay:t60) (ao:t58) (aY:t62) (aE:t61):∀(x:TsS c23.as) (F:TsF c23.fs) (y:TsS c23.cs),ra lp jn bi ay ao aY aE x.1 x.2.1=aX lp jn (cx [(61,k61 aE),(62,k62 aY),(58,k58 ao),(60,k60 ay),(59,k59 bi)] [(32,r32),(92,r92),(112,aJ)]) aj 4 23 f23 c23 x F y:=fun x F y=>by kernel_rfl
theorem Rc:c23.ok prog 23:=Ctr.of_den (al (aa (aa (aa (aa (aa (q32) (by kernel_rfl) MI) (by kernel_rfl) HP) (by kernel_rfl) CM) (by kernel_rfl) P7) (by kernel_rfl) QB)) av (hl:=aj) (d:=4) func23 rfl (by decide) (e23 lpK jnK bi ay ao aY aE)
def pn (_:Lp) (_:Jn) (x0:Int×Int) (x1:Int×Int):Option (Int×Int) :=
 bif decide ((0:Int)<=0)&&decide ((0:Int)<=1) then bif decide (0<=xK x0.2 x1.2 0)&&decide (xK x0.2 x1.2 0<=1) then some (BO x0.1 x1.1 (xK x0.2 x1.2 0),BO x0.2 x1.2 0) else none else none
def gl (x0:Int×Int) (x1:Int×Int):Option (Int×Int):=pn lpK jnK x0 x1
abbrev SR:=(Int×Int)->(Int×Int)->Option (Int×Int)
def L9:Ctr:=⟨[nC,nC],[],[],.one nC,fun x _ _=>gl x.1 x.2.1⟩
theorem UU (lp:Lp) (jn:Jn):∀(x:TsS L9.as) (F:TsF L9.fs) (y:TsS L9.cs),pn lp jn x.1 x.2.1=aX lp jn (cx [] [(32,r32),(92,r92),(112,aJ)]) aj 4 188 f188 L9 x F y:=fun x F y=>by kernel_rfl
theorem Ty:L9.ok prog 188:=Ctr.of_den (al (q32)) av (hl:=aj) (d:=4) func188 rfl (by decide) (UU lpK jnK)
def oJ (_:Lp) (_:Jn) (x0:Int×Int) (x1:Int×Int):Option Bool :=
 
 let v4:Bool:=decide (x0.1=x1.1);
 let v5:Bool:=decide (x0.1<x1.1);
 let v6:Bool:=!v5;
 let v7:Bool:=!v6;
 let v8:Bool:=v6&&v4;
 let v9:Bool:=v7||v6;
 let v10:Bool:=!v8||v8;bif v9 then bif v9 then bif v9&&v9 then bif v9 then bif v10 then bif v10 then bif v10&&v10 then bif (v7||v9)&&(v7||(!v4||(v7||v8))) then bif v5 || v6 then some (bif v5 then true else bif v4 then decide (x0.2<x1.2) else false) else none else none else none else none else none else none else none else none else none
def cH (x0:Int×Int) (x1:Int×Int):Option Bool:=oJ lpK jnK x0 x1
abbrev JZ:=(Int×Int)->(Int×Int)->Option (Bool)
def Qj (cH:JZ):Ctr:=⟨[nC,nC],[],[],.one .bool,fun x _ _=>cH x.1 x.2.1⟩
def JR:Ctr:=Qj cH
theorem Ub (lp:Lp) (jn:Jn):∀(x:TsS JR.as) (F:TsF JR.fs) (y:TsS JR.cs),oJ lp jn x.1 x.2.1=aX lp jn (cx [] [(32,r32),(92,r92),(112,aJ)]) aj 4 189 f189 JR x F y:=fun x F y=>by kernel_rfl
theorem O4:JR.ok prog 189:=Ctr.of_den (al (q32)) av (hl:=aj) (d:=4) func189 rfl (by decide) (Ub lpK jnK)
def nq (_:Lp) (_:Jn) (x0:Int×Int) (x1:Int×Int):Option (Int×Int) :=
 bif decide ((0:Int)<=0)&&decide ((0:Int)<=1) then bif decide (0<=uN x0.2 x1.2 0)&&decide (uN x0.2 x1.2 0<=1) then some (xI x0.1 x1.1 (uN x0.2 x1.2 0),xI x0.2 x1.2 0) else none else none
def fc (x0:Int×Int) (x1:Int×Int):Option (Int×Int):=nq lpK jnK x0 x1
abbrev SS:=(Int×Int)->(Int×Int)->Option (Int×Int)
def IE:Ctr:=⟨[nC,nC],[],[],.one nC,fun x _ _=>fc x.1 x.2.1⟩
theorem T0 (lp:Lp) (jn:Jn):∀(x:TsS IE.as) (F:TsF IE.fs) (y:TsS IE.cs),nq lp jn x.1 x.2.1=aX lp jn (cx [] [(32,r32),(92,r92),(112,aJ)]) aj 4 190 f190 IE x F y:=fun x F y=>by kernel_rfl
theorem RX:IE.ok prog 190:=Ctr.of_den (al (q32)) av (hl:=aj) (d:=4) func190 rfl (by decide) (T0 lpK jnK)
def oI (_:Lp) (_:Jn) (cO:Ip) (x0:Int×Int) (x1:Int):Option ((Int×Int)×Int×Unit) :=
 
 let v4:Bool:=nzB x1;bif v4 then ah (cO (Int.tmod x0.1 x1) x0.2 x1) fun (t:Int×Int×PUnit)=>bif v4 then some ((IntKind.wrap .u64 (Int.tdiv x0.1 x1), t.1),t.2.1,PUnit.unit) else none else none
def eo (x0:Int×Int) (x1:Int):Option ((Int×Int)×Int×Unit):=oI lpK jnK cO x0 x1
abbrev Qp:=(Int×Int)->(Int)->Option ((Int×Int)×Int×Unit)
def TM (eo:Qp):Ctr:=⟨[nC,(.int .u64)],[],[],.tup [nC,(.int .u64)],fun x _ _=>eo x.1 x.2.1⟩
def KH:Ctr:=TM eo
theorem U9 (lp:Lp) (jn:Jn) (cO:Ip):∀(x:TsS KH.as) (F:TsF KH.fs) (y:TsS KH.cs),oI lp jn cO x.1 x.2.1=aX lp jn (cx [(185,QP cO)] [(32,r32),(92,r92),(112,aJ)]) aj 4 191 f191 KH x F y:=fun x F y=>by kernel_rfl
theorem S0:KH.ok prog 191:=Ctr.of_den (al (aa (q32) (by kernel_rfl) OY)) av (hl:=aj) (d:=4) func191 rfl (by decide) (U9 lpK jnK cO)
def qQ (_:Lp) (jn:Jn) (bi:t59) (ay:t60) (ao:t58) (aY:t62) (aE:t61) (gl:SR) (cH:JZ) (fc:SS) (eo:Qp) (x0:Int×Int) (x1:Int×Int):Option ((Int×Int)×Int×Unit) :=
 
 let v4:Int:=IntKind.wrap .u64 x0.2;
 let v5:Int:=IntKind.wrap .u64 x1.2;
 let v6:Bool:=decide (x0.1<0);ah (ao x0) fun (t:Bool) =>
 let v8:Bool:=!t;
 let v9:Bool:=!v8;
 let v10:Bool:=!v9||v9;bif v10 then ah (bif v9 then ao x1 else some false) fun (t:Bool)=>bif v10 then bif v8||v9 then bif bif v8 then true else !t then some (((0 : Int),0),1,PUnit.unit) else ah (bi v4 v5) fun (t:Int) =>
 let v13:Bool:=nzB t;
 let v14:Int:=IntKind.wrap .u64 (Int.tdiv v4 t);ah (ay x0.1) fun (t_1:Int)=>bif v13 then ah (aE t_1 (IntKind.wrap .u64 (Int.tdiv v5 t))) fun (t_2:Int×Int)=>ah (ay x1.1) fun (t_3:Int)=>bif v13 then ah (aE t_3 v14) fun (t_4:Int×Int)=>jn (Bool×(Int×Int)×PUnit) ((Int×Int) × Int×PUnit) (fun (x:Bool×(Int×Int)×PUnit)=>bif decide (x.2.1.1=0)&&(decide (x.2.1.2=0)&&true) then some ((0,1),(0 : Int),PUnit.unit) else ah (eo x.2.1 t) fun (t_5:(Int×Int)×Int×PUnit)=>ah (bi t t_5.2.1) fun (t:Int)=>ah (eo x.2.1 t) fun (t_6 : (Int×Int)×Int×PUnit) =>
 let v23:Bool:=decide (t_6.1.1>0);
 let v24:Bool:=!v23;
 let v25:Bool:=!v24||v24;bif v13 then bif nzB t then ah (aE v14 (IntKind.wrap .u64 (Int.tdiv v5 t))) fun (t:Int×Int)=>bif v25 then bif v25 then bif v23 || v24 then bif bif v23 then true else decide (t.1>0) then some ((0,0),5,PUnit.unit) else ah (aY x.1 t_6.1.2 t.2) fun (t:(Int × Int)×Int×PUnit)=>some (t.1,t.2.1,PUnit.unit) else none else none else none else none else none) fun (j:Bool×(Int×Int)×PUnit->Option ((Int×Int)×Int×PUnit)) =>bif decide (v6=decide (x1.1<0)) then ah (gl t_2 t_4) fun (t:Int×Int)=>j (v6,t,PUnit.unit) else ah (cH t_2 t_4) fun (t:Bool)=>jn (Bool × (Int×Int)×PUnit) ((Int×Int)×Int×PUnit) (fun (x:Bool×(Int×Int)×PUnit)=>j (x.1,x.2.1,PUnit.unit)) fun (j:Bool×(Int×Int)×PUnit->Option ((Int×Int) × Int×PUnit))=>bif t then ah (fc t_4 t_2) fun (t:Int×Int)=>j (!v6,t,PUnit.unit) else ah (fc t_2 t_4) fun (t:Int×Int)=>j (v6,t,PUnit.unit) else none else none else none else none else none
def ca (x0:Int×Int) (x1:Int×Int):Option ((Int×Int)×Int×Unit):=qQ lpK jnK bi ay ao aY aE gl cH fc eo x0 x1
abbrev D8:=(Int×Int)->(Int×Int)->Option ((Int×Int)×Int×Unit)
def Ns (ca:D8):Ctr:=⟨[T47,T47],[],[],.tup [T47,i64],fun x _ _=>ca x.1 x.2.1⟩
def H6:Ctr:=Ns ca
theorem U1 (lp:Lp) (jn:Jn) (bi:t59) (ay:t60) (ao:t58) (aY:t62) (aE:t61) (gl:SR) (cH:JZ) (fc:SS) (eo:Qp):∀(x:TsS H6.as) (F:TsF H6.fs) (y:TsS H6.cs),qQ lp jn bi ay ao aY aE gl cH fc eo x.1 x.2.1=aX lp jn (cx [(191,TM eo),(190,⟨[nC,nC],[],[],.one nC,fun x _ _=>fc x.1 x.2.1⟩),(189,Qj cH),(188,⟨[nC,nC],[],[],.one nC,fun x _ _=>gl x.1 x.2.1⟩),(61,k61 aE),(62,k62 aY),(58,k58 ao),(60,k60 ay),(59,k59 bi)] [(32,r32),(92,r92),(112,aJ)]) aj 4 171 f171 H6 x F y:=fun x F y=>by kernel_rfl
theorem K2:H6.ok prog 171:=Ctr.of_den (al (aa (aa (aa (aa (aa (aa (aa (aa (aa (q32) (by kernel_rfl) MI) (by kernel_rfl) HP) (by kernel_rfl) CM) (by kernel_rfl) P7) (by kernel_rfl) QB) (by kernel_rfl) Ty) (by kernel_rfl) O4) (by kernel_rfl) RX) (by kernel_rfl) S0)) av (hl:=aj) (d:=4) func171 rfl (by decide) (U1 lpK jnK bi ay ao aY aE gl cH fc eo)
def jo (lp:Lp) (jn:Jn) (ce:t23) (ca:D8) (x0:Int) (x1:List Int) (x2:List (Int×Int)):Option (Int×(Int×Int)) :=
 lp (Int×Int×(Int×Int)×(Int×Int)×PUnit) (Int×Int×Int) (fun (again:Int×Int×(Int×Int)×(Int×Int)×PUnit->Option (Int×Int×Int)) (x:Int×Int×(Int×Int) × (Int×Int)×PUnit)=>bif decide (x.1<(↑x1.length:Int)) then bif inB x.1 x1.length then bif inB x.1 x2.length then ah (ce (x1.getD x.1.toNat 0,1) (x2.getD x.1.toNat (0,0))) fun (t:(Int×Int)×Int×PUnit)=>jn (Int×(Int×Int)×PUnit) (Int×Int×Int) (fun (x_1:Int×(Int×Int)×PUnit)=>bif !decide (x_1.1=0) then some (x_1.1,0,1) else again (IntKind.wrap .i64 (x.1+1), x.2.1,x.2.2.1,x_1.2.1,PUnit.unit)) fun (j:Int×(Int×Int)×PUnit->Option (Int×Int×Int))=>bif decide (t.2.1=0) then ah (ca x.2.2.2.1 t.1) fun (t:(Int×Int)×Int×PUnit)=>j (t.2.1,t.1,PUnit.unit) else j (t.2.1,t.1,PUnit.unit) else none else none else some (x.2.1, x.2.2.2.1)) (0,x0,(0,0),(0,1),PUnit.unit)
def bL (x0:Int) (x1:List Int) (x2:List (Int×Int)):Option (Int×(Int×Int)):=jo lpK jnK ce ca x0 x1 x2
abbrev Px:=(Int)->(List Int)->(List (Int×Int))->Option (Int×(Int×Int))
def S9 (bL:Px):MCtr:=⟨P6,[(.sl i64),(.sl T47)],.one T47,fun x y=>bL x y.1 y.2.1⟩
def NV:MCtr:=S9 bL
theorem TQ (lp:Lp) (jn:Jn) (ce:t23) (ca:D8):∀(x:NV.s.T) (y:TsS NV.as),jo lp jn ce ca x y.1 y.2.1=Qa lp jn (cx [(171,Ns ca),(23,k23 ce)] [(32,r32),(92,r92),(112,aJ)]) aj 4 133 f133 NV x y:=fun x y=>by kernel_rfl
theorem Rf:NV.ok prog 133:=MCtr.of_den (al (aa (aa (q32) (by kernel_rfl) Rc) (by kernel_rfl) K2)) av (hl:=aj) (d:=4) func133 rfl (by decide) rfl (TQ lpK jnK ce ca)
def qV (_:Lp) (jn:Jn) (ay:t60) (ao:t58) (aE:t61) (cH:JZ) (x0:Int×Int) (x1:Int×Int):Option (Int×Int×Unit) :=
 
 let v4:Bool:=decide (x0.1<0);ah (ao x0) fun (t:Bool) =>
 let v6:Bool:=!t;
 let v7:Bool:=!v6;
 let v8:Bool:=!v7||v7;bif v8 then ah (bif v7 then ao x1 else some false) fun (t:Bool)=>bif v8 then bif v6||v7 then bif bif v6 then true else !t then some ((0 : Int),1,PUnit.unit) else ah (ay x0.1) fun (t:Int)=>ah (aE t (IntKind.wrap .u64 x1.2)) fun (t:Int×Int)=>ah (ay x1.1) fun (t_1:Int)=>ah (aE t_1 (IntKind.wrap .u64 x0.2)) fun (t_2:Int×Int)=>bif !decide (v4=decide (x1.1<0)) then bif v4 then some ((-1), 0,PUnit.unit) else some (1,0,PUnit.unit) else jn ((Int×Int)×(Int×Int)×PUnit) (Int×Int×PUnit) (fun (x:(Int×Int)×(Int×Int)×PUnit)=>ah (cH x.1 x.2.1) fun (t:Bool)=>bif t then some ((-1),0,PUnit.unit) else ah (cH x.2.1 x.1) fun (t:Bool)=>bif t then some (1, 0,PUnit.unit) else some (0,0,PUnit.unit)) fun (j:(Int×Int)×(Int×Int)×PUnit->Option (Int×Int×PUnit))=>bif v4 then j (t_2,t,PUnit.unit) else j (t,t_2,PUnit.unit) else none else none else none
def gR (x0:Int×Int) (x1:Int×Int):Option (Int×Int×Unit):=qV lpK jnK ay ao aE cH x0 x1
abbrev Sg:=(Int×Int)->(Int×Int)->Option (Int×Int×Unit)
def Jr:Ctr:=⟨[T47,T47],[],[],.tup [i64,i64],fun x _ _=>gR x.1 x.2.1⟩
theorem VY (lp:Lp) (jn:Jn) (ay:t60) (ao:t58) (aE:t61) (cH:JZ):∀(x:TsS Jr.as) (F:TsF Jr.fs) (y:TsS Jr.cs),qV lp jn ay ao aE cH x.1 x.2.1=aX lp jn (cx [(189,Qj cH),(61,k61 aE),(58,k58 ao),(60,k60 ay)] [(32,r32),(92,r92),(112,aJ)]) aj 4 187 f187 Jr x F y:=fun x F y=>by kernel_rfl
theorem Rm:Jr.ok prog 187:=Ctr.of_den (al (aa (aa (aa (aa (q32) (by kernel_rfl) HP) (by kernel_rfl) CM) (by kernel_rfl) QB) (by kernel_rfl) O4)) av (hl:=aj) (d:=4) func187 rfl (by decide) (VY lpK jnK ay ao aE cH)
def nD (_:Lp) (_:Jn) (gR:Sg) (x0:Int×Int) (x1:Int):Option Int :=
 ah (gR x0 (x1,1)) fun (t:Int×Int×PUnit)=>some t.1
def fC (x0:Int×Int) (x1:Int):Option Int:=nD lpK jnK gR x0 x1
abbrev Sb:=(Int×Int)->(Int)->Option (Int)
def Iw:Ctr:=⟨[T47,i64],[],[],.one i64,fun x _ _=>fC x.1 x.2.1⟩
theorem Un (lp:Lp) (jn:Jn) (gR:Sg):∀(x:TsS Iw.as) (F:TsF Iw.fs) (y:TsS Iw.cs),nD lp jn gR x.1 x.2.1=aX lp jn (cx [(187,⟨[T47,T47],[],[],.tup [i64,i64],fun x _ _=>gR x.1 x.2.1⟩)] [(32,r32),(92,r92),(112,aJ)]) aj 4 169 f169 Iw x F y:=fun x F y=>by kernel_rfl
theorem S1:Iw.ok prog 169:=Ctr.of_den (al (aa (q32) (by kernel_rfl) Rm)) av (hl:=aj) (d:=4) func169 rfl (by decide) (Un lpK jnK gR)
def kp (lp:Lp) (_:Jn) (x0:(List Int)×List ((List Int)×Int×Int)) (x1:Int):Option (List Int) :=
 lp (List Int×Int×PUnit) (List Int) (fun (again:List Int×Int×PUnit->Option (List Int)) (x:List Int×Int×PUnit)=>bif decide (x.2.1<(↑x0.2.length:Int)) then bif inB x.2.1 x0.2.length then bif inB x1 (List.length (x0.2.getD x.2.1.toNat ([],0,0)).1) then bif eQ (List.length x.1+(1 : Nat)) 8 then again (x.1++[List.getD (x0.2.getD x.2.1.toNat ([],0,0)).1 x1.toNat 0],IntKind.wrap .i64 (x.2.1 + 1),PUnit.unit) else none else none else none else some x.1) ([],0,PUnit.unit)
def dM (x0:(List Int)×List ((List Int)×Int×Int)) (x1:Int):Option (List Int):=kp lpK jnK x0 x1
abbrev Rn:=((List Int)×List ((List Int)×Int×Int))->(Int)->Option (List Int)
def KF:Ctr:=⟨[T82,i64],[],[],.one (.sl i64),fun x _ _=>dM x.1 x.2.1⟩
theorem Ut (lp:Lp) (jn:Jn):∀(x:TsS KF.as) (F:TsF KF.fs) (y:TsS KF.cs),kp lp jn x.1 x.2.1=aX lp jn (cx [] [(32,r32),(92,r92),(112,aJ)]) aj 4 170 f170 KF x F y:=fun x F y=>by kernel_rfl
theorem Tw:KF.ok prog 170:=Ctr.of_den (al (q32)) av (hl:=aj) (d:=4) func170 rfl (by decide) (Ut lpK jnK)
def iH (_:Lp) (_:Jn) (_:Int):Option Int :=
 some 0
def cX (x0:Int):Option Int:=iH lpK jnK x0
abbrev Ti:=(Int)->Option (Int)
def LB:Ctr:=⟨[i64],[],[],.one i64,fun x _ _=>cX x.1⟩
theorem Uf (lp:Lp) (jn:Jn):∀(x:TsS LB.as) (F:TsF LB.fs) (y:TsS LB.cs),iH lp jn x.1=aX lp jn (cx [] [(32,r32),(92,r92),(112,aJ)]) aj 4 132 f132 LB x F y:=fun x F y=>by kernel_rfl
theorem Rv:LB.ok prog 132:=Ctr.of_den (al (q32)) av (hl:=aj) (d:=4) func132 rfl (by decide) (Uf lpK jnK)
def kq (lp:Lp) (_:Jn) (x0:(List Int)×List ((List Int)×Int×Int)):Option (List Int) :=
 lp (List Int×Int×PUnit) (List Int) (fun (again:List Int×Int×PUnit->Option (List Int)) (x:List Int×Int×PUnit)=>bif decide (x.2.1<(↑x0.2.length:Int)) then bif inB x.2.1 x0.2.length then bif eQ (List.length x.1+1) 8 then again (x.1++[(x0.2.getD x.2.1.toNat ([],0,(0 : Int))).2.2],IntKind.wrap .i64 (x.2.1+1),PUnit.unit) else none else none else some x.1) ([],0,PUnit.unit)
def dP (x0:(List Int)×List ((List Int)×Int×Int)):Option (List Int):=kq lpK jnK x0
abbrev SH:=((List Int)×List ((List Int)×Int×Int))->Option (List Int)
def Ko:Ctr:=⟨[T82],[],[],.one (.sl i64),fun x _ _=>dP x.1⟩
theorem Vx (lp:Lp) (jn:Jn):∀(x:TsS Ko.as) (F:TsF Ko.fs) (y:TsS Ko.cs),kq lp jn x.1=aX lp jn (cx [] [(32,r32),(92,r92),(112,aJ)]) aj 4 134 f134 Ko x F y:=fun x F y=>by kernel_rfl
theorem SQ:Ko.ok prog 134:=Ctr.of_den (al (q32)) av (hl:=aj) (d:=4) func134 rfl (by decide) (Vx lpK jnK)
def ki (lp:Lp) (_:Jn) (x0:(List Int)×List ((List Int)×Int×Int)) (x1:List (Int×Int)):Option Bool :=
 lp (Int×PUnit) Bool (fun (again:Int×PUnit->Option Bool) (x:Int×PUnit) =>
 let v6:Bool:=inB x.1 x1.length;
 let v7:Bool:=decide ((x0.2.getD x.1.toNat ([],0,0)).2.1=1);
 let v8:Bool:=decide ((x0.2.getD x.1.toNat ([],0,0)).2.1=2);
 let v9:Bool:=!v7;
 let v10:Bool:=bif v7 then decide ((x1.getD x.1.toNat (0,0)).1>0) else false;
 let v11:Bool:=!v10;
 let v12:Bool:=!v11;
 let v13:Bool:=v9||v7;
 let v14:Bool:=v11&&v8;
 let v15:Bool:=!v14;
 let v16:Bool:=v12||v11;
 let v17:Bool:=v15||v14;bif decide (x.1<(↑x0.2.length:Int)) then bif inB x.1 x0.2.length then bif v13&&(v13&&(v9||v6)) then bif v13 then bif v13 then bif v13 then bif v13 then bif v16 then bif v16 then bif v16 then bif v17&&(v17&&(v15||v6)) then bif v17 then bif v17 then bif v17 then bif (v12||v16)&&(v12||(!v8||(v12 || v14))) then bif v10||v11 then bif bif v10 then true else bif v8 then decide ((x1.getD x.1.toNat (0,0)).1<0) else false then some false else again (IntKind.wrap .i64 (x.1+1),PUnit.unit) else none else none else none else none else none else none else none else none else none else none else none else none else none else none else none else some true) (0,PUnit.unit)
def dL (x0:(List Int)×List ((List Int)×Int×Int)) (x1:List (Int×Int)):Option Bool:=ki lpK jnK x0 x1
abbrev SE:=((List Int)×List ((List Int)×Int×Int))->(List (Int×Int))->Option (Bool)
def JH:Ctr:=⟨[T82,(.sl T47)],[],[],.one .bool,fun x _ _=>dL x.1 x.2.1⟩
theorem UD (lp:Lp) (jn:Jn):∀(x:TsS JH.as) (F:TsF JH.fs) (y:TsS JH.cs),ki lp jn x.1 x.2.1=aX lp jn (cx [] [(32,r32),(92,r92),(112,aJ)]) aj 4 135 f135 JH x F y:=fun x F y=>by kernel_rfl
theorem Sc:JH.ok prog 135:=Ctr.of_den (al (q32)) av (hl:=aj) (d:=4) func135 rfl (by decide) (UD lpK jnK)
def jt (lp:Lp) (_:Jn) (aW:t99) (eB:RZ) (fC:Sb) (dM:Rn) (cX:Ti) (dP:SH) (dL:SE) (bL:Px) (x0:(List Int)×List ((List Int)×Int×Int)) (x1:List (Int×Int)):Option (Bool×Int×Unit) :=
 ah (aW x0) fun (t:Bool) =>
 let v5:Bool:=!t;
 let v6:Bool:=!v5;
 let v7:Bool:=!v6||v6;bif v7 then ah (bif v6 then eB x1 else some false) fun (t:Bool)=>bif v7 then bif v5||v6 then bif bif v5 then true else !t then some (false, 1,PUnit.unit) else bif !decide ((↑x1.length:Int)=(↑x0.2.length:Int)) then some (false,3,PUnit.unit) else lp (Bool×Int×Int×PUnit) (Bool × Int×PUnit) (fun (again:Bool×Int×Int×PUnit->Option (Bool×Int×PUnit)) (x:Bool×Int×Int×PUnit)=>bif decide (x.2.1<(↑x0.1.length:Int)) then ah (dM x0 x.2.1) fun (t:List Int)=>ah (bL x.2.2.1 t x1) fun (t:Int×Int×Int)=>ah (cX x.2.1) fun (t_1:Int)=>ah (fC t.2 t_1) fun (t_2:Int) =>
 let v15:Bool:=decide (t_2<=0);bif !v15||v15 then again (bif v15 then x.1 else false,IntKind.wrap .i64 (x.2.1+1),t.1,PUnit.unit) else none else ah (dP x0) fun (t:List Int)=>ah (bL x.2.2.1 t x1) fun (t:Int×Int×Int) =>
 let v13:Bool:=decide (t.2.1>0);
 let v14:Bool:=!v13||v13;bif v14&&v14 then ah (bif v13 then dL x0 x1 else some false) fun (t_1:Bool) =>
 let v16:Bool:=bif v13 then t_1 else false;
 let v17:Bool:=bif v16 then x.1 else false;
 let v18:Bool:=!v17||v17;bif v14 then bif !v16||v16 then bif v18 then bif v18 then bif v18 then some (bif v17 then decide (t.1=0) else false,t.1,PUnit.unit) else none else none else none else none else none else none) (true,0,0,PUnit.unit) else none else none else none
def cd (x0:(List Int)×List ((List Int)×Int×Int)) (x1:List (Int×Int)):Option (Bool×Int×Unit):=jt lpK jnK aW eB fC dM cX dP dL bL x0 x1
abbrev t94:=((List Int)×List ((List Int)×Int×Int))->(List (Int×Int))->Option (Bool×Int×Unit)
def k94 (cd:t94):Ctr:=⟨[T82,(.sl T47)],[],[],.tup [.bool,i64],fun x _ _=>cd x.1 x.2.1⟩
def c94:Ctr:=k94 cd
theorem e94 (lp:Lp) (jn:Jn) (aW:t99) (eB:RZ) (fC:Sb) (dM:Rn) (cX:Ti) (dP:SH) (dL:SE) (bL:Px):∀(x:TsS c94.as) (F:TsF c94.fs) (y:TsS c94.cs),jt lp jn aW eB fC dM cX dP dL bL x.1 x.2.1=aX lp jn (xW ym yk (Di [] [(133,S9 bL)] (iP prog shs sJ its [(135,⟨[T82,(.sl T47)],[],[],.one .bool,fun x _ _=>dL x.1 x.2.1⟩),(134,⟨[T82],[],[],.one (.sl i64),fun x _ _=>dP x.1⟩),(132,⟨[i64],[],[],.one i64,fun x _ _=>cX x.1⟩),(170,⟨[T82,i64],[],[],.one (.sl i64),fun x _ _=>dM x.1 x.2.1⟩),(169,⟨[T47,i64],[],[],.one i64,fun x _ _=>fC x.1 x.2.1⟩),(130,⟨[(.sl T47)],[],[],.one .bool,fun x _ _=>eB x.1⟩),(99,k99 aW)] [(32,r32),(92,r92),(112,aJ)]))) aj 4 94 f94 c94 x F y:=fun x F y=>by kernel_rfl
theorem VF:c94.ok prog 94:=Ctr.of_den (al (rI (aa (aa (aa (aa (aa (aa (aa (q32) (by kernel_rfl) Qv) (by kernel_rfl) RB) (by kernel_rfl) S1) (by kernel_rfl) Tw) (by kernel_rfl) Rv) (by kernel_rfl) SQ) (by kernel_rfl) Sc) (nU) (Gg (by kernel_rfl) Rf (ol)))) av (hl:=aj) (d:=4) func94 rfl (by decide) (e94 lpK jnK aW eB fC dM cX dP dL bL)
def ms (_:Lp) (_:Jn) (aV:t55) (cd:t94) (x0:(List (ByteArray×Int))×List (ByteArray×(List (ByteArray×Int×Int×Int))×Bool)) (x1:List (Int×Int)):Option (Bool×Int×Unit) :=
 ah (aV x0) fun (t:(List Int×List (List Int×Int×Int))×Int×PUnit)=>bif !decide (t.2.1=0) then some (false,t.2.1,PUnit.unit) else ah (cd t.1 x1) fun (t:Bool×Int×PUnit)=>some (t.1,t.2.1,PUnit.unit)
def dF (x0:(List (ByteArray×Int))×List (ByteArray×(List (ByteArray×Int×Int×Int))×Bool)) (x1:List (Int×Int)):Option (Bool×Int×Unit):=ms lpK jnK aV cd x0 x1
abbrev t52:=((List (ByteArray×Int))×List (ByteArray×(List (ByteArray×Int×Int×Int))×Bool))->(List (Int×Int))->Option (Bool×Int×Unit)
def k52 (dF:t52):Ctr:=⟨[T25,(.sl T47)],[],[],.tup [.bool,i64],fun x _ _=>dF x.1 x.2.1⟩
def c52:Ctr:=k52 dF
theorem e52 (lp:Lp) (jn:Jn) (aV:t55) (cd:t94):∀(x:TsS c52.as) (F:TsF c52.fs) (y:TsS c52.cs),ms lp jn aV cd x.1 x.2.1=aX lp jn (cx [(94,k94 cd),(55,k55 aV)] [(32,r32),(92,r92),(112,aJ)]) aj 4 52 f52 c52 x F y:=fun x F y=>by kernel_rfl
theorem UB:c52.ok prog 52:=Ctr.of_den (al (aa (aa (q32) (by kernel_rfl) Q7) (by kernel_rfl) VF)) av (hl:=aj) (d:=4) func52 rfl (by decide) (e52 lpK jnK aV cd)
def js (_:Lp) (_:Jn) (ao:t58) (x0:Int×Int):Option Bool :=
 ah (ao x0) fun (t:Bool)=>some !t
def dl (x0:Int×Int):Option Bool:=js lpK jnK ao x0
abbrev To:=(Int×Int)->Option (Bool)
def Ly:Ctr:=⟨[T47],[],[],.one .bool,fun x _ _=>dl x.1⟩
theorem TT (lp:Lp) (jn:Jn) (ao:t58):∀(x:TsS Ly.as) (F:TsF Ly.fs) (y:TsS Ly.cs),js lp jn ao x.1=aX lp jn (cx [(58,k58 ao)] [(32,r32),(92,r92),(112,aJ)]) aj 4 172 f172 Ly x F y:=fun x F y=>by kernel_rfl
theorem TK:Ly.ok prog 172:=Ctr.of_den (al (aa (q32) (by kernel_rfl) CM)) av (hl:=aj) (d:=4) func172 rfl (by decide) (TT lpK jnK ao)
def lr (_:Lp) (_:Jn) (bq:t72) (ai:t34) (dl:To) (x0:(List (ByteArray×Int))×List (ByteArray×(List (ByteArray×Int×Int×Int))×Bool)) (x1:List (Int×Int)):Option ((List (List Int))×Int×Unit) :=
 ah (bq x0) fun (t:List (List Int)×Int×PUnit)=>bif !decide (t.2.1=0) then some ([],t.2.1,PUnit.unit) else ah (ai x1 fun (x : (Int×Int)×PUnit)=>dl x.1) fun (t_1:Bool)=>bif t_1 then some ([],1,PUnit.unit) else bif !decide ((↑x1.length:Int)=(↑x0.2.length : Int)) then some ([],3,PUnit.unit) else some (t.1,0,PUnit.unit)
def dn (x0:(List (ByteArray×Int))×List (ByteArray×(List (ByteArray×Int×Int×Int))×Bool)) (x1:List (Int×Int)):Option ((List (List Int))×Int×Unit):=lr lpK jnK bq ai dl x0 x1
abbrev Qo:=((List (ByteArray×Int))×List (ByteArray×(List (ByteArray×Int×Int×Int))×Bool))->(List (Int×Int))->Option ((List (List Int))×Int×Unit)
def TB (dn:Qo):Ctr:=⟨[T25,(.sl T47)],[],[],.tup [(.sl (.sl i64)),i64],fun x _ _=>dn x.1 x.2.1⟩
def JU:Ctr:=TB dn
theorem Vt (lp:Lp) (jn:Jn) (bq:t72) (ai:t34) (dl:To):∀(x:TsS JU.as) (F:TsF JU.fs) (y:TsS JU.cs),lr lp jn bq ai dl x.1 x.2.1=aX lp jn (cx [(172,⟨[T47],[],[],.one .bool,fun x _ _=>dl x.1⟩),(34,k34 ai),(72,k72 bq)] [(32,r32),(92,r92),(112,aJ)]) aj 4 136 f136 JU x F y:=fun x F y=>by kernel_rfl
theorem TA:JU.ok prog 136:=Ctr.of_den (al (aa (aa (aa (q32) (by kernel_rfl) RV) (by kernel_rfl) JA) (by kernel_rfl) TK)) av (hl:=aj) (d:=4) func136 rfl (by decide) (Vt lpK jnK bq ai dl)
def tU (_:Lp) (_:Jn) (x0:Int):Option (Int×Int) :=
 some (x0,1)
def ct (x0:Int):Option (Int×Int):=tU lpK jnK x0
abbrev J9:=(Int)->Option (Int×Int)
def PE (ct:J9):Ctr:=⟨[i64],[],[],.one T47,fun x _ _=>ct x.1⟩
def Ic:Ctr:=PE ct
theorem Ua (lp:Lp) (jn:Jn):∀(x:TsS Ic.as) (F:TsF Ic.fs) (y:TsS Ic.cs),tU lp jn x.1=aX lp jn (cx [] [(32,r32),(92,r92),(112,aJ)]) aj 4 137 f137 Ic x F y:=fun x F y=>by kernel_rfl
theorem Pj:Ic.ok prog 137:=Ctr.of_den (al (q32)) av (hl:=aj) (d:=4) func137 rfl (by decide) (Ua lpK jnK)
def mz (_:Lp) (_:Jn) (ce:t23) (ca:D8) (ct:J9) (x0:Int×Int) (x1:Int) (x2:Int×Int):Option ((Int×Int)×Int×Unit) :=
 ah (ct x1) fun (t:Int×Int)=>ah (ce t x2) fun (t:(Int×Int)×Int×PUnit)=>bif !decide (t.2.1=0) then some ((0,0),t.2.1, PUnit.unit) else ah (ca x0 t.1) fun (t:(Int×Int)×Int×PUnit)=>some (t.1,t.2.1,PUnit.unit)
def dW (x0:Int×Int) (x1:Int) (x2:Int×Int):Option ((Int×Int)×Int×Unit):=mz lpK jnK ce ca ct x0 x1 x2
abbrev QO:=(Int×Int)->(Int)->(Int×Int)->Option ((Int×Int)×Int×Unit)
def RR (dW:QO):Ctr:=⟨[T47,i64,T47],[],[],.tup [T47,i64],fun x _ _=>dW x.1 x.2.1 x.2.2.1⟩
def Lr:Ctr:=RR dW
theorem T9 (lp:Lp) (jn:Jn) (ce:t23) (ca:D8) (ct:J9):∀(x:TsS Lr.as) (F:TsF Lr.fs) (y:TsS Lr.cs),mz lp jn ce ca ct x.1 x.2.1 x.2.2.1=aX lp jn (cx [(137,PE ct),(171,Ns ca),(23,k23 ce)] [(32,r32),(92,r92),(112,aJ)]) aj 4 138 f138 Lr x F y:=fun x F y=>by kernel_rfl
theorem TG:Lr.ok prog 138:=Ctr.of_den (al (aa (aa (aa (q32) (by kernel_rfl) Rc) (by kernel_rfl) K2) (by kernel_rfl) Pj)) av (hl:=aj) (d:=4) func138 rfl (by decide) (T9 lpK jnK ce ca ct)
def qt (_:Lp) (_:Jn) (ao:t58) (ca:D8) (x0:Int×Int) (x1:Int×Int):Option ((Int×Int)×Int×Unit) :=
 ah (ao x0) fun (t:Bool) =>
 let v5:Bool:=!t;
 let v6:Bool:=!v5;
 let v7:Bool:=!v6||v6;bif v7 then ah (bif v6 then ao x1 else some false) fun (t:Bool)=>bif v7 then bif v5||v6 then bif bif v5 then true else !t then some (((0 : Int),0),1,PUnit.unit) else ah (ca x0 (IntKind.wrap .i64 (0 - x1.1),x1.2)) fun (t:(Int×Int)×Int×PUnit)=>some (t.1,t.2.1, PUnit.unit) else none else none else none
def gS (x0:Int×Int) (x1:Int×Int):Option ((Int×Int)×Int×Unit):=qt lpK jnK ao ca x0 x1
abbrev Ra:=(Int×Int)->(Int×Int)->Option ((Int×Int)×Int×Unit)
def K8:Ctr:=⟨[T47,T47],[],[],.tup [T47,i64],fun x _ _=>gS x.1 x.2.1⟩
theorem Vh (lp:Lp) (jn:Jn) (ao:t58) (ca:D8):∀(x:TsS K8.as) (F:TsF K8.fs) (y:TsS K8.cs),qt lp jn ao ca x.1 x.2.1=aX lp jn (cx [(171,Ns ca),(58,k58 ao)] [(32,r32),(92,r92),(112,aJ)]) aj 4 139 f139 K8 x F y:=fun x F y=>by kernel_rfl
theorem Rb:K8.ok prog 139:=Ctr.of_den (al (aa (aa (q32) (by kernel_rfl) CM) (by kernel_rfl) K2)) av (hl:=aj) (d:=4) func139 rfl (by decide) (Vh lpK jnK ao ca)
def fy (lp:Lp) (_:Jn) (dn:Qo) (ct:J9) (dW:QO) (gS:Ra) (x0:(List (ByteArray×Int))×List (ByteArray×(List (ByteArray×Int×Int×Int))×Bool)) (x1:List (Int×Int)):Option ((List (Int×Int))×Int×Unit) :=
 ah (dn x0 x1) fun (t:List (List Int)×Int×PUnit)=>bif !decide (t.2.1=0) then some ([],t.2.1,PUnit.unit) else lp (List (Int×Int)×Int×Int × PUnit) (List (Int×Int)×Int×PUnit) (fun (again:List (Int×Int)×Int×Int×PUnit->Option (List (Int×Int)×Int×PUnit)) (x:List (Int×Int)×Int×Int×PUnit) =>
 let v7:List Int:=t.1.getD x.2.2.1.toNat [];bif decide (x.2.2.1<(↑t.1.length:Int)) then ah (ct 0) fun (t_1:Int×Int)=>lp (Int×(Int×Int)×PUnit) (List (Int×Int)×Int×PUnit) (fun (again_1:Int×(Int×Int)×PUnit->Option (List (Int×Int)×Int×PUnit)) (x_1:Int×(Int×Int)×PUnit) => bif decide (x_1.1<(↑x1.length:Int)) then bif inB x.2.2.1 t.1.length then bif inB x_1.1 v7.length then bif inB x_1.1 x1.length then ah (dW x_1.2.1 (v7.getD x_1.1.toNat 0) (x1.getD x_1.1.toNat (0,0))) fun (t:(Int×Int)×Int×PUnit) =>
 let v12:Bool:=!decide (t.2.1=0);bif v12 then bif v12 then some ([],t.2.1,PUnit.unit) else some (x.1,0,PUnit.unit) else again_1 (IntKind.wrap IntKind.i64 (x_1.1+1),t.1,PUnit.unit) else none else none else none else bif inB x.2.2.1 x0.1.length then ah (ct (x0.1.getD x.2.2.1.toNat ({ data:={ toList:=[] } },0)).2) fun (t:Int×Int)=>ah (gS t x_1.2.1) fun (t:(Int×Int)×Int×PUnit) =>
 let v13:Bool:=!decide (t.2.1=0);bif v13 then bif v13 then some ([],t.2.1,PUnit.unit) else some (x.1,0,PUnit.unit) else bif eQ (List.length x.1 + 1) 16 then again (x.1++[t.1],t.2.1,IntKind.wrap .i64 (x.2.2.1+1),PUnit.unit) else none else none) (0,t_1,PUnit.unit) else bif !decide (x.2.1=0) then some ([],x.2.1,PUnit.unit) else some (x.1,0,PUnit.unit)) ([],0,0,PUnit.unit)
def bn (x0:(List (ByteArray×Int))×List (ByteArray×(List (ByteArray×Int×Int×Int))×Bool)) (x1:List (Int×Int)):Option ((List (Int×Int))×Int×Unit):=fy lpK jnK dn ct dW gS x0 x1
abbrev t95:=((List (ByteArray×Int))×List (ByteArray×(List (ByteArray×Int×Int×Int))×Bool))->(List (Int×Int))->Option ((List (Int×Int))×Int×Unit)
def k95 (bn:t95):Ctr:=⟨[T25,(.sl T47)],[],[],.tup [(.sl T47),i64],fun x _ _=>bn x.1 x.2.1⟩
def c95:Ctr:=k95 bn
theorem e95 (lp:Lp) (jn:Jn) (dn:Qo) (ct:J9) (dW:QO) (gS:Ra):∀(x:TsS c95.as) (F:TsF c95.fs) (y:TsS c95.cs),fy lp jn dn ct dW gS x.1 x.2.1=aX lp jn (cx [(139,⟨[T47,T47],[],[],.tup [T47,i64],fun x _ _=>gS x.1 x.2.1⟩),(138,RR dW),(137,PE ct),(136,TB dn)] [(32,r32),(92,r92),(112,aJ)]) aj 4 95 f95 c95 x F y:=fun x F y=>by kernel_rfl
theorem Vg:c95.ok prog 95:=Ctr.of_den (al (aa (aa (aa (aa (q32) (by kernel_rfl) TA) (by kernel_rfl) Pj) (by kernel_rfl) TG) (by kernel_rfl) Rb)) av (hl:=aj) (d:=4) func95 rfl (by decide) (e95 lpK jnK dn ct dW gS)
def jN (_:Lp) (_:Jn) (x0:Int×Int):Option Bool :=
 some !decide (x0.1=0)
def dt (x0:Int×Int):Option Bool:=jN lpK jnK x0
abbrev t96:=(Int×Int)->Option (Bool)
def c96:Ctr:=⟨[T47],[],[],.one .bool,fun x _ _=>dt x.1⟩
theorem e96 (lp:Lp) (jn:Jn):∀(x:TsS c96.as) (F:TsF c96.fs) (y:TsS c96.cs),jN lp jn x.1=aX lp jn (cx [] [(32,r32),(92,r92),(112,aJ)]) aj 4 96 f96 c96 x F y:=fun x F y=>by kernel_rfl
theorem VZ:c96.ok prog 96:=Ctr.of_den (al (q32)) av (hl:=aj) (d:=4) func96 rfl (by decide) (e96 lpK jnK)
def lu (_:Lp) (_:Jn) (ai:t34) (bn:t95) (dt:t96) (x0:(List (ByteArray×Int))×List (ByteArray×(List (ByteArray×Int×Int×Int))×Bool)) (x1:List (Int×Int)):Option (Bool×Int×Unit) :=
 ah (bn x0 x1) fun (t:List (Int×Int)×Int×PUnit)=>bif !decide (t.2.1=0) then some (false,t.2.1,PUnit.unit) else ah (ai t.1 fun (x:(Int×Int)×PUnit)=>dt x.1) fun (t:Bool)=>some (!t,0,PUnit.unit)
def dq (x0:(List (ByteArray×Int))×List (ByteArray×(List (ByteArray×Int×Int×Int))×Bool)) (x1:List (Int×Int)):Option (Bool×Int×Unit):=lu lpK jnK ai bn dt x0 x1
abbrev t53:=((List (ByteArray×Int))×List (ByteArray×(List (ByteArray×Int×Int×Int))×Bool))->(List (Int×Int))->Option (Bool×Int×Unit)
def k53 (dq:t53):Ctr:=⟨[T25,(.sl T47)],[],[],.tup [.bool,i64],fun x _ _=>dq x.1 x.2.1⟩
def c53:Ctr:=k53 dq
theorem e53 (lp:Lp) (jn:Jn) (ai:t34) (bn:t95) (dt:t96):∀(x:TsS c53.as) (F:TsF c53.fs) (y:TsS c53.cs),lu lp jn ai bn dt x.1 x.2.1=aX lp jn (cx [(96,⟨[T47],[],[],.one .bool,fun x _ _=>dt x.1⟩),(95,k95 bn),(34,k34 ai)] [(32,r32),(92,r92),(112,aJ)]) aj 4 53 f53 c53 x F y:=fun x F y=>by kernel_rfl
theorem Uh:c53.ok prog 53:=Ctr.of_den (al (aa (aa (aa (q32) (by kernel_rfl) JA) (by kernel_rfl) Vg) (by kernel_rfl) VZ)) av (hl:=aj) (d:=4) func53 rfl (by decide) (e53 lpK jnK ai bn dt)
def jI (_:Lp) (_:Jn) (x0:Int×Int):Option Bool :=
 some (decide (x0.1<0))
def dY (x0:Int×Int):Option Bool:=jI lpK jnK x0
abbrev t54:=(Int×Int)->Option (Bool)
def c54:Ctr:=⟨[T47],[],[],.one .bool,fun x _ _=>dY x.1⟩
theorem e54 (lp:Lp) (jn:Jn):∀(x:TsS c54.as) (F:TsF c54.fs) (y:TsS c54.cs),jI lp jn x.1=aX lp jn (cx [] [(32,r32),(92,r92),(112,aJ)]) aj 4 54 f54 c54 x F y:=fun x F y=>by kernel_rfl
theorem VD:c54.ok prog 54:=Ctr.of_den (al (q32)) av (hl:=aj) (d:=4) func54 rfl (by decide) (e54 lpK jnK)
def lq (_:Lp) (jn:Jn) (aN:t50) (ai:t34) (bA:t49) (bC:t51) (dF:t52) (dq:t53) (dY:t54) (x0:(List (ByteArray×Int))×List (ByteArray×(List (ByteArray×Int×Int×Int))×Bool)) (x1:(List (Int×Int))×Bool×List (Int×Int)):Option (Bool×Int×Unit) :=
 ah (bA x1) fun (t:List (Int×Int)×List (Int×Int)×PUnit)=>jn (Int×PUnit) (Bool×Int×PUnit) (fun (x:Int×PUnit)=>ah (aN x0) fun (t_1:Bool) =>
 let v7:Bool:=!t_1;
 let v8:Bool:=!v7;
 let v9:Bool:=!v8||v8;bif v9 then ah (bif v8 then bC x1 else some false) fun (t_2:Bool)=>bif v9 then bif v7||v8 then bif bif v7 then true else !t_2 then some (false,1,PUnit.unit) else bif decide ((↑t.2.1.length:Int)>0) then some (false,19,PUnit.unit) else bif !decide ((↑t.1.length:Int) = x.1) then some (false,3,PUnit.unit) else bif x1.2.1 then ah (dF x0 t.1) fun (t:Bool×Int×PUnit)=>some (t.1,t.2.1,PUnit.unit) else ah (dq x0 t.1) fun (t_3:Bool×Int×PUnit) =>
 let v12:Bool:=decide (t_3.2.1=0);
 let v13:Bool:=bif v12 then t_3.1 else false;
 let v14:Bool:=!v13||v13;bif !v12||v12 then bif v14 then ah (bif v13 then ai t.1 fun (x:(Int×Int)×PUnit)=>dY x.1 else some false) fun (t:Bool)=>bif v14 then bif v14 then some (bif v13 then !t else false,t_3.2.1,PUnit.unit) else none else none else none else none else none else none else none) fun (j : Int×PUnit->Option (Bool×Int×PUnit))=>bif x1.2.1 then j ((↑x0.1.length:Int),PUnit.unit) else j ((↑x0.2.length:Int),PUnit.unit)
def aA (x0:(List (ByteArray×Int))×List (ByteArray×(List (ByteArray×Int×Int×Int))×Bool)) (x1:(List (Int×Int))×Bool×List (Int×Int)):Option (Bool×Int×Unit):=lq lpK jnK aN ai bA bC dF dq dY x0 x1
abbrev t19:=((List (ByteArray×Int))×List (ByteArray×(List (ByteArray×Int×Int×Int))×Bool))->((List (Int×Int))×Bool×List (Int×Int))->Option (Bool×Int×Unit)
def k19 (aA:t19):Ctr:=⟨[T25,T30],[],[],.tup [.bool,i64],fun x _ _=>aA x.1 x.2.1⟩
def c19:Ctr:=k19 aA
theorem e19 (lp:Lp) (jn:Jn) (aN:t50) (ai:t34) (bA:t49) (bC:t51) (dF:t52) (dq:t53) (dY:t54):∀(x:TsS c19.as) (F:TsF c19.fs) (y:TsS c19.cs),lq lp jn aN ai bA bC dF dq dY x.1 x.2.1=aX lp jn (cx [(54,⟨[T47],[],[],.one .bool,fun x _ _=>dY x.1⟩),(53,k53 dq),(52,k52 dF),(51,k51 bC),(49,k49 bA),(34,k34 ai),(50,k50 aN)] [(32,r32),(92,r92),(112,aJ)]) aj 4 19 f19 c19 x F y:=fun x F y=>by kernel_rfl
theorem Q9:c19.ok prog 19:=Ctr.of_den (al (aa (aa (aa (aa (aa (aa (aa (q32) (by kernel_rfl) QH) (by kernel_rfl) JA) (by kernel_rfl) Sr) (by kernel_rfl) R9) (by kernel_rfl) UB) (by kernel_rfl) Uh) (by kernel_rfl) VD)) av (hl:=aj) (d:=4) func19 rfl (by decide) (e19 lpK jnK aN ai bA bC dF dq dY)
def wx (_:Lp) (_:Jn) (x0:Int):Option (Int×Int) :=
 some (x0,1)
def ap (x0:Int):Option (Int×Int):=wx lpK jnK x0
abbrev t24:=(Int)->Option (Int×Int)
def k24 (ap:t24):Ctr:=⟨[i64],[],[],.one T47,fun x _ _=>ap x.1⟩
def c24:Ctr:=k24 ap
theorem e24 (lp:Lp) (jn:Jn):∀(x:TsS c24.as) (F:TsF c24.fs) (y:TsS c24.cs),wx lp jn x.1=aX lp jn (cx [] [(32,r32),(92,r92),(112,aJ)]) aj 4 24 f24 c24 x F y:=fun x F y=>by kernel_rfl
theorem A0:c24.ok prog 24:=Ctr.of_den (al (q32)) av (hl:=aj) (d:=4) func24 rfl (by decide) (e24 lpK jnK)
def so (lp:Lp) (_:Jn) (x0:List Int) (x1:Int) (x2:Int):Option (List Int) :=
 lp (List Int×Int×PUnit) (List Int) (fun (again:List Int×Int×PUnit->Option (List Int)) (x:List Int×Int×PUnit)=>bif decide (x.2.1>=0) then bif decide ((0 : Int)<=IntKind.wrap .i64 (8*x.2.1)) then bif eQ (List.length x.1+1) 1 then again (x.1++[IntKind.wrap IntKind.u8 (Int.fdiv x1 (2 ^ min (Int.toNat (IntKind.wrap .i64 (8*x.2.1))) 64))],IntKind.wrap .i64 (x.2.1 - 1),PUnit.unit) else none else none else bif Nat.ble (1 : Nat) x.1.length then some x.1 else none) (x0,IntKind.wrap .i64 (x2 - 1),PUnit.unit)
def fH (x0:List Int) (x1:Int) (x2:Int):Option (List Int):=so lpK jnK x0 x1 x2
def a63:ACtr:=⟨[i64,i64],5,(.int .u8),fun l x=>fH l x.1 x.2.1⟩
theorem e63 (lp:Lp) (jn:Jn):∀(l:List a63.e.T) (x:TsS a63.as),so lp jn l x.1 x.2.1=QG lp jn (cx [] [(32,r32),(92,r92),(112,aJ)]) aj 4 63 f63 a63 l x:=fun l x=>by kernel_rfl
theorem UM:a63.ok prog 63:=ACtr.of_den (al (q32)) av (hl:=aj) (d:=4) func63 rfl (by decide) (e63 lpK jnK)
def sj (lp:Lp) (_:Jn) (x0:List Int):Option Int :=
 lp (Int×Int×PUnit) Int (fun (again:Int×Int×PUnit->Option Int) (x:Int×Int×PUnit)=>bif decide (x.2.1<(↑x0.length:Int)) then bif inB x.2.1 x0.length then again (IntKind.wrap IntKind.u32 (IntKind.wrap IntKind.u32 (IntKind.wrap IntKind.u32 (31*x.1)+IntKind.wrap IntKind.u32 (x0.getD x.2.1.toNat (0 : Int)))+1),IntKind.wrap .i64 (x.2.1+1),PUnit.unit) else none else some (IntKind.wrap .i64 x.1)) (0,0,PUnit.unit)
def er (x0:List Int):Option Int:=sj lpK jnK x0
abbrev t64:=(List Int)->Option (Int)
def k64 (er:t64):Ctr:=⟨[(.sl (.int .u8))],[],[],.one i64,fun x _ _=>er x.1⟩
def c64:Ctr:=k64 er
theorem e64 (lp:Lp) (jn:Jn):∀(x:TsS c64.as) (F:TsF c64.fs) (y:TsS c64.cs),sj lp jn x.1=aX lp jn (cx [] [(32,r32),(92,r92),(112,aJ)]) aj 4 64 f64 c64 x F y:=fun x F y=>by kernel_rfl
theorem Vz:c64.ok prog 64:=Ctr.of_den (al (q32)) av (hl:=aj) (d:=4) func64 rfl (by decide) (e64 lpK jnK)
def od (lp:Lp) (jn:Jn) (bA:t49) (bC:t51) (er:t64) (fH:(List Int)->(Int)->(Int)->Option (List Int)) (x0:(List (Int×Int))×Bool×List (Int×Int)):Option ((List Int)×Int×Unit) :=
 ah (bA x0) fun (t:List (Int×Int)×List (Int×Int)×PUnit) =>
 let v4:List Int:=[IntKind.wrap IntKind.u8 (↑t.1.length:Int)];ah (bC x0) fun (t_1:Bool)=>bif !t_1 then some ([],1,PUnit.unit) else bif decide ((↑t.2.1.length:Int)>0) then some ([],19,PUnit.unit) else bif decide ((↑t.1.length:Int)>20) then some ([],4,PUnit.unit) else jn (List Int×PUnit) (List Int×Int×PUnit) (fun (x:List Int×PUnit)=>lp (List Int×Int×PUnit) (List Int×Int×PUnit) (fun (again:List Int×Int×PUnit->Option (List Int×Int×PUnit)) (x:List Int×Int×PUnit) =>
 let v9:Int×Int:=t.1.getD x.2.1.toNat (0,0);bif decide (x.2.1<(↑t.1.length:Int)) then bif inB x.2.1 t.1.length then ah (fH x.1 v9.1 8) fun (t:List Int)=>ah (fH t v9.2 8) fun (t:List Int)=>again (t,IntKind.wrap .i64 (x.2.1+1), PUnit.unit) else none else ah (er x.1) fun (t:Int)=>ah (fH x.1 t 4) fun (t:List Int)=>some (t,0,PUnit.unit)) (x.1,0, PUnit.unit)) fun (j:List Int×PUnit->Option (List Int×Int×PUnit))=>bif x0.2.1 then j (84 ::67 ::1 ::v4,PUnit.unit) else j (84 ::(67 : Int) ::0 ::v4,PUnit.unit)
def bN (x0:(List (Int×Int))×Bool×List (Int×Int)):Option ((List Int)×Int×Unit):=od lpK jnK bA bC er fH x0
abbrev t25:=((List (Int×Int))×Bool×List (Int×Int))->Option ((List Int)×Int×Unit)
def k25 (bN:t25):Ctr:=⟨[T30],[],[],.tup [(.sl (.int .u8)),i64],fun x _ _=>bN x.1⟩
def c25:Ctr:=k25 bN
theorem e25 (lp:Lp) (jn:Jn) (bA:t49) (bC:t51) (er:t64) (fH:(List Int)->(Int)->(Int)->Option (List Int)):∀(x:TsS c25.as) (F:TsF c25.fs) (y:TsS c25.cs),od lp jn bA bC er fH x.1=aX lp jn (xW ym yk (SB [(63,⟨[i64,i64],5,(.int .u8),fun l x=>fH l x.1 x.2.1⟩)] (iP prog shs sJ its [(64,k64 er),(51,k51 bC),(49,k49 bA)] [(32,r32),(92,r92),(112,aJ)]))) aj 4 25 f25 c25 x F y:=fun x F y=>by kernel_rfl
theorem T6:c25.ok prog 25:=Ctr.of_den (al (M6 (aa (aa (aa (q32) (by kernel_rfl) Sr) (by kernel_rfl) R9) (by kernel_rfl) Vz) (G8 (by kernel_rfl) UM (Lg)))) av (hl:=aj) (d:=4) func25 rfl (by decide) (e25 lpK jnK bA bC er fH)
def pQ (_:Lp) (_:Jn) (ap:t24) (x0:Int):Option ((List (ByteArray×Int))×List (ByteArray×(List (ByteArray×Int×Int×Int))×Bool)) :=
 ah (ap 1) fun (t:Int×Int) =>
 let v4:ByteArray×Int×Int×Int:=({ data:=#[] },0,t);some ([({ data:=#[(98:UInt8)] },300)],[({ data:=#[(114:UInt8)] },[v4,({ data:=#[(98 : UInt8)] },x0,t),v4],true)])
def eA (x0:Int):Option ((List (ByteArray×Int))×List (ByteArray×(List (ByteArray×Int×Int×Int))×Bool)):=pQ lpK jnK ap x0
abbrev t37:=(Int)->Option ((List (ByteArray×Int))×List (ByteArray×(List (ByteArray×Int×Int×Int))×Bool))
def c37:Ctr:=⟨[i64],[],[],.one T25,fun x _ _=>eA x.1⟩
theorem e37 (lp:Lp) (jn:Jn) (ap:t24):∀(x:TsS c37.as) (F:TsF c37.fs) (y:TsS c37.cs),pQ lp jn ap x.1=aX lp jn (cx [(24,k24 ap)] [(32,r32),(92,r92),(112,aJ)]) aj 4 37 f37 c37 x F y:=fun x F y=>by kernel_rfl
theorem Uy:c37.ok prog 37:=Ctr.of_den (al (aa (q32) (by kernel_rfl) A0)) av (hl:=aj) (d:=4) func37 rfl (by decide) (e37 lpK jnK ap)
def xd (_:Lp) (_:Jn) (x0:Bool) (x1:List (Int×Int)):Option ((List (Int×Int))×Bool×List (Int×Int)) :=
 bif x0 then some ([],true,x1) else some (x1,false,[])
def ii (x0:Bool) (x1:List (Int×Int)):Option ((List (Int×Int))×Bool×List (Int×Int)):=xd lpK jnK x0 x1
abbrev t38:=(Bool)->(List (Int×Int))->Option ((List (Int×Int))×Bool×List (Int×Int))
def k38 (ii:t38):Ctr:=⟨[.bool,(.sl T47)],[],[],.one T30,fun x _ _=>ii x.1 x.2.1⟩
def c38:Ctr:=k38 ii
theorem e38 (lp:Lp) (jn:Jn):∀(x:TsS c38.as) (F:TsF c38.fs) (y:TsS c38.cs),xd lp jn x.1 x.2.1=aX lp jn (cx [] [(32,r32),(92,r92),(112,aJ)]) aj 4 38 f38 c38 x F y:=fun x F y=>by kernel_rfl
theorem VK:c38.ok prog 38:=Ctr.of_den (al (q32)) av (hl:=aj) (d:=4) func38 rfl (by decide) (e38 lpK jnK)
def sw (_:Lp) (_:Jn) (bh:t13) (bp:t15) (aA:t19) (ap:t24) (bN:t25) (eA:t37) (ii:t38):Option Bool :=
 ah (eA 2) fun (t:List (ByteArray×Int)×List (ByteArray×List (ByteArray×Int×Int×Int)×Bool))=>ah (bh t) fun (t:(List (Int×Int)×Bool × List (Int×Int))×Int×PUnit) =>
 let v4:Bool:=decide (t.2.1=0);
 let v5:Bool:=!v4||v4;ah (eA (-2)) fun (t_1:List (ByteArray×Int)×List (ByteArray×List (ByteArray×Int×Int×Int)×Bool))=>ah (bh t_1) fun (t_2:(List (Int×Int)×Bool×List (Int×Int))×Int×PUnit)=>ah (eA (-2)) fun (t_3:List (ByteArray×Int)×List (ByteArray×List (ByteArray×Int × Int×Int)×Bool))=>ah (ap 1) fun (t_4:Int×Int)=>ah (ii true [t_4]) fun (t_5:List (Int×Int)×Bool×List (Int×Int))=>ah (aA t_3 t_5) fun (t_6:Bool×Int×PUnit)=>ah (bN ([],false,[])) fun (t_7:List Int×Int×PUnit)=>ah (bif v4 then ap 150 else some (0,(0 : Int))) fun (t_8:Int×Int)=>bif v5 then bif v5 then ah (bif v4 then ii false [t_8] else some ([],false,[])) fun (t_9:List (Int×Int)×Bool×List (Int×Int))=>bif v5&&v5 then ah (bif v4 then bp t.1 t_9 else some false) fun (t:Bool) =>
 let v16:Bool:=bif v4 then t else false;
 let v17:Bool:=!v16||v16;
 let v18:Bool:=bif v16 then decide (t_2.2.1=0) else false;
 let v19:Bool:=bif v18 then t_2.1.2.1 else false;
 let v20:Bool:=!v18||v18;
 let v21:Bool:=bif v19 then decide ((↑t_2.1.2.2.length:Int)=1) else false;
 let v22:Bool:=!v19||v19;
 let v23:Bool:=bif v21 then decide (t_6.2.1=0) else false;
 let v24:Bool:=bif v23 then t_6.1 else false;
 let v25:Bool:=bif v24 then decide (t_7.2.1=0) else false;
 let v26:Bool:=!v21||v21;
 let v27:Bool:=!v24||v24;
 let v28:Bool:=!v25||v25;bif v5 then bif v17 then bif v17 then bif v20 then bif v20 then bif v22 then bif v22 then bif v22 then bif v22 then bif v26 then bif v26 then bif !v23 || v23 then bif v27 then bif v27 then bif v28 then bif v28 then bif v28 then some (bif v25 then decide ((↑t_7.1.length:Int)=8) else false) else none else none else none else none else none else none else none else none else none else none else none else none else none else none else none else none else none else none else none else none
def aH:Option Bool:=sw lpK jnK bh bp aA ap bN eA ii
abbrev t11:=Option (Bool)
def k11 (aH:t11):Ctr:=⟨[],[],[],.one .bool,fun _ _ _=>aH⟩
def c11:Ctr:=k11 aH
theorem e11 (lp:Lp) (jn:Jn) (bh:t13) (bp:t15) (aA:t19) (ap:t24) (bN:t25) (eA:t37) (ii:t38):∀(x:TsS c11.as) (F:TsF c11.fs) (y:TsS c11.cs),sw lp jn bh bp aA ap bN eA ii=aX lp jn (cx [(38,k38 ii),(37,⟨[i64],[],[],.one T25,fun x _ _=>eA x.1⟩),(25,k25 bN),(24,k24 ap),(19,k19 aA),(15,k15 bp),(13,k13 bh)] [(32,r32),(92,r92),(112,aJ)]) aj 4 11 f11 c11 x F y:=fun x F y=>by kernel_rfl
theorem Uo:c11.ok prog 11:=Ctr.of_den (al (aa (aa (aa (aa (aa (aa (aa (q32) (by kernel_rfl) VC) (by kernel_rfl) VM) (by kernel_rfl) Q9) (by kernel_rfl) A0) (by kernel_rfl) T6) (by kernel_rfl) Uy) (by kernel_rfl) VK)) av (hl:=aj) (d:=4) func11 rfl (by decide) (e11 lpK jnK bh bp aA ap bN eA ii)
def nv (lp:Lp) (_:Jn) (x0:(List (ByteArray×Int))×List (ByteArray×(List (ByteArray×Int×Int×Int))×Bool)):Option Bool :=
 
 let v3:Bool:=decide ((↑x0.1.length:Int)>9);
 let v4:Bool:=!v3;
 let v5:Bool:=!v4||v4;bif v5 then bif v5 then bif v5 then bif v3||v4 then bif bif v3 then true else decide ((↑x0.2.length:Int)>9) then some false else lp (Int × PUnit) Bool (fun (again:Int×PUnit->Option Bool) (x:Int×PUnit)=>bif decide (x.1<(↑x0.1.length:Int)) then bif inB x.1 x0.1.length then bif decide ((↑(ByteArray.size (x0.1.getD x.1.toNat ({ data:={ toList:=[] } },0)).1):Int)>60) then some false else again (IntKind.wrap .i64 (x.1 + 1),PUnit.unit) else none else lp (Int×PUnit) Bool (fun (again:Int×PUnit->Option Bool) (x:Int×PUnit) =>
 let v10:Bool:=inB x.1 x0.2.length;
 let v11:Bool:=decide ((↑(ByteArray.size (x0.2.getD x.1.toNat ({ data:={ toList:=[] } },[],false)).1):Int)>60);
 let v12:Bool:=!v11;
 let v13:Bool:=!v12;
 let v14:Bool:=v13||v12;bif decide (x.1<(↑x0.2.length:Int)) then bif v10 then bif v14 then bif v14&&(v14&&(v13||v10)) then bif v14 then bif v14 then bif v14 then bif v14 then bif v11||v12 then bif bif v11 then true else decide ((↑(List.length (x0.2.getD x.1.toNat ({ data:={ toList:=[] } },[],false)).2.1):Int) > 13) then some false else lp (Int×PUnit) Bool (fun (again_1:Int×PUnit->Option Bool) (x_1:Int×PUnit)=>bif v10 then bif decide (x_1.1<(↑(List.length (x0.2.getD x.1.toNat ({ data:={ toList:=[] } },[],false)).2.1):Int)) then bif v10 then bif inB x_1.1 (List.length (x0.2.getD x.1.toNat ({ data:={ toList:=[] } },[],false)).2.1) then bif decide ((↑(ByteArray.size (List.getD (x0.2.getD x.1.toNat ({ data:={ toList:=[] } },[],false)).2.1 x_1.1.toNat ({ data:={ toList:=[] } },0,0,0)).1):Int)>60) then some false else again_1 (IntKind.wrap .i64 (x_1.1+1), PUnit.unit) else none else none else again (IntKind.wrap .i64 (x.1+1),PUnit.unit) else none) (0,PUnit.unit) else none else none else none else none else none else none else none else none else some true) (0,PUnit.unit)) (0,PUnit.unit) else none else none else none else none
def ba (x0:(List (ByteArray×Int))×List (ByteArray×(List (ByteArray×Int×Int×Int))×Bool)):Option Bool:=nv lpK jnK x0
abbrev t12:=((List (ByteArray×Int))×List (ByteArray×(List (ByteArray×Int×Int×Int))×Bool))->Option (Bool)
def k12 (ba:t12):Ctr:=⟨[T25],[],[],.one .bool,fun x _ _=>ba x.1⟩
def c12:Ctr:=k12 ba
theorem e12 (lp:Lp) (jn:Jn):∀(x:TsS c12.as) (F:TsF c12.fs) (y:TsS c12.cs),nv lp jn x.1=aX lp jn (cx [] [(32,r32),(92,r92),(112,aJ)]) aj 4 12 f12 c12 x F y:=fun x F y=>by kernel_rfl
theorem Vl:c12.ok prog 12:=Ctr.of_den (al (q32)) av (hl:=aj) (d:=4) func12 rfl (by decide) (e12 lpK jnK)
def qx (_:Lp) (_:Jn) (x0:Int):Option Bool :=
 
 let v3:Bool:=decide (x0>=97);
 let v4:Bool:=decide (x0>=65);
 let v5:Bool:=!v3||v3;
 let v6:Bool:=bif v3 then decide (x0<=122) else false;
 let v7:Bool:=!v6;
 let v8:Bool:=!v7;
 let v9:Bool:=v7&&v4;
 let v10:Bool:=v8||v7;bif v5 then bif v5 then bif v10 then bif v10 then bif !v9||v9 then bif (v8||v10)&&(v8||(!v4||(v8||v9))) then bif v6||v7 then some (bif v6 then true else bif v4 then decide (x0<=90) else false) else none else none else none else none else none else none else none
def bW (x0:Int):Option Bool:=qx lpK jnK x0
abbrev t76:=(Int)->Option (Bool)
def k76 (bW:t76):Ctr:=⟨[(.int .u8)],[],[],.one .bool,fun x _ _=>bW x.1⟩
def c76:Ctr:=k76 bW
theorem e76 (lp:Lp) (jn:Jn):∀(x:TsS c76.as) (F:TsF c76.fs) (y:TsS c76.cs),qx lp jn x.1=aX lp jn (cx [] [(32,r32),(92,r92),(112,aJ)]) aj 4 76 f76 c76 x F y:=fun x F y=>by kernel_rfl
theorem SJ:c76.ok prog 76:=Ctr.of_den (al (q32)) av (hl:=aj) (d:=4) func76 rfl (by decide) (e76 lpK jnK)
def sD (_:Lp) (_:Jn) (x0:Int):Option Bool :=
 
 let v3:Bool:=decide (x0>=48);
 let v4:Bool:=!v3||v3;bif v4 then bif v4 then some (bif v3 then decide (x0<=57) else false) else none else none
def fY (x0:Int):Option Bool:=sD lpK jnK x0
abbrev RI:=(Int)->Option (Bool)
def L5:Ctr:=⟨[(.int .u8)],[],[],.one .bool,fun x _ _=>fY x.1⟩
theorem Ui (lp:Lp) (jn:Jn):∀(x:TsS L5.as) (F:TsF L5.fs) (y:TsS L5.cs),sD lp jn x.1=aX lp jn (cx [] [(32,r32),(92,r92),(112,aJ)]) aj 4 115 f115 L5 x F y:=fun x F y=>by kernel_rfl
theorem Tz:L5.ok prog 115:=Ctr.of_den (al (q32)) av (hl:=aj) (d:=4) func115 rfl (by decide) (Ui lpK jnK)
def pv (lp:Lp) (_:Jn) (bW:t76) (fY:RI) (x0:ByteArray) (x1:Int):Option Int :=
 lp (Int×PUnit) Int (fun (again:Int×PUnit->Option Int) (x:Int×PUnit) =>
 let v6:Bool:=inB x.1 (ByteArray.size x0);
 let v7:Int:=fw x0 x.1.toNat;
 let v8:Bool:=decide (x.1<(↑(ByteArray.size x0):Int));
 let v9:Bool:=!v8;
 let v10:Bool:=v9||v8;
 let v11:Bool:=v9||v10;bif v10&&(v10&&(v9||v6)) then bif v10 then ah (bif v8 then bW v7 else some false) fun (t:Bool) =>
 let v13:Bool:=v8&&!t;
 let v14:Bool:=!v13;
 let v15:Bool:=v14||v13;bif v10 then bif v15&&(v15&&(v14||v6)) then bif v15 then ah (bif v13 then fY v7 else some false) fun (t_1:Bool) =>
 let v17:Bool:=bif t then true else t_1;
 let v18:Bool:=v8&&!v17;
 let v19:Bool:=!v18;
 let v20:Bool:=v19||v18;bif v11&&(v9||(t||(v9||v13))) then bif v10 then bif v20&&(v20&&(v19||v6)) then bif v20 then bif v11&&(v9||(v17||(v9||v18))) then bif v10 then bif bif v8 then bif v17 then true else decide (v7=95) else false then again (IntKind.wrap .i64 (x.1+1),PUnit.unit) else some x.1 else none else none else none else none else none else none else none else none else none else none else none) (x1,PUnit.unit)
def gg (x0:ByteArray) (x1:Int):Option Int:=pv lpK jnK bW fY x0 x1
abbrev t77:=(ByteArray)->(Int)->Option (Int)
def c77:Ctr:=⟨[.str,i64],[],[],.one i64,fun x _ _=>gg x.1 x.2.1⟩
theorem e77 (lp:Lp) (jn:Jn) (bW:t76) (fY:RI):∀(x:TsS c77.as) (F:TsF c77.fs) (y:TsS c77.cs),pv lp jn bW fY x.1 x.2.1=aX lp jn (cx [(115,⟨[(.int .u8)],[],[],.one .bool,fun x _ _=>fY x.1⟩),(76,k76 bW)] [(32,r32),(92,r92),(112,aJ)]) aj 4 77 f77 c77 x F y:=fun x F y=>by kernel_rfl
theorem Ux:c77.ok prog 77:=Ctr.of_den (al (aa (aa (q32) (by kernel_rfl) SJ) (by kernel_rfl) Tz)) av (hl:=aj) (d:=4) func77 rfl (by decide) (e77 lpK jnK bW fY)
def mH (_:Lp) (_:Jn) (bW:t76) (gg:t77) (x0:ByteArray):Option Bool :=
 
 let v3:Bool:=decide ((↑(ByteArray.size x0):Int)=0);
 let v4:Bool:=!v3;
 let v5:Bool:=!v4||v4;
 let v6:Bool:=bif v3 then true else decide ((↑(ByteArray.size x0):Int)>20);
 let v7:Bool:=!v6;
 let v8:Bool:=!v7;
 let v9:Bool:=v8||v7;bif v5 then bif v5 then bif v3||v4 then bif v9&&(v8||inB 0 (ByteArray.size x0)) then bif v9 then ah (bif v7 then bW (fw x0 (0 : Nat)) else some false) fun (t:Bool)=>bif v9 then bif v6||v7 then bif bif v6 then true else !t then some false else ah (gg x0 0) fun (t:Int)=>some (decide (t = (↑(ByteArray.size x0):Int))) else none else none else none else none else none else none else none
def eE (x0:ByteArray):Option Bool:=mH lpK jnK bW gg x0
abbrev t39:=(ByteArray)->Option (Bool)
def c39:Ctr:=⟨[.str],[],[],.one .bool,fun x _ _=>eE x.1⟩
theorem e39 (lp:Lp) (jn:Jn) (bW:t76) (gg:t77):∀(x:TsS c39.as) (F:TsF c39.fs) (y:TsS c39.cs),mH lp jn bW gg x.1=aX lp jn (cx [(77,⟨[.str,i64],[],[],.one i64,fun x _ _=>gg x.1 x.2.1⟩),(76,k76 bW)] [(32,r32),(92,r92),(112,aJ)]) aj 4 39 f39 c39 x F y:=fun x F y=>by kernel_rfl
theorem T4:c39.ok prog 39:=Ctr.of_den (al (aa (aa (q32) (by kernel_rfl) SJ) (by kernel_rfl) Ux)) av (hl:=aj) (d:=4) func39 rfl (by decide) (e39 lpK jnK bW gg)
def jC (lp:Lp) (_:Jn) (x0:(List (ByteArray×Int))×List (ByteArray×(List (ByteArray×Int×Int×Int))×Bool)) (x1:ByteArray):Option Int :=
 lp (Int×PUnit) Int (fun (again:Int×PUnit->Option Int) (x:Int×PUnit)=>bif decide (x.1<(↑x0.1.length:Int)) then bif inB x.1 x0.1.length then bif List.beq (ByteArray.toList (x0.1.getD x.1.toNat ({ data:={ toList:=[] } },0)).1) (ByteArray.toList x1) then some x.1 else again (IntKind.wrap .i64 (x.1+1),PUnit.unit) else none else some (-1)) (0,PUnit.unit)
def bb (x0:(List (ByteArray×Int))×List (ByteArray×(List (ByteArray×Int×Int×Int))×Bool)) (x1:ByteArray):Option Int:=jC lpK jnK x0 x1
abbrev t40:=((List (ByteArray×Int))×List (ByteArray×(List (ByteArray×Int×Int×Int))×Bool))->(ByteArray)->Option (Int)
def k40 (bb:t40):Ctr:=⟨[T25,.str],[],[],.one i64,fun x _ _=>bb x.1 x.2.1⟩
def c40:Ctr:=k40 bb
theorem e40 (lp:Lp) (jn:Jn):∀(x:TsS c40.as) (F:TsF c40.fs) (y:TsS c40.cs),jC lp jn x.1 x.2.1=aX lp jn (cx [] [(32,r32),(92,r92),(112,aJ)]) aj 4 40 f40 c40 x F y:=fun x F y=>by kernel_rfl
theorem Rx:c40.ok prog 40:=Ctr.of_den (al (q32)) av (hl:=aj) (d:=4) func40 rfl (by decide) (e40 lpK jnK)
def ka (lp:Lp) (_:Jn) (x0:(List (ByteArray×Int))×List (ByteArray×(List (ByteArray×Int×Int×Int))×Bool)) (x1:ByteArray):Option Int :=
 lp (Int×PUnit) Int (fun (again:Int×PUnit->Option Int) (x:Int×PUnit)=>bif decide (x.1<(↑x0.2.length:Int)) then bif inB x.1 x0.2.length then bif List.beq (ByteArray.toList (x0.2.getD x.1.toNat ({ data:={ toList:=[] } },[],false)).1) (ByteArray.toList x1) then some x.1 else again (IntKind.wrap .i64 (x.1+1),PUnit.unit) else none else some (-1)) (0,PUnit.unit)
def dS (x0:(List (ByteArray×Int))×List (ByteArray×(List (ByteArray×Int×Int×Int))×Bool)) (x1:ByteArray):Option Int:=ka lpK jnK x0 x1
abbrev t41:=((List (ByteArray×Int))×List (ByteArray×(List (ByteArray×Int×Int×Int))×Bool))->(ByteArray)->Option (Int)
def c41:Ctr:=⟨[T25,.str],[],[],.one i64,fun x _ _=>dS x.1 x.2.1⟩
theorem e41 (lp:Lp) (jn:Jn):∀(x:TsS c41.as) (F:TsF c41.fs) (y:TsS c41.cs),ka lp jn x.1 x.2.1=aX lp jn (cx [] [(32,r32),(92,r92),(112,aJ)]) aj 4 41 f41 c41 x F y:=fun x F y=>by kernel_rfl
theorem Uj:c41.ok prog 41:=Ctr.of_den (al (q32)) av (hl:=aj) (d:=4) func41 rfl (by decide) (e41 lpK jnK)
def oZ (_:Lp) (_:Jn) (x0:Int×Int) (x1:Int×Int):Option Bool :=
 
 let v4:Bool:=decide (x0.1=x1.1);
 let v5:Bool:=decide (x0.1<x1.1);
 let v6:Bool:=!v5;
 let v7:Bool:=!v6;
 let v8:Bool:=v6&&v4;
 let v9:Bool:=v7||v6;
 let v10:Bool:=!v8||v8;bif v9 then bif v9 then bif v9&&v9 then bif v9 then bif v10 then bif v10 then bif v10&&v10 then bif (v7||v9)&&(v7||(!v4||(v7||v8))) then bif v5 || v6 then some (bif v5 then true else bif v4 then decide (x0.2<x1.2) else false) else none else none else none else none else none else none else none else none else none
def be (x0:Int×Int) (x1:Int×Int):Option Bool:=oZ lpK jnK x0 x1
abbrev Ad:=(Int×Int)->(Int×Int)->Option (Bool)
def KG (be:Ad):Ctr:=⟨[ia,ia],[],[],.one .bool,fun x _ _=>be x.1 x.2.1⟩
def Jt:Ctr:=KG be
theorem UV (lp:Lp) (jn:Jn):∀(x:TsS Jt.as) (F:TsF Jt.fs) (y:TsS Jt.cs),oZ lp jn x.1 x.2.1=aX lp jn (cx [] [(32,r32),(92,r92),(112,aJ)]) aj 4 161 f161 Jt x F y:=fun x F y=>by kernel_rfl
theorem Fj:Jt.ok prog 161:=Ctr.of_den (al (q32)) av (hl:=aj) (d:=4) func161 rfl (by decide) (UV lpK jnK)
def pt (_:Lp) (_:Jn) (x0:Int×Int) (x1:Int×Int):Option (Int×Int) :=
 
 let v4:Int:=IntKind.wrap .u64 (x0.1+x1.1);
 let v5:Int:=IntKind.wrap .u64 (x0.2+x1.2);bif decide (v5<x0.2) then some (IntKind.wrap .u64 (v4+1),v5) else some (v4,v5)
def cP (x0:Int×Int) (x1:Int×Int):Option (Int×Int):=pt lpK jnK x0 x1
abbrev Jo:=(Int×Int)->(Int×Int)->Option (Int×Int)
def Qk (cP:Jo):Ctr:=⟨[ia,ia],[],[],.one ia,fun x _ _=>cP x.1 x.2.1⟩
def I8:Ctr:=Qk cP
theorem VI (lp:Lp) (jn:Jn):∀(x:TsS I8.as) (F:TsF I8.fs) (y:TsS I8.cs),pt lp jn x.1 x.2.1=aX lp jn (cx [] [(32,r32),(92,r92),(112,aJ)]) aj 4 163 f163 I8 x F y:=fun x F y=>by kernel_rfl
theorem OW:I8.ok prog 163:=Ctr.of_den (al (q32)) av (hl:=aj) (d:=4) func163 rfl (by decide) (VI lpK jnK)
def kD (_:Lp) (_:Jn) (x0:Int×Int) (x1:Int×Int):Option (Int×Int) :=
 
 let v4:Int:=IntKind.wrap .u64 (x0.1 - x1.1);
 let v5:Int:=IntKind.wrap .u64 (x0.2 - x1.2);bif decide (x0.2<x1.2) then some (IntKind.wrap .u64 (v4 - 1),v5) else some (v4,v5)
def aZ (x0:Int×Int) (x1:Int×Int):Option (Int×Int):=kD lpK jnK x0 x1
abbrev EC:=(Int×Int)->(Int×Int)->Option (Int×Int)
def ND (aZ:EC):Ctr:=⟨[ia,ia],[],[],.one ia,fun x _ _=>aZ x.1 x.2.1⟩
def Il:Ctr:=ND aZ
theorem VH (lp:Lp) (jn:Jn):∀(x:TsS Il.as) (F:TsF Il.fs) (y:TsS Il.cs),kD lp jn x.1 x.2.1=aX lp jn (cx [] [(32,r32),(92,r92),(112,aJ)]) aj 4 164 f164 Il x F y:=fun x F y=>by kernel_rfl
theorem LC:Il.ok prog 164:=Ctr.of_den (al (q32)) av (hl:=aj) (d:=4) func164 rfl (by decide) (VH lpK jnK)
def pG (_:Lp) (_:Jn) (x0:Int×Int):Option (Int×Int) :=
 
 let v3:Int:=2 ^ 1;
 let v4:Bool:=decide ((0:Int)<=1);bif v4 then bif v4 then bif decide ((0:Int)<=63) then some (Int.fdiv x0.1 v3,IntKind.wrap .u64 (Int.fdiv x0.2 v3 + IntKind.wrap .u64 (x0.1*2 ^ 63))) else none else none else none
def eT (x0:Int×Int):Option (Int×Int):=pG lpK jnK x0
abbrev RH:=(Int×Int)->Option (Int×Int)
def LW:Ctr:=⟨[ia],[],[],.one ia,fun x _ _=>eT x.1⟩
theorem UY (lp:Lp) (jn:Jn):∀(x:TsS LW.as) (F:TsF LW.fs) (y:TsS LW.cs),pG lp jn x.1=aX lp jn (cx [] [(32,r32),(92,r92),(112,aJ)]) aj 4 180 f180 LW x F y:=fun x F y=>by kernel_rfl
theorem Tn:LW.ok prog 180:=Ctr.of_den (al (q32)) av (hl:=aj) (d:=4) func180 rfl (by decide) (UY lpK jnK)
def qW (lp:Lp) (_:Jn) (be:Ad) (cP:Jo) (aZ:EC) (eT:RH) (x0:Int×Int) (x1:Int×Int):Option (Int×Int) :=
 bif decide (x0.1=0)&&(decide (x0.2=0)&&true) then some x1 else lp (Int×(Int×Int)×(Int×Int)×PUnit) (Int×Int) (fun (again:Int×(Int×Int)×(Int × Int)×PUnit->Option (Int×Int)) (x:Int×(Int×Int)×(Int×Int)×PUnit) =>
 let v6:Bool:=decide (IntKind.wrap .u64 (↑(Nat.land (Int.toNat (x.2.1.2 % Int.ofNat 18446744073709551616)) (Int.toNat (1 % Int.ofNat (18446744073709551616 : Nat)))):Int)=0);
 let v7:Bool:=!v6||v6;bif v7 then bif v7 then bif v7 then bif v7 then bif bif v6 then decide (IntKind.wrap .u64 (↑(Nat.land (Int.toNat (x.2.2.1.2 % Int.ofNat 18446744073709551616)) (Int.toNat (1 % Int.ofNat 18446744073709551616))):Int)=0) else false then ah (eT x.2.1) fun (t:Int×Int) => ah (eT x.2.2.1) fun (t_1:Int×Int)=>again (IntKind.wrap .i64 (x.1+1),t,t_1,PUnit.unit) else lp ((Int×Int)×(Int×Int)×PUnit) (Int × Int) (fun (again:(Int×Int)×(Int×Int)×PUnit->Option (Int×Int)) (x_1:(Int×Int)×(Int×Int)×PUnit) =>
 let v10:(Int×Int)×PUnit:=(x_1.2.1,PUnit.unit);bif !(decide (x_1.1.1=0)&&(decide (x_1.1.2=0)&&true)) then lp ((Int×Int)×PUnit) (Int×Int) (fun (again_1:(Int×Int)×PUnit->Option (Int×Int)) (x:(Int×Int)×PUnit)=>bif decide (IntKind.wrap .u64 (↑(Nat.land (Int.toNat (x.1.2 % Int.ofNat 18446744073709551616)) (Int.toNat (1 % Int.ofNat 18446744073709551616))):Int)=0) then ah (eT x.1) fun (t:Int×Int)=>again_1 (t, PUnit.unit) else lp ((Int×Int)×PUnit) (Int×Int) (fun (again_2:(Int×Int)×PUnit->Option (Int×Int)) (x_2:(Int×Int)×PUnit)=>bif decide (IntKind.wrap .u64 (↑(Nat.land (Int.toNat (x_2.1.2 % Int.ofNat 18446744073709551616)) (Int.toNat (1 % Int.ofNat 18446744073709551616))):Int)=0) then ah (eT x_2.1) fun (t:Int×Int)=>again_2 (t,PUnit.unit) else ah (be x.1 x_2.1) fun (t:Bool)=>bif t then ah (aZ x_2.1 x.1) fun (t:Int × Int)=>again (t,x.1,PUnit.unit) else ah (aZ x.1 x_2.1) fun (t:Int×Int)=>again (t,x_2.1,PUnit.unit)) v10) (x_1.1,PUnit.unit) else lp (Int×(Int×Int) × PUnit) (Int×Int) (fun (again:Int×(Int×Int)×PUnit->Option (Int×Int)) (x:Int×(Int×Int)×PUnit)=>bif decide (x.1>0) then ah (cP x.2.1 x.2.1) fun (t:Int×Int)=>again (IntKind.wrap .i64 (x.1 - 1),t,PUnit.unit) else some x.2.1) (x.1,v10)) (x.2.1,x.2.2.1,PUnit.unit) else none else none else none else none) (0,x0,x1,PUnit.unit)
def dx (x0:Int×Int) (x1:Int×Int):Option (Int×Int):=qW lpK jnK be cP aZ eT x0 x1
abbrev LY:=(Int×Int)->(Int×Int)->Option (Int×Int)
def QE (dx:LY):Ctr:=⟨[ia,ia],[],[],.one ia,fun x _ _=>dx x.1 x.2.1⟩
def LZ:Ctr:=QE dx
theorem U2 (lp:Lp) (jn:Jn) (be:Ad) (cP:Jo) (aZ:EC) (eT:RH):∀(x:TsS LZ.as) (F:TsF LZ.fs) (y:TsS LZ.cs),qW lp jn be cP aZ eT x.1 x.2.1=aX lp jn (cx [(180,⟨[ia],[],[],.one ia,fun x _ _=>eT x.1⟩),(164,ND aZ),(163,Qk cP),(161,KG be)] [(32,r32),(92,r92),(112,aJ)]) aj 4 152 f152 LZ x F y:=fun x F y=>by kernel_rfl
theorem OZ:LZ.ok prog 152:=Ctr.of_den (al (aa (aa (aa (aa (q32) (by kernel_rfl) Fj) (by kernel_rfl) OW) (by kernel_rfl) LC) (by kernel_rfl) Tn)) av (hl:=aj) (d:=4) func152 rfl (by decide) (U2 lpK jnK be cP aZ eT)
def ox (_:Lp) (_:Jn) (x0:Int):Option Int :=
 
 let v3:Int:=IntKind.wrap .u64 x0;bif decide (x0<0) then some (IntKind.wrap .u64 (0 - v3)) else some v3
def aB (x0:Int):Option Int:=ox lpK jnK x0
abbrev Ap:=(Int)->Option (Int)
def Jf (aB:Ap):Ctr:=⟨[i64],[],[],.one (.int .u64),fun x _ _=>aB x.1⟩
def Lv:Ctr:=Jf aB
theorem UK (lp:Lp) (jn:Jn):∀(x:TsS Lv.as) (F:TsF Lv.fs) (y:TsS Lv.cs),ox lp jn x.1=aX lp jn (cx [] [(32,r32),(92,r92),(112,aJ)]) aj 4 153 f153 Lv x F y:=fun x F y=>by kernel_rfl
theorem FB:Lv.ok prog 153:=Ctr.of_den (al (q32)) av (hl:=aj) (d:=4) func153 rfl (by decide) (UK lpK jnK)
def np (_:Lp) (_:Jn) (dx:LY) (aB:Ap) (x0:Int×Int):Option Bool :=
 
 let v3:Bool:=decide (x0.2<1);
 let v4:Bool:=!v3;
 let v5:Bool:=bif v3 then true else decide (x0.2>1152921504606846976);
 let v6:Bool:=!v4||v4;
 let v7:Bool:=!v5;
 let v8:Bool:=bif v5 then true else decide (x0.1<(-1152921504606846976));
 let v9:Bool:=!v8;
 let v10:Bool:=!v7||v7;
 let v11:Bool:=!v9||v9;bif v6 then bif v6 then bif v3||v4 then bif v10 then bif v10 then bif v5||v7 then bif v11 then bif v11 then bif v8||v9 then bif bif v8 then true else decide (x0.1>1152921504606846976) then some false else ah (aB x0.1) fun (t:Int)=>ah (aB x0.2) fun (t_1:Int)=>ah (dx (0, t) (0,t_1)) fun (t:Int×Int)=>some (decide (t.1=0)&&(decide (t.2=1)&&true)) else none else none else none else none else none else none else none else none else none
def cn (x0:Int×Int):Option Bool:=np lpK jnK dx aB x0
abbrev HK:=(Int×Int)->Option (Bool)
def Qs (cn:HK):Ctr:=⟨[T47],[],[],.one .bool,fun x _ _=>cn x.1⟩
def J0:Ctr:=Qs cn
theorem UN (lp:Lp) (jn:Jn) (dx:LY) (aB:Ap):∀(x:TsS J0.as) (F:TsF J0.fs) (y:TsS J0.cs),np lp jn dx aB x.1=aX lp jn (cx [(153,Jf aB),(152,QE dx)] [(32,r32),(92,r92),(112,aJ)]) aj 4 108 f108 J0 x F y:=fun x F y=>by kernel_rfl
theorem O0:J0.ok prog 108:=Ctr.of_den (al (aa (aa (q32) (by kernel_rfl) OZ) (by kernel_rfl) FB)) av (hl:=aj) (d:=4) func108 rfl (by decide) (UN lpK jnK dx aB)
def jM (_:Lp) (_:Jn) (cn:HK) (x0:Int×Int):Option Bool :=
 ah (cn x0) fun (t:Bool) =>
 let v4:Bool:=!t||t;
 let v5:Bool:=bif t then decide (x0.1>=x0.2) else false;
 let v6:Bool:=!v5||v5;bif v4 then bif v4 then bif v4&&v4 then bif v4 then bif v6 then bif v6 then bif v6 then some (bif v5 then decide (x0.1<=100) else false) else none else none else none else none else none else none else none
def dk (x0:Int×Int):Option Bool:=jM lpK jnK cn x0
abbrev Tq:=(Int×Int)->Option (Bool)
def Mf:Ctr:=⟨[T47],[],[],.one .bool,fun x _ _=>dk x.1⟩
theorem UX (lp:Lp) (jn:Jn) (cn:HK):∀(x:TsS Mf.as) (F:TsF Mf.fs) (y:TsS Mf.cs),jM lp jn cn x.1=aX lp jn (cx [(108,Qs cn)] [(32,r32),(92,r92),(112,aJ)]) aj 4 116 f116 Mf x F y:=fun x F y=>by kernel_rfl
theorem TD:Mf.ok prog 116:=Ctr.of_den (al (aa (q32) (by kernel_rfl) O0)) av (hl:=aj) (d:=4) func116 rfl (by decide) (UX lpK jnK cn)
def pq (_:Lp) (_:Jn) (ap:t24) (bb:t40) (dk:Tq) (x0:(List (ByteArray×Int))×List (ByteArray×(List (ByteArray×Int×Int×Int))×Bool)) (x1:ByteArray×Int×Int×Int) (x2:Bool):Option Bool :=
 
 let v5:Bool:=!x2||x2;
 let v6:Bool:=decide (x1.2.1=0);
 let v7:Bool:=decide (x1.2.1=1);
 let v8:Bool:=decide (x1.2.1=2);
 let v9:Bool:=!v7;
 let v10:Bool:=!v8;
 let v11:Bool:=bif v8 then true else v6;
 let v12:Bool:=!v9||v9;
 let v13:Bool:=!v10||v10;
 let v14:Bool:=!v11;
 let v15:Bool:=!v14||v14;bif v5 then ah (bif x2 then ap 1 else some (0,0)) fun (t:Int×Int) =>
 let v17:Bool:=bif x2 then !(decide (x1.2.2.1=t.1)&&(decide (x1.2.2.2=t.2)&&true)) else false;
 let v18:Bool:=!v17;
 let v19:Bool:=!v18||v18;bif v5&&v5 then bif v5 then bif v19 then bif v19 then ah (bif v18 then dk x1.2.2 else some false) fun (t:Bool)=>bif v19 then bif v17||v18 then bif bif v17 then true else !t then some false else bif List.beq (ByteArray.toList x1.1) (ByteArray.toList { data:=#[] }) then some v6 else ah (bb x0 x1.1) fun (t:Int)=>bif decide (t<0) then some false else bif x2 then bif v12 then bif v12 then bif v7||v9 then some (bif v7 then true else decide (x1.2.1=(-1 : Int))) else none else none else none else bif v13 then bif v13 then bif v8||v10 then bif v15 then bif v15 then bif v11||v14 then some (bif v11 then true else decide (x1.2.1 = (-2))) else none else none else none else none else none else none else none else none else none else none else none else none else none
def fp (x0:(List (ByteArray×Int))×List (ByteArray×(List (ByteArray×Int×Int×Int))×Bool)) (x1:ByteArray×Int×Int×Int) (x2:Bool):Option Bool:=pq lpK jnK ap bb dk x0 x1 x2
abbrev t78:=((List (ByteArray×Int))×List (ByteArray×(List (ByteArray×Int×Int×Int))×Bool))->(ByteArray×Int×Int×Int)->(Bool)->Option (Bool)
def k78 (fp:t78):Ctr:=⟨[T25,T74,.bool],[],[],.one .bool,fun x _ _=>fp x.1 x.2.1 x.2.2.1⟩
def c78:Ctr:=k78 fp
theorem e78 (lp:Lp) (jn:Jn) (ap:t24) (bb:t40) (dk:Tq):∀(x:TsS c78.as) (F:TsF c78.fs) (y:TsS c78.cs),pq lp jn ap bb dk x.1 x.2.1 x.2.2.1=aX lp jn (cx [(116,⟨[T47],[],[],.one .bool,fun x _ _=>dk x.1⟩),(40,k40 bb),(24,k24 ap)] [(32,r32),(92,r92),(112,aJ)]) aj 4 78 f78 c78 x F y:=fun x F y=>by kernel_rfl
theorem TS:c78.ok prog 78:=Ctr.of_den (al (aa (aa (aa (q32) (by kernel_rfl) A0) (by kernel_rfl) Rx) (by kernel_rfl) TD)) av (hl:=aj) (d:=4) func78 rfl (by decide) (e78 lpK jnK ap bb dk)
def oE (lp:Lp) (_:Jn) (fp:t78) (x0:(List (ByteArray×Int))×List (ByteArray×(List (ByteArray×Int×Int×Int))×Bool)) (x1:ByteArray×(List (ByteArray×Int×Int×Int))×Bool):Option Bool :=
 
 let v4:Bool:=!x1.2.2;
 let v5:Bool:=!v4;
 let v6:Bool:=!v5;
 let v7:Int:=IntKind.wrap .i64 ((↑x1.2.1.length:Int) - 1);
 let v8:Bool:=v6||v5;
 let v9:Bool:=decide ((↑x1.2.1.length:Int)<2);
 let v10:Bool:=!v9;
 let v11:Bool:=!v10||v10;bif v11 then bif v11 then bif v11 then bif v9||v10 then bif bif v9 then true else decide ((↑x1.2.1.length:Int)>10) then some false else lp (Int×PUnit) Bool (fun (again:Int×PUnit->Option Bool) (x:Int×PUnit) =>
 let v14:Bool:=decide (x.1=0);
 let v15:Bool:=!v14;
 let v16:Bool:=!v15||v15;bif decide (x.1<(↑x1.2.1.length:Int)) then bif inB x.1 x1.2.1.length then bif v16 then bif v16 then bif v16 then bif v16 && v16 then bif v14||v15 then ah (fp x0 (x1.2.1.getD x.1.toNat ({ data:={ toList:=[] } },0,0,0)) (bif v14 then true else decide (x.1=v7))) fun (t:Bool)=>bif !t then some false else again (IntKind.wrap .i64 (x.1+1),PUnit.unit) else none else none else none else none else none else none else bif v8 then bif v8 then bif v8 then bif v8 then bif v8&&(v8&&(v6||inB v7 x1.2.1.length)) then bif v8 then bif v8 then bif v8 then bif v4||v5 then some (bif v4 then true else List.beq (ByteArray.toList (x1.2.1.getD v7.toNat ({ data:={ toList:=[] } },0,0,0)).1) (ByteArray.toList { data:=#[] })) else none else none else none else none else none else none else none else none else none) (0,PUnit.unit) else none else none else none else none
def gj (x0:(List (ByteArray×Int))×List (ByteArray×(List (ByteArray×Int×Int×Int))×Bool)) (x1:ByteArray×(List (ByteArray×Int×Int×Int))×Bool):Option Bool:=oE lpK jnK fp x0 x1
abbrev t42:=((List (ByteArray×Int))×List (ByteArray×(List (ByteArray×Int×Int×Int))×Bool))->(ByteArray×(List (ByteArray×Int×Int×Int))×Bool)->Option (Bool)
def c42:Ctr:=⟨[T25,T72],[],[],.one .bool,fun x _ _=>gj x.1 x.2.1⟩
theorem e42 (lp:Lp) (jn:Jn) (fp:t78):∀(x:TsS c42.as) (F:TsF c42.fs) (y:TsS c42.cs),oE lp jn fp x.1 x.2.1=aX lp jn (cx [(78,k78 fp)] [(32,r32),(92,r92),(112,aJ)]) aj 4 42 f42 c42 x F y:=fun x F y=>by kernel_rfl
theorem UI:c42.ok prog 42:=Ctr.of_den (al (aa (q32) (by kernel_rfl) TS)) av (hl:=aj) (d:=4) func42 rfl (by decide) (e42 lpK jnK fp)
def nl (lp:Lp) (_:Jn) (eE:t39) (bb:t40) (dS:t41) (gj:t42) (x0:(List (ByteArray×Int))×List (ByteArray×(List (ByteArray×Int×Int×Int))×Bool)):Option Bool :=
 
 let v3:Bool:=decide ((↑x0.1.length:Int)<1);
 let v4:Bool:=!v3;
 let v5:Bool:=bif v3 then true else decide ((↑x0.1.length:Int)>6);
 let v6:Bool:=!v4||v4;
 let v7:Bool:=!v5;
 let v8:Bool:=bif v5 then true else decide ((↑x0.2.length:Int)<1);
 let v9:Bool:=!v8;
 let v10:Bool:=!v7||v7;
 let v11:Bool:=!v9||v9;bif v6 then bif v6 then bif v6 then bif v3||v4 then bif v10 then bif v10 then bif v10 then bif v5||v7 then bif v11 then bif v11 then bif v11 then bif v8 || v9 then bif bif v8 then true else decide ((↑x0.2.length:Int)>6) then some false else lp (Int×PUnit) Bool (fun (again:Int×PUnit->Option Bool) (x:Int × PUnit)=>bif decide (x.1<(↑x0.1.length:Int)) then bif inB x.1 x0.1.length then ah (eE (x0.1.getD x.1.toNat ({ data:={ toList := [] } },0)).1) fun (t:Bool) =>
 let v15:Bool:=!t;
 let v16:Bool:=!v15;
 let v17:Bool:=!v16||v16;
 let v18:Bool:=v17&&v17;bif v17 then bif v18 then ah (bif v16 then bb x0 (x0.1.getD x.1.toNat ({ data:={ toList:=[] } },0)).1 else some 0) fun (t:Int) =>
 let v20:Bool:=bif v15 then true else !decide (t=x.1);
 let v21:Bool:=!v20;
 let v22:Bool:=!v21||v21;
 let v23:Bool:=bif v20 then true else decide ((x0.1.getD x.1.toNat ({ data:={ toList:=[] } },0)).2<0);
 let v24:Bool:=!v23;
 let v25:Bool:=!v24||v24;bif v18 then bif v15||v16 then bif v22 then bif v22 then bif v20||v21 then bif v25 then bif v25 then bif v23||v24 then bif bif v23 then true else decide ((x0.1.getD x.1.toNat ({ data:={ toList:=[] } },0)).2>16777216) then some false else again (IntKind.wrap .i64 (x.1+1), PUnit.unit) else none else none else none else none else none else none else none else none else none else none else none else lp (Int×Int×PUnit) Bool (fun (again:Int×Int × PUnit->Option Bool) (x:Int×Int×PUnit) =>
 let v16:Int×PUnit:=(IntKind.wrap .i64 (x.2.1+1),PUnit.unit);
 let v17:ByteArray×List (ByteArray×Int×Int×Int)×Bool:=x0.2.getD x.2.1.toNat ({ data:={ toList:=[] } },[],false);bif decide (x.2.1<(↑x0.2.length:Int)) then bif inB x.2.1 x0.2.length then ah (eE v17.1) fun (t:Bool) =>
 let v19:Bool:=!t;
 let v20:Bool:=!v19;
 let v21:Bool:=!v20||v20;
 let v22:Bool:=v21&&v21;bif v21 then bif v22 then ah (bif v20 then dS x0 v17.1 else some 0) fun (t:Int) =>
 let v24:Bool:=bif v19 then true else !decide (t=x.2.1);
 let v25:Bool:=!v24;
 let v26:Bool:=!v25||v25;bif v22 then bif v19||v20 then bif v26 then bif v26&&v26 then ah (bif v25 then bb x0 v17.1 else some 0) fun (t:Int) =>
 let v28:Bool:=bif v24 then true else decide (t>=0);
 let v29:Bool:=!v28;
 let v30:Bool:=!v29||v29;bif v26 then bif v24||v25 then bif v30&&v30 then ah (bif v29 then gj x0 v17 else some false) fun (t:Bool)=>bif v30 then bif v28||v29 then bif bif v28 then true else !t then some false else bif v17.2.2 then again (IntKind.wrap .i64 (x.1+1),v16) else again (x.1,v16) else none else none else none else none else none else none else none else none else none else none else none else none else some (decide (x.1<=1))) (0,0,PUnit.unit)) (0, PUnit.unit) else none else none else none else none else none else none else none else none else none else none else none else none
def aF (x0:(List (ByteArray×Int))×List (ByteArray×(List (ByteArray×Int×Int×Int))×Bool)):Option Bool:=nl lpK jnK eE bb dS gj x0
abbrev t14:=((List (ByteArray×Int))×List (ByteArray×(List (ByteArray×Int×Int×Int))×Bool))->Option (Bool)
def k14 (aF:t14):Ctr:=⟨[T25],[],[],.one .bool,fun x _ _=>aF x.1⟩
def c14:Ctr:=k14 aF
theorem e14 (lp:Lp) (jn:Jn) (eE:t39) (bb:t40) (dS:t41) (gj:t42):∀(x:TsS c14.as) (F:TsF c14.fs) (y:TsS c14.cs),nl lp jn eE bb dS gj x.1=aX lp jn (cx [(42,⟨[T25,T72],[],[],.one .bool,fun x _ _=>gj x.1 x.2.1⟩),(41,⟨[T25,.str],[],[],.one i64,fun x _ _=>dS x.1 x.2.1⟩),(40,k40 bb),(39,⟨[.str],[],[],.one .bool,fun x _ _=>eE x.1⟩)] [(32,r32),(92,r92),(112,aJ)]) aj 4 14 f14 c14 x F y:=fun x F y=>by kernel_rfl
theorem Rr:c14.ok prog 14:=Ctr.of_den (al (aa (aa (aa (aa (q32) (by kernel_rfl) T4) (by kernel_rfl) Rx) (by kernel_rfl) Uj) (by kernel_rfl) UI)) av (hl:=aj) (d:=4) func14 rfl (by decide) (e14 lpK jnK eE bb dS gj)
def A6 (_:Lp) (_:Jn) (x0:Int):Option Int :=
 some (if IntKind.wrap .i64 (0 - x0)>x0 then IntKind.wrap .i64 (0 - x0) else x0)
def mE (x0:Int):Option Int:=A6 lpK jnK x0
abbrev UE:=(Int)->Option (Int)
def vN (lp:Lp) (_:Jn) (mE:UE) (x0:(List Int)×List ((List Int)×Int×Int)):Option (List Int) :=
 lp (Int×Int×PUnit) (List Int) (fun (again:Int×Int×PUnit->Option (List Int)) (x:Int×Int×PUnit)=>bif decide (x.2.1<(↑x0.1.length:Int)) then bif inB x.2.1 x0.1.length then ah (mE (x0.1.getD x.2.1.toNat 0)) fun (t:Int)=>again (IntKind.wrap .i64 (x.1+t),IntKind.wrap IntKind.i64 (x.2.1+1),PUnit.unit) else none else lp (List Int×Int×PUnit) (List Int) (fun (again:List Int×Int×PUnit->Option (List Int)) (x:List Int×Int × PUnit) =>
 let v7:Bool:=inB x.2.1 x0.2.length;
 let v8:List Int×Int×Int:=x0.2.getD x.2.1.toNat ([],0,0);bif decide (x.2.1<(↑x0.2.length:Int)) then bif v7 then ah (mE v8.2.2) fun (t:Int)=>lp (Int×Int×PUnit) (List Int) (fun (again_1:Int×Int×PUnit->Option (List Int)) (x_1:Int×Int×PUnit)=>bif decide (x_1.2.1 < (↑x0.1.length:Int)) then bif v7 then bif inB x_1.2.1 v8.1.length then ah (mE (v8.1.getD x_1.2.1.toNat 0)) fun (t:Int) => again_1 (IntKind.wrap .i64 (x_1.1+t),IntKind.wrap .i64 (x_1.2.1+1),PUnit.unit) else none else none else bif eQ (List.length x.1+1) (8 : Nat) then again (x.1++[x_1.1],IntKind.wrap .i64 (x.2.1+1),PUnit.unit) else none) (IntKind.wrap .i64 (1+t),0,PUnit.unit) else none else some x.1) ([x.1],0,PUnit.unit)) (1,0,PUnit.unit)
def nB (x0:(List Int)×List ((List Int)×Int×Int)):Option (List Int):=vN lpK jnK mE x0
abbrev t79:=((List Int)×List ((List Int)×Int×Int))->Option (List Int)
end
end Go.Proofs.YtegbncajloeepaaGreat
