/- r50: the shapes of its types, and the places of its loops. r50: what its functions answer (printed by a program), and that they do. r50: what its functions answer (printed by a program), and that they do; part 2. -/
import Derived.Test.YtegbncajloeepaaGreatProg
import Derived.KernelRfl
import Derived.Test.YtegbncajloeepaaGreatMgL

namespace Go.Proofs.YtegbncajloeepaaGreat
open Tryz Dn Dn.Sh
abbrev i64:Sh:=.int .i64
abbrev T45:Sh:=.agg (.pair .str i64)
abbrev T47:Sh:=.agg (.pair i64 i64)
abbrev T74:Sh:=.agg (.pair .str (.pair i64 T47))
abbrev T72:Sh:=.agg (.pair .str (.pair (.sl T74) .bool))
abbrev T25:Sh:=.agg (.pair (.sl T45) (.sl T72))
abbrev T30:Sh:=.agg (.pair (.sl T47) (.pair .bool (.sl T47)))
abbrev B0:Sh:=.agg (.pair (.sl i64) (.pair i64 i64))
abbrev T82:Sh:=.agg (.pair (.sl i64) (.sl B0))
abbrev T94:Sh:=.agg (.pair T47 (.pair (.sl T47) (.sl T47)))
abbrev mS:Sh:=.agg (.pair (.int .u64) (.int .u64))
abbrev GY:Sh:=.agg (.pair (.sl (.sl i64)) (.pair i64 (.pair (.sl i64) (.pair (.sl i64) (.pair (.sl i64) (.pair i64 i64))))))
abbrev Po:Sh:=.agg i64
abbrev kL:Sh:=.agg (.pair (.int .u64) (.int .u64))
abbrev tC:Sh:=.agg (.pair .bool (.pair (.int .u64) (.int .u64)))
def shs:TypeId->Option Sh
 | 3=>some i64
 | 4=>some .bool
 | 5=>some (.int .u8)
 | 9=>some .str
 | 28=>some (.sl T47)
 | 45=>some T45
 | 47=>some T47
 | 72=>some T72
 | 74=>some T74
 | 79=>some (.sl i64)
 | 124=>some B0
 | _=>none
def Nm:Nat->Option Hd
 | 3=>some ⟨[(3,false,[.d i64]),(11,false,[.d i64])],[],[]⟩
 | 11=>some ⟨[(6,false,[.row 47 T47]),(27,false,[.d i64])],[],[]⟩
 | _=>none
def K4:Nat->Option Hd
 | 2=>some ⟨[(3,false,[.d i64])],[],[]⟩
 | _=>none
def Js:Nat->Option Hd
 | 2=>some ⟨[(8,false,[.d i64])],[],[]⟩
 | _=>none
def NG:Nat->Option Hd
 | 1=>some ⟨[(0,false,[.d (.int .u64)]),(1,false,[.d (.int .u64)])],[],[]⟩
 | _=>none
def N1:Nat->Option Hd
 | 5=>some ⟨[(17,false,[.d i64])],[],[]⟩
 | _=>none
def Nj:Nat->Option Hd
 | 6=>some ⟨[(27,false,[.d i64])],[],[(3,some 0,.x (.map 133 .str .bool))]⟩
 | 13=>some ⟨[(7,false,[.d i64]),(46,false,[.d i64])],[],[(3,some 0,.x (.map 133 .str .bool))]⟩
 | _=>none
def Nn:Nat->Option Hd
 | 5=>some ⟨[(20,false,[.d i64])],[],[(4,none,.x (.tab 79 .ref 3 i64))]⟩
 | 10=>some ⟨[(34,false,[.d i64])],[],[(4,none,.x (.tab 79 .ref 3 i64))]⟩
 | 13=>some ⟨[(42,false,[.d i64])],[],[(4,none,.x (.tab 79 .ref 3 i64))]⟩
 | _=>none
def Mq:Nat->Option Hd
 | 5=>some ⟨[(4,false,[.row 3 i64]),(13,false,[.d i64])],[],[]⟩
 | _=>none
def Mo:Nat->Option Hd
 | 9=>some ⟨[(34,false,[.d i64])],[(9,[.d (.sl i64),.row 124 B0])],[]⟩
 | _=>none
def Ns:Nat->Option Hd
 | 8=>some ⟨[(8,false,[.d i64])],[],[(7,none,.row 3 i64)]⟩
 | _=>none
def MN:Nat->Option Hd
 | 1000002=>some ⟨[],[],[]⟩
 | 1000005=>some ⟨[],[],[]⟩
 | _=>none
def KU:Nat->Option Hd
 | 2=>some ⟨[(8,false,[.d i64])],[],[]⟩
 | _=>none
def Ll:Nat->Option Hd
 | 2=>some ⟨[(8,false,[.d i64])],[],[]⟩
 | _=>none
def Jy:Nat->Option Hd
 | 3=>some ⟨[(5,false,[.d i64]),(14,false,[.d i64])],[],[]⟩
 | _=>none
def IW:Nat->Option Hd
 | 5=>some ⟨[(3,false,[.d i64]),(4,false,[.d i64])],[],[]⟩
 | _=>none
def I5:Nat->Option Hd
 | 1000002=>some ⟨[],[],[]⟩
 | _=>none
def Ka:Nat->Option Hd
 | 4=>some ⟨[(4,false,[.row 3 i64]),(18,false,[.d i64])],[],[]⟩
 | 10=>some ⟨[(7,false,[.d i64]),(34,false,[.d i64])],[],[]⟩
 | _=>none
def LY:Nat->Option Hd
 | 4=>some ⟨[(5,false,[.d i64]),(24,false,[.d i64])],[],[]⟩
 | 12=>some ⟨[(9,false,[.d i64]),(51,false,[.d i64])],[(46,[.x (.tab 79 .ref 3 i64),.d i64,.row 3 i64,.row 3 i64,.row 3 i64,.d i64,.d i64])],[]⟩
 | 28=>some ⟨[(95,false,[.d i64])],[],[(12,none,.row 3 i64)]⟩
 | _=>none
def Ks:Nat->Option Hd
 | 1000019=>some ⟨[(9,false,[.d i64])],[],[(12,none,.row 3 i64)]⟩
 | 1000022=>some ⟨[(9,false,[.d i64])],[],[(12,none,.row 3 i64)]⟩
 | 1000026=>some ⟨[(13,false,[.d i64])],[],[(12,none,.row 3 i64)]⟩
 | _=>none
def Lk:Nat->Option Hd
 | 3=>some ⟨[(5,false,[.d i64]),(13,false,[.d i64])],[],[]⟩
 | _=>none
def Iz:Nat->Option Hd
 | 1000008=>some ⟨[(10,false,[.d .bool])],[(2,[.d tC]),(3,[.d tC])],[]⟩
 | _=>none
def LC:Nat->Option Hd
 | 1000002=>some ⟨[(0,false,[.d (.int .u64)]),(2,false,[.d i64])],[],[]⟩
 | 1000005=>some ⟨[(0,false,[.d (.int .u64)]),(2,false,[.d i64])],[],[]⟩
 | _=>none
def HR:Nat->Option Hd
 | 17=>some ⟨[(15,false,[.d (.int .u64)]),(16,false,[.d (.int .u64)])],[],[]⟩
 | 24=>some ⟨[(16,false,[.d (.int .u64)]),(18,false,[.d (.int .u64)])],[],[]⟩
 | _=>none
def KC:Nat->Option Hd
 | 0=>some ⟨[(15,false,[.d (.int .u64)])],[],[]⟩
 | 2=>some ⟨[(18,false,[.d (.int .u64)])],[],[]⟩
 | 1000002=>some ⟨[],[],[]⟩
 | 1000004=>some ⟨[],[],[]⟩
 | _=>none
def KR:Nat->Option Hd
 | 2=>some ⟨[(29,false,[.d i64])],[],[(0,some 0,.x (.tab 79 .ref 3 i64))]⟩
 | 7=>some ⟨[(43,false,[.d i64])],[],[(0,some 0,.x (.tab 79 .ref 3 i64))]⟩
 | 17=>some ⟨[(98,false,[.d i64])],[],[(0,some 0,.x (.tab 79 .ref 3 i64))]⟩
 | 20=>some ⟨[(104,false,[.d i64])],[],[(0,some 0,.x (.tab 79 .ref 3 i64))]⟩
 | _=>none
def Iu:Nat->Option Hd
 | 3=>some ⟨[(5,false,[.d i64]),(14,false,[.d i64])],[],[]⟩
 | _=>none
def JF:Nat->Option Hd
 | 1=>some ⟨[],[(0,[.x (.tab 79 .ref 3 i64),.d i64,.row 3 i64,.row 3 i64,.row 3 i64,.d i64,.d i64])],[]⟩
 | 3=>some ⟨[(3,false,[.d i64]),(4,false,[.d i64])],[],[]⟩
 | 12=>some ⟨[(44,false,[.d i64])],[(0,[.x (.tab 79 .ref 3 i64),.d i64,.row 3 i64,.row 3 i64,.row 3 i64,.d i64,.d i64])],[]⟩
 | 15=>some ⟨[(6,false,[.d i64])],[(0,[.x (.tab 79 .ref 3 i64),.d i64,.row 3 i64,.row 3 i64,.row 3 i64,.d i64,.d i64])],[]⟩
 | _=>none
def I8:Nat->Option Hd
 | 3=>some ⟨[(5,false,[.d i64]),(21,false,[.d i64])],[],[]⟩
 | _=>none
def HF:Nat->Option Hd
 | 1=>some ⟨[],[(0,[.x (.tab 79 .ref 3 i64),.d i64,.row 3 i64,.row 3 i64,.row 3 i64,.d i64,.d i64])],[]⟩
 | 3=>some ⟨[(3,false,[.d i64]),(4,false,[.d i64])],[],[]⟩
 | _=>none
def ND:Nat->Option Hd
 | 14=>some ⟨[(6,false,[.d i64]),(43,false,[.d i64])],[],[(7,none,.row 3 i64)]⟩
 | 22=>some ⟨[(94,false,[.d i64])],[(5,[.d T47,.row 47 T47,.row 47 T47])],[]⟩
 | 27=>some ⟨[(110,false,[.d i64])],[(5,[.d T47,.row 47 T47,.row 47 T47])],[]⟩
 | 31=>some ⟨[(13,false,[.d i64]),(118,false,[.d i64])],[],[]⟩
 | _=>none
def MI:Nat->Option Hd
 | 10=>some ⟨[(5,false,[.row 47 T47]),(20,false,[.d i64])],[],[]⟩
 | _=>none
def Ov:Nat->Option Hd
 | 4=>some ⟨[(13,false,[.d i64])],[],[]⟩
 | _=>none
def L4:Nat->Option Hd
 | 2=>some ⟨[(8,false,[.d i64])],[],[]⟩
 | _=>none
def Li:Nat->Option Hd
 | 1000002=>some ⟨[],[],[]⟩
 | _=>none
def KW:Nat->Option Hd
 | 1000008=>some ⟨[(9,false,[.d .bool])],[(10,[.d mS])],[]⟩
 | 1000010=>some ⟨[(9,false,[.d .bool])],[(10,[.d mS])],[]⟩
 | _=>none
def KA:Nat->Option Hd
 | 3=>some ⟨[(15,false,[.d i64])],[(0,[.d Po]),(6,[.d T47]),(7,[.d T47])],[]⟩
 | _=>none
def Kv:Nat->Option Hd
 | 1000007=>some ⟨[(11,false,[.d i64])],[(10,[.d T47])],[]⟩
 | _=>none
def LJ:Nat->Option Hd
 | 1000009=>some ⟨[],[(6,[.d mS]),(7,[.d mS])],[]⟩
 | _=>none
def Jz:Nat->Option Hd
 | 3=>some ⟨[(5,false,[.row 3 i64]),(11,false,[.d i64])],[],[]⟩
 | _=>none
def LF:Nat->Option Hd
 | 3=>some ⟨[(9,false,[.d .bool]),(14,false,[.d i64])],[(0,[.d Po])],[]⟩
 | _=>none
def H0:Nat->Option Hd
 | 3=>some ⟨[(3,false,[.row 3 i64]),(9,false,[.d i64])],[],[]⟩
 | _=>none
def Iq:Nat->Option Hd
 | 2=>some ⟨[(10,false,[.d i64])],[],[]⟩
 | _=>none
def L8:Nat->Option Hd
 | 7=>some ⟨[(8,false,[.row 47 T47]),(9,false,[.d i64]),(25,false,[.d i64])],[],[]⟩
 | 11=>some ⟨[(31,false,[.d i64])],[(11,[.d T47])],[]⟩
 | _=>none
def L2:Nat->Option Hd
 | 1000004=>some ⟨[(8,false,[.d i64])],[],[]⟩
 | _=>none
def MH:Nat->Option Hd
 | 2=>some ⟨[(0,false,[.row 5 (.int .u8)]),(7,false,[.d i64])],[],[]⟩
 | _=>none
def Mg:Nat->Option Hd
 | 3=>some ⟨[(3,false,[.d (.int .u32)]),(8,false,[.d i64])],[],[]⟩
 | _=>none
def NN:Nat->Option Hd
 | 12=>some ⟨[(6,false,[.row 5 (.int .u8)]),(36,false,[.d i64])],[],[]⟩
 | _=>none
def MX:Nat->Option Hd
 | 1000010=>some ⟨[],[],[(6,none,.row 5 (.int .u8))]⟩
 | _=>none
def Oq:Nat->Option Hd
 | 4=>some ⟨[(3,false,[.d i64])],[],[]⟩
 | 9=>some ⟨[(4,false,[.d i64])],[],[]⟩
 | 14=>some ⟨[(5,false,[.d i64])],[],[]⟩
 | _=>none
def Og:Nat->Option Hd
 | 1=>some ⟨[(1,false,[.d i64])],[],[]⟩
 | _=>none
def Mw:Nat->Option Hd
 | 2=>some ⟨[(5,false,[.d i64])],[],[]⟩
 | _=>none
def Mh:Nat->Option Hd
 | 2=>some ⟨[(5,false,[.d i64])],[],[]⟩
 | _=>none
def HH:Nat->Option Hd
 | 4=>some ⟨[(5,false,[.d i64])],[(2,[.d kL]),(3,[.d kL])],[]⟩
 | 6=>some ⟨[],[(2,[.d kL]),(3,[.d kL])],[]⟩
 | 7=>some ⟨[],[(2,[.d kL])],[]⟩
 | 9=>some ⟨[],[(3,[.d kL])],[]⟩
 | 14=>some ⟨[(5,false,[.d i64])],[(3,[.d kL])],[]⟩
 | _=>none
def MW:Nat->Option Hd
 | 4=>some ⟨[(5,false,[.d i64])],[],[]⟩
 | _=>none
def MC:Nat->Option Hd
 | 4=>some ⟨[(3,false,[.d i64])],[],[]⟩
 | 11=>some ⟨[(5,false,[.d i64]),(6,false,[.d i64])],[],[]⟩
 | _=>none
def NY:Nat->Option Hd
 | 3=>some ⟨[(3,false,[.d i64]),(4,false,[.d i64])],[],[]⟩
 | 8=>some ⟨[(5,false,[.row 3 i64]),(6,false,[.d i64])],[],[]⟩
 | 12=>some ⟨[(7,false,[.d i64]),(8,false,[.d i64])],[],[]⟩
 | _=>none
def NV:Nat->Option Hd
 | 3=>some ⟨[(6,false,[.d i64]),(7,false,[.d i64])],[],[]⟩
 | _=>none
def MG:Nat->Option Hd
 | 5=>some ⟨[(6,false,[.d i64]),(7,false,[.d i64])],[],[]⟩
 | _=>none
def LB:Nat->Option Hd
 | 3=>some ⟨[(5,false,[.d i64]),(6,false,[.d i64])],[],[]⟩
 | _=>none
def LZ:Nat->Option Hd
 | 3=>some ⟨[(3,false,[.x (.tab 79 .ref 3 i64)]),(4,false,[.d i64])],[],[]⟩
 | 7=>some ⟨[(5,false,[.row 3 i64]),(6,false,[.d i64])],[],[]⟩
 | _=>none
def N3:Nat->Option Hd
 | 4=>some ⟨[(7,false,[.d i64])],[(5,[.d (.sl i64),.row 124 B0])],[]⟩
 | _=>none
def Np:Nat->Option Hd
 | 3=>some ⟨[(3,false,[.row 3 i64]),(4,false,[.d i64])],[],[]⟩
 | _=>none
def MP:Nat->Option Hd
 | 2=>some ⟨[(3,false,[.d i64])],[],[]⟩
 | _=>none
def KE:Nat->Option Hd
 | 5=>some ⟨[(8,false,[.d i64])],[(2,[.d kL]),(6,[.d kL]),(7,[.d kL])],[]⟩
 | _=>none
def MJ:Nat->Option Hd
 | 3=>some ⟨[(7,false,[.d i64])],[(4,[.d T47]),(6,[.d T47])],[]⟩
 | _=>none
def Kq:Nat->Option Hd
 | 3=>some ⟨[(5,false,[.row 3 i64]),(6,false,[.d i64])],[],[]⟩
 | _=>none
def N2:Nat->Option Hd
 | 3=>some ⟨[(8,false,[.d .bool]),(9,false,[.d i64])],[],[]⟩
 | _=>none
def Nb:Nat->Option Hd
 | 3=>some ⟨[(3,false,[.row 3 i64]),(4,false,[.d i64])],[],[]⟩
 | _=>none
def Nc:Nat->Option Hd
 | 2=>some ⟨[(5,false,[.d i64])],[],[]⟩
 | _=>none
def Lo:Nat->Option Hd
 | 3=>some ⟨[(7,false,[.d i64])],[(4,[.d T47]),(6,[.d T47])],[]⟩
 | _=>none
def NM:Nat->Option Hd
 | 7=>some ⟨[(8,false,[.row 47 T47]),(9,false,[.d i64])],[],[]⟩
 | _=>none
def Mu:Nat->Option Hd
 | 5=>some ⟨[(8,false,[.d i64])],[],[]⟩
 | _=>none
def NR:Nat->Option Hd
 | 18=>some ⟨[(9,false,[.d .bool]),(10,false,[.d i64])],[],[]⟩
 | _=>none
def Ma:Nat->Option Hd
 | 1000009=>some ⟨[(8,false,[.d i64])],[],[]⟩
 | _=>none
def Oc:Nat->Option Hd
 | 3=>some ⟨[(4,false,[.d i64])],[(3,[.row 45 T45,.row 72 T72])],[]⟩
 | _=>none
def IZ:Nat->Option Hd
 | 10=>some ⟨[(45,false,[.d i64])],[],[(7,some 0,.row 45 T45)]⟩
 | 20=>some ⟨[(69,false,[.d i64])],[(9,[.row 47 T47,.d .bool,.d (.sl T47)])],[]⟩
 | _=>none
def Pe:Nat->Option Hd
 | 1000018=>some ⟨[],[(9,[.row 47 T47,.d .bool,.d (.sl T47)])],[]⟩
 | _=>none
def Oi:Nat->Option Hd
 | 2=>some ⟨[(0,false,[.row 5 (.int .u8)]),(7,false,[.d i64])],[],[]⟩
 | _=>none
def Md:Nat->Option Hd
 | 3=>some ⟨[(3,false,[.d i64]),(4,false,[.d i64])],[],[]⟩
 | _=>none
def No:Nat->Option Hd
 | 11=>some ⟨[(6,false,[.row 5 (.int .u8)]),(7,false,[.d i64])],[],[]⟩
 | _=>none
def Me:Nat->Option Hd
 | 1000009=>some ⟨[],[],[(6,none,.row 5 (.int .u8))]⟩
 | _=>none
def Ow:Nat->Option Hd
 | 4=>some ⟨[(13,false,[.d i64])],[],[]⟩
 | _=>none
def Mj:Nat->Option Hd
 | 4=>some ⟨[(5,false,[.d i64])],[],[]⟩
 | _=>none
def MS:Nat->Option Hd
 | 3=>some ⟨[(3,false,[.d i64]),(8,false,[.d i64])],[],[]⟩
 | _=>none
def ML:Nat->Option Hd
 | 12=>some ⟨[(5,false,[.row 47 T47]),(6,false,[.d i64])],[(2,[.d T30])],[]⟩
 | _=>none
def M7:Nat->Option Hd
 | 3=>some ⟨[(3,false,[.d i64]),(4,false,[.d i64])],[],[]⟩
 | _=>none
def Ox:Nat->Option Hd
 | 12=>some ⟨[(5,false,[.row 47 T47]),(6,false,[.d i64])],[],[]⟩
 | _=>none
def Jf:Nat->Option Hd
 | 2=>some ⟨[(8,false,[.d i64])],[],[]⟩
 | _=>none
def JE:Nat->Option Hd
 | 1000007=>some ⟨[(12,false,[.d (.int .u64)]),(13,false,[.d (.int .u64)]),(18,false,[.d .bool])],[],[]⟩
 | 1000008=>some ⟨[(12,false,[.d (.int .u64)]),(13,false,[.d (.int .u64)]),(14,false,[.d (.int .u64)]),(15,false,[.d (.int .u64)]),(18,false,[.d .bool])],[],[]⟩
 | _=>none
def IU:Nat->Option Hd
 | 3=>some ⟨[(20,false,[.d i64])],[(5,[.x (.tab 79 .ref 3 i64),.d i64,.row 3 i64,.row 3 i64,.d .bool])],[]⟩
 | 9=>some ⟨[(40,false,[.d i64])],[(5,[.x (.tab 79 .ref 3 i64),.d i64,.row 3 i64,.row 3 i64,.d .bool])],[]⟩
 | 14=>some ⟨[(10,false,[.d i64]),(11,false,[.d i64])],[],[]⟩
 | 19=>some ⟨[(10,false,[.d i64])],[(5,[.x (.tab 79 .ref 3 i64),.d i64,.row 3 i64,.row 3 i64,.d .bool])],[]⟩
 | 26=>some ⟨[(130,false,[.d i64])],[],[(5,some 0,.x (.tab 79 .ref 3 i64))]⟩
 | 31=>some ⟨[(144,false,[.d i64])],[],[(5,some 0,.x (.tab 79 .ref 3 i64))]⟩
 | _=>none
def NJ:Nat->Option Hd
 | 10=>some ⟨[(7,false,[.x (.tab 79 .ref 3 i64)]),(37,false,[.d i64])],[],[]⟩
 | 16=>some ⟨[(64,false,[.d i64])],[],[]⟩
 | 25=>some ⟨[(13,false,[.row 47 T47]),(80,false,[.d i64])],[],[]⟩
 | _=>none
def KQ:Nat->List Nat
 | 2000014=>[7]
 | _=>[]
def ak:FuncId->Hint
 | 92=>{loop:=Nm}
 | 127=>{loop:=K4}
 | 154=>{loop:=Js}
 | 59=>{loop:=NG}
 | 91=>{loop:=N1}
 | 50=>{loop:=Nj}
 | 72=>{loop:=Nn}
 | 73=>{loop:=Mq}
 | 97=>{loop:=Mo}
 | 98=>{loop:=Ns,join:=MN}
 | 174=>{loop:=KU}
 | 175=>{loop:=Ll}
 | 146=>{loop:=Jy}
 | 148=>{loop:=IW,join:=I5}
 | 100=>{loop:=Ka}
 | 101=>{loop:=LY,join:=Ks}
 | 106=>{loop:=Lk}
 | 177=>{join:=Iz}
 | 194=>{join:=LC}
 | 185=>{loop:=HR,join:=KC}
 | 149=>{loop:=KR}
 | 150=>{loop:=Iu}
 | 102=>{loop:=JF}
 | 151=>{loop:=I8}
 | 103=>{loop:=HF}
 | 56=>{loop:=ND}
 | 57=>{loop:=MI}
 | 36=>{loop:=Ov}
 | 75=>{loop:=L4}
 | 129=>{join:=Li}
 | 171=>{join:=KW}
 | 133=>{loop:=KA,join:=Kv}
 | 187=>{join:=LJ}
 | 170=>{loop:=Jz}
 | 131=>{loop:=LF}
 | 134=>{loop:=H0}
 | 135=>{loop:=Iq}
 | 95=>{loop:=L8}
 | 19=>{join:=L2}
 | 63=>{loop:=MH}
 | 64=>{loop:=Mg}
 | 25=>{loop:=NN,join:=MX}
 | 12=>{loop:=Oq}
 | 77=>{loop:=Og}
 | 40=>{loop:=Mw}
 | 41=>{loop:=Mh}
 | 152=>{loop:=HH}
 | 42=>{loop:=MW}
 | 14=>{loop:=MC}
 | 79=>{loop:=NY}
 | 80=>{loop:=NV}
 | 43=>{loop:=MG}
 | 118=>{loop:=LB}
 | 81=>{loop:=LZ}
 | 44=>{loop:=N3}
 | 45=>{loop:=Np}
 | 70=>{loop:=MP}
 | 186=>{loop:=KE}
 | 83=>{loop:=MJ}
 | 119=>{loop:=Kq}
 | 82=>{loop:=N2}
 | 84=>{loop:=Nb}
 | 86=>{loop:=Nc}
 | 124=>{loop:=Lo}
 | 87=>{loop:=NM}
 | 48=>{loop:=Mu}
 | 18=>{loop:=NR,join:=Ma}
 | 22=>{loop:=Oc}
 | 6=>{loop:=IZ,join:=Pe,thaw:=KQ}
 | 65=>{loop:=Oi}
 | 66=>{loop:=Md}
 | 26=>{loop:=No,join:=Me}
 | 27=>{loop:=Ow}
 | 67=>{loop:=Mj}
 | 68=>{loop:=MS}
 | 29=>{loop:=ML}
 | 69=>{loop:=M7}
 | 30=>{loop:=Ox}
 | 181=>{loop:=Jf}
 | 159=>{join:=JE}
 | 113=>{loop:=IU}
 | 74=>{loop:=NJ}
 | _=>{}
def xP (p : String) : Bool := p == "program.go:104" || p == "ref.go:45" || p == "tension.go:104" || p == "ref.go:107"
def wa:TypeId->Option XP
 | 108=>some (.tab 79 .ref 3 i64)
 | 109=>some (.tab 79 .ref 3 i64)
 | _=>none
def rz:List Nat:=[89,175,144,145,101,149,102,103,129,131]
def its:List (Nat×ICtr):=[]
theorem Q3:Ji prog its:=Gi
end Go.Proofs.YtegbncajloeepaaGreat

namespace Go.Proofs.YtegbncajloeepaaGreat
noncomputable section
open Tryz Dn Dn.Sh
set_option maxRecDepth 100000
theorem aB:prog.follows .mixedOrders=true:=by kernel_rfl
theorem Qx:Bm prog rz=true:=by kernel_rfl
theorem q0:(ib prog shs rz its [] []).ok:=GW Qx Q3
abbrev cx (l) (r):=vA wa xP (ib prog shs rz its l r)
def lX (_:Lp) (_:Jn) (x0:List Int):Option (List Int) :=
 bif eo (0+List.length x0) 8 then some x0 else none
def bh (x0:List Int):Option (List Int):=lX lpK jnK x0
abbrev Kr:=(List Int)->Option (List Int)
def Pf (bh:Kr):RCtr:=⟨[(.sl i64)],3,i64,fun x=>bh x.1⟩
def aY:RCtr:=Pf bh
theorem Uj (lp:Lp) (jn:Jn):∀x:TsS aY.as,lX lp jn x.1=Cj lp jn (cx [] []) ak 4 112 f112 aY.t aY.e (yA aY.as x true):=fun x=>by kernel_rfl
theorem PC:aY.ok prog 112:=RCtr.of_den_nil (c:=aY) (ao (q0)) aB (hl:=ak) (d:=4) rfl func112 rfl (by decide) (Uj lpK jnK) fun x h=>by
 obtain ⟨l,u⟩:=x
 simp only at h
 subst h
 kernel_rfl
theorem R0:(ib prog shs rz its [] [(112,aY)]).ok:=um q0 (by kernel_rfl) PC
def iC (lp:Lp) (jn:Jn) (x0:List (List (Int×Int))):Option (List (Int×Int)) :=
 lp (Int×Int×PUnit) (List (Int×Int)) (fun (again:Int×Int×PUnit->Option (List (Int×Int))) (x:Int×Int×PUnit)=>bif decide (x.2.1<(↑x0.length:Int)) then bif inB x.2.1 x0.length then bif decide (IntKind.wrap .i64 (x.1+(↑(List.length (x0.getD x.2.1.toNat [])):Int))<0) then none else again (IntKind.wrap .i64 (x.1+(↑(List.length (x0.getD x.2.1.toNat [])):Int)),IntKind.wrap .i64 (x.2.1+1),PUnit.unit) else none else jn PUnit (List (Int×Int)) (fun (_:PUnit)=>bif decide (IntKind.wrap .i64 (x.1 - IntKind.wrap .i64 ((↑0:Int) - (↑0:Int)))>0) then bif slB (0 : Int) (↑0:Int) 0 then bif decide (0<IntKind.wrap .i64 (x.1 - IntKind.wrap .i64 ((↑0:Int) - (↑0:Int))))&&eo (Int.toNat (IntKind.wrap .i64 (x.1 - IntKind.wrap .i64 ((↑0:Int) - (↑0:Int))))) 16 then bif slB 0 (↑0:Int) (Int.toNat (IntKind.wrap IntKind.i64 (x.1 - IntKind.wrap .i64 ((↑0:Int) - (↑0:Int)))))&&decide (0<Int.toNat (IntKind.wrap .i64 (x.1 - IntKind.wrap .i64 ((↑0:Int) - (↑0:Int))))) then lp (List (Int×Int)×Int×PUnit) (List (Int×Int)) (fun (again:List (Int×Int)×Int×PUnit->Option (List (Int×Int))) (x : List (Int×Int)×Int×PUnit) =>
 let v8:List (Int×Int):=x0.getD x.2.1.toNat [];bif decide (x.2.1<(↑x0.length:Int)) then bif inB x.2.1 x0.length then bif eo (List.length x.1+List.length v8) 16 then again (x.1++v8,IntKind.wrap .i64 (x.2.1+1),PUnit.unit) else none else none else some x.1) (List.take (Int.toNat (↑(0 : Nat):Int)) (List.replicate (Int.toNat (IntKind.wrap .i64 (x.1 - IntKind.wrap .i64 ((↑0:Int) - (↑0:Int))))) (0,0)),0, PUnit.unit) else none else none else none else lp (List (Int×Int)×Int×PUnit) (List (Int×Int)) (fun (again:List (Int×Int)×Int×PUnit->Option (List (Int×Int))) (x:List (Int×Int)×Int×PUnit) =>
 let v8:List (Int×Int):=x0.getD x.2.1.toNat [];bif decide (x.2.1<(↑x0.length:Int)) then bif inB x.2.1 x0.length then bif eo (List.length x.1+List.length v8) 16 then again (x.1++v8,IntKind.wrap .i64 (x.2.1+1),PUnit.unit) else none else none else some x.1) ([],0, PUnit.unit)) fun (j:PUnit->Option (List (Int×Int)))=>bif decide (x.1<0) then none else j PUnit.unit) (0,0,PUnit.unit)
def cH (x0:List (List (Int×Int))):Option (List (Int×Int)):=iC lpK jnK x0
abbrev t92:=(List (List (Int×Int)))->Option (List (Int×Int))
def r92:RCtr:=⟨[(.sl (.sl T47))],47,T47,fun x=>cH x.1⟩
theorem e92 (lp:Lp) (jn:Jn):∀x:TsS r92.as,iC lp jn x.1=Cj lp jn (cx [] [(112,aY)]) ak 4 92 f92 r92.t r92.e (iT r92.as x 0):=fun x=>by kernel_rfl
theorem QZ:r92.ok prog 92:=RCtr.of_den (c:=r92) (ao (R0)) aB (hl:=ak) (d:=4) func92 rfl (by decide) (e92 lpK jnK)
theorem q92:(ib prog shs rz its [] [(92,r92),(112,aY)]).ok:=um R0 (by kernel_rfl) QZ
def mF (_:Lp) (_:Jn) (x0:List Int):Option (List Int) :=
 bif eo (0+List.length x0) 1 then some x0 else none
def vv (x0:List Int):Option (List Int):=mF lpK jnK x0
def r32:RCtr:=⟨[(.sl (.int .u8))],5,(.int .u8),fun x=>vv x.1⟩
theorem e32 (lp:Lp) (jn:Jn):∀x:TsS r32.as,mF lp jn x.1=Cj lp jn (cx [] [(92,r92),(112,aY)]) ak 4 32 f32 r32.t r32.e (yA r32.as x true):=fun x=>by kernel_rfl
theorem Ru:r32.ok prog 32:=RCtr.of_den_nil (c:=r32) (ao (q92)) aB (hl:=ak) (d:=4) rfl func32 rfl (by decide) (e32 lpK jnK) fun x h=>by
 obtain ⟨l,u⟩:=x
 simp only at h
 subst h
 kernel_rfl
theorem q32:(ib prog shs rz its [] [(32,r32),(92,r92),(112,aY)]).ok:=um q92 (by kernel_rfl) Ru
def jO (_:Lp) (_:Jn) (x0:Int) (x1:Int) (x2:Int):Option Bool :=
 
 let v5:Bool:=decide (x0>=x1);
 let v6:Bool:=!v5||v5;bif v6&&v6 then bif v6 then some (bif v5 then decide (x0<=x2) else false) else none else none
def aZ (x0:Int) (x1:Int) (x2:Int):Option Bool:=jO lpK jnK x0 x1 x2
abbrev t88:=(Int)->(Int)->(Int)->Option (Bool)
def k88 (aZ:t88):Ctr:=⟨[i64,i64,i64],[],[],.one .bool,fun x _ _=>aZ x.1 x.2.1 x.2.2.1⟩
def c88:Ctr:=k88 aZ
theorem e88 (lp:Lp) (jn:Jn):∀(x:TsS c88.as) (F:TsF c88.fs) (y:TsS c88.cs),jO lp jn x.1 x.2.1 x.2.2.1=br lp jn (cx [] [(32,r32),(92,r92),(112,aY)]) ak 4 88 f88 c88 x F y:=fun x F y=>by kernel_rfl
theorem SG:c88.ok prog 88:=Ctr.of_den (ao (q32)) aB (hl:=ak) (d:=4) func88 rfl (by decide) (e88 lpK jnK)
def jT (_:Lp) (_:Jn) (x0:Int):Option Bool :=
 
 let v3:Bool:=decide (x0>=97);
 let v4:Bool:=decide (x0>=65);
 let v5:Bool:=!v3||v3;
 let v6:Bool:=bif v3 then decide (x0<=122) else false;
 let v7:Bool:=!v6;
 let v8:Bool:=!v7;
 let v9:Bool:=v7&&v4;
 let v10:Bool:=v8||v7;bif v5 then bif v5 then bif v10 then bif v10 then bif !v9||v9 then bif (v8||v10)&&(v8||(!v4||(v8||v9))) then bif v6||v7 then some (bif v6 then true else bif v4 then decide (x0<=90) else false) else none else none else none else none else none else none else none
def bb (x0:Int):Option Bool:=jT lpK jnK x0
abbrev Ls:=(Int)->Option (Bool)
def O9 (bb:Ls):Ctr:=⟨[(.int .u8)],[],[],.one .bool,fun x _ _=>bb x.1⟩
def Iw:Ctr:=O9 bb
theorem UN (lp:Lp) (jn:Jn):∀(x:TsS Iw.as) (F:TsF Iw.fs) (y:TsS Iw.cs),jT lp jn x.1=br lp jn (cx [] [(32,r32),(92,r92),(112,aY)]) ak 4 126 f126 Iw x F y:=fun x F y=>by kernel_rfl
theorem OZ:Iw.ok prog 126:=Ctr.of_den (ao (q32)) aB (hl:=ak) (d:=4) func126 rfl (by decide) (UN lpK jnK)
def kO (_:Lp) (_:Jn) (x0:Int):Option Bool :=
 
 let v3:Bool:=decide (x0>=48);
 let v4:Bool:=!v3||v3;bif v4 then bif v4 then some (bif v3 then decide (x0<=57) else false) else none else none
def dy (x0:Int):Option Bool:=kO lpK jnK x0
abbrev Te:=(Int)->Option (Bool)
def KN:Ctr:=⟨[(.int .u8)],[],[],.one .bool,fun x _ _=>dy x.1⟩
theorem UL (lp:Lp) (jn:Jn):∀(x:TsS KN.as) (F:TsF KN.fs) (y:TsS KN.cs),kO lp jn x.1=br lp jn (cx [] [(32,r32),(92,r92),(112,aY)]) ak 4 166 f166 KN x F y:=fun x F y=>by kernel_rfl
theorem SC:KN.ok prog 166:=Ctr.of_den (ao (q32)) aB (hl:=ak) (d:=4) func166 rfl (by decide) (UL lpK jnK)
def iU (lp:Lp) (_:Jn) (bb:Ls) (dy:Te) (x0:ByteArray):Option Int :=
 lp (Int×PUnit) Int (fun (again:Int×PUnit->Option Int) (x:Int×PUnit) =>
 let v5:Bool:=inB x.1 (ByteArray.size x0);
 let v6:Int:=fb x0 x.1.toNat;
 let v7:Bool:=decide (x.1<(↑(ByteArray.size x0):Int));
 let v8:Bool:=!v7;
 let v9:Bool:=v8||v7;
 let v10:Bool:=v8||v9;bif v9&&(v9&&(v8||v5)) then bif v9 then af (bif v7 then bb v6 else some false) fun (t:Bool) =>
 let v12:Bool:=v7&&!t;
 let v13:Bool:=!v12;
 let v14:Bool:=v13||v12;bif v9 then bif v14&&(v14&&(v13||v5)) then bif v14 then af (bif v12 then dy v6 else some false) fun (t_1:Bool) =>
 let v16:Bool:=bif t then true else t_1;
 let v17:Bool:=v7&&!v16;
 let v18:Bool:=!v17;
 let v19:Bool:=v18||v17;bif v10&&(v8||(t||(v8||v12))) then bif v9 then bif v19&&(v19&&(v18||v5)) then bif v19 then bif v10&&(v8||(v16||(v8||v17))) then bif v9 then bif bif v7 then bif v16 then true else decide (v6=95) else false then again (IntKind.wrap .i64 (x.1+1),PUnit.unit) else some x.1 else none else none else none else none else none else none else none else none else none else none else none) (0,PUnit.unit)
def dh (x0:ByteArray):Option Int:=iU lpK jnK bb dy x0
abbrev Sc:=(ByteArray)->Option (Int)
def K9:Ctr:=⟨[.str],[],[],.one i64,fun x _ _=>dh x.1⟩
theorem Us (lp:Lp) (jn:Jn) (bb:Ls) (dy:Te):∀(x:TsS K9.as) (F:TsF K9.fs) (y:TsS K9.cs),iU lp jn bb dy x.1=br lp jn (cx [(166,⟨[(.int .u8)],[],[],.one .bool,fun x _ _=>dy x.1⟩),(126,O9 bb)] [(32,r32),(92,r92),(112,aY)]) ak 4 127 f127 K9 x F y:=fun x F y=>by kernel_rfl
theorem QN:K9.ok prog 127:=Ctr.of_den (ao (aa (aa (q32) (by kernel_rfl) OZ) (by kernel_rfl) SC)) aB (hl:=ak) (d:=4) func127 rfl (by decide) (Us lpK jnK bb dy)
def ke (_:Lp) (_:Jn) (bb:Ls) (dh:Sc) (x0:ByteArray):Option Bool :=
 
 let v3:Bool:=!List.beq (ByteArray.toList x0) (ByteArray.toList { data:=#[] });
 let v4:Bool:=!v3||v3;
 let v5:Bool:=bif v3 then decide ((↑(ByteArray.size x0):Int)<=20) else false;
 let v6:Bool:=!v5;
 let v7:Bool:=v6||v5;bif v4 then bif v4 then bif v4 then bif v7&&(v6||inB 0 (ByteArray.size x0)) then bif v7 then af (bif v5 then bb (fb x0 0) else some false) fun (t:Bool) =>
 let v9:Bool:=bif v5 then t else false;
 let v10:Bool:=!v9||v9;bif v7 then bif v10 then af (bif v9 then dh x0 else some 0) fun (t:Int)=>bif v10 then bif v10&&v10 then bif v10 then some (bif v9 then decide (t=(↑(ByteArray.size x0):Int)) else false) else none else none else none else none else none else none else none else none else none else none
def cR (x0:ByteArray):Option Bool:=ke lpK jnK bb dh x0
abbrev t90:=(ByteArray)->Option (Bool)
def c90:Ctr:=⟨[.str],[],[],.one .bool,fun x _ _=>cR x.1⟩
theorem e90 (lp:Lp) (jn:Jn) (bb:Ls) (dh:Sc):∀(x:TsS c90.as) (F:TsF c90.fs) (y:TsS c90.cs),ke lp jn bb dh x.1=br lp jn (cx [(127,⟨[.str],[],[],.one i64,fun x _ _=>dh x.1⟩),(126,O9 bb)] [(32,r32),(92,r92),(112,aY)]) ak 4 90 f90 c90 x F y:=fun x F y=>by kernel_rfl
theorem Uo:c90.ok prog 90:=Ctr.of_den (ao (aa (aa (q32) (by kernel_rfl) OZ) (by kernel_rfl) QN)) aB (hl:=ak) (d:=4) func90 rfl (by decide) (e90 lpK jnK bb dh)
def gg (lp:Lp) (_:Jn) (x0:List (ByteArray×Int)) (f0:(((ByteArray×Int)×Unit)->Option Bool)):Option Int :=
 lp (Int×PUnit) Int (fun (again:Int×PUnit->Option Int) (x:Int×PUnit)=>bif decide (x.1<(↑x0.length:Int)) then bif inB x.1 x0.length then af (f0 (x0.getD x.1.toNat ({ data:={ toList:=[] } },0),PUnit.unit)) fun (t:Bool)=>bif t then some x.1 else again (IntKind.wrap .i64 (x.1+1), PUnit.unit) else none else some (-1)) (0,PUnit.unit)
def bD (x0:List (ByteArray×Int)) (f0:(((ByteArray×Int)×Unit)->Option Bool)):Option Int:=gg lpK jnK x0 f0
abbrev O7:=(List (ByteArray×Int))->((((ByteArray×Int)×Unit)->Option Bool))->Option (Int)
def Rm (bD:O7):Ctr:=⟨[(.sl T45)],[([T45],.bool)],[],.one i64,fun x F _=>bD x.1 F.1⟩
def HE:Ctr:=Rm bD
theorem Tx (lp:Lp) (jn:Jn):∀(x:TsS HE.as) (F:TsF HE.fs) (y:TsS HE.cs),gg lp jn x.1 F.1=br lp jn (cx [] [(32,r32),(92,r92),(112,aY)]) ak 4 154 f154 HE x F y:=fun x F y=>by kernel_rfl
theorem Sp:HE.ok prog 154:=Ctr.of_den (ao (q32)) aB (hl:=ak) (d:=4) func154 rfl (by decide) (Tx lpK jnK)
def jW (_:Lp) (_:Jn) (x0:ByteArray×Int) (y0:ByteArray):Option Bool :=
 some (List.beq (ByteArray.toList x0.1) (ByteArray.toList y0))
def dX (x0:ByteArray×Int) (y0:ByteArray):Option Bool:=jW lpK jnK x0 y0
abbrev RN:=(ByteArray×Int)->(ByteArray)->Option (Bool)
def Kn:Ctr:=⟨[T45],[],[.str],.one .bool,fun x _ y=>dX x.1 y.1⟩
theorem TA (lp:Lp) (jn:Jn):∀(x:TsS Kn.as) (F:TsF Kn.fs) (y:TsS Kn.cs),jW lp jn x.1 y.1=br lp jn (cx [] [(32,r32),(92,r92),(112,aY)]) ak 4 155 f155 Kn x F y:=fun x F y=>by kernel_rfl
theorem QJ:Kn.ok prog 155:=Ctr.of_den (ao (q32)) aB (hl:=ak) (d:=4) func155 rfl (by decide) (TA lpK jnK)
def lO (_:Lp) (_:Jn) (bD:O7) (dX:RN) (x0:(List (ByteArray×Int))×List (ByteArray×(List (ByteArray×Int×Int×Int))×Bool)) (x1:ByteArray):Option Int :=
 af (bD x0.1 fun (x:(ByteArray×Int)×PUnit)=>dX x.1 x1) fun (t:Int)=>some t
def bG (x0:(List (ByteArray×Int))×List (ByteArray×(List (ByteArray×Int×Int×Int))×Bool)) (x1:ByteArray):Option Int:=lO lpK jnK bD dX x0 x1
abbrev H3:=((List (ByteArray×Int))×List (ByteArray×(List (ByteArray×Int×Int×Int))×Bool))->(ByteArray)->Option (Int)
def Qe (bG:H3):Ctr:=⟨[T25,.str],[],[],.one i64,fun x _ _=>bG x.1 x.2.1⟩
def JK:Ctr:=Qe bG
theorem T2 (lp:Lp) (jn:Jn) (bD:O7) (dX:RN):∀(x:TsS JK.as) (F:TsF JK.fs) (y:TsS JK.cs),lO lp jn bD dX x.1 x.2.1=br lp jn (cx [(155,⟨[T45],[],[.str],.one .bool,fun x _ y=>dX x.1 y.1⟩),(154,Rm bD)] [(32,r32),(92,r92),(112,aY)]) ak 4 109 f109 JK x F y:=fun x F y=>by kernel_rfl
theorem OT:JK.ok prog 109:=Ctr.of_den (ao (aa (aa (q32) (by kernel_rfl) Sp) (by kernel_rfl) QJ)) aB (hl:=ak) (d:=4) func109 rfl (by decide) (T2 lpK jnK bD dX)
def qg (lp:Lp) (_:Jn) (x0:Int) (x1:Int):Option Int :=
 lp (Int×Int×PUnit) Int (fun (again:Int×Int×PUnit->Option Int) (x:Int×Int×PUnit)=>bif !decide (x.2.1=0) then bif nzB x.2.1 then again (x.2.1, Int.tmod x.1 x.2.1,PUnit.unit) else none else some x.1) (x0,x1,PUnit.unit)
def be (x0:Int) (x1:Int):Option Int:=qg lpK jnK x0 x1
abbrev t59:=(Int)->(Int)->Option (Int)
def k59 (be:t59):Ctr:=⟨[(.int .u64),(.int .u64)],[],[],.one (.int .u64),fun x _ _=>be x.1 x.2.1⟩
def c59:Ctr:=k59 be
theorem e59 (lp:Lp) (jn:Jn):∀(x:TsS c59.as) (F:TsF c59.fs) (y:TsS c59.cs),qg lp jn x.1 x.2.1=br lp jn (cx [] [(32,r32),(92,r92),(112,aY)]) ak 4 59 f59 c59 x F y:=fun x F y=>by kernel_rfl
theorem MY:c59.ok prog 59:=Ctr.of_den (ao (q32)) aB (hl:=ak) (d:=4) func59 rfl (by decide) (e59 lpK jnK)
def nQ (_:Lp) (_:Jn) (x0:Int):Option Int :=
 
 let v3:Int:=IntKind.wrap .u64 x0;bif decide (x0<0) then some (IntKind.wrap .u64 (0 - v3)) else some v3
def ay (x0:Int):Option Int:=nQ lpK jnK x0
abbrev t60:=(Int)->Option (Int)
def k60 (ay:t60):Ctr:=⟨[i64],[],[],.one (.int .u64),fun x _ _=>ay x.1⟩
def c60:Ctr:=k60 ay
theorem e60 (lp:Lp) (jn:Jn):∀(x:TsS c60.as) (F:TsF c60.fs) (y:TsS c60.cs),nQ lp jn x.1=br lp jn (cx [] [(32,r32),(92,r92),(112,aY)]) ak 4 60 f60 c60 x F y:=fun x F y=>by kernel_rfl
theorem Kw:c60.ok prog 60:=Ctr.of_den (ao (q32)) aB (hl:=ak) (d:=4) func60 rfl (by decide) (e60 lpK jnK)
def mL (_:Lp) (_:Jn) (be:t59) (ay:t60) (x0:Int×Int):Option Bool :=
 
 let v3:Bool:=decide (x0.2>=1);
 let v4:Bool:=!v3||v3;
 let v5:Bool:=bif v3 then decide (x0.2<=1152921504606846976) else false;
 let v6:Bool:=bif v5 then decide (x0.1>=(-1152921504606846976)) else false;
 let v7:Bool:=!v5||v5;
 let v8:Bool:=bif v6 then decide (x0.1<=1152921504606846976) else false;
 let v9:Bool:=!v6||v6;
 let v10:Bool:=!v8||v8;bif v4 then bif v4 then bif v4 then bif v7 then bif v7 then bif v7 then bif v9 then bif v9 then bif v9 then bif v10 then bif v10 then af (bif v8 then ay x0.1 else some 0) fun (t:Int)=>bif v10 then bif v10 then bif v10&&v10 then af (bif v8 then be t (IntKind.wrap .u64 x0.2) else some (0 : Int)) fun (t:Int)=>bif v10 then bif v10 then some (bif v8 then decide (t=1) else false) else none else none else none else none else none else none else none else none else none else none else none else none else none else none else none else none
def an (x0:Int×Int):Option Bool:=mL lpK jnK be ay x0
abbrev t58:=(Int×Int)->Option (Bool)
def k58 (an:t58):Ctr:=⟨[T47],[],[],.one .bool,fun x _ _=>an x.1⟩
def c58:Ctr:=k58 an
theorem e58 (lp:Lp) (jn:Jn) (be:t59) (ay:t60):∀(x:TsS c58.as) (F:TsF c58.fs) (y:TsS c58.cs),mL lp jn be ay x.1=br lp jn (cx [(60,k60 ay),(59,k59 be)] [(32,r32),(92,r92),(112,aY)]) ak 4 58 f58 c58 x F y:=fun x F y=>by kernel_rfl
theorem Cy:c58.ok prog 58:=Ctr.of_den (ao (aa (aa (q32) (by kernel_rfl) MY) (by kernel_rfl) Kw)) aB (hl:=ak) (d:=4) func58 rfl (by decide) (e58 lpK jnK be ay)
def kU (_:Lp) (_:Jn) (an:t58) (x0:Int×Int):Option Bool :=
 af (an x0) fun (t:Bool) =>
 let v4:Bool:=!t||t;
 let v5:Bool:=bif t then decide (x0.1>=x0.2) else false;
 let v6:Bool:=!v5||v5;bif v4 then bif v4 then bif v4&&v4 then bif v4 then bif v6 then bif v6 then bif v6 then some (bif v5 then decide (x0.1<=100) else false) else none else none else none else none else none else none else none
def dV (x0:Int×Int):Option Bool:=kU lpK jnK an x0
abbrev QK:=(Int×Int)->Option (Bool)
def KB:Ctr:=⟨[T47],[],[],.one .bool,fun x _ _=>dV x.1⟩
theorem UO (lp:Lp) (jn:Jn) (an:t58):∀(x:TsS KB.as) (F:TsF KB.fs) (y:TsS KB.cs),kU lp jn an x.1=br lp jn (cx [(58,k58 an)] [(32,r32),(92,r92),(112,aY)]) ak 4 167 f167 KB x F y:=fun x F y=>by kernel_rfl
theorem S2:KB.ok prog 167:=Ctr.of_den (ao (aa (q32) (by kernel_rfl) Cy)) aB (hl:=ak) (d:=4) func167 rfl (by decide) (UO lpK jnK an)
def lY (_:Lp) (_:Jn) (bG:H3) (dV:QK) (x0:(List (ByteArray×Int))×List (ByteArray×(List (ByteArray×Int×Int×Int))×Bool)) (x1:ByteArray×Int×Int×Int) (x2:Bool):Option Bool :=
 
 let v5:Bool:=!x2;
 let v6:Bool:=v5||x2;
 let v7:Bool:=decide (x1.2.1=0);
 let v8:Bool:=decide (x1.2.1=1);
 let v9:Bool:=decide (x1.2.1=2);
 let v10:Bool:=!v8;
 let v11:Bool:=!v9;
 let v12:Bool:=bif v9 then true else v7;
 let v13:Bool:=!v10||v10;
 let v14:Bool:=!v11||v11;
 let v15:Bool:=!v12;
 let v16:Bool:=bif x2 then !(decide (x1.2.2.1=1)&&(decide (x1.2.2.2=1)&&true)) else false;
 let v17:Bool:=!v16;
 let v18:Bool:=!v17;
 let v19:Bool:=v17&&v5;
 let v20:Bool:=!v15||v15;
 let v21:Bool:=v18||v17;
 let v22:Bool:=!v19||v19;bif v6 then bif v6&&v6 then bif v6 then bif v21 then bif v21 then bif v22 then bif v22 then af (bif v19 then dV x1.2.2 else some false) fun (t:Bool)=>bif v22 then bif (v18||v21)&&(v18||(!v5||(v18||v19))) then bif v16||v17 then bif bif v16 then true else bif v5 then !t else false then some false else bif List.beq (ByteArray.toList x1.1) (ByteArray.toList { data:=#[] }) then some v7 else af (bG x0 x1.1) fun (t:Int)=>bif decide (t<0) then some false else bif x2 then bif v13 then bif v13 then bif v8||v10 then some (bif v8 then true else decide (x1.2.1=(-1))) else none else none else none else bif v14 then bif v14 then bif v9||v11 then bif v20 then bif v20 then bif v12||v15 then some (bif v12 then true else decide (x1.2.1=(-2))) else none else none else none else none else none else none else none else none else none else none else none else none else none else none else none else none
def dL (x0:(List (ByteArray×Int))×List (ByteArray×(List (ByteArray×Int×Int×Int))×Bool)) (x1:ByteArray×Int×Int×Int) (x2:Bool):Option Bool:=lY lpK jnK bG dV x0 x1 x2
abbrev PD:=((List (ByteArray×Int))×List (ByteArray×(List (ByteArray×Int×Int×Int))×Bool))->(ByteArray×Int×Int×Int)->(Bool)->Option (Bool)
def Rb (dL:PD):Ctr:=⟨[T25,T74,.bool],[],[],.one .bool,fun x _ _=>dL x.1 x.2.1 x.2.2.1⟩
def JC:Ctr:=Rb dL
theorem U9 (lp:Lp) (jn:Jn) (bG:H3) (dV:QK):∀(x:TsS JC.as) (F:TsF JC.fs) (y:TsS JC.cs),lY lp jn bG dV x.1 x.2.1 x.2.2.1=br lp jn (cx [(167,⟨[T47],[],[],.one .bool,fun x _ _=>dV x.1⟩),(109,Qe bG)] [(32,r32),(92,r92),(112,aY)]) ak 4 128 f128 JC x F y:=fun x F y=>by kernel_rfl
theorem Rh:JC.ok prog 128:=Ctr.of_den (ao (aa (aa (q32) (by kernel_rfl) OT) (by kernel_rfl) S2)) aB (hl:=ak) (d:=4) func128 rfl (by decide) (U9 lpK jnK bG dV)
def ma (lp:Lp) (_:Jn) (aZ:t88) (dL:PD) (x0:(List (ByteArray×Int))×List (ByteArray×(List (ByteArray×Int×Int×Int))×Bool)) (x1:ByteArray×(List (ByteArray×Int×Int×Int))×Bool):Option Bool :=
 
 let v4:Bool:=!x1.2.2;
 let v5:Bool:=!v4;
 let v6:Bool:=!v5;
 let v7:Int:=IntKind.wrap .i64 ((↑x1.2.1.length:Int) - 1);
 let v8:Bool:=v6||v5;af (aZ (↑x1.2.1.length:Int) 2 10) fun (t:Bool)=>bif !t then some false else lp (Int×PUnit) Bool (fun (again : Int×PUnit->Option Bool) (x:Int×PUnit) =>
 let v12:Bool:=decide (x.1=0);
 let v13:Bool:=!v12;
 let v14:Bool:=!v13||v13;bif decide (x.1<(↑x1.2.1.length:Int)) then bif inB x.1 x1.2.1.length then bif v14 then bif v14&&v14 then bif v12||v13 then af (dL x0 (x1.2.1.getD x.1.toNat ({ data:={ toList:=[] } },0,0,0)) (bif v12 then true else decide (x.1=v7))) fun (t : Bool)=>bif !t then some false else again (IntKind.wrap .i64 (x.1+1),PUnit.unit) else none else none else none else none else bif v8 then bif v8 then bif v8&&(v8 && (v6||inB v7 x1.2.1.length)) then bif v8 then bif v8 then bif v8 then bif v4||v5 then some (bif v4 then true else List.beq (ByteArray.toList (x1.2.1.getD v7.toNat ({ data:={ toList:=[] } },0,0,0)).1) (ByteArray.toList { data:=#[] })) else none else none else none else none else none else none else none) (0,PUnit.unit)
def eG (x0:(List (ByteArray×Int))×List (ByteArray×(List (ByteArray×Int×Int×Int))×Bool)) (x1:ByteArray×(List (ByteArray×Int×Int×Int))×Bool):Option Bool:=ma lpK jnK aZ dL x0 x1
abbrev t91:=((List (ByteArray×Int))×List (ByteArray×(List (ByteArray×Int×Int×Int))×Bool))->(ByteArray×(List (ByteArray×Int×Int×Int))×Bool)->Option (Bool)
def c91:Ctr:=⟨[T25,T72],[],[],.one .bool,fun x _ _=>eG x.1 x.2.1⟩
theorem e91 (lp:Lp) (jn:Jn) (aZ:t88) (dL:PD):∀(x:TsS c91.as) (F:TsF c91.fs) (y:TsS c91.cs),ma lp jn aZ dL x.1 x.2.1=br lp jn (cx [(128,Rb dL),(88,k88 aZ)] [(32,r32),(92,r92),(112,aY)]) ak 4 91 f91 c91 x F y:=fun x F y=>by kernel_rfl
theorem TT:c91.ok prog 91:=Ctr.of_den (ao (aa (aa (q32) (by kernel_rfl) SG) (by kernel_rfl) Rh)) aB (hl:=ak) (d:=4) func91 rfl (by decide) (e91 lpK jnK aZ dL)
def kQ (lp:Lp) (_:Jn) (aZ:t88) (cR:t90) (eG:t91) (x0:(List (ByteArray×Int))×List (ByteArray×(List (ByteArray×Int×Int×Int))×Bool)):Option Bool :=
 af (aZ (↑x0.1.length:Int) 1 6) fun (t:Bool) =>
 let v4:Bool:=!t;
 let v5:Bool:=!v4;
 let v6:Bool:=!v5||v5;bif v6 then bif v6 then bif v6 then af (bif v5 then aZ (↑x0.2.length:Int) 1 6 else some false) fun (t:Bool)=>bif v6 then bif v4||v5 then bif bif v4 then true else !t then some false else lp (Int×List (ByteArray×Bool)×PUnit) Bool (fun (again:Int×List (ByteArray×Bool)×PUnit->Option Bool) (x:Int×List (ByteArray×Bool)×PUnit) =>
 let v10:ByteArray×Int:=x0.1.getD x.1.toNat ({ data:={ toList:=[] } },0);bif decide (x.1<(↑x0.1.length:Int)) then bif inB x.1 x0.1.length then af (cR v10.1) fun (t:Bool) =>
 let v12:Bool:=!t||t;bif v12&&v12 then bif v12 then bif v12 then bif (!!!bif t then !gR str Sh.bool v10.1 false x.2.1 else false)||!!bif t then !gR str Sh.bool v10.1 false x.2.1 else false then bif (!!!bif t then !gR str Sh.bool v10.1 false x.2.1 else false)||!!bif t then !gR str Sh.bool v10.1 false x.2.1 else false then af (bif !!bif t then !gR str Sh.bool v10.1 false x.2.1 else false then aZ v10.2 0 16777216 else some false) fun (t_1:Bool)=>bif (!!!bif t then !gR str Sh.bool v10.1 false x.2.1 else false)||!!bif t then !gR str Sh.bool v10.1 false x.2.1 else false then bif (!bif t then !gR str Sh.bool v10.1 false x.2.1 else false)||!!bif t then !gR str Sh.bool v10.1 false x.2.1 else false then bif bif !bif t then !gR str Sh.bool v10.1 false x.2.1 else false then true else !t_1 then some false else again (IntKind.wrap .i64 (x.1+1),pv str Sh.bool v10.1 true x.2.1,PUnit.unit) else none else none else none else none else none else none else none else none else lp (Int×Int×List (ByteArray×Bool)×PUnit) Bool (fun (again:Int×Int×List (ByteArray×Bool)×PUnit->Option Bool) (x:Int×Int×List (ByteArray×Bool)×PUnit) =>
 let v13:ByteArray×List (ByteArray×Int×Int×Int)×Bool:=x0.2.getD x.2.1.toNat ({ data:={ toList:=[] } },[],false);bif decide (x.2.1<(↑x0.2.length:Int)) then bif inB x.2.1 x0.2.length then af (cR v13.1) fun (t:Bool) =>
 let v15:Bool:=!t||t;bif v15&&v15 then bif v15 then bif v15 then bif ((!!!bif t then !gR str Sh.bool v13.1 false x.2.2.1 else false)||!!bif t then !gR str Sh.bool v13.1 false x.2.2.1 else false)&&((!!!bif t then !gR str Sh.bool v13.1 false x.2.2.1 else false)||!!bif t then !gR str Sh.bool v13.1 false x.2.2.1 else false) then af (bif !!bif t then !gR str Sh.bool v13.1 false x.2.2.1 else false then eG x0 v13 else some false) fun (t_1:Bool)=>bif (!!!bif t then !gR str Sh.bool v13.1 false x.2.2.1 else false)||!!bif t then !gR str Sh.bool v13.1 false x.2.2.1 else false then bif (!bif t then !gR str Sh.bool v13.1 false x.2.2.1 else false)||!!bif t then !gR str Sh.bool v13.1 false x.2.2.1 else false then bif bif !bif t then !gR str Sh.bool v13.1 false x.2.2.1 else false then true else !t_1 then some false else bif v13.2.2 then again (IntKind.wrap .i64 (x.1+1),IntKind.wrap .i64 (x.2.1+1),pv str Sh.bool v13.1 true x.2.2.1,PUnit.unit) else again (x.1,IntKind.wrap .i64 (x.2.1+1),pv str Sh.bool v13.1 true x.2.2.1,PUnit.unit) else none else none else none else none else none else none else none else some (decide (x.1<=1))) (0,0,x.2.1,PUnit.unit)) (0,[],PUnit.unit) else none else none else none else none else none
def aN (x0:(List (ByteArray×Int))×List (ByteArray×(List (ByteArray×Int×Int×Int))×Bool)):Option Bool:=kQ lpK jnK aZ cR eG x0
abbrev t50:=((List (ByteArray×Int))×List (ByteArray×(List (ByteArray×Int×Int×Int))×Bool))->Option (Bool)
def k50 (aN:t50):Ctr:=⟨[T25],[],[],.one .bool,fun x _ _=>aN x.1⟩
def c50:Ctr:=k50 aN
theorem e50 (lp:Lp) (jn:Jn) (aZ:t88) (cR:t90) (eG:t91):∀(x:TsS c50.as) (F:TsF c50.fs) (y:TsS c50.cs),kQ lp jn aZ cR eG x.1=br lp jn (cx [(91,⟨[T25,T72],[],[],.one .bool,fun x _ _=>eG x.1 x.2.1⟩),(90,⟨[.str],[],[],.one .bool,fun x _ _=>cR x.1⟩),(88,k88 aZ)] [(32,r32),(92,r92),(112,aY)]) ak 4 50 f50 c50 x F y:=fun x F y=>by kernel_rfl
theorem P8:c50.ok prog 50:=Ctr.of_den (ao (aa (aa (aa (q32) (by kernel_rfl) SG) (by kernel_rfl) Uo) (by kernel_rfl) TT)) aB (hl:=ak) (d:=4) func50 rfl (by decide) (e50 lpK jnK aZ cR eG)
def nt (lp:Lp) (_:Jn) (bG:H3) (aN:t50) (x0:(List (ByteArray×Int))×List (ByteArray×(List (ByteArray×Int×Int×Int))×Bool)):Option ((List (List Int))×Int×Unit) :=
 af (aN x0) fun (t:Bool)=>bif !t then some ([],1,PUnit.unit) else bif decide (0<=(↑x0.1.length:Int))&&eo (Int.toNat (↑x0.1.length : Int)) 24 then lp (Int×(List Nat×List (Option (List Int)))×PUnit) (List (List Int)×Int×PUnit) (fun (again:Int×(List Nat×List (Option (List Int)))×PUnit -> Option (List (List Int)×Int×PUnit)) (x:Int×(List Nat×List (Option (List Int)))×PUnit)=>bif decide (x.1<(↑(List.length (Nat.brecOn (motive:=fun (x:Nat)=>Nat->List Nat) (Int.toNat (↑x0.1.length:Int)) (fun (x:Nat) (f:Nat.below (motive:=fun (x:Nat)=>Nat->List (T ref)) x) (x_1:Nat)=>(match (motive:=(x:Nat)->Nat->Nat.below (motive:=fun (x:Nat)=>Nat->List (T ref)) x->List Nat) x,x_1 with | 0,x=>fun (_:PUnit)=>[] | Nat.succ n,k=>fun (x:(Nat->List Nat) ×' Nat.rec PUnit (fun (n:Nat) (n_ih:Type)=>(fun (x:Nat)=>Nat->List (T ref)) n ×' n_ih) n)=>(k+0) ::x.1 (k+1)) f) 0)):Int)) then bif decide (0 <= (↑x0.2.length:Int))&&eo (Int.toNat (↑x0.2.length:Int)) 8 then bif inB x.1 x.2.1.1.length then bif Nat.ble (Nat.succ x.1.toNat) x.2.1.1.length then again (IntKind.wrap .i64 (x.1+1),(x.2.1.1.set x.1.toNat x.2.1.2.length,x.2.1.2++[some (List.replicate (Int.toNat (↑x0.2.length:Int)) 0)]),PUnit.unit) else none else none else none else lp (Int×(List Nat×List (Option (List Int)))×PUnit) (List (List Int)×Int×PUnit) (fun (again:Int×(List Nat×List (Option (List Int)))×PUnit->Option (List (List Int)×Int×PUnit)) (x:Int×(List Nat×List (Option (List Int))) × PUnit)=>bif decide (x.1<(↑x0.2.length:Int)) then bif inB x.1 x0.2.length then lp (Int×(List Nat×List (Option (List Int)))×PUnit) (List (List Int)×Int × PUnit) (fun (again_1:Int×(List Nat×List (Option (List Int)))×PUnit->Option (List (List Int)×Int×PUnit)) (x_1:Int×(List Nat×List (Option (List Int)))×PUnit) =>
 let v10:Int:=IntKind.wrap .i64 (x_1.1+1);
 let v11:(List Nat×List (Option (List Int)))×PUnit:=(x_1.2.1,PUnit.unit);
 let v12:ByteArray×Int×Int×Int:=List.getD (x0.2.getD x.1.toNat ({ data:={ toList:=[] } },[],false)).2.1 x_1.1.toNat ({ data:={ toList:=[] } },0,0,0);bif decide (x_1.1<(↑(List.length (x0.2.getD x.1.toNat ({ data:={ toList:=[] } },[],false)).2.1):Int)) then bif inB x_1.1 (List.length (x0.2.getD x.1.toNat ({ data:={ toList:=[] } },[],false)).2.1) then af (bG x0 v12.1) fun (t:Int)=>bif decide (t>=(0 : Int)) then bif inB t x_1.2.1.1.length then bif Nat.ble (Nat.succ t.toNat) x_1.2.1.1.length then bif inB x.1 (List.length (bu x_1.2.1.2 (x_1.2.1.1.getD t.toNat 0))) then bif Nat.ble (Nat.succ x.1.toNat) (List.length (bu x_1.2.1.2 (x_1.2.1.1.getD t.toNat (0 : Nat)))) then bif inB x.1 (List.length (bu x_1.2.1.2 (x_1.2.1.1.getD t.toNat 0))) then bif Nat.ble (Nat.succ x.1.toNat) (List.length (bu x_1.2.1.2 (x_1.2.1.1.getD t.toNat 0))) then again_1 (v10,(x_1.2.1.1,x_1.2.1.2.set (x_1.2.1.1.getD t.toNat 0) (some (List.set (bu x_1.2.1.2 (x_1.2.1.1.getD t.toNat 0)) x.1.toNat (IntKind.wrap .i64 (List.getD (bu x_1.2.1.2 (x_1.2.1.1.getD t.toNat 0)) x.1.toNat 0+v12.2.1))))),PUnit.unit) else none else none else none else none else none else none else again_1 (v10,v11) else none else again (IntKind.wrap .i64 (x.1+1),v11)) (0,x.2.1,PUnit.unit) else none else bif List.all x.2.1.1 fun (x_1:Nat)=>fS x.2.1.2 x_1 then some (List.map (fun (x_1:Nat)=>bu x.2.1.2 x_1) x.2.1.1,0,PUnit.unit) else none) (0,x.2.1,PUnit.unit)) (0, (Nat.brecOn (motive:=fun (x:Nat)=>Nat->List Nat) (Int.toNat (↑x0.1.length:Int)) (fun (x:Nat) (f:Nat.below (motive:=fun (x:Nat)=>Nat->List (T ref)) x) (x_1:Nat)=>(match (motive:=(x:Nat)->Nat->Nat.below (motive:=fun (x:Nat)=>Nat->List (T ref)) x->List Nat) x,x_1 with | 0,x=>fun (_:PUnit)=>[] | Nat.succ n,k=>fun (x:(Nat->List Nat) ×' Nat.rec PUnit (fun (n:Nat) (n_ih:Type)=>(fun (x:Nat)=>Nat->List (T ref)) n ×' n_ih) n)=>(k+0) ::x.1 (k+1)) f) 0,List.replicate (Int.toNat (↑x0.1.length:Int)) (some [])),PUnit.unit) else none
def bm (x0:(List (ByteArray×Int))×List (ByteArray×(List (ByteArray×Int×Int×Int))×Bool)):Option ((List (List Int))×Int×Unit):=nt lpK jnK bG aN x0
abbrev t72:=((List (ByteArray×Int))×List (ByteArray×(List (ByteArray×Int×Int×Int))×Bool))->Option ((List (List Int))×Int×Unit)
def k72 (bm:t72):Ctr:=⟨[T25],[],[],.tup [(.sl (.sl i64)),i64],fun x _ _=>bm x.1⟩
def c72:Ctr:=k72 bm
theorem e72 (lp:Lp) (jn:Jn) (bG:H3) (aN:t50):∀(x:TsS c72.as) (F:TsF c72.fs) (y:TsS c72.cs),nt lp jn bG aN x.1=br lp jn (cx [(50,k50 aN),(109,Qe bG)] [(32,r32),(92,r92),(112,aY)]) ak 4 72 f72 c72 x F y:=fun x F y=>by kernel_rfl
theorem S7:c72.ok prog 72:=Ctr.of_den (ao (aa (aa (q32) (by kernel_rfl) OT) (by kernel_rfl) P8)) aB (hl:=ak) (d:=4) func72 rfl (by decide) (e72 lpK jnK bG aN)
def ji (lp:Lp) (_:Jn) (aN:t50) (x0:(List (ByteArray×Int))×List (ByteArray×(List (ByteArray×Int×Int×Int))×Bool)):Option ((List Int)×Int×Unit) :=
 af (aN x0) fun (t:Bool)=>bif !t then some ([],1,PUnit.unit) else lp (List Int×Int×PUnit) (List Int×Int×PUnit) (fun (again:List Int×Int×PUnit -> Option (List Int×Int×PUnit)) (x:List Int×Int×PUnit)=>bif decide (x.2.1<(↑x0.1.length:Int)) then bif inB x.2.1 x0.1.length then bif eo (List.length x.1+1) 8 then again (x.1++[(x0.1.getD x.2.1.toNat ({ data:={ toList:=[] } },0)).2],IntKind.wrap .i64 (x.2.1+1),PUnit.unit) else none else none else some (x.1,0,PUnit.unit)) ([],0,PUnit.unit)
def ct (x0:(List (ByteArray×Int))×List (ByteArray×(List (ByteArray×Int×Int×Int))×Bool)):Option ((List Int)×Int×Unit):=ji lpK jnK aN x0
abbrev t73:=((List (ByteArray×Int))×List (ByteArray×(List (ByteArray×Int×Int×Int))×Bool))->Option ((List Int)×Int×Unit)
def k73 (ct:t73):Ctr:=⟨[T25],[],[],.tup [(.sl i64),i64],fun x _ _=>ct x.1⟩
def c73:Ctr:=k73 ct
theorem e73 (lp:Lp) (jn:Jn) (aN:t50):∀(x:TsS c73.as) (F:TsF c73.fs) (y:TsS c73.cs),ji lp jn aN x.1=br lp jn (cx [(50,k50 aN)] [(32,r32),(92,r92),(112,aY)]) ak 4 73 f73 c73 x F y:=fun x F y=>by kernel_rfl
theorem UV:c73.ok prog 73:=Ctr.of_den (ao (aa (q32) (by kernel_rfl) P8)) aB (hl:=ak) (d:=4) func73 rfl (by decide) (e73 lpK jnK aN)
def ow (lp:Lp) (_:Jn) (bm:t72) (ct:t73) (x0:(List (ByteArray×Int))×List (ByteArray×(List (ByteArray×Int×Int×Int))×Bool)) (x1:List Int):Option (((List Int)×List ((List Int)×Int×Int))×Int×Unit) :=
 af (bm x0) fun (t:List (List Int)×Int×PUnit)=>bif !decide (t.2.1=0) then some (([],[]),t.2.1,PUnit.unit) else af (ct x0) fun (t_1 : List Int×Int×PUnit)=>bif !decide (t_1.2.1=0) then some (([],[]),t_1.2.1,PUnit.unit) else lp (Int×List Int×List (List Int×Int×Int)×PUnit) ((List Int×List (List Int×Int×Int))×Int×PUnit) (fun (again:Int×List Int×List (List Int×Int×Int)×PUnit->Option ((List Int×List (List Int×Int×Int))×Int×PUnit)) (x:Int×List Int×List (List Int×Int×Int)×PUnit)=>bif decide (x.1<(↑t.1.length:Int)) then bif inB x.1 t.1.length then bif inB x.1 t_1.1.length then bif eo (List.length x.2.2.1+1) 40 then again (IntKind.wrap .i64 (x.1+1),x.2.1,x.2.2.1++[(t.1.getD x.1.toNat [],3,t_1.1.getD x.1.toNat 0)],PUnit.unit) else none else none else none else some ((x.2.1,x.2.2.1),0, PUnit.unit)) (0,x1,[],PUnit.unit)
def fM (x0:(List (ByteArray×Int))×List (ByteArray×(List (ByteArray×Int×Int×Int))×Bool)) (x1:List Int):Option (((List Int)×List ((List Int)×Int×Int))×Int×Unit):=ow lpK jnK bm ct x0 x1
abbrev t97:=((List (ByteArray×Int))×List (ByteArray×(List (ByteArray×Int×Int×Int))×Bool))->(List Int)->Option (((List Int)×List ((List Int)×Int×Int))×Int×Unit)
def c97:Ctr:=⟨[T25,(.sl i64)],[],[],.tup [T82,i64],fun x _ _=>fM x.1 x.2.1⟩
theorem e97 (lp:Lp) (jn:Jn) (bm:t72) (ct:t73):∀(x:TsS c97.as) (F:TsF c97.fs) (y:TsS c97.cs),ow lp jn bm ct x.1 x.2.1=br lp jn (cx [(73,k73 ct),(72,k72 bm)] [(32,r32),(92,r92),(112,aY)]) ak 4 97 f97 c97 x F y:=fun x F y=>by kernel_rfl
theorem T9:c97.ok prog 97:=Ctr.of_den (ao (aa (aa (q32) (by kernel_rfl) S7) (by kernel_rfl) UV)) aB (hl:=ak) (d:=4) func97 rfl (by decide) (e97 lpK jnK bm ct)
def nV (_:Lp) (_:Jn) (x0:Int) (x1:Int):Option (Int×Int×Unit) :=
 
 let v4:Int:=2 ^ 32;
 let v5:Int:=Int.fdiv x0 v4;
 let v6:Int:=Int.fdiv x1 v4;
 let v7:Bool:=decide ((0:Int)<=32);
 let v8:Int:=IntKind.wrap .u64 (↑(Nat.land (Int.toNat (x1 % Int.ofNat 18446744073709551616)) (Int.toNat (4294967295 % Int.ofNat 18446744073709551616))) : Int);
 let v9:Int:=IntKind.wrap .u64 (↑(Nat.land (Int.toNat (x0 % Int.ofNat 18446744073709551616)) (Int.toNat (4294967295 % Int.ofNat 18446744073709551616))) : Int);
 let v10:Int:=IntKind.wrap .u64 (IntKind.wrap .u64 (v5*v8)+Int.fdiv (IntKind.wrap .u64 (v9*v8)) v4);bif v7 then bif v7 then bif v7 then bif v7 then bif v7 then some (IntKind.wrap .u64 (IntKind.wrap .u64 (IntKind.wrap .u64 (v5*v6)+Int.fdiv v10 v4)+Int.fdiv (IntKind.wrap .u64 (IntKind.wrap .u64 (↑(Nat.land (Int.toNat (v10 % Int.ofNat 18446744073709551616)) (Int.toNat (4294967295 % Int.ofNat 18446744073709551616))):Int)+IntKind.wrap .u64 (v9 * v6))) v4),IntKind.wrap .u64 (x0*x1),PUnit.unit) else none else none else none else none else none
def bC (x0:Int) (x1:Int):Option (Int×Int×Unit):=nV lpK jnK x0 x1
abbrev D1:=(Int)->(Int)->Option (Int×Int×Unit)
def Ms (bC:D1):Ctr:=⟨[(.int .u64),(.int .u64)],[],[],.tup [(.int .u64),(.int .u64)],fun x _ _=>bC x.1 x.2.1⟩
def K7:Ctr:=Ms bC
theorem Va (lp:Lp) (jn:Jn):∀(x:TsS K7.as) (F:TsF K7.fs) (y:TsS K7.cs),nV lp jn x.1 x.2.1=br lp jn (cx [] [(32,r32),(92,r92),(112,aY)]) ak 4 107 f107 K7 x F y:=fun x F y=>by kernel_rfl
theorem Ii:K7.ok prog 107:=Ctr.of_den (ao (q32)) aB (hl:=ak) (d:=4) func107 rfl (by decide) (Va lpK jnK)
def tI (_:Lp) (_:Jn) (x0:Int) (x1:Int):Option (Int×Int×Unit) :=
 
 let v4:Int:=IntKind.wrap .u64 (IntKind.wrap .u64 x0*IntKind.wrap .u64 x1);bif decide ((0:Int)<=32) then some (IntKind.wrap IntKind.u32 (Int.fdiv v4 (2 ^ 32)),IntKind.wrap IntKind.u32 v4,PUnit.unit) else none
def gN (x0:Int) (x1:Int):Option (Int×Int×Unit):=tI lpK jnK x0 x1
def QW (gN:(Int)->(Int)->Option (Int×Int×Unit)):Ctr:=⟨[(.int .u32),(.int .u32)],[],[],.tup [(.int .u32),(.int .u32)],fun x _ _=>gN x.1 x.2.1⟩
def IP:Ctr:=QW gN
theorem U1 (lp:Lp) (jn:Jn):∀(x:TsS IP.as) (F:TsF IP.fs) (y:TsS IP.cs),tI lp jn x.1 x.2.1=br lp jn (cx [] [(32,r32),(92,r92),(112,aY)]) ak 4 173 f173 IP x F y:=fun x F y=>by kernel_rfl
theorem RH:IP.ok prog 173:=Ctr.of_den (ao (q32)) aB (hl:=ak) (d:=4) func173 rfl (by decide) (U1 lpK jnK)
def sf (_:Lp) (_:Jn) (bC:D1) (_:(Int)->(Int)->Option (Int×Int×Unit)) (x0:Int) (x1:Int):Option (Int×Int×Unit) :=
 af (bC x0 x1) fun (t:Int×Int×PUnit)=>some (t.1,t.2.1,PUnit.unit)
def gk (x0:Int) (x1:Int):Option (Int×Int×Unit):=sf lpK jnK bC gN x0 x1
abbrev Pk:=(Int)->(Int)->Option (Int×Int×Unit)
def Sn (gk:Pk):Ctr:=⟨[(.int .u64),(.int .u64)],[],[],.tup [(.int .u64),(.int .u64)],fun x _ _=>gk x.1 x.2.1⟩
def J3:Ctr:=Sn gk
theorem UC (lp:Lp) (jn:Jn) (bC:D1) (gN:(Int)->(Int)->Option (Int×Int×Unit)):∀(x:TsS J3.as) (F:TsF J3.fs) (y:TsS J3.cs),sf lp jn bC gN x.1 x.2.1=br lp jn (cx [(173,QW gN),(107,Ms bC)] [(32,r32),(92,r92),(112,aY)]) ak 4 140 f140 J3 x F y:=fun x F y=>by kernel_rfl
theorem S1:J3.ok prog 140:=Ctr.of_den (ao (aa (aa (q32) (by kernel_rfl) Ii) (by kernel_rfl) RH)) aB (hl:=ak) (d:=4) func140 rfl (by decide) (UC lpK jnK bC gN)
def iv (lp:Lp) (jn:Jn) (gk:Pk) (x0:List Int) (x1:Int):Option (List Int) :=
 jn PUnit (List Int) (fun (_:PUnit)=>af (gk (IntKind.wrap .u64 (↑x0.length:Int)) (IntKind.wrap .u64 x1)) fun (t:Int×Int×PUnit) =>
 let v6:List Int:=List.take (Int.toNat (IntKind.wrap .i64 t.2.1)) x0;
 let v7:List Int:=List.replicate (Int.toNat (IntKind.wrap .i64 t.2.1)) 0;
 let v8:Bool:=decide (t.1>0);
 let v9:Bool:=!v8;bif !v9||v9 then bif v8||v9 then jn PUnit (List Int) (fun (_:PUnit)=>bif decide (0<=IntKind.wrap .i64 t.2.1)&&eo (Int.toNat (IntKind.wrap .i64 t.2.1)) 8 then lp (Int×List Int×PUnit) (List Int) (fun (again:Int×List Int×PUnit->Option (List Int)) (x:Int×List Int×PUnit) =>
 let v13:List Int:=List.take x.1.toNat x.2.1;
 let v14:List Int:=List.take (Int.toNat (↑x.2.1.length:Int) - Int.toNat x.1) (List.drop 0 v13);bif decide (x.1<(↑x.2.1.length:Int)) then bif slB x.1 (↑x.2.1.length:Int) x.2.1.length then bif slB 0 x.1 x.2.1.length then bif Nat.ble x.1.toNat (Int.toNat (↑x.2.1.length:Int))&&(Nat.ble (Int.toNat (↑x.2.1.length:Int)) x.2.1.length&&Nat.ble x.1.toNat x.2.1.length) then again (IntKind.wrap IntKind.i64 (x.1+(↑v14.length:Int)),v13++v14++List.drop (Int.toNat x.1+List.length v14) x.2.1,PUnit.unit) else none else none else none else some x.2.1) ((↑v6.length:Int),List.take 0 v7++v6++List.drop (0+List.length v6) v7,PUnit.unit) else none) fun (j:PUnit->Option (List Int))=>bif bif v8 then true else decide (t.2.1>9223372036854775807) then none else j PUnit.unit else none else none) fun (j:PUnit->Option (List Int))=>bif decide (x1<0) then none else j PUnit.unit
def ce (x0:List Int) (x1:Int):Option (List Int):=iv lpK jnK gk x0 x1
abbrev t98:=(List Int)->(Int)->Option (List Int)
def k98 (ce:t98):Ctr:=⟨[(.sl i64),i64],[],[],.one (.sl i64),fun x _ _=>ce x.1 x.2.1⟩
def c98:Ctr:=k98 ce
theorem e98 (lp:Lp) (jn:Jn) (gk:Pk):∀(x:TsS c98.as) (F:TsF c98.fs) (y:TsS c98.cs),iv lp jn gk x.1 x.2.1=br lp jn (cx [(140,Sn gk)] [(32,r32),(92,r92),(112,aY)]) ak 4 98 f98 c98 x F y:=fun x F y=>by kernel_rfl
theorem TM:c98.ok prog 98:=Ctr.of_den (ao (aa (q32) (by kernel_rfl) S1)) aB (hl:=ak) (d:=4) func98 rfl (by decide) (e98 lpK jnK gk)
def kS (_:Lp) (_:Jn) (fM:t97) (ce:t98) (x0:(List (ByteArray×Int))×List (ByteArray×(List (ByteArray×Int×Int×Int))×Bool)):Option (((List Int)×List ((List Int)×Int×Int))×Int×Unit) :=
 af (ce [1] (↑x0.2.length:Int)) fun (t:List Int)=>af (fM x0 t) fun (t:(List Int×List (List Int×Int×Int))×Int×PUnit)=>some (t.1,t.2.1,PUnit.unit)
def aU (x0:(List (ByteArray×Int))×List (ByteArray×(List (ByteArray×Int×Int×Int))×Bool)):Option (((List Int)×List ((List Int)×Int×Int))×Int×Unit):=kS lpK jnK fM ce x0
abbrev t55:=((List (ByteArray×Int))×List (ByteArray×(List (ByteArray×Int×Int×Int))×Bool))->Option (((List Int)×List ((List Int)×Int×Int))×Int×Unit)
def k55 (aU:t55):Ctr:=⟨[T25],[],[],.tup [T82,i64],fun x _ _=>aU x.1⟩
def c55:Ctr:=k55 aU
theorem e55 (lp:Lp) (jn:Jn) (fM:t97) (ce:t98):∀(x:TsS c55.as) (F:TsF c55.fs) (y:TsS c55.cs),kS lp jn fM ce x.1=br lp jn (cx [(98,k98 ce),(97,⟨[T25,(.sl i64)],[],[],.tup [T82,i64],fun x _ _=>fM x.1 x.2.1⟩)] [(32,r32),(92,r92),(112,aY)]) ak 4 55 f55 c55 x F y:=fun x F y=>by kernel_rfl
theorem Qz:c55.ok prog 55:=Ctr.of_den (ao (aa (aa (q32) (by kernel_rfl) T9) (by kernel_rfl) TM)) aB (hl:=ak) (d:=4) func55 rfl (by decide) (e55 lpK jnK fM ce)
def ic (_:Lp) (_:Jn) (x0:Int) (y0:Int):Option Bool :=
 
 let v4:Bool:=decide (x0<IntKind.wrap .i64 (0 - y0));
 let v5:Bool:=!v4;
 let v6:Bool:=!v5||v5;bif v6&&v6 then bif v4||v5 then some (bif v4 then true else decide (x0>y0)) else none else none
def bE (x0:Int) (y0:Int):Option Bool:=ic lpK jnK x0 y0
abbrev QO:=(Int)->(Int)->Option (Bool)
def KI:Ctr:=⟨[i64],[],[i64],.one .bool,fun x _ y=>bE x.1 y.1⟩
theorem U5 (lp:Lp) (jn:Jn):∀(x:TsS KI.as) (F:TsF KI.fs) (y:TsS KI.cs),ic lp jn x.1 y.1=br lp jn (cx [] [(32,r32),(92,r92),(112,aY)]) ak 4 142 f142 KI x F y:=fun x F y=>by kernel_rfl
theorem Ra:KI.ok prog 142:=Ctr.of_den (ao (q32)) aB (hl:=ak) (d:=4) func142 rfl (by decide) (U5 lpK jnK)
def jh (_:Lp) (_:Jn) (bE:QO) (x0:Int):Option ((Int×Unit)->Option Bool) :=
 some fun (x:Int×PUnit)=>bE x.1 x0
def cG (x0:Int):Option ((Int×Unit)->Option Bool):=jh lpK jnK bE x0
abbrev Rl:=(Int)->Option ((Int×Unit)->Option Bool)
def QI:FCtr:=⟨[i64],[i64],.bool,fun x=>cG x.1⟩
theorem Ut (lp:Lp) (jn:Jn) (bE:QO):∀x:TsS QI.as,jh lp jn bE x.1=PO lp jn (cx [(142,⟨[i64],[],[i64],.one .bool,fun x _ y=>bE x.1 y.1⟩)] [(32,r32),(92,r92),(112,aY)]) ak 4 141 f141 QI x:=fun x=>by kernel_rfl
theorem QE:QI.ok prog 141:=FCtr.of_den (ao (aa (q32) (by kernel_rfl) Ra)) aB (hl:=ak) (d:=4) func141 rfl (by decide) (Ut lpK jnK bE)
def ga (lp:Lp) (_:Jn) (x0:List Int) (f0:((Int×Unit)->Option Bool)):Option Int :=
 lp (Int×PUnit) Int (fun (again:Int×PUnit->Option Int) (x:Int×PUnit)=>bif decide (x.1<(↑x0.length:Int)) then bif inB x.1 x0.length then af (f0 (x0.getD x.1.toNat 0,PUnit.unit)) fun (t:Bool)=>bif t then some x.1 else again (IntKind.wrap .i64 (x.1+1),PUnit.unit) else none else some (-1)) (0,PUnit.unit)
def bn (x0:List Int) (f0:((Int×Unit)->Option Bool)):Option Int:=ga lpK jnK x0 f0
abbrev Pr:=(List Int)->(((Int×Unit)->Option Bool))->Option (Int)
def SH (bn:Pr):Ctr:=⟨[(.sl i64)],[([i64],.bool)],[],.one i64,fun x F _=>bn x.1 F.1⟩
def Jt:Ctr:=SH bn
theorem UM (lp:Lp) (jn:Jn):∀(x:TsS Jt.as) (F:TsF Jt.fs) (y:TsS Jt.cs),ga lp jn x.1 F.1=br lp jn (cx [] [(32,r32),(92,r92),(112,aY)]) ak 4 174 f174 Jt x F y:=fun x F y=>by kernel_rfl
theorem Su:Jt.ok prog 174:=Ctr.of_den (ao (q32)) aB (hl:=ak) (d:=4) func174 rfl (by decide) (UM lpK jnK)
def fF (_:Lp) (_:Jn) (bn:Pr) (x0:List Int) (f0:((Int×Unit)->Option Bool)):Option Bool :=
 af (bn x0 f0) fun (t:Int)=>some (decide (t>=0))
def aM (x0:List Int) (f0:((Int×Unit)->Option Bool)):Option Bool:=fF lpK jnK bn x0 f0
abbrev Qv:=(List Int)->(((Int×Unit)->Option Bool))->Option (Bool)
def Td (aM:Qv):Ctr:=⟨[(.sl i64)],[([i64],.bool)],[],.one .bool,fun x F _=>aM x.1 F.1⟩
def Ir:Ctr:=Td aM
theorem Uk (lp:Lp) (jn:Jn) (bn:Pr):∀(x:TsS Ir.as) (F:TsF Ir.fs) (y:TsS Ir.cs),fF lp jn bn x.1 F.1=br lp jn (cx [(174,SH bn)] [(32,r32),(92,r92),(112,aY)]) ak 4 143 f143 Ir x F y:=fun x F y=>by kernel_rfl
theorem QS:Ir.ok prog 143:=Ctr.of_den (ao (aa (q32) (by kernel_rfl) Su)) aB (hl:=ak) (d:=4) func143 rfl (by decide) (Uk lpK jnK bn)
def je (lp:Lp) (_:Jn) (x0:List ((List Int)×Int×Int)) (f0:((((List Int)×Int×Int)×Unit)->Option Bool)):Option Int :=
 lp (Int×PUnit) Int (fun (again:Int×PUnit->Option Int) (x:Int×PUnit)=>bif decide (x.1<(↑x0.length:Int)) then bif inB x.1 x0.length then af (f0 (x0.getD x.1.toNat ([],0,0),PUnit.unit)) fun (t:Bool)=>bif t then some x.1 else again (IntKind.wrap .i64 (x.1+1),PUnit.unit) else none else some (-1)) (0,PUnit.unit)
def bS (x0:List ((List Int)×Int×Int)) (f0:((((List Int)×Int×Int)×Unit)->Option Bool)):Option Int:=je lpK jnK x0 f0
abbrev Qj:=(List ((List Int)×Int×Int))->(((((List Int)×Int×Int)×Unit)->Option Bool))->Option (Int)
def SA (bS:Qj):Ctr:=⟨[(.sl B0)],[([B0],.bool)],[],.one i64,fun x F _=>bS x.1 F.1⟩
def Jj:Ctr:=SA bS
theorem TU (lp:Lp) (jn:Jn):∀(x:TsS Jj.as) (F:TsF Jj.fs) (y:TsS Jj.cs),je lp jn x.1 F.1=br lp jn (cx [] [(32,r32),(92,r92),(112,aY)]) ak 4 175 f175 Jj x F y:=fun x F y=>by kernel_rfl
theorem QV:Jj.ok prog 175:=Ctr.of_den (ao (q32)) aB (hl:=ak) (d:=4) func175 rfl (by decide) (TU lpK jnK)
def hH (_:Lp) (_:Jn) (bS:Qj) (x0:List ((List Int)×Int×Int)) (f0:((((List Int)×Int×Int)×Unit)->Option Bool)):Option Bool :=
 af (bS x0 f0) fun (t:Int)=>some (decide (t>=0))
def bW (x0:List ((List Int)×Int×Int)) (f0:((((List Int)×Int×Int)×Unit)->Option Bool)):Option Bool:=hH lpK jnK bS x0 f0
def SL (bW:(List ((List Int)×Int×Int))->(((((List Int)×Int×Int)×Unit)->Option Bool))->Option (Bool)):Ctr:=⟨[(.sl B0)],[([B0],.bool)],[],.one .bool,fun x F _=>bW x.1 F.1⟩
def JI:Ctr:=SL bW
theorem T8 (lp:Lp) (jn:Jn) (bS:Qj):∀(x:TsS JI.as) (F:TsF JI.fs) (y:TsS JI.cs),hH lp jn bS x.1 F.1=br lp jn (cx [(175,SA bS)] [(32,r32),(92,r92),(112,aY)]) ak 4 144 f144 JI x F y:=fun x F y=>by kernel_rfl
theorem R1:JI.ok prog 144:=Ctr.of_den (ao (aa (q32) (by kernel_rfl) QV)) aB (hl:=ak) (d:=4) func144 rfl (by decide) (T8 lpK jnK bS)
def kG (lp:Lp) (_:Jn) (aM:Qv) (_:(List ((List Int)×Int×Int))->(((((List Int)×Int×Int)×Unit)->Option Bool))->Option (Bool)) (cG:Rl) (x0:(List Int)×List ((List Int)×Int×Int)):Option Bool :=
 
 let v3:Bool:=decide ((↑x0.1.length:Int)<1);
 let v4:Bool:=!v3;
 let v5:Bool:=bif v3 then true else decide ((↑x0.1.length:Int)>12);
 let v6:Bool:=!v4||v4;
 let v7:Bool:=!v5;
 let v8:Bool:=bif v5 then true else decide ((↑x0.2.length:Int)>6);
 let v9:Bool:=!v8;
 let v10:Bool:=!v7||v7;
 let v11:Bool:=!v9||v9;bif v6 then bif v6 then bif v6 then bif v3||v4 then bif v10 then bif v10 then bif v10 then bif v5||v7 then bif v11 then bif v11 then af (bif v9 then cG 1048576 else some fun (_:Int×PUnit)=>none) fun (t:Int×PUnit->Option Bool)=>bif v11&&v11 then af (bif v9 then aM x0.1 t else some false) fun (t:Bool)=>bif v8||v9 then bif bif v8 then true else t then some false else lp (Int×PUnit) Bool (fun (again:Int×PUnit->Option Bool) (x:Int×PUnit) =>
 let v16:List Int×Int×Int:=x0.2.getD x.1.toNat ([],0,0);
 let v17:Bool:=decide (v16.2.1<1);
 let v18:Bool:=decide (v16.2.1>3);
 let v19:Bool:=!decide ((↑v16.1.length:Int)=(↑x0.1.length:Int));
 let v20:Bool:=!v19;
 let v21:Bool:=!v20||v20;bif decide (x.1<(↑x0.2.length:Int)) then bif inB x.1 x0.2.length then bif v21 then bif v21 then af (bif v20 then cG 1048576 else some fun (_:Int×PUnit)=>none) fun (t:Int×PUnit->Option Bool)=>bif v21&&v21 then af (bif v20 then aM v16.1 t else some false) fun (t:Bool) =>
 let v24:Bool:=bif v19 then true else t;
 let v25:Bool:=!v24;
 let v26:Bool:=bif v24 then true else v17;
 let v27:Bool:=!v26;
 let v28:Bool:=bif v26 then true else v18;
 let v29:Bool:=!v25||v25;
 let v30:Bool:=!v28;
 let v31:Bool:=!v27||v27;
 let v32:Bool:=!v30||v30;bif v19||v20 then bif v29 then bif v29 then bif v24||v25 then bif v31 then bif v31 then bif v26||v27 then bif v32 then af (bif v30 then cG 1073741824 else some fun (_:Int×PUnit)=>none) fun (t:Int×PUnit->Option Bool)=>bif v32 then bif v32&&v32 then af (bif v30 then t (v16.2.2, PUnit.unit) else some false) fun (t:Bool)=>bif v28||v30 then bif bif v28 then true else t then some !decide (x.1>=0) else again (IntKind.wrap .i64 (x.1+(1 : Int)),PUnit.unit) else none else none else none else none else none else none else none else none else none else none else none else none else none else none else none else some !decide ((-1:Int)>=0)) (0,PUnit.unit) else none else none else none else none else none else none else none else none else none else none else none else none
def aR (x0:(List Int)×List ((List Int)×Int×Int)):Option Bool:=kG lpK jnK aM bW cG x0
abbrev t99:=((List Int)×List ((List Int)×Int×Int))->Option (Bool)
def k99 (aR:t99):Ctr:=⟨[T82],[],[],.one .bool,fun x _ _=>aR x.1⟩
def c99:Ctr:=k99 aR
theorem e99 (lp:Lp) (jn:Jn) (aM:Qv) (bW:(List ((List Int)×Int×Int))->(((((List Int)×Int×Int)×Unit)->Option Bool))->Option (Bool)) (cG:Rl):∀(x:TsS c99.as) (F:TsF c99.fs) (y:TsS c99.cs),kG lp jn aM bW cG x.1=br lp jn (vA wa xP (QU [(141,⟨[i64],[i64],.bool,fun x=>cG x.1⟩)] (ib prog shs rz its [(144,SL bW),(143,Td aM)] [(32,r32),(92,r92),(112,aY)]))) ak 4 99 f99 c99 x F y:=fun x F y=>by kernel_rfl
theorem P7:c99.ok prog 99:=Ctr.of_den (ao (M6 (aa (aa (q32) (by kernel_rfl) QS) (by kernel_rfl) R1) (Hs (by kernel_rfl) QE (Lh)))) aB (hl:=ak) (d:=4) func99 rfl (by decide) (e99 lpK jnK aM bW cG)
def pO (_:Lp) (_:Jn) (x0:Int):Option Int :=
 
 let v3:Int:=IntKind.wrap .u64 x0;bif decide (x0<0) then some (IntKind.wrap .u64 (0 - v3)) else some v3
def bO (x0:Int):Option Int:=pO lpK jnK x0
abbrev J4:=(Int)->Option (Int)
def PR (bO:J4):Ctr:=⟨[i64],[],[],.one (.int .u64),fun x _ _=>bO x.1⟩
def LW:Ctr:=PR bO
theorem TP (lp:Lp) (jn:Jn):∀(x:TsS LW.as) (F:TsF LW.fs) (y:TsS LW.cs),pO lp jn x.1=br lp jn (cx [] [(32,r32),(92,r92),(112,aY)]) ak 4 147 f147 LW x F y:=fun x F y=>by kernel_rfl
theorem OE:LW.ok prog 147:=Ctr.of_den (ao (q32)) aB (hl:=ak) (d:=4) func147 rfl (by decide) (TP lpK jnK)
def nP (lp:Lp) (_:Jn) (bO:J4) (x0:List Int) (x1:Int):Option Int :=
 af (bO x1) fun (t:Int)=>lp (Int×Int×PUnit) Int (fun (again:Int×Int×PUnit->Option Int) (x:Int×Int×PUnit)=>bif decide (x.2.1<(↑x0.length : Int)) then bif inB x.2.1 x0.length then af (bO (x0.getD x.2.1.toNat 0)) fun (t:Int)=>again (IntKind.wrap .i64 (x.1 + IntKind.wrap .i64 t),IntKind.wrap .i64 (x.2.1+1),PUnit.unit) else none else some x.1) (IntKind.wrap .i64 (1+IntKind.wrap .i64 t), 0,PUnit.unit)
def dY (x0:List Int) (x1:Int):Option Int:=nP lpK jnK bO x0 x1
abbrev Sg:=(List Int)->(Int)->Option (Int)
def Lw:Ctr:=⟨[(.sl i64),i64],[],[],.one i64,fun x _ _=>dY x.1 x.2.1⟩
theorem Uf (lp:Lp) (jn:Jn) (bO:J4):∀(x:TsS Lw.as) (F:TsF Lw.fs) (y:TsS Lw.cs),nP lp jn bO x.1 x.2.1=br lp jn (cx [(147,PR bO)] [(32,r32),(92,r92),(112,aY)]) ak 4 146 f146 Lw x F y:=fun x F y=>by kernel_rfl
theorem SK:Lw.ok prog 146:=Ctr.of_den (ao (aa (q32) (by kernel_rfl) OE)) aB (hl:=ak) (d:=4) func146 rfl (by decide) (Uf lpK jnK bO)
def nF (lp:Lp) (jn:Jn) (x0:List Int):Option Int :=
 jn PUnit Int (fun (_:PUnit)=>bif inB 0 x0.length then lp (Int×Int×PUnit) Int (fun (again:Int×Int×PUnit->Option Int) (x:Int×Int×PUnit)=>bif decide (x.2.1<(↑x0.length:Int)) then bif inB x.2.1 x0.length then again (if x0.getD x.2.1.toNat 0>x.1 then x0.getD x.2.1.toNat 0 else x.1,IntKind.wrap .i64 (x.2.1+1),PUnit.unit) else none else some x.1) (x0.getD 0 0,1,PUnit.unit) else none) fun (j:PUnit->Option Int)=>bif decide ((↑x0.length:Int)<1) then none else j PUnit.unit
def eJ (x0:List Int):Option Int:=nF lpK jnK x0
abbrev SQ:=(List Int)->Option (Int)
def Je:Ctr:=⟨[(.sl i64)],[],[],.one i64,fun x _ _=>eJ x.1⟩
theorem TD (lp:Lp) (jn:Jn):∀(x:TsS Je.as) (F:TsF Je.fs) (y:TsS Je.cs),nF lp jn x.1=br lp jn (cx [] [(32,r32),(92,r92),(112,aY)]) ak 4 148 f148 Je x F y:=fun x F y=>by kernel_rfl
theorem R5:Je.ok prog 148:=Ctr.of_den (ao (q32)) aB (hl:=ak) (d:=4) func148 rfl (by decide) (TD lpK jnK)
def pw (lp:Lp) (_:Jn) (dY:Sg) (eJ:SQ) (x0:(List Int)×List ((List Int)×Int×Int)):Option Bool :=
 af (dY x0.1 0) fun (t:Int)=>lp (List Int×Int×PUnit) Bool (fun (again:List Int×Int×PUnit->Option Bool) (x:List Int×Int×PUnit) =>
 let v6:List Int×Int×Int:=x0.2.getD x.2.1.toNat ([],0,0);bif decide (x.2.1<(↑x0.2.length:Int)) then bif inB x.2.1 x0.2.length then af (dY v6.1 v6.2.2) fun (t:Int)=>bif eo (List.length x.1+1) 8 then again (x.1++[t],IntKind.wrap .i64 (x.2.1+1),PUnit.unit) else none else none else lp (Int×Int×PUnit) Bool (fun (again:Int×Int×PUnit->Option Bool) (x_1:Int×Int×PUnit) =>
 let v9:Int:=x.1.getD x_1.2.1.toNat 0;bif decide (x_1.2.1<(↑x.1.length:Int)) then bif inB x_1.2.1 x.1.length then bif Nat.ble (Nat.succ x_1.2.1.toNat) x.1.length then bif nzB v9 then bif decide (x_1.1>IntKind.wrap .i64 (Int.tdiv 17592186044416 v9)) then some false else again (IntKind.wrap .i64 (x_1.1*v9),IntKind.wrap .i64 (x_1.2.1+1),PUnit.unit) else none else none else none else af (eJ x.1) fun (t : Int)=>bif nzB t then some (decide (x_1.1<=IntKind.wrap .i64 (Int.tdiv 144115188075855872 t))) else none) (1,0,PUnit.unit)) ([t],0, PUnit.unit)
def cf (x0:(List Int)×List ((List Int)×Int×Int)):Option Bool:=pw lpK jnK dY eJ x0
abbrev H6:=((List Int)×List ((List Int)×Int×Int))->Option (Bool)
def Qm (cf:H6):Ctr:=⟨[T82],[],[],.one .bool,fun x _ _=>cf x.1⟩
def LU:Ctr:=Qm cf
theorem Tn (lp:Lp) (jn:Jn) (dY:Sg) (eJ:SQ):∀(x:TsS LU.as) (F:TsF LU.fs) (y:TsS LU.cs),pw lp jn dY eJ x.1=br lp jn (cx [(148,⟨[(.sl i64)],[],[],.one i64,fun x _ _=>eJ x.1⟩),(146,⟨[(.sl i64),i64],[],[],.one i64,fun x _ _=>dY x.1 x.2.1⟩)] [(32,r32),(92,r92),(112,aY)]) ak 4 100 f100 LU x F y:=fun x F y=>by kernel_rfl
theorem OP:LU.ok prog 100:=Ctr.of_den (ao (aa (aa (q32) (by kernel_rfl) SK) (by kernel_rfl) R5)) aB (hl:=ak) (d:=4) func100 rfl (by decide) (Tn lpK jnK dY eJ)
def gM (lp:Lp) (_:Jn) (x0:(List (List Int))×Int×(List Int)×(List Int)×(List Int)×Int×Int) (x1:Int):Option Int :=
 lp (Int×Int×PUnit) Int (fun (again:Int×Int×PUnit->Option Int) (x:Int×Int×PUnit) =>
 let v6:Int×PUnit:=(IntKind.wrap .i64 (x.2.1+1),PUnit.unit);
 let v7:List Int:=x0.1.getD x.2.1.toNat [];bif decide (x.2.1<(↑x0.1.length:Int)) then bif inB x.2.1 x0.1.length then bif inB x.2.1 x0.2.2.1.length then bif decide (x0.2.2.1.getD x.2.1.toNat 0>=x0.2.2.2.2.2.1) then bif inB x1 v7.length then again (IntKind.wrap .i64 (x.1+v7.getD x1.toNat 0),v6) else none else again (x.1,v6) else none else none else some x.1) (0,0,PUnit.unit)
def au (x0:(List (List Int))×Int×(List Int)×(List Int)×(List Int)×Int×Int) (x1:Int):Option Int:=gM lpK jnK x0 x1
abbrev K8:=((List (List Int))×Int×(List Int)×(List Int)×(List Int)×Int×Int)->(Int)->Option (Int)
def P9 (au:K8):PCtr:=⟨GY,[i64],.one i64,fun x y=>au x y.1⟩
def Oo:PCtr:=P9 au
theorem TN (lp:Lp) (jn:Jn):∀(x:Oo.s.T) (y:TsS Oo.as),gM lp jn x y.1=Ek lp jn (cx [] [(32,r32),(92,r92),(112,aY)]) ak 4 106 f106 Oo x y:=fun x y=>by kernel_rfl
theorem O5:Oo.ok prog 106:=PCtr.of_den (ao (q32)) aB (hl:=ak) (d:=4) func106 rfl (by decide) (TN lpK jnK)
def pj (_:Lp) (_:Jn) (bC:D1) (bO:J4) (x0:Int) (x1:Int):Option (Bool×Int×Int) :=
 
 let v4:Bool:=!decide (decide (x0<0)=decide (x1<0));
 let v5:Bool:=!v4;
 let v6:Bool:=v5||v4;af (bO x0) fun (t:Int)=>af (bO x1) fun (t_1:Int)=>af (bC t t_1) fun (t:Int×Int×PUnit) =>
 let v10:Bool:=!decide (t.1=0);
 let v11:Bool:=v4&&!v10;bif v6 then bif v6 then bif !v11||v11 then bif (v5||v6)&&(v5||(v10||(v5||v11))) then bif v6 then some (bif v4 then bif v10 then true else !decide (t.2.1=0) else false,t.1,t.2.1) else none else none else none else none else none
def bz (x0:Int) (x1:Int):Option (Bool×Int×Int):=pj lpK jnK bC bO x0 x1
abbrev JO:=(Int)->(Int)->Option (Bool×Int×Int)
def P1 (bz:JO):Ctr:=⟨[i64,i64],[],[],.one tC,fun x _ _=>bz x.1 x.2.1⟩
def JU:Ctr:=P1 bz
theorem T4 (lp:Lp) (jn:Jn) (bC:D1) (bO:J4):∀(x:TsS JU.as) (F:TsF JU.fs) (y:TsS JU.cs),pj lp jn bC bO x.1 x.2.1=br lp jn (cx [(147,PR bO),(107,Ms bC)] [(32,r32),(92,r92),(112,aY)]) ak 4 176 f176 JU x F y:=fun x F y=>by kernel_rfl
theorem OO:JU.ok prog 176:=Ctr.of_den (ao (aa (aa (q32) (by kernel_rfl) Ii) (by kernel_rfl) OE)) aB (hl:=ak) (d:=4) func176 rfl (by decide) (T4 lpK jnK bC bO)
def hO (_:Lp) (_:Jn) (x0:Bool×Int×Int) (x1:Bool×Int×Int):Option Int :=
 
 let v4:Bool:=decide (x0.2.1=x1.2.1);
 let v5:Bool:=!v4;
 let v6:Bool:=v5||v4;
 let v7:Bool:=!v5||v5;
 let v8:Bool:=bif v5 then decide (x0.2.1<x1.2.1) else false;
 let v9:Bool:=!v8;
 let v10:Bool:=!v9;
 let v11:Bool:=v9&&v4;
 let v12:Bool:=v10||v9;
 let v13:Bool:=!v11||v11;bif v7 then bif v7 then bif v7&&v7 then bif v7 then bif v12 then bif v12 then bif v12&&v12 then bif v12 then bif v13 then bif v13 then bif v13&&v13 then bif (v10||v12)&&(v10||(v5||(v10||v11))) then bif v8||v9 then bif bif v8 then true else bif v4 then decide (x0.2.2<x1.2.2) else false then some (-1) else bif v6 then bif v6 then bif v6&&v6 then bif v6 then bif bif v4 then decide (x0.2.2=x1.2.2) else false then some 0 else some 1 else none else none else none else none else none else none else none else none else none else none else none else none else none else none else none else none else none
def av (x0:Bool×Int×Int) (x1:Bool×Int×Int):Option Int:=hO lpK jnK x0 x1
abbrev Ip:=(Bool×Int×Int)->(Bool×Int×Int)->Option (Int)
def Pw (av:Ip):Ctr:=⟨[tC,tC],[],[],.one i64,fun x _ _=>av x.1 x.2.1⟩
def HZ:Ctr:=Pw av
theorem UD (lp:Lp) (jn:Jn):∀(x:TsS HZ.as) (F:TsF HZ.fs) (y:TsS HZ.cs),hO lp jn x.1 x.2.1=br lp jn (cx [] [(32,r32),(92,r92),(112,aY)]) ak 4 192 f192 HZ x F y:=fun x F y=>by kernel_rfl
theorem OG:HZ.ok prog 192:=Ctr.of_den (ao (q32)) aB (hl:=ak) (d:=4) func192 rfl (by decide) (UD lpK jnK)
def iK (_:Lp) (jn:Jn) (av:Ip) (x0:Bool×Int×Int) (x1:Bool×Int×Int):Option (Bool×Int×Int) :=
 
 let v4:Bool:=!x0.1;
 let v5:Bool:=!x1.1;
 let v6:Bool:=!v4;
 let v7:Bool:=v4&&v5;
 let v8:Bool:=v6||v4;
 let v9:Bool:=!v7;
 let v10:Bool:=v9||v7;
 let v11:Bool:=!decide (x1.2.1=0);
 let v12:Bool:=v7&&!v11;
 let v13:Bool:=decide ((0:Int)<=0)&&decide ((0:Int)<=1);
 let v14:Bool:=!v12||v12;bif !decide (x0.1=x1.1) then bif v13 then bif decide (0<=wU x0.2.2 x1.2.2 0)&&decide (wU x0.2.2 x1.2.2 (0 : Int)<=1) then bif v8 then bif v8 then bif v8 then bif v10 then bif v10 then bif v10 then bif v14 then bif v14 then bif (v9||v10)&&(v9||(v11||(v9||v12))) then bif (v6 || v8)&&(v6||(!v5||(v6||v7))) then bif x0.1||v4 then some (bif x0.1 then true else bif v5 then bif v11 then true else !decide (x1.2.2=0) else false,BR x0.2.1 x1.2.1 (wU x0.2.2 x1.2.2 0),BR x0.2.2 x1.2.2 0) else none else none else none else none else none else none else none else none else none else none else none else none else none else af (av x0 x1) fun (t:Int)=>jn (Bool×(Bool×Int×Int)×(Bool×Int×Int)×PUnit) (Bool×Int×Int) (fun (x:Bool×(Bool×Int×Int)×(Bool×Int×Int)×PUnit) =>
 let v17:Bool:=!x.1;
 let v18:Bool:=v17||x.1;
 let v19:Bool:=!decide (wh x.2.1.2.1 x.2.2.1.2.1 (tS x.2.1.2.2 x.2.2.1.2.2 0)=0);
 let v20:Bool:=x.1&&!v19;bif v13 then bif decide (0<=tS x.2.1.2.2 x.2.2.1.2.2 0)&&decide (tS x.2.1.2.2 x.2.2.1.2.2 (0 : Int)<=1) then bif v18 then bif v18 then bif !v20||v20 then bif (v17||v18)&&(v17||(v19||(v17||v20))) then bif v18 then some (bif x.1 then bif v19 then true else !decide (wh x.2.1.2.2 x.2.2.1.2.2 0=0) else false,wh x.2.1.2.1 x.2.2.1.2.1 (tS x.2.1.2.2 x.2.2.1.2.2 (0 : Int)),wh x.2.1.2.2 x.2.2.1.2.2 0) else none else none else none else none else none else none else none) fun (j:Bool×(Bool×Int×Int)×(Bool×Int × Int)×PUnit->Option (Bool×Int×Int))=>bif decide (t<0) then j (v4,x1,x0,PUnit.unit) else j (x0.1,x0,x1,PUnit.unit)
def bI (x0:Bool×Int×Int) (x1:Bool×Int×Int):Option (Bool×Int×Int):=iK lpK jnK av x0 x1
abbrev Qi:=(Bool×Int×Int)->(Bool×Int×Int)->Option (Bool×Int×Int)
def Re (bI:Qi):Ctr:=⟨[tC,tC],[],[],.one tC,fun x _ _=>bI x.1 x.2.1⟩
def LP:Ctr:=Re bI
theorem UW (lp:Lp) (jn:Jn) (av:Ip):∀(x:TsS LP.as) (F:TsF LP.fs) (y:TsS LP.cs),iK lp jn av x.1 x.2.1=br lp jn (cx [(192,Pw av)] [(32,r32),(92,r92),(112,aY)]) ak 4 177 f177 LP x F y:=fun x F y=>by kernel_rfl
theorem RI:LP.ok prog 177:=Ctr.of_den (ao (aa (q32) (by kernel_rfl) OG)) aB (hl:=ak) (d:=4) func177 rfl (by decide) (UW lpK jnK av)
def sP (_:Lp) (jn:Jn) (x0:Int):Option Int :=
 jn (Int×Int×PUnit) Int (fun (x:Int×Int×PUnit)=>jn (Int×Int×PUnit) Int (fun (x:Int×Int×PUnit) =>
 let v5:Int:=IntKind.wrap IntKind.u8 x.1;
 let v6:Int:=IntKind.wrap IntKind.u8 (Int.fdiv x.1 (2 ^ 8));bif decide (x.1>=256) then bif decide ((0:Int)<=8) then bif inB v6 256 then some (IntKind.wrap .i64 (IntKind.wrap .i64 (x.2.1+8)+IntKind.wrap .i64 (fb { data:=List.toArray (List.append (List.append [(0:UInt8),(1 : UInt8),(2:UInt8),(2:UInt8),(3:UInt8),(3:UInt8),(3:UInt8),(3:UInt8),(4:UInt8),(4:UInt8),(4:UInt8),(4:UInt8),(4:UInt8),(4:UInt8),(4:UInt8),(4 : UInt8),(5:UInt8),(5:UInt8),(5:UInt8),(5:UInt8),(5:UInt8),(5:UInt8),(5:UInt8),(5:UInt8),(5:UInt8),(5:UInt8),(5:UInt8),(5:UInt8),(5:UInt8),(5 : UInt8),(5:UInt8),(5:UInt8),(6:UInt8),(6:UInt8),(6:UInt8),(6:UInt8),(6:UInt8),(6:UInt8),(6:UInt8),(6:UInt8),(6:UInt8),(6:UInt8),(6:UInt8),(6 : UInt8),(6:UInt8),(6:UInt8),(6:UInt8),(6:UInt8),(6:UInt8),(6:UInt8),(6:UInt8),(6:UInt8),(6:UInt8),(6:UInt8),(6:UInt8),(6:UInt8),(6:UInt8),(6 : UInt8),(6:UInt8),(6:UInt8),(6:UInt8),(6:UInt8),(6:UInt8),(6:UInt8)] [(7:UInt8),(7:UInt8),(7:UInt8),(7:UInt8),(7:UInt8),(7:UInt8),(7:UInt8),(7 : UInt8),(7:UInt8),(7:UInt8),(7:UInt8),(7:UInt8),(7:UInt8),(7:UInt8),(7:UInt8),(7:UInt8),(7:UInt8),(7:UInt8),(7:UInt8),(7:UInt8),(7:UInt8),(7 : UInt8),(7:UInt8),(7:UInt8),(7:UInt8),(7:UInt8),(7:UInt8),(7:UInt8),(7:UInt8),(7:UInt8),(7:UInt8),(7:UInt8),(7:UInt8),(7:UInt8),(7:UInt8),(7 : UInt8),(7:UInt8),(7:UInt8),(7:UInt8),(7:UInt8),(7:UInt8),(7:UInt8),(7:UInt8),(7:UInt8),(7:UInt8),(7:UInt8),(7:UInt8),(7:UInt8),(7:UInt8),(7 : UInt8),(7:UInt8),(7:UInt8),(7:UInt8),(7:UInt8),(7:UInt8),(7:UInt8),(7:UInt8),(7:UInt8),(7:UInt8),(7:UInt8),(7:UInt8),(7:UInt8),(7:UInt8),(7 : UInt8)]) (List.append [(8:UInt8),(8:UInt8),(8:UInt8),(8:UInt8),(8:UInt8),(8:UInt8),(8:UInt8),(8:UInt8),(8:UInt8),(8:UInt8),(8:UInt8),(8:UInt8),(8 : UInt8),(8:UInt8),(8:UInt8),(8:UInt8),(8:UInt8),(8:UInt8),(8:UInt8),(8:UInt8),(8:UInt8),(8:UInt8),(8:UInt8),(8:UInt8),(8:UInt8),(8:UInt8),(8 : UInt8),(8:UInt8),(8:UInt8),(8:UInt8),(8:UInt8),(8:UInt8),(8:UInt8),(8:UInt8),(8:UInt8),(8:UInt8),(8:UInt8),(8:UInt8),(8:UInt8),(8:UInt8),(8 : UInt8),(8:UInt8),(8:UInt8),(8:UInt8),(8:UInt8),(8:UInt8),(8:UInt8),(8:UInt8),(8:UInt8),(8:UInt8),(8:UInt8),(8:UInt8),(8:UInt8),(8:UInt8),(8 : UInt8),(8:UInt8),(8:UInt8),(8:UInt8),(8:UInt8),(8:UInt8),(8:UInt8),(8:UInt8),(8:UInt8),(8:UInt8)] [(8:UInt8),(8:UInt8),(8:UInt8),(8:UInt8),(8 : UInt8),(8:UInt8),(8:UInt8),(8:UInt8),(8:UInt8),(8:UInt8),(8:UInt8),(8:UInt8),(8:UInt8),(8:UInt8),(8:UInt8),(8:UInt8),(8:UInt8),(8:UInt8),(8 : UInt8),(8:UInt8),(8:UInt8),(8:UInt8),(8:UInt8),(8:UInt8),(8:UInt8),(8:UInt8),(8:UInt8),(8:UInt8),(8:UInt8),(8:UInt8),(8:UInt8),(8:UInt8),(8 : UInt8),(8:UInt8),(8:UInt8),(8:UInt8),(8:UInt8),(8:UInt8),(8:UInt8),(8:UInt8),(8:UInt8),(8:UInt8),(8:UInt8),(8:UInt8),(8:UInt8),(8:UInt8),(8 : UInt8),(8:UInt8),(8:UInt8),(8:UInt8),(8:UInt8),(8:UInt8),(8:UInt8),(8:UInt8),(8:UInt8),(8:UInt8),(8:UInt8),(8:UInt8),(8:UInt8),(8:UInt8),(8 : UInt8),(8:UInt8),(8:UInt8),(8:UInt8)])) } v6.toNat))) else none else none else bif inB v5 256 then some (IntKind.wrap .i64 (x.2.1+IntKind.wrap IntKind.i64 (fb { data:=List.toArray (List.append (List.append [(0:UInt8),(1:UInt8),(2:UInt8),(2:UInt8),(3:UInt8),(3:UInt8),(3:UInt8),(3:UInt8),(4 : UInt8),(4:UInt8),(4:UInt8),(4:UInt8),(4:UInt8),(4:UInt8),(4:UInt8),(4:UInt8),(5:UInt8),(5:UInt8),(5:UInt8),(5:UInt8),(5:UInt8),(5:UInt8),(5 : UInt8),(5:UInt8),(5:UInt8),(5:UInt8),(5:UInt8),(5:UInt8),(5:UInt8),(5:UInt8),(5:UInt8),(5:UInt8),(6:UInt8),(6:UInt8),(6:UInt8),(6:UInt8),(6 : UInt8),(6:UInt8),(6:UInt8),(6:UInt8),(6:UInt8),(6:UInt8),(6:UInt8),(6:UInt8),(6:UInt8),(6:UInt8),(6:UInt8),(6:UInt8),(6:UInt8),(6:UInt8),(6 : UInt8),(6:UInt8),(6:UInt8),(6:UInt8),(6:UInt8),(6:UInt8),(6:UInt8),(6:UInt8),(6:UInt8),(6:UInt8),(6:UInt8),(6:UInt8),(6:UInt8),(6:UInt8)] [(7 : UInt8),(7:UInt8),(7:UInt8),(7:UInt8),(7:UInt8),(7:UInt8),(7:UInt8),(7:UInt8),(7:UInt8),(7:UInt8),(7:UInt8),(7:UInt8),(7:UInt8),(7:UInt8),(7 : UInt8),(7:UInt8),(7:UInt8),(7:UInt8),(7:UInt8),(7:UInt8),(7:UInt8),(7:UInt8),(7:UInt8),(7:UInt8),(7:UInt8),(7:UInt8),(7:UInt8),(7:UInt8),(7 : UInt8),(7:UInt8),(7:UInt8),(7:UInt8),(7:UInt8),(7:UInt8),(7:UInt8),(7:UInt8),(7:UInt8),(7:UInt8),(7:UInt8),(7:UInt8),(7:UInt8),(7:UInt8),(7 : UInt8),(7:UInt8),(7:UInt8),(7:UInt8),(7:UInt8),(7:UInt8),(7:UInt8),(7:UInt8),(7:UInt8),(7:UInt8),(7:UInt8),(7:UInt8),(7:UInt8),(7:UInt8),(7 : UInt8),(7:UInt8),(7:UInt8),(7:UInt8),(7:UInt8),(7:UInt8),(7:UInt8),(7:UInt8)]) (List.append [(8:UInt8),(8:UInt8),(8:UInt8),(8:UInt8),(8:UInt8),(8 : UInt8),(8:UInt8),(8:UInt8),(8:UInt8),(8:UInt8),(8:UInt8),(8:UInt8),(8:UInt8),(8:UInt8),(8:UInt8),(8:UInt8),(8:UInt8),(8:UInt8),(8:UInt8),(8 : UInt8),(8:UInt8),(8:UInt8),(8:UInt8),(8:UInt8),(8:UInt8),(8:UInt8),(8:UInt8),(8:UInt8),(8:UInt8),(8:UInt8),(8:UInt8),(8:UInt8),(8:UInt8),(8 : UInt8),(8:UInt8),(8:UInt8),(8:UInt8),(8:UInt8),(8:UInt8),(8:UInt8),(8:UInt8),(8:UInt8),(8:UInt8),(8:UInt8),(8:UInt8),(8:UInt8),(8:UInt8),(8 : UInt8),(8:UInt8),(8:UInt8),(8:UInt8),(8:UInt8),(8:UInt8),(8:UInt8),(8:UInt8),(8:UInt8),(8:UInt8),(8:UInt8),(8:UInt8),(8:UInt8),(8:UInt8),(8 : UInt8),(8:UInt8),(8:UInt8)] [(8:UInt8),(8:UInt8),(8:UInt8),(8:UInt8),(8:UInt8),(8:UInt8),(8:UInt8),(8:UInt8),(8:UInt8),(8:UInt8),(8:UInt8),(8 : UInt8),(8:UInt8),(8:UInt8),(8:UInt8),(8:UInt8),(8:UInt8),(8:UInt8),(8:UInt8),(8:UInt8),(8:UInt8),(8:UInt8),(8:UInt8),(8:UInt8),(8:UInt8),(8 : UInt8),(8:UInt8),(8:UInt8),(8:UInt8),(8:UInt8),(8:UInt8),(8:UInt8),(8:UInt8),(8:UInt8),(8:UInt8),(8:UInt8),(8:UInt8),(8:UInt8),(8:UInt8),(8 : UInt8),(8:UInt8),(8:UInt8),(8:UInt8),(8:UInt8),(8:UInt8),(8:UInt8),(8:UInt8),(8:UInt8),(8:UInt8),(8:UInt8),(8:UInt8),(8:UInt8),(8:UInt8),(8 : UInt8),(8:UInt8),(8:UInt8),(8:UInt8),(8:UInt8),(8:UInt8),(8:UInt8),(8:UInt8),(8:UInt8),(8:UInt8),(8:UInt8)])) } v5.toNat))) else none) fun (j:Int × Int×PUnit->Option Int)=>bif decide (x.1>=65536) then bif decide ((0:Int)<=16) then j (Int.fdiv x.1 (2 ^ 16),IntKind.wrap .i64 (x.2.1+16),PUnit.unit) else none else j (x.1,x.2.1,PUnit.unit)) fun (j:Int×Int×PUnit->Option Int)=>bif decide (x0>=4294967296) then bif decide (0<=32) then j (Int.fdiv x0 (2 ^ 32),32,PUnit.unit) else none else j (x0,0,PUnit.unit)
def fP (x0:Int):Option Int:=sP lpK jnK x0
abbrev Q7:=(Int)->Option (Int)
def LO:Ctr:=⟨[(.int .u64)],[],[],.one i64,fun x _ _=>fP x.1⟩
theorem TY (lp:Lp) (jn:Jn):∀(x:TsS LO.as) (F:TsF LO.fs) (y:TsS LO.cs),sP lp jn x.1=br lp jn (cx [] [(32,r32),(92,r92),(112,aY)]) ak 4 194 f194 LO x F y:=fun x F y=>by kernel_rfl
theorem SI:LO.ok prog 194:=Ctr.of_den (ao (q32)) aB (hl:=ak) (d:=4) func194 rfl (by decide) (TY lpK jnK)
def gB (_:Lp) (_:Jn) (fP:Q7) (x0:Int):Option Int :=
 af (fP x0) fun (t:Int)=>some (IntKind.wrap .i64 (64 - t))
def cn (x0:Int):Option Int:=gB lpK jnK fP x0
abbrev S4:=(Int)->Option (Int)
def J7:Ctr:=⟨[(.int .u64)],[],[],.one i64,fun x _ _=>cn x.1⟩
theorem Tp (lp:Lp) (jn:Jn) (fP:Q7):∀(x:TsS J7.as) (F:TsF J7.fs) (y:TsS J7.cs),gB lp jn fP x.1=br lp jn (cx [(194,⟨[(.int .u64)],[],[],.one i64,fun x _ _=>fP x.1⟩)] [(32,r32),(92,r92),(112,aY)]) ak 4 193 f193 J7 x F y:=fun x F y=>by kernel_rfl
theorem QQ:J7.ok prog 193:=Ctr.of_den (ao (aa (q32) (by kernel_rfl) SI)) aB (hl:=ak) (d:=4) func193 rfl (by decide) (Tp lpK jnK fP)
def oZ (lp:Lp) (jn:Jn) (cn:S4) (x0:Int) (x1:Int) (x2:Int):Option (Int×Int×Unit) :=
 
 let v5:Bool:=nzB x2;
 let v6:Int:=2 ^ 32;
 let v7:Bool:=decide ((0:Int)<=32);jn PUnit (Int×Int×PUnit) (fun (_:PUnit)=>jn PUnit (Int×Int×PUnit) (fun (_:PUnit)=>bif decide (x0=0) then bif v5 then bif v5 then some (IntKind.wrap .u64 (Int.tdiv x1 x2),Int.tmod x1 x2,PUnit.unit) else none else none else af (cn x2) fun (t:Int) =>
 let v11:Int:=IntKind.wrap .u64 t;
 let v12:Bool:=decide (0<=v11);
 let v13:Int:=2 ^ min v11.toNat 64;
 let v14:Int:=IntKind.wrap .u64 (x2*v13);
 let v15:Int:=IntKind.wrap .u64 (x1*v13);
 let v16:Int:=Int.fdiv v14 v6;
 let v17:Int:=Int.fdiv v15 v6;
 let v18:Bool:=nzB v16;
 let v19:Int:=IntKind.wrap .u64 (↑(Nat.land (Int.toNat (v15 % Int.ofNat 18446744073709551616)) (Int.toNat (4294967295 % Int.ofNat 18446744073709551616))) : Int);
 let v20:Int:=IntKind.wrap .u64 (↑(Nat.land (Int.toNat (v14 % Int.ofNat 18446744073709551616)) (Int.toNat (4294967295 % Int.ofNat 18446744073709551616))) : Int);
 let v21:Int:=IntKind.wrap .u64 (↑(Nat.lor (Int.toNat (IntKind.wrap .u64 (x0*v13) % Int.ofNat 18446744073709551616)) (Int.toNat (Int.fdiv x1 (2 ^ min (Int.toNat (IntKind.wrap .u64 (64 - v11))) 64) % Int.ofNat 18446744073709551616))):Int);
 let v22:Int:=IntKind.wrap .u64 (Int.tdiv v21 v16);bif v12 then bif v7 then bif v12 then bif decide (0<=IntKind.wrap .u64 (64 - v11)) then bif v12 then bif v7 then bif v18 then jn (Int×PUnit) (Int×Int×PUnit) (fun (x:Int×PUnit) =>
 let v24:Int:=IntKind.wrap .u64 (IntKind.wrap .u64 (IntKind.wrap .u64 (v21*4294967296)+v17) - IntKind.wrap .u64 (x.1*v14));
 let v25:Int:=IntKind.wrap .u64 (Int.tdiv v24 v16);bif v18 then jn (Int×PUnit) (Int×Int×PUnit) (fun (x_1:Int×PUnit)=>bif v12 then some (IntKind.wrap .u64 (IntKind.wrap .u64 (x.1*4294967296)+x_1.1),Int.fdiv (IntKind.wrap .u64 (IntKind.wrap .u64 (IntKind.wrap .u64 (v24*4294967296) + v19) - IntKind.wrap .u64 (x_1.1*v14))) v13,PUnit.unit) else none) fun (j:Int×PUnit->Option (Int×Int×PUnit))=>lp (Int×Int×PUnit) (Int×Int×PUnit) (fun (again:Int×Int×PUnit->Option (Int×Int×PUnit)) (x:Int×Int×PUnit) =>
 let v29:Int×PUnit:=(IntKind.wrap .u64 (x.2.1 - 1),PUnit.unit);
 let v30:Bool:=decide (x.2.1>=4294967296);
 let v31:Bool:=!v30;
 let v32:Bool:=!v31||v31;
 let v33:Bool:=v32&&v32;bif v33 then bif v32 then bif v33 then bif v33 then bif v30||v31 then bif bif v30 then true else decide (IntKind.wrap .u64 (x.2.1*v20) > IntKind.wrap .u64 (IntKind.wrap .u64 (4294967296*x.1)+v19)) then bif decide (IntKind.wrap .u64 (x.1+v16)>=4294967296) then j v29 else again (IntKind.wrap .u64 (x.1+v16),v29) else j (x.2.1,PUnit.unit) else none else none else none else none else none) (IntKind.wrap .u64 (v24 - IntKind.wrap IntKind.u64 (v25*v16)),v25,PUnit.unit) else none) fun (j:Int×PUnit->Option (Int×Int×PUnit))=>lp (Int×Int×PUnit) (Int×Int×PUnit) (fun (again:Int×Int×PUnit -> Option (Int×Int×PUnit)) (x:Int×Int×PUnit) =>
 let v26:Int:=IntKind.wrap .u64 (x.1 - 1);
 let v27:Bool:=decide (x.1>=4294967296);
 let v28:Bool:=!v27;
 let v29:Bool:=!v28||v28;
 let v30:Bool:=v29&&v29;bif v30 then bif v29 then bif v30 then bif v30 then bif v27||v28 then bif bif v27 then true else decide (IntKind.wrap .u64 (x.1*v20) > IntKind.wrap .u64 (IntKind.wrap .u64 (4294967296*x.2.1)+v17)) then bif decide (IntKind.wrap .u64 (x.2.1+v16)>=4294967296) then j (v26,PUnit.unit) else again (v26,IntKind.wrap .u64 (x.2.1+v16),PUnit.unit) else j (x.1,PUnit.unit) else none else none else none else none else none) (v22, IntKind.wrap .u64 (v21 - IntKind.wrap .u64 (v22*v16)),PUnit.unit) else none else none else none else none else none else none else none) fun (j:PUnit->Option (Int × Int×PUnit))=>bif decide (x2<=x0) then none else j PUnit.unit) fun (j:PUnit->Option (Int×Int×PUnit))=>bif decide (x2=0) then none else j PUnit.unit
def cD (x0:Int) (x1:Int) (x2:Int):Option (Int×Int×Unit):=oZ lpK jnK cn x0 x1 x2
abbrev KL:=(Int)->(Int)->(Int)->Option (Int×Int×Unit)
def Qf (cD:KL):Ctr:=⟨[(.int .u64),(.int .u64),(.int .u64)],[],[],.tup [(.int .u64),(.int .u64)],fun x _ _=>cD x.1 x.2.1 x.2.2.1⟩
def Lx:Ctr:=Qf cD
theorem TC (lp:Lp) (jn:Jn) (cn:S4):∀(x:TsS Lx.as) (F:TsF Lx.fs) (y:TsS Lx.cs),oZ lp jn cn x.1 x.2.1 x.2.2.1=br lp jn (cx [(193,⟨[(.int .u64)],[],[],.one i64,fun x _ _=>cn x.1⟩)] [(32,r32),(92,r92),(112,aY)]) ak 4 185 f185 Lx x F y:=fun x F y=>by kernel_rfl
theorem OQ:Lx.ok prog 185:=Ctr.of_den (ao (aa (q32) (by kernel_rfl) QQ)) aB (hl:=ak) (d:=4) func185 rfl (by decide) (TC lpK jnK cn)
def jr (_:Lp) (_:Jn) (cD:KL) (x0:Bool×Int×Int) (x1:Int):Option Int :=
 af (cD x0.2.1 x0.2.2 (IntKind.wrap .u64 x1)) fun (t:Int×Int×PUnit) =>
 let v5:Int:=IntKind.wrap .i64 t.1;bif x0.1 then some (IntKind.wrap .i64 (0 - v5)) else some v5
def cA (x0:Bool×Int×Int) (x1:Int):Option Int:=jr lpK jnK cD x0 x1
abbrev Sk:=(Bool×Int×Int)->(Int)->Option (Int)
def KF:Ctr:=⟨[tC,i64],[],[],.one i64,fun x _ _=>cA x.1 x.2.1⟩
theorem Uz (lp:Lp) (jn:Jn) (cD:KL):∀(x:TsS KF.as) (F:TsF KF.fs) (y:TsS KF.cs),jr lp jn cD x.1 x.2.1=br lp jn (cx [(185,Qf cD)] [(32,r32),(92,r92),(112,aY)]) ak 4 178 f178 KF x F y:=fun x F y=>by kernel_rfl
theorem Sl:KF.ok prog 178:=Ctr.of_den (ao (aa (q32) (by kernel_rfl) OQ)) aB (hl:=ak) (d:=4) func178 rfl (by decide) (Uz lpK jnK cD)
def jz (lp:Lp) (_:Jn) (bz:JO) (bI:Qi) (cA:Sk) (x0:List Nat×List (Option (List Int))) (x1:Int) (x2:List Int) (x3:List Int) (x4:List Int) (x5:Int) (x6:Int) (x7:Int) (x8:Int):Option ((List Nat×List (Option (List Int)))×Int×(List Int)×(List Int)×(List Int)×Int×Int×Unit) :=
 
 let v11:List Int×List Int×List Int×Int×Int×PUnit:=(x2.set x7.toNat x8,x3,x4,x5,x6,PUnit.unit);bif inB x7 x0.1.length then bif Nat.ble (Nat.succ x7.toNat) x0.1.length then bif inB x8 (List.length (bu x0.2 (x0.1.getD x7.toNat 0))) then bif Nat.ble (Nat.succ x8.toNat) (List.length (bu x0.2 (x0.1.getD x7.toNat 0))) then lp (Int×(List Nat×List (Option (List Int)))×PUnit) ((List Nat×List (Option (List Int)))×Int×List Int×List Int×List Int×Int×Int×PUnit) (fun (again:Int×(List Nat×List (Option (List Int)))×PUnit->Option ((List Nat×List (Option (List Int)))×Int×List Int×List Int×List Int×Int×Int×PUnit)) (x:Int×(List Nat×List (Option (List Int)))×PUnit) =>
 let v14:Int:=IntKind.wrap .i64 (x.1+1);
 let v15:(List Nat×List (Option (List Int)))×PUnit:=(x.2.1,PUnit.unit);
 let v16:Int×(List Nat×List (Option (List Int)))×PUnit:=(0,v15);bif decide (x.1<(↑x0.1.length:Int)) then bif inB x.1 x.2.1.1.length then bif Nat.ble (Nat.succ x.1.toNat) x.2.1.1.length then bif decide (x.1=x7) then again (v14,v15) else bif inB x8 (List.length (bu x.2.1.2 (x.2.1.1.getD x.1.toNat 0))) then bif Nat.ble (Nat.succ x8.toNat) (List.length (bu x.2.1.2 (x.2.1.1.getD x.1.toNat 0))) then bif fS x.2.1.2 (x.2.1.1.getD x.1.toNat 0) then lp (Int×(List Nat×List (Option (List Int)))×PUnit) ((List Nat×List (Option (List Int)))×Int × List Int×List Int×List Int×Int×Int×PUnit) (fun (again_1:Int×(List Nat×List (Option (List Int)))×PUnit->Option ((List Nat×List (Option (List Int)))×Int×List Int × List Int×List Int×Int×Int×PUnit)) (x_1:Int×(List Nat×List (Option (List Int)))×PUnit)=>bif decide (x_1.1<(↑(List.length (bu x.2.1.2 (x.2.1.1.getD x.1.toNat 0))):Int)) then bif inB x_1.1 (List.length (bu x_1.2.1.2 (x.2.1.1.getD x.1.toNat 0))) then bif Nat.ble (Nat.succ x_1.1.toNat) (List.length (bu x_1.2.1.2 (x.2.1.1.getD x.1.toNat 0))) then af (bz (List.getD (bu x_1.2.1.2 (x.2.1.1.getD x.1.toNat 0)) x_1.1.toNat 0) (List.getD (bu x0.2 (x0.1.getD x7.toNat 0)) x8.toNat 0)) fun (t:Bool×Int×Int)=>bif inB x7 x_1.2.1.1.length then bif Nat.ble (Nat.succ x7.toNat) x_1.2.1.1.length then bif inB x_1.1 (List.length (bu x_1.2.1.2 (x_1.2.1.1.getD x7.toNat 0))) then bif Nat.ble (Nat.succ x_1.1.toNat) (List.length (bu x_1.2.1.2 (x_1.2.1.1.getD x7.toNat 0))) then af (bz (List.getD (bu x.2.1.2 (x.2.1.1.getD x.1.toNat 0)) x8.toNat 0) (List.getD (bu x_1.2.1.2 (x_1.2.1.1.getD x7.toNat 0)) x_1.1.toNat 0)) fun (t_1:Bool×Int×Int)=>af (bI t t_1) fun (t:Bool × Int×Int)=>af (cA t x1) fun (t:Int)=>bif inB x_1.1 (List.length (bu x_1.2.1.2 (x.2.1.1.getD x.1.toNat 0))) then bif Nat.ble (Nat.succ x_1.1.toNat) (List.length (bu x_1.2.1.2 (x.2.1.1.getD x.1.toNat 0))) then again_1 (IntKind.wrap .i64 (x_1.1+(1 : Int)),(x_1.2.1.1,x_1.2.1.2.set (x.2.1.1.getD x.1.toNat 0) (some (List.set (bu x_1.2.1.2 (x.2.1.1.getD x.1.toNat 0)) x_1.1.toNat t))),PUnit.unit) else none else none else none else none else none else none else none else none else again (v14,x_1.2.1,PUnit.unit)) v16 else none else none else none else none else none else bif inB x7 x2.length then bif Nat.ble (Nat.succ x7.toNat) x2.length then bif decide (List.getD (bu x0.2 (x0.1.getD x7.toNat 0)) x8.toNat 0<0) then lp (Int×(List Nat×List (Option (List Int)))×PUnit) ((List Nat×List (Option (List Int))) × Int×List Int×List Int×List Int×Int×Int×PUnit) (fun (again:Int×(List Nat×List (Option (List Int)))×PUnit->Option ((List Nat×List (Option (List Int)))×Int×List Int×List Int×List Int×Int×Int×PUnit)) (x_1:Int×(List Nat×List (Option (List Int)))×PUnit)=>bif decide (x_1.1<(↑x.2.1.1.length:Int)) then bif inB x_1.1 x_1.2.1.1.length then bif Nat.ble (Nat.succ x_1.1.toNat) x_1.2.1.1.length then bif fS x_1.2.1.2 (x_1.2.1.1.getD x_1.1.toNat 0) then lp (Int×(List Nat×List (Option (List Int)))×PUnit) ((List Nat×List (Option (List Int)))×Int×List Int×List Int×List Int×Int×Int×PUnit) (fun (again_1:Int×(List Nat×List (Option (List Int)))×PUnit->Option ((List Nat×List (Option (List Int)))×Int×List Int×List Int×List Int×Int×Int×PUnit)) (x:Int × (List Nat×List (Option (List Int)))×PUnit)=>bif decide (x.1<(↑(List.length (bu x_1.2.1.2 (x_1.2.1.1.getD x_1.1.toNat 0))):Int)) then bif inB x.1 (List.length (bu x.2.1.2 (x_1.2.1.1.getD x_1.1.toNat 0))) then bif Nat.ble (Nat.succ x.1.toNat) (List.length (bu x.2.1.2 (x_1.2.1.1.getD x_1.1.toNat 0))) then bif inB x.1 (List.length (bu x.2.1.2 (x_1.2.1.1.getD x_1.1.toNat 0))) then bif Nat.ble (Nat.succ x.1.toNat) (List.length (bu x.2.1.2 (x_1.2.1.1.getD x_1.1.toNat 0))) then again_1 (IntKind.wrap .i64 (x.1+(1 : Int)),(x.2.1.1,x.2.1.2.set (x_1.2.1.1.getD x_1.1.toNat 0) (some (List.set (bu x.2.1.2 (x_1.2.1.1.getD x_1.1.toNat 0)) x.1.toNat (IntKind.wrap .i64 (0 - List.getD (bu x.2.1.2 (x_1.2.1.1.getD x_1.1.toNat 0)) x.1.toNat 0))))),PUnit.unit) else none else none else none else none else again (IntKind.wrap .i64 (x_1.1+1),x.2.1,PUnit.unit)) (0,x_1.2.1, PUnit.unit) else none else none else none else some (x_1.2.1,IntKind.wrap .i64 (0 - List.getD (bu x0.2 (x0.1.getD x7.toNat 0)) x8.toNat 0),v11)) v16 else some (x.2.1,List.getD (bu x0.2 (x0.1.getD x7.toNat 0)) x8.toNat 0,v11) else none else none) (0,x0, PUnit.unit) else none else none else none else none
def aJ (x0:List Nat×List (Option (List Int))) (x1:Int) (x2:List Int) (x3:List Int) (x4:List Int) (x5:Int) (x6:Int) (x7:Int) (x8:Int):Option ((List Nat×List (Option (List Int)))×Int×(List Int)×(List Int)×(List Int)×Int×Int×Unit):=jz lpK jnK bz bI cA x0 x1 x2 x3 x4 x5 x6 x7 x8
abbrev HQ:=(List Nat×List (Option (List Int)))->(Int)->(List Int)->(List Int)->(List Int)->(Int)->(Int)->(Int)->(Int)->Option ((List Nat×List (Option (List Int)))×Int×(List Int)×(List Int)×(List Int)×Int×Int×Unit)
def Pu (aJ:HQ):SCtr:=⟨[.b [.x (.tab 79 .ref 3 i64),.d i64,.row 3 i64,.row 3 i64,.row 3 i64,.d i64,.d i64],.d i64,.d i64],[],fun x=>aJ x.1 x.2.1 x.2.2.1 x.2.2.2.1 x.2.2.2.2.1 x.2.2.2.2.2.1 x.2.2.2.2.2.2.1 x.2.2.2.2.2.2.2.1 x.2.2.2.2.2.2.2.2.1⟩
def O8:SCtr:=Pu aJ
theorem Uc (lp:Lp) (jn:Jn) (bz:JO) (bI:Qi) (cA:Sk):∀x:TsR (rhI 0 O8.ks),jz lp jn bz bI cA x.1 x.2.1 x.2.2.1 x.2.2.2.1 x.2.2.2.2.1 x.2.2.2.2.2.1 x.2.2.2.2.2.2.1 x.2.2.2.2.2.2.2.1 x.2.2.2.2.2.2.2.2.1=Kg lp jn (Dn.look []) (cx [(178,⟨[tC,i64],[],[],.one i64,fun x _ _=>cA x.1 x.2.1⟩),(177,Re bI),(176,P1 bz)] [(32,r32),(92,r92),(112,aY)]) ak 4 149 f149 O8 x:=fun x=>by kernel_rfl
theorem O0:O8.ok prog 149:=SCtr.of_den (ao (aa (aa (aa (q32) (by kernel_rfl) OO) (by kernel_rfl) RI) (by kernel_rfl) Sl)) aB (qj) (hl:=ak) (d:=4) func149 rfl (by decide) (Uc lpK jnK bz bI cA)
def jD (_:Lp) (_:Jn) (av:Ip) (x0:Bool×Int×Int) (x1:Bool×Int×Int):Option Int :=
 
 let v4:Bool:=!decide (x0.1=x1.1);
 let v5:Bool:=!v4||v4;bif v5 then bif v5 then bif bif v4 then x0.1 else false then some (-1) else bif v4 then some 1 else bif x0.1 then af (av x1 x0) fun (t:Int)=>some t else af (av x0 x1) fun (t:Int)=>some t else none else none
def cI (x0:Bool×Int×Int) (x1:Bool×Int×Int):Option Int:=jD lpK jnK av x0 x1
abbrev RU:=(Bool×Int×Int)->(Bool×Int×Int)->Option (Int)
def Lq:Ctr:=⟨[tC,tC],[],[],.one i64,fun x _ _=>cI x.1 x.2.1⟩
theorem UH (lp:Lp) (jn:Jn) (av:Ip):∀(x:TsS Lq.as) (F:TsF Lq.fs) (y:TsS Lq.cs),jD lp jn av x.1 x.2.1=br lp jn (cx [(192,Pw av)] [(32,r32),(92,r92),(112,aY)]) ak 4 179 f179 Lq x F y:=fun x F y=>by kernel_rfl
theorem Sj:Lq.ok prog 179:=Ctr.of_den (ao (aa (q32) (by kernel_rfl) OG)) aB (hl:=ak) (d:=4) func179 rfl (by decide) (UH lpK jnK av)
def iH (lp:Lp) (_:Jn) (bz:JO) (cI:RU) (x0:(List (List Int))×Int×(List Int)×(List Int)×(List Int)×Int×Int) (x1:Int):Option Int :=
 lp (Int×Int×PUnit) Int (fun (again:Int×Int×PUnit->Option Int) (x:Int×Int×PUnit) =>
 let v6:Int×PUnit:=(IntKind.wrap .i64 (x.2.1+1),PUnit.unit);
 let v7:Bool:=inB x.1 x0.1.length;
 let v8:List Int:=x0.1.getD x.1.toNat [];
 let v9:List Int:=x0.1.getD x.2.1.toNat [];
 let v10:Bool:=inB x1 v9.length;bif decide (x.2.1<(↑x0.1.length:Int)) then bif inB x.2.1 x0.1.length then bif v10 then bif decide (v9.getD x1.toNat 0<=0) then again (x.1,v6) else bif decide (x.1<0) then again (x.2.1,v6) else bif inB x0.2.2.2.2.2.2 v9.length then bif v7 then bif inB x1 v8.length then af (bz (v9.getD x0.2.2.2.2.2.2.toNat 0) (v8.getD x1.toNat 0)) fun (t:Bool × Int×Int)=>bif v7 then bif inB x0.2.2.2.2.2.2 v8.length then bif v10 then af (bz (v8.getD x0.2.2.2.2.2.2.toNat 0) (v9.getD x1.toNat 0)) fun (t_1:Bool×Int×Int)=>af (cI t t_1) fun (t:Int) =>
 let v14:Bool:=decide (t=0);
 let v15:Bool:=decide (t<0);
 let v16:Bool:=!v15;
 let v17:Bool:=!v16;
 let v18:Bool:=v16&&v14;
 let v19:Bool:=!v18;
 let v20:Bool:=v17||v16;
 let v21:Bool:=v19||v18;bif v20 then bif v20 then bif v21 then bif v21 then bif v21 then bif v21&&(v21&&(v19||inB x.2.1 x0.2.2.1.length)) then bif v21 then bif v21 then bif v21 then bif v21 then bif v21&&(v21&&(v19||inB x.1 x0.2.2.1.length)) then bif v21 then bif v21&&v21 then bif (v17||v20)&&(v17||(!v14 || (v17||v18))) then bif v15||v16 then bif bif v15 then true else bif v14 then decide (x0.2.2.1.getD x.2.1.toNat 0<x0.2.2.1.getD x.1.toNat 0) else false then again (x.2.1,v6) else again (x.1,v6) else none else none else none else none else none else none else none else none else none else none else none else none else none else none else none else none else none else none else none else none else none else none else none else some x.1) ((-1),0,PUnit.unit)
def aH (x0:(List (List Int))×Int×(List Int)×(List Int)×(List Int)×Int×Int) (x1:Int):Option Int:=iH lpK jnK bz cI x0 x1
abbrev J1:=((List (List Int))×Int×(List Int)×(List Int)×(List Int)×Int×Int)->(Int)->Option (Int)
def Qw (aH:J1):PCtr:=⟨GY,[i64],.one i64,fun x y=>aH x y.1⟩
def Mn:PCtr:=Qw aH
theorem U0 (lp:Lp) (jn:Jn) (bz:JO) (cI:RU):∀(x:Mn.s.T) (y:TsS Mn.as),iH lp jn bz cI x y.1=Ek lp jn (cx [(179,⟨[tC,tC],[],[],.one i64,fun x _ _=>cI x.1 x.2.1⟩),(176,P1 bz)] [(32,r32),(92,r92),(112,aY)]) ak 4 150 f150 Mn x y:=fun x y=>by kernel_rfl
theorem OM:Mn.ok prog 150:=PCtr.of_den (ao (aa (aa (q32) (by kernel_rfl) OO) (by kernel_rfl) Sj)) aB (hl:=ak) (d:=4) func150 rfl (by decide) (U0 lpK jnK bz cI)
def jx (lp:Lp) (_:Jn) (aJ:HQ) (au:K8) (aH:J1) (x0:List Nat×List (Option (List Int))) (x1:Int) (x2:List Int) (x3:List Int) (x4:List Int) (x5:Int) (x6:Int):Option ((List Nat×List (Option (List Int)))×Int×(List Int)×(List Int)×(List Int)×Int×Int×Bool×Unit) :=
 lp ((List Nat×List (Option (List Int)))×Int×List Int×List Int×List Int×Int×Int×PUnit) ((List Nat×List (Option (List Int)))×Int×List Int×List Int×List Int×Int × Int×Bool×PUnit) (fun (again:(List Nat×List (Option (List Int)))×Int×List Int×List Int×List Int×Int×Int×PUnit->Option ((List Nat×List (Option (List Int)))×Int × List Int×List Int×List Int×Int×Int×Bool×PUnit)) (x:(List Nat×List (Option (List Int)))×Int×List Int×List Int×List Int×Int×Int×PUnit)=>lp (Int×Int × PUnit) ((List Nat×List (Option (List Int)))×Int×List Int×List Int×List Int×Int×Int×Bool×PUnit) (fun (again_1:Int×Int×PUnit->Option ((List Nat×List (Option (List Int)))×Int×List Int×List Int×List Int×Int×Int×Bool×PUnit)) (x_1:Int×Int×PUnit) =>
 let v13:Bool:=decide (x_1.1<0);
 let v14:Int×PUnit:=(IntKind.wrap .i64 (x_1.2.1+1),PUnit.unit);
 let v15:Bool:=decide (x_1.2.1<x.2.2.2.2.2.1);
 let v16:Bool:=!v15||v15;bif v16 then bif v16 then bif bif v15 then v13 else false then af (bif List.all x.1.1 fun (x_2:Nat)=>fS x.1.2 x_2 then au (List.map (fun (x_2:Nat)=>bu x.1.2 x_2) x.1.1,x.2.1,x.2.2.1,x.2.2.2.1,x.2.2.2.2.1,x.2.2.2.2.2.1, x.2.2.2.2.2.2.1) x_1.2.1 else none) fun (t:Int)=>bif decide (t>0) then again_1 (x_1.2.1,v14) else again_1 (x_1.1,v14) else bif v13 then af (bif List.all x.1.1 fun (x_2:Nat)=>fS x.1.2 x_2 then au (List.map (fun (x_2:Nat)=>bu x.1.2 x_2) x.1.1,x.2.1,x.2.2.1, x.2.2.2.1,x.2.2.2.2.1,x.2.2.2.2.2.1,x.2.2.2.2.2.2.1) x.2.2.2.2.2.2.1 else none) fun (t:Int)=>bif decide (t>0) then some (x.1,x.2.1,x.2.2.1,x.2.2.2.1,x.2.2.2.2.1,x.2.2.2.2.2.1,x.2.2.2.2.2.2.1,false,PUnit.unit) else lp (Int×(List Nat×List (Option (List Int)))×Int×List Int×List Int×List Int×Int×Int×PUnit) ((List Nat×List (Option (List Int)))×Int×List Int×List Int×List Int×Int×Int × Bool×PUnit) (fun (again:Int×(List Nat×List (Option (List Int)))×Int×List Int×List Int×List Int×Int×Int×PUnit->Option ((List Nat×List (Option (List Int)))×Int × List Int×List Int×List Int×Int×Int×Bool×PUnit)) (x_2:Int×(List Nat×List (Option (List Int)))×Int×List Int×List Int×List Int×Int×Int×PUnit)=>bif decide (x_2.1<(↑x.1.1.length:Int)) then lp (Int×(List Nat×List (Option (List Int)))×Int×List Int×List Int×List Int×Int×Int×PUnit) ((List Nat×List (Option (List Int)))×Int×List Int×List Int×List Int×Int×Int×Bool×PUnit) (fun (again_2:Int×(List Nat×List (Option (List Int)))×Int×List Int×List Int×List Int×Int×Int×PUnit->Option ((List Nat×List (Option (List Int)))×Int×List Int×List Int×List Int×Int×Int×Bool×PUnit)) (x:Int×(List Nat×List (Option (List Int)))×Int×List Int×List Int×List Int×Int×Int×PUnit) =>
 let v22:Int:=IntKind.wrap .i64 (x.1+1);
 let v23:Bool:=decide (x.1<x.2.2.2.2.2.2.1);
 let v24:Bool:=!v23;
 let v25:Bool:=v24||v23;
 let v26:(List Nat×List (Option (List Int)))×Int×List Int×List Int×List Int×Int×Int×PUnit:=(x.2.1,x.2.2.1,x.2.2.2.1,x.2.2.2.2.1, x.2.2.2.2.2.1,x.2.2.2.2.2.2.1,x.2.2.2.2.2.2.2.1,PUnit.unit);bif v25 then bif v25 then bif v25 then bif v25&&(v25&&(v24||inB x_2.1 x.2.2.2.1.length)) then bif v25&&(v24||Nat.ble (Nat.succ x_2.1.toNat) x.2.2.2.1.length) then bif v25 then bif v25 then bif v25 then bif v25 && v25 then bif v25 then bif bif v23 then decide (x.2.2.2.1.getD x_2.1.toNat 0>=x.2.2.2.2.2.2.1) else false then bif inB x_2.1 x.2.1.1.length then bif Nat.ble (Nat.succ x_2.1.toNat) x.2.1.1.length then bif inB x.1 (List.length (bu x.2.1.2 (x.2.1.1.getD x_2.1.toNat 0))) then bif Nat.ble (Nat.succ x.1.toNat) (List.length (bu x.2.1.2 (x.2.1.1.getD x_2.1.toNat 0))) then bif !decide (List.getD (bu x.2.1.2 (x.2.1.1.getD x_2.1.toNat 0)) x.1.toNat 0=0) then af (aJ x.2.1 x.2.2.1 x.2.2.2.1 x.2.2.2.2.1 x.2.2.2.2.2.1 x.2.2.2.2.2.2.1 x.2.2.2.2.2.2.2.1 x_2.1 x.1) fun (y:(List Nat×List (Option (List Int)))×Int×List Int×List Int×List Int×Int×Int×PUnit)=>again_2 (v22,y.1,y.2.1,y.2.2.1,y.2.2.2.1,y.2.2.2.2.1,y.2.2.2.2.2.1, y.2.2.2.2.2.2.1,PUnit.unit) else again_2 (v22,v26) else none else none else none else none else again (IntKind.wrap .i64 (x_2.1+1),v26) else none else none else none else none else none else none else none else none else none else none) (0,x_2.2.1,x_2.2.2.1,x_2.2.2.2.1,x_2.2.2.2.2.1, x_2.2.2.2.2.2.1,x_2.2.2.2.2.2.2.1,x_2.2.2.2.2.2.2.2.1,PUnit.unit) else some (x_2.2.1,x_2.2.2.1,x_2.2.2.2.1, x_2.2.2.2.2.1,x_2.2.2.2.2.2.1,x_2.2.2.2.2.2.2.1,x_2.2.2.2.2.2.2.2.1,true,PUnit.unit)) (0,x.1,x.2.1, x.2.2.1,x.2.2.2.1,x.2.2.2.2.1,x.2.2.2.2.2.1,x.2.2.2.2.2.2.1,PUnit.unit) else af (bif List.all x.1.1 fun (x_2:Nat) => fS x.1.2 x_2 then aH (List.map (fun (x_2:Nat)=>bu x.1.2 x_2) x.1.1,x.2.1,x.2.2.1,x.2.2.2.1,x.2.2.2.2.1, x.2.2.2.2.2.1,x.2.2.2.2.2.2.1) x_1.1 else none) fun (t:Int)=>af (aJ x.1 x.2.1 x.2.2.1 x.2.2.2.1 x.2.2.2.2.1 x.2.2.2.2.2.1 x.2.2.2.2.2.2.1 t x_1.1) fun (y:(List Nat×List (Option (List Int)))×Int×List Int×List Int×List Int×Int × Int×PUnit)=>again (y.1,y.2.1,y.2.2.1,y.2.2.2.1,y.2.2.2.2.1,y.2.2.2.2.2.1,y.2.2.2.2.2.2.1,PUnit.unit) else none else none) ((-1),0,PUnit.unit)) (x0,x1,x2,x3,x4,x5,x6,PUnit.unit)
def aO (x0:List Nat×List (Option (List Int))) (x1:Int) (x2:List Int) (x3:List Int) (x4:List Int) (x5:Int) (x6:Int):Option ((List Nat×List (Option (List Int)))×Int×(List Int)×(List Int)×(List Int)×Int×Int×Bool×Unit):=jx lpK jnK aJ au aH x0 x1 x2 x3 x4 x5 x6
abbrev IK:=(List Nat×List (Option (List Int)))->(Int)->(List Int)->(List Int)->(List Int)->(Int)->(Int)->Option ((List Nat×List (Option (List Int)))×Int×(List Int)×(List Int)×(List Int)×Int×Int×Bool×Unit)
def Pp (aO:IK):SCtr:=⟨[.b [.x (.tab 79 .ref 3 i64),.d i64,.row 3 i64,.row 3 i64,.row 3 i64,.d i64,.d i64]],[(false,[.d .bool])],fun x=>aO x.1 x.2.1 x.2.2.1 x.2.2.2.1 x.2.2.2.2.1 x.2.2.2.2.2.1 x.2.2.2.2.2.2.1⟩
def PU:SCtr:=Pp aO
theorem Un (lp:Lp) (jn:Jn) (aJ:HQ) (au:K8) (aH:J1):∀x:TsR (rhI 0 PU.ks),jx lp jn aJ au aH x.1 x.2.1 x.2.2.1 x.2.2.2.1 x.2.2.2.2.1 x.2.2.2.2.2.1 x.2.2.2.2.2.2.1=Kg lp jn (Dn.look [(149,Pu aJ)]) (vA wa xP (D8 [(150,Qw aH),(106,P9 au)] [] (ib prog shs rz its [] [(32,r32),(92,r92),(112,aY)]))) ak 4 102 f102 PU x:=fun x=>by kernel_rfl
theorem OH:PU.ok prog 102:=SCtr.of_den (ao (qQ (q32) (gT (by kernel_rfl) OM (gT (by kernel_rfl) O5 (nu))) (nz))) aB (nA O0 (qj)) (hl:=ak) (d:=4) func102 rfl (by decide) (Un lpK jnK aJ au aH)
def kn (_:Lp) (_:Jn) (x0:(List (List Int))×Int×(List Int)×(List Int)×(List Int)×Int×Int) (x1:Int):Option Int :=
 bif decide (x1<(↑x0.2.2.2.2.1.length:Int)) then bif inB x1 x0.2.2.2.2.1.length then some (x0.2.2.2.2.1.getD x1.toNat 0) else none else some 0
def aK (x0:(List (List Int))×Int×(List Int)×(List Int)×(List Int)×Int×Int) (x1:Int):Option Int:=kn lpK jnK x0 x1
abbrev J6:=((List (List Int))×Int×(List Int)×(List Int)×(List Int)×Int×Int)->(Int)->Option (Int)
def Qk (aK:J6):PCtr:=⟨GY,[i64],.one i64,fun x y=>aK x y.1⟩
def Mf:PCtr:=Qk aK
theorem Ve (lp:Lp) (jn:Jn):∀(x:Mf.s.T) (y:TsS Mf.as),kn lp jn x y.1=Ek lp jn (cx [] [(32,r32),(92,r92),(112,aY)]) ak 4 104 f104 Mf x y:=fun x y=>by kernel_rfl
theorem OY:Mf.ok prog 104:=PCtr.of_den (ao (q32)) aB (hl:=ak) (d:=4) func104 rfl (by decide) (Ve lpK jnK)
def iP (lp:Lp) (_:Jn) (aK:J6) (x0:(List (List Int))×Int×(List Int)×(List Int)×(List Int)×Int×Int) (x1:Int):Option Int :=
 af (aK x0 x1) fun (t:Int)=>lp (Int×Int×PUnit) Int (fun (again:Int×Int×PUnit->Option Int) (x:Int×Int×PUnit) =>
 let v7:List Int:=x0.1.getD x.2.1.toNat [];bif decide (x.2.1<(↑x0.1.length:Int)) then bif inB x.2.1 x0.1.length then bif inB x.2.1 x0.2.2.1.length then af (aK x0 (x0.2.2.1.getD x.2.1.toNat 0)) fun (t:Int)=>bif inB x1 v7.length then again (IntKind.wrap .i64 (x.1 - IntKind.wrap .i64 (t*v7.getD x1.toNat 0)),IntKind.wrap .i64 (x.2.1+1),PUnit.unit) else none else none else none else some x.1) (IntKind.wrap .i64 (t*x0.2.1),0,PUnit.unit)
def cm (x0:(List (List Int))×Int×(List Int)×(List Int)×(List Int)×Int×Int) (x1:Int):Option Int:=iP lpK jnK aK x0 x1
abbrev R3:=((List (List Int))×Int×(List Int)×(List Int)×(List Int)×Int×Int)->(Int)->Option (Int)
def Mc:PCtr:=⟨GY,[i64],.one i64,fun x y=>cm x y.1⟩
theorem U3 (lp:Lp) (jn:Jn) (aK:J6):∀(x:Mc.s.T) (y:TsS Mc.as),iP lp jn aK x y.1=Ek lp jn (vA wa xP (D8 [(104,Qk aK)] [] (ib prog shs rz its [] [(32,r32),(92,r92),(112,aY)]))) ak 4 151 f151 Mc x y:=fun x y=>by kernel_rfl
theorem QY:Mc.ok prog 151:=PCtr.of_den (ao (qQ (q32) (gT (by kernel_rfl) OY (nu)) (nz))) aB (hl:=ak) (d:=4) func151 rfl (by decide) (U3 lpK jnK aK)
def iG (lp:Lp) (_:Jn) (aJ:HQ) (aH:J1) (cm:R3) (x0:List Nat×List (Option (List Int))) (x1:Int) (x2:List Int) (x3:List Int) (x4:List Int) (x5:Int) (x6:Int):Option ((List Nat×List (Option (List Int)))×Int×(List Int)×(List Int)×(List Int)×Int×Int×Bool×Unit) :=
 lp ((List Nat×List (Option (List Int)))×Int×List Int×List Int×List Int×Int×Int×PUnit) ((List Nat×List (Option (List Int)))×Int×List Int×List Int×List Int×Int × Int×Bool×PUnit) (fun (again:(List Nat×List (Option (List Int)))×Int×List Int×List Int×List Int×Int×Int×PUnit->Option ((List Nat×List (Option (List Int)))×Int × List Int×List Int×List Int×Int×Int×Bool×PUnit)) (x:(List Nat×List (Option (List Int)))×Int×List Int×List Int×List Int×Int×Int×PUnit)=>lp (Int×Int × PUnit) ((List Nat×List (Option (List Int)))×Int×List Int×List Int×List Int×Int×Int×Bool×PUnit) (fun (again_1:Int×Int×PUnit->Option ((List Nat×List (Option (List Int)))×Int×List Int×List Int×List Int×Int×Int×Bool×PUnit)) (x_1:Int×Int×PUnit) =>
 let v13:Bool:=decide (x_1.1<0);
 let v14:Int×PUnit:=(IntKind.wrap .i64 (x_1.2.1+1),PUnit.unit);
 let v15:Bool:=decide (x_1.2.1<x.2.2.2.2.2.1);
 let v16:Bool:=!v15||v15;bif v16 then bif v16 then bif bif v15 then v13 else false then af (bif List.all x.1.1 fun (x_2:Nat)=>fS x.1.2 x_2 then cm (List.map (fun (x_2:Nat)=>bu x.1.2 x_2) x.1.1,x.2.1,x.2.2.1,x.2.2.2.1,x.2.2.2.2.1,x.2.2.2.2.2.1, x.2.2.2.2.2.2.1) x_1.2.1 else none) fun (t:Int)=>bif decide (t<0) then again_1 (x_1.2.1,v14) else again_1 (x_1.1,v14) else bif v13 then some (x.1,x.2.1,x.2.2.1,x.2.2.2.1,x.2.2.2.2.1,x.2.2.2.2.2.1,x.2.2.2.2.2.2.1,true,PUnit.unit) else af (bif List.all x.1.1 fun (x_2:Nat)=>fS x.1.2 x_2 then aH (List.map (fun (x_2:Nat)=>bu x.1.2 x_2) x.1.1,x.2.1,x.2.2.1,x.2.2.2.1, x.2.2.2.2.1,x.2.2.2.2.2.1,x.2.2.2.2.2.2.1) x_1.1 else none) fun (t:Int)=>bif decide (t<0) then some (x.1,x.2.1, x.2.2.1,x.2.2.2.1,x.2.2.2.2.1,x.2.2.2.2.2.1,x.2.2.2.2.2.2.1,false,PUnit.unit) else af (aJ x.1 x.2.1 x.2.2.1 x.2.2.2.1 x.2.2.2.2.1 x.2.2.2.2.2.1 x.2.2.2.2.2.2.1 t x_1.1) fun (y:(List Nat×List (Option (List Int)))×Int×List Int × List Int×List Int×Int×Int×PUnit)=>again (y.1,y.2.1,y.2.2.1,y.2.2.2.1,y.2.2.2.2.1,y.2.2.2.2.2.1,y.2.2.2.2.2.2.1, PUnit.unit) else none else none) ((-1),0,PUnit.unit)) (x0,x1,x2,x3,x4,x5,x6,PUnit.unit)
def bJ (x0:List Nat×List (Option (List Int))) (x1:Int) (x2:List Int) (x3:List Int) (x4:List Int) (x5:Int) (x6:Int):Option ((List Nat×List (Option (List Int)))×Int×(List Int)×(List Int)×(List Int)×Int×Int×Bool×Unit):=iG lpK jnK aJ aH cm x0 x1 x2 x3 x4 x5 x6
abbrev Qu:=(List Nat×List (Option (List Int)))->(Int)->(List Int)->(List Int)->(List Int)->(Int)->(Int)->Option ((List Nat×List (Option (List Int)))×Int×(List Int)×(List Int)×(List Int)×Int×Int×Bool×Unit)
def Sv (bJ:Qu):SCtr:=⟨[.b [.x (.tab 79 .ref 3 i64),.d i64,.row 3 i64,.row 3 i64,.row 3 i64,.d i64,.d i64]],[(false,[.d .bool])],fun x=>bJ x.1 x.2.1 x.2.2.1 x.2.2.2.1 x.2.2.2.2.1 x.2.2.2.2.2.1 x.2.2.2.2.2.2.1⟩
def PX:SCtr:=Sv bJ
theorem TX (lp:Lp) (jn:Jn) (aJ:HQ) (aH:J1) (cm:R3):∀x:TsR (rhI 0 PX.ks),iG lp jn aJ aH cm x.1 x.2.1 x.2.2.1 x.2.2.2.1 x.2.2.2.2.1 x.2.2.2.2.2.1 x.2.2.2.2.2.2.1=Kg lp jn (Dn.look [(149,Pu aJ)]) (vA wa xP (D8 [(151,⟨GY,[i64],.one i64,fun x y=>cm x y.1⟩),(150,Qw aH)] [] (ib prog shs rz its [] [(32,r32),(92,r92),(112,aY)]))) ak 4 103 f103 PX x:=fun x=>by kernel_rfl
theorem Rz:PX.ok prog 103:=SCtr.of_den (ao (qQ (q32) (gT (by kernel_rfl) QY (gT (by kernel_rfl) OM (nu))) (nz))) aB (nA O0 (qj)) (hl:=ak) (d:=4) func103 rfl (by decide) (TX lpK jnK aJ aH cm)
def lI (_:Lp) (_:Jn) (x0:Bool) (x1:Int) (x2:Int):Option ((Int×Int)×Int×Unit) :=
 
 let v5:Int:=IntKind.wrap .i64 x1;
 let v6:Int:=IntKind.wrap .i64 x2;
 let v7:Bool:=decide (x1>1152921504606846976);
 let v8:Bool:=!v7;bif !v8||v8 then bif v7||v8 then bif bif v7 then true else decide (x2>1152921504606846976) then some ((0,0),5,PUnit.unit) else bif x0 then some ((IntKind.wrap .i64 (0 - v5),v6),0,PUnit.unit) else some ((v5,v6),0,PUnit.unit) else none else none
def aV (x0:Bool) (x1:Int) (x2:Int):Option ((Int×Int)×Int×Unit):=lI lpK jnK x0 x1 x2
abbrev t62:=(Bool)->(Int)->(Int)->Option ((Int×Int)×Int×Unit)
def k62 (aV:t62):Ctr:=⟨[.bool,(.int .u64),(.int .u64)],[],[],.tup [T47,i64],fun x _ _=>aV x.1 x.2.1 x.2.2.1⟩
def c62:Ctr:=k62 aV
theorem e62 (lp:Lp) (jn:Jn):∀(x:TsS c62.as) (F:TsF c62.fs) (y:TsS c62.cs),lI lp jn x.1 x.2.1 x.2.2.1=br lp jn (cx [] [(32,r32),(92,r92),(112,aY)]) ak 4 62 f62 c62 x F y:=fun x F y=>by kernel_rfl
theorem Qq:c62.ok prog 62:=Ctr.of_den (ao (q32)) aB (hl:=ak) (d:=4) func62 rfl (by decide) (e62 lpK jnK)
def tn (_:Lp) (_:Jn) (be:t59) (ay:t60) (aV:t62) (x0:Int) (x1:Int):Option ((Int×Int)×Int×Unit) :=
 
 let v4:Bool:=!decide (x0=0);
 let v5:Bool:=!v4||v4;bif decide (x1=0) then some ((0,0),16,PUnit.unit) else af (ay x0) fun (t:Int)=>af (ay x1) fun (t_1:Int)=>af (be t t_1) fun (t_2:Int) =>
 let v9:Bool:=nzB t_2;bif v5 then bif v5 then bif v5&&v5 then bif v5 then bif v9 then bif v9 then af (aV (bif v4 then !decide (decide (x0<0)=decide (x1<(0 : Int))) else false) (IntKind.wrap .u64 (Int.tdiv t t_2)) (IntKind.wrap .u64 (Int.tdiv t_1 t_2))) fun (t:(Int×Int)×Int×PUnit)=>some (t.1,t.2.1, PUnit.unit) else none else none else none else none else none else none
def fL (x0:Int) (x1:Int):Option ((Int×Int)×Int×Unit):=tn lpK jnK be ay aV x0 x1
abbrev QC:=(Int)->(Int)->Option ((Int×Int)×Int×Unit)
def R8 (fL:QC):Ctr:=⟨[i64,i64],[],[],.tup [T47,i64],fun x _ _=>fL x.1 x.2.1⟩
def Lz:Ctr:=R8 fL
theorem UQ (lp:Lp) (jn:Jn) (be:t59) (ay:t60) (aV:t62):∀(x:TsS Lz.as) (F:TsF Lz.fs) (y:TsS Lz.cs),tn lp jn be ay aV x.1 x.2.1=br lp jn (cx [(62,k62 aV),(60,k60 ay),(59,k59 be)] [(32,r32),(92,r92),(112,aY)]) ak 4 114 f114 Lz x F y:=fun x F y=>by kernel_rfl
theorem RY:Lz.ok prog 114:=Ctr.of_den (ao (aa (aa (aa (q32) (by kernel_rfl) MY) (by kernel_rfl) Kw) (by kernel_rfl) Qq)) aB (hl:=ak) (d:=4) func114 rfl (by decide) (UQ lpK jnK be ay aV)
def kj (_:Lp) (_:Jn) (fL:QC) (x0:(List (List Int))×Int×(List Int)×(List Int)×(List Int)×Int×Int) (x1:Int):Option (Int×Int) :=
 af (fL x1 x0.2.1) fun (t:(Int×Int)×Int×PUnit)=>some t.1
def aL (x0:(List (List Int))×Int×(List Int)×(List Int)×(List Int)×Int×Int) (x1:Int):Option (Int×Int):=kj lpK jnK fL x0 x1
abbrev JL:=((List (List Int))×Int×(List Int)×(List Int)×(List Int)×Int×Int)->(Int)->Option (Int×Int)
def Qa (aL:JL):PCtr:=⟨GY,[i64],.one T47,fun x y=>aL x y.1⟩
def Na:PCtr:=Qa aL
theorem UF (lp:Lp) (jn:Jn) (fL:QC):∀(x:Na.s.T) (y:TsS Na.as),kj lp jn fL x y.1=Ek lp jn (cx [(114,R8 fL)] [(32,r32),(92,r92),(112,aY)]) ak 4 105 f105 Na x y:=fun x y=>by kernel_rfl
theorem OD:Na.ok prog 105:=PCtr.of_den (ao (aa (q32) (by kernel_rfl) RY)) aB (hl:=ak) (d:=4) func105 rfl (by decide) (UF lpK jnK fL)
def pk (lp:Lp) (jn:Jn) (aR:t99) (cf:H6) (bh:Kr) (aO:IK) (bJ:Qu) (aK:J6) (aL:JL) (x0:(List Int)×List ((List Int)×Int×Int)):Option (((Int×Int)×(List (Int×Int))×List (Int×Int))×Int×Unit) :=
 af (aR x0) fun (t:Bool)=>bif !t then some (((0,0),[],[]),1,PUnit.unit) else af (cf x0) fun (t:Bool)=>bif !t then some ((((0 : Int),0),[],[]),5,PUnit.unit) else lp (Int×Int×PUnit) (((Int×Int)×List (Int×Int)×List (Int×Int))×Int×PUnit) (fun (again:Int×Int×PUnit -> Option (((Int×Int)×List (Int×Int)×List (Int×Int))×Int×PUnit)) (x:Int×Int×PUnit) =>
 let v7:Int×PUnit:=(IntKind.wrap .i64 (x.2.1+1),PUnit.unit);
 let v8:Int:=IntKind.wrap .i64 ((↑x0.1.length:Int)+x.1);bif decide (x.2.1<(↑x0.2.length:Int)) then bif inB x.2.1 x0.2.length then bif !decide ((x0.2.getD x.2.1.toNat ([],0,0)).2.1=3) then again (IntKind.wrap .i64 (x.1+1),v7) else again (x.1, v7) else none else af (bh x0.1) fun (t:List Int)=>lp (Int×Int×(List Nat×List (Option (List Int)))×Int×List Int×List Int×List Int×Int×Int × PUnit) (((Int×Int)×List (Int×Int)×List (Int×Int))×Int×PUnit) (fun (again:Int×Int×(List Nat×List (Option (List Int)))×Int×List Int×List Int×List Int×Int × Int×PUnit->Option (((Int×Int)×List (Int×Int)×List (Int×Int))×Int×PUnit)) (x:Int×Int×(List Nat×List (Option (List Int)))×Int×List Int×List Int×List Int × Int×Int×PUnit) =>
 let v12:Int:=IntKind.wrap .i64 (x.1+1);
 let v13:List Int×Int×Int:=x0.2.getD x.2.1.toNat ([],0,0);
 let v14:List Int:=List.replicate (Int.toNat (IntKind.wrap .i64 (x.2.2.2.2.2.2.2.2.1+1))) 0;
 let v15:Bool:=inB x.1 (Int.toNat (IntKind.wrap .i64 (x.2.2.2.2.2.2.2.2.1+1)));
 let v16:Bool:=Nat.ble (Nat.succ x.1.toNat) (Int.toNat (IntKind.wrap .i64 (x.2.2.2.2.2.2.2.2.1+1)));
 let v17:Int:=IntKind.wrap .i64 (x.2.2.2.2.2.2.2.1+x.2.1);
 let v18:List Int:=List.take (Int.toNat (IntKind.wrap .i64 (x.2.2.2.2.2.2.2.2.1+1))) v13.1;
 let v19:List Int:=List.set (List.take 0 v14++v18++List.drop (0+List.length v18) v14) x.2.2.2.2.2.2.2.2.1.toNat v13.2.2;bif decide (x.2.1<(↑x0.2.length:Int)) then bif inB x.2.1 x0.2.length then bif decide (0<=IntKind.wrap .i64 (x.2.2.2.2.2.2.2.2.1+(1 : Int)))&&eo (Int.toNat (IntKind.wrap .i64 (x.2.2.2.2.2.2.2.2.1+1))) 8 then bif inB x.2.2.2.2.2.2.2.2.1 (Int.toNat (IntKind.wrap .i64 (x.2.2.2.2.2.2.2.2.1+1))) then bif Nat.ble (Nat.succ x.2.2.2.2.2.2.2.2.1.toNat) (Int.toNat (IntKind.wrap IntKind.i64 (x.2.2.2.2.2.2.2.2.1+1))) then jn (Int×List Int×PUnit) (((Int×Int)×List (Int×Int)×List (Int×Int))×Int×PUnit) (fun (x_1:Int × List Int×PUnit) =>
 let v21:List Int×PUnit:=(x_1.2.1,PUnit.unit);jn (Int×List Int×PUnit) (((Int×Int)×List (Int×Int)×List (Int×Int))×Int×PUnit) (fun (x_2:Int×List Int × PUnit)=>bif inB v17 x_2.2.1.length then bif Nat.ble (Nat.succ v17.toNat) x_2.2.1.length then bif eo (List.length x.2.2.1.1+1) (24 : Nat) then bif eo (List.length x.2.2.2.2.2.1+1) 8 then bif eo (List.length x.2.2.2.2.1+1) 8 then again (x_1.1, IntKind.wrap .i64 (x.2.1+1),(x.2.2.1.1++[List.length x.2.2.1.2+0],x.2.2.1.2++[some (x_2.2.1.set v17.toNat (1 : Int))]),x.2.2.2.1,x.2.2.2.2.1++[v17],x.2.2.2.2.2.1++[x_2.1],x.2.2.2.2.2.2.1,x.2.2.2.2.2.2.2.1, x.2.2.2.2.2.2.2.2.1,PUnit.unit) else none else none else none else none else none) fun (j:Int×List Int×PUnit->Option (((Int×Int)×List (Int×Int)×List (Int×Int))×Int×PUnit))=>bif decide (v13.2.2<0) then lp (Int×List Int×PUnit) (((Int×Int)×List (Int×Int)×List (Int×Int))×Int×PUnit) (fun (again : Int×List Int×PUnit->Option (((Int×Int)×List (Int×Int)×List (Int×Int))×Int×PUnit)) (x:Int×List Int×PUnit) =>
 let v25:Bool:=inB x.1 x.2.1.length;
 let v26:Bool:=Nat.ble (Nat.succ x.1.toNat) x.2.1.length;bif decide (x.1<(↑x_1.2.1.length:Int)) then bif v25 then bif v26 then bif v25 then bif v26 then again (IntKind.wrap .i64 (x.1+1),x.2.1.set x.1.toNat (IntKind.wrap .i64 (0 - x.2.1.getD x.1.toNat 0)), PUnit.unit) else none else none else none else none else j ((-1),x.2.1,PUnit.unit)) (0,v21) else j (1,v21)) fun (j:Int×List Int×PUnit->Option (((Int × Int)×List (Int×Int)×List (Int×Int))×Int×PUnit))=>bif decide (v13.2.1=1) then bif v15 then bif v16 then j (v12,v19.set x.1.toNat 1, PUnit.unit) else none else none else jn (Int×List Int×PUnit) (((Int×Int)×List (Int×Int)×List (Int×Int))×Int×PUnit) (fun (x:Int×List Int×PUnit)=>j (x.1, x.2.1,PUnit.unit)) fun (j:Int×List Int×PUnit->Option (((Int×Int)×List (Int×Int)×List (Int×Int))×Int×PUnit))=>bif decide (v13.2.1=2) then bif v15 then bif v16 then j (v12,v19.set x.1.toNat (-1),PUnit.unit) else none else none else j (x.1,v19,PUnit.unit) else none else none else none else none else af (aO x.2.2.1 x.2.2.2.1 x.2.2.2.2.1 x.2.2.2.2.2.1 x.2.2.2.2.2.2.1 x.2.2.2.2.2.2.2.1 x.2.2.2.2.2.2.2.2.1) fun (y:(List Nat×List (Option (List Int)))×Int×List Int×List Int×List Int×Int×Int×Bool×PUnit)=>bif !y.2.2.2.2.2.2.2.1 then some (((0,0),[],[]),22,PUnit.unit) else af (bJ y.1 y.2.1 y.2.2.1 y.2.2.2.1 y.2.2.2.2.1 y.2.2.2.2.2.1 y.2.2.2.2.2.2.1) fun (y:(List Nat×List (Option (List Int)))×Int×List Int×List Int×List Int×Int×Int×Bool × PUnit)=>bif !y.2.2.2.2.2.2.2.1 then some (((0,0),[],[]),21,PUnit.unit) else bif decide (0<=(↑x0.1.length:Int))&&eo (Int.toNat (↑x0.1.length:Int)) 8 then lp (Int×Int×List Int×PUnit) (((Int×Int)×List (Int×Int)×List (Int×Int))×Int×PUnit) (fun (again:Int×Int × List Int×PUnit->Option (((Int×Int)×List (Int×Int)×List (Int×Int))×Int×PUnit)) (x:Int×Int×List Int×PUnit) =>
 let v24:Int:=IntKind.wrap .i64 (x.2.1+1);
 let v25:Bool:=inB x.2.1 y.1.1.length;
 let v26:Bool:=Nat.ble (Nat.succ x.2.1.toNat) y.1.1.length;
 let v27:Int:=y.2.2.1.getD x.2.1.toNat 0;bif decide (x.2.1<(↑y.2.2.1.length:Int)) then bif inB x.2.1 y.2.2.1.length then bif Nat.ble (Nat.succ x.2.1.toNat) y.2.2.1.length then af (bif List.all y.1.1 fun (x:Nat)=>fS y.1.2 x then aK (List.map (fun (x:Nat)=>bu y.1.2 x) y.1.1,y.2.1,y.2.2.1,y.2.2.2.1,y.2.2.2.2.1,y.2.2.2.2.2.1,y.2.2.2.2.2.2.1) v27 else none) fun (t:Int)=>bif v25 then bif v26 then bif inB y.2.2.2.2.2.2.1 (List.length (bu y.1.2 (y.1.1.getD x.2.1.toNat 0))) then bif Nat.ble (Nat.succ y.2.2.2.2.2.2.1.toNat) (List.length (bu y.1.2 (y.1.1.getD x.2.1.toNat 0))) then bif decide (v27<(↑x.2.2.1.length:Int)) then bif v25 then bif v26 then bif inB y.2.2.2.2.2.2.1 (List.length (bu y.1.2 (y.1.1.getD x.2.1.toNat 0))) then bif Nat.ble (Nat.succ y.2.2.2.2.2.2.1.toNat) (List.length (bu y.1.2 (y.1.1.getD x.2.1.toNat 0))) then bif inB v27 x.2.2.1.length then bif Nat.ble (Nat.succ v27.toNat) x.2.2.1.length then again (IntKind.wrap .i64 (x.1+IntKind.wrap .i64 (t*List.getD (bu y.1.2 (y.1.1.getD x.2.1.toNat 0)) y.2.2.2.2.2.2.1.toNat 0)),v24,x.2.2.1.set v27.toNat (List.getD (bu y.1.2 (y.1.1.getD x.2.1.toNat 0)) y.2.2.2.2.2.2.1.toNat 0),PUnit.unit) else none else none else none else none else none else none else again (IntKind.wrap .i64 (x.1+IntKind.wrap .i64 (t*List.getD (bu y.1.2 (y.1.1.getD x.2.1.toNat 0)) y.2.2.2.2.2.2.1.toNat 0)),v24,x.2.2.1,PUnit.unit) else none else none else none else none else none else none else af (bif List.all y.1.1 fun (x:Nat) =>fS y.1.2 x then aL (List.map (fun (x:Nat)=>bu y.1.2 x) y.1.1,y.2.1,y.2.2.1,y.2.2.2.1,y.2.2.2.2.1, y.2.2.2.2.2.1,y.2.2.2.2.2.2.1) x.1 else none) fun (t:Int×Int)=>lp (Int×(Int×Int)×List (Int×Int)×List (Int×Int)×PUnit) (((Int×Int) × List (Int×Int)×List (Int×Int))×Int×PUnit) (fun (again:Int×(Int×Int)×List (Int×Int)×List (Int×Int)×PUnit->Option (((Int×Int)×List (Int×Int)×List (Int × Int))×Int×PUnit)) (x_1:Int×(Int×Int)×List (Int×Int)×List (Int×Int)×PUnit) =>
 let v31:List (Int×Int)×PUnit:=(x_1.2.2.2.1,PUnit.unit);bif decide (x_1.1<(↑x.2.2.1.length:Int)) then bif inB x_1.1 x.2.2.1.length then bif Nat.ble (Nat.succ x_1.1.toNat) x.2.2.1.length then af (bif List.all y.1.1 fun (x:Nat)=>fS y.1.2 x then aL (List.map (fun (x : Nat)=>bu y.1.2 x) y.1.1,y.2.1,y.2.2.1,y.2.2.2.1,y.2.2.2.2.1,y.2.2.2.2.2.1,y.2.2.2.2.2.2.1) (x.2.2.1.getD x_1.1.toNat 0) else none) fun (t:Int×Int)=>bif eo (List.length x_1.2.2.1+1) 16 then again (IntKind.wrap .i64 (x_1.1+1),x_1.2.1,x_1.2.2.1++[t],v31) else none else none else none else lp (Int×(Int×Int)×List (Int×Int)×List (Int×Int)×PUnit) (((Int×Int) × List (Int×Int)×List (Int×Int))×Int×PUnit) (fun (again:Int×(Int×Int)×List (Int×Int)×List (Int×Int)×PUnit->Option (((Int×Int)×List (Int×Int)×List (Int × Int))×Int×PUnit)) (x:Int×(Int×Int)×List (Int×Int)×List (Int×Int)×PUnit) =>
 let v34:Int:=IntKind.wrap .i64 (y.2.2.2.2.2.1+x.1);bif decide (x.1<(↑x0.2.length:Int)) then lp (Int×Int×PUnit) (((Int×Int)×List (Int × Int)×List (Int×Int))×Int×PUnit) (fun (again_1:Int×Int×PUnit->Option (((Int×Int)×List (Int×Int)×List (Int×Int))×Int×PUnit)) (x_2:Int×Int×PUnit)=>bif decide (x_2.2.1<(↑y.2.2.1.length:Int)) then bif inB x_2.2.1 y.2.2.1.length then bif Nat.ble (Nat.succ x_2.2.1.toNat) y.2.2.1.length then af (bif List.all y.1.1 fun (x:Nat)=>fS y.1.2 x then aK (List.map (fun (x:Nat)=>bu y.1.2 x) y.1.1,y.2.1, y.2.2.1,y.2.2.2.1,y.2.2.2.2.1,y.2.2.2.2.2.1,y.2.2.2.2.2.2.1) (y.2.2.1.getD x_2.2.1.toNat 0) else none) fun (t:Int)=>bif inB x_2.2.1 y.1.1.length then bif Nat.ble (Nat.succ x_2.2.1.toNat) y.1.1.length then bif inB v34 (List.length (bu y.1.2 (y.1.1.getD x_2.2.1.toNat 0))) then bif Nat.ble (Nat.succ v34.toNat) (List.length (bu y.1.2 (y.1.1.getD x_2.2.1.toNat (0 : Nat)))) then again_1 (IntKind.wrap .i64 (x_2.1+IntKind.wrap .i64 (t*List.getD (bu y.1.2 (y.1.1.getD x_2.2.1.toNat 0)) v34.toNat 0)),IntKind.wrap .i64 (x_2.2.1+1),PUnit.unit) else none else none else none else none else none else none else bif inB x.1 y.2.2.2.1.length then bif Nat.ble (Nat.succ x.1.toNat) y.2.2.2.1.length then af (bif List.all y.1.1 fun (x:Nat)=>fS y.1.2 x then aL (List.map (fun (x:Nat)=>bu y.1.2 x) y.1.1,y.2.1,y.2.2.1,y.2.2.2.1,y.2.2.2.2.1,y.2.2.2.2.2.1, y.2.2.2.2.2.2.1) (IntKind.wrap .i64 (y.2.2.2.1.getD x.1.toNat 0*x_2.1)) else none) fun (t:Int×Int)=>bif eo (List.length x.2.2.2.1+1) 16 then again (IntKind.wrap .i64 (x.1+1),x.2.1,x.2.2.1,x.2.2.2.1++[t],PUnit.unit) else none else none else none) (0,0,PUnit.unit) else some ((x.2.1,x.2.2.1,x.2.2.2.1),0,PUnit.unit)) (0,x_1.2.1,x_1.2.2.1,v31)) ((0 : Int),t,[],[],PUnit.unit)) (0,0,List.replicate (Int.toNat (↑x0.1.length:Int)) 0,PUnit.unit) else none) ((↑x0.1.length:Int),(0 : Int),([],[]),1,[],[],t,v8,IntKind.wrap .i64 (v8+(↑x0.2.length:Int)),PUnit.unit)) (0,0,PUnit.unit)
def fo (x0:(List Int)×List ((List Int)×Int×Int)):Option (((Int×Int)×(List (Int×Int))×List (Int×Int))×Int×Unit):=pk lpK jnK aR cf bh aO bJ aK aL x0
abbrev t56:=((List Int)×List ((List Int)×Int×Int))->Option (((Int×Int)×(List (Int×Int))×List (Int×Int))×Int×Unit)
def c56:Ctr:=⟨[T82],[],[],.tup [T94,i64],fun x _ _=>fo x.1⟩
theorem e56 (lp:Lp) (jn:Jn) (aR:t99) (cf:H6) (bh:Kr) (aO:IK) (bJ:Qu) (aK:J6) (aL:JL):∀(x:TsS c56.as) (F:TsF c56.fs) (y:TsS c56.cs),pk lp jn aR cf bh aO bJ aK aL x.1=K6 lp jn (Dn.look [(103,Sv bJ),(102,Pp aO)]) (vA wa xP (D8 [(105,Qa aL),(104,Qk aK)] [] (ib prog shs rz its [(100,Qm cf),(99,k99 aR)] [(32,r32),(92,r92),(112,Pf bh)]))) ak 4 56 f56 c56 x F y:=fun x F y=>by kernel_rfl
theorem TR:c56.ok prog 56:=Ctr.of_denS (ao (qQ (aa (aa (q32) (by kernel_rfl) P7) (by kernel_rfl) OP) (gT (by kernel_rfl) OD (gT (by kernel_rfl) OY (nu))) (nz))) aB (nA Rz (nA OH (qj))) (hl:=ak) (d:=4) func56 rfl (by decide) (e56 lpK jnK aR cf bh aO bJ aK aL)
set_option maxRecDepth 100000
def sX (_:Lp) (_:Jn) (aU:t55) (fo:t56) (x0:(List (ByteArray×Int))×List (ByteArray×(List (ByteArray×Int×Int×Int))×Bool)):Option ((List (Int×Int))×Int×Unit) :=
 af (aU x0) fun (t:(List Int×List (List Int×Int×Int))×Int×PUnit)=>bif !decide (t.2.1=0) then some ([],t.2.1,PUnit.unit) else af (fo t.1) fun (t:((Int×Int)×List (Int×Int)×List (Int×Int))×Int×PUnit)=>bif !decide (t.2.1=0) then some ([],t.2.1,PUnit.unit) else some (t.1.2.1,0,PUnit.unit)
def dq (x0:(List (ByteArray×Int))×List (ByteArray×(List (ByteArray×Int×Int×Int))×Bool)):Option ((List (Int×Int))×Int×Unit):=sX lpK jnK aU fo x0
abbrev t20:=((List (ByteArray×Int))×List (ByteArray×(List (ByteArray×Int×Int×Int))×Bool))->Option ((List (Int×Int))×Int×Unit)
def k20 (dq:t20):Ctr:=⟨[T25],[],[],.tup [(.sl T47),i64],fun x _ _=>dq x.1⟩
def c20:Ctr:=k20 dq
theorem e20 (lp:Lp) (jn:Jn) (aU:t55) (fo:t56):∀(x:TsS c20.as) (F:TsF c20.fs) (y:TsS c20.cs),sX lp jn aU fo x.1=br lp jn (cx [(56,⟨[T82],[],[],.tup [T94,i64],fun x _ _=>fo x.1⟩),(55,k55 aU)] [(32,r32),(92,r92),(112,aY)]) ak 4 20 f20 c20 x F y:=fun x F y=>by kernel_rfl
theorem TZ:c20.ok prog 20:=Ctr.of_den (ao (aa (aa (q32) (by kernel_rfl) Qz) (by kernel_rfl) TR)) aB (hl:=ak) (d:=4) func20 rfl (by decide) (e20 lpK jnK aU fo)
def ny (lp:Lp) (jn:Jn) (aR:t99) (cf:H6) (bh:Kr) (aO:IK) (au:K8) (aL:JL) (x0:(List Int)×List ((List Int)×Int×Int)):Option ((List (Int×Int))×Int×Unit) :=
 af (aR x0) fun (t:Bool)=>bif !t then some ([],1,PUnit.unit) else af (cf x0) fun (t:Bool)=>bif !t then some ([],5,PUnit.unit) else lp (Int×Int×PUnit) (List (Int×Int)×Int×PUnit) (fun (again:Int×Int×PUnit->Option (List (Int×Int)×Int×PUnit)) (x:Int×Int×PUnit) =>
 let v7:Int×PUnit:=(IntKind.wrap .i64 (x.2.1+1),PUnit.unit);
 let v8:Int:=IntKind.wrap .i64 ((↑x0.1.length:Int)+x.1);bif decide (x.2.1<(↑x0.2.length:Int)) then bif inB x.2.1 x0.2.length then bif !decide ((x0.2.getD x.2.1.toNat ([],0,0)).2.1=3) then again (IntKind.wrap .i64 (x.1+1),v7) else again (x.1, v7) else none else af (bh x0.1) fun (t:List Int)=>lp (Int×Int×(List Nat×List (Option (List Int)))×Int×List Int×List Int×List Int×Int×Int × PUnit) (List (Int×Int)×Int×PUnit) (fun (again:Int×Int×(List Nat×List (Option (List Int)))×Int×List Int×List Int×List Int×Int×Int×PUnit->Option (List (Int × Int)×Int×PUnit)) (x:Int×Int×(List Nat×List (Option (List Int)))×Int×List Int×List Int×List Int×Int×Int×PUnit) =>
 let v12:Int:=IntKind.wrap .i64 (x.1+1);
 let v13:List Int×Int×Int:=x0.2.getD x.2.1.toNat ([],0,0);
 let v14:List Int:=List.replicate (Int.toNat (IntKind.wrap .i64 (x.2.2.2.2.2.2.2.2.1+1))) 0;
 let v15:Bool:=inB x.1 (Int.toNat (IntKind.wrap .i64 (x.2.2.2.2.2.2.2.2.1+1)));
 let v16:Bool:=Nat.ble (Nat.succ x.1.toNat) (Int.toNat (IntKind.wrap .i64 (x.2.2.2.2.2.2.2.2.1+1)));
 let v17:Int:=IntKind.wrap .i64 (x.2.2.2.2.2.2.2.1+x.2.1);
 let v18:List Int:=List.take (Int.toNat (IntKind.wrap .i64 (x.2.2.2.2.2.2.2.2.1+1))) v13.1;
 let v19:List Int:=List.set (List.take 0 v14++v18++List.drop (0+List.length v18) v14) x.2.2.2.2.2.2.2.2.1.toNat v13.2.2;bif decide (x.2.1<(↑x0.2.length:Int)) then bif inB x.2.1 x0.2.length then bif decide (0<=IntKind.wrap .i64 (x.2.2.2.2.2.2.2.2.1+(1 : Int)))&&eo (Int.toNat (IntKind.wrap .i64 (x.2.2.2.2.2.2.2.2.1+1))) 8 then bif inB x.2.2.2.2.2.2.2.2.1 (Int.toNat (IntKind.wrap .i64 (x.2.2.2.2.2.2.2.2.1+1))) then bif Nat.ble (Nat.succ x.2.2.2.2.2.2.2.2.1.toNat) (Int.toNat (IntKind.wrap IntKind.i64 (x.2.2.2.2.2.2.2.2.1+1))) then jn (Int×List Int×PUnit) (List (Int×Int)×Int×PUnit) (fun (x_1:Int×List Int×PUnit) =>
 let v21:List Int×PUnit:=(x_1.2.1,PUnit.unit);jn (Int×List Int×PUnit) (List (Int×Int)×Int×PUnit) (fun (x_2:Int×List Int×PUnit)=>bif inB v17 x_2.2.1.length then bif Nat.ble (Nat.succ v17.toNat) x_2.2.1.length then bif eo (List.length x.2.2.1.1+1) 24 then bif eo (List.length x.2.2.2.2.2.1+1) 8 then bif eo (List.length x.2.2.2.2.1+1) 8 then again (x_1.1,IntKind.wrap .i64 (x.2.1+(1 : Int)),(x.2.2.1.1++[List.length x.2.2.1.2+0],x.2.2.1.2++[some (x_2.2.1.set v17.toNat 1)]),x.2.2.2.1, x.2.2.2.2.1++[v17],x.2.2.2.2.2.1++[x_2.1],x.2.2.2.2.2.2.1,x.2.2.2.2.2.2.2.1,x.2.2.2.2.2.2.2.2.1, PUnit.unit) else none else none else none else none else none) fun (j:Int×List Int×PUnit->Option (List (Int×Int)×Int×PUnit))=>bif decide (v13.2.2<0) then lp (Int×List Int×PUnit) (List (Int×Int)×Int×PUnit) (fun (again:Int×List Int×PUnit->Option (List (Int×Int)×Int×PUnit)) (x:Int×List Int×PUnit) =>
 let v25:Bool:=inB x.1 x.2.1.length;
 let v26:Bool:=Nat.ble (Nat.succ x.1.toNat) x.2.1.length;bif decide (x.1<(↑x_1.2.1.length:Int)) then bif v25 then bif v26 then bif v25 then bif v26 then again (IntKind.wrap .i64 (x.1+1),x.2.1.set x.1.toNat (IntKind.wrap .i64 (0 - x.2.1.getD x.1.toNat 0)), PUnit.unit) else none else none else none else none else j ((-1),x.2.1,PUnit.unit)) (0,v21) else j (1,v21)) fun (j:Int×List Int×PUnit->Option (List (Int×Int)×Int×PUnit))=>bif decide (v13.2.1=1) then bif v15 then bif v16 then j (v12,v19.set x.1.toNat 1,PUnit.unit) else none else none else jn (Int×List Int×PUnit) (List (Int×Int)×Int×PUnit) (fun (x:Int×List Int×PUnit)=>j (x.1,x.2.1,PUnit.unit)) fun (j:Int×List Int×PUnit->Option (List (Int × Int)×Int×PUnit))=>bif decide (v13.2.1=2) then bif v15 then bif v16 then j (v12,v19.set x.1.toNat (-1),PUnit.unit) else none else none else j (x.1,v19,PUnit.unit) else none else none else none else none else af (aO x.2.2.1 x.2.2.2.1 x.2.2.2.2.1 x.2.2.2.2.2.1 x.2.2.2.2.2.2.1 x.2.2.2.2.2.2.2.1 x.2.2.2.2.2.2.2.2.1) fun (y:(List Nat×List (Option (List Int)))×Int×List Int×List Int×List Int×Int×Int×Bool×PUnit)=>bif y.2.2.2.2.2.2.2.1 then some ([],12,PUnit.unit) else lp (List (Int×Int)×Int×PUnit) (List (Int×Int)×Int×PUnit) (fun (again:List (Int×Int)×Int×PUnit->Option (List (Int×Int)×Int×PUnit)) (x:List (Int×Int)×Int×PUnit)=>bif decide (x.2.1<(↑x0.2.length:Int)) then bif inB x.2.1 y.2.2.2.1.length then bif Nat.ble (Nat.succ x.2.1.toNat) y.2.2.2.1.length then af (bif List.all y.1.1 fun (x:Nat) =>fS y.1.2 x then au (List.map (fun (x:Nat)=>bu y.1.2 x) y.1.1,y.2.1,y.2.2.1,y.2.2.2.1,y.2.2.2.2.1, y.2.2.2.2.2.1,y.2.2.2.2.2.2.1) (IntKind.wrap .i64 (y.2.2.2.2.2.1+x.2.1)) else none) fun (t:Int)=>af (bif List.all y.1.1 fun (x:Nat)=>fS y.1.2 x then aL (List.map (fun (x:Nat)=>bu y.1.2 x) y.1.1,y.2.1,y.2.2.1,y.2.2.2.1,y.2.2.2.2.1, y.2.2.2.2.2.1,y.2.2.2.2.2.2.1) (IntKind.wrap .i64 (y.2.2.2.1.getD x.2.1.toNat 0*t)) else none) fun (t:Int×Int) => bif eo (List.length x.1+1) 16 then again (x.1++[t],IntKind.wrap .i64 (x.2.1+1),PUnit.unit) else none else none else none else some (x.1,0,PUnit.unit)) ([],0,PUnit.unit)) ((↑x0.1.length:Int),0,([],[]),1,[],[],t,v8,IntKind.wrap .i64 (v8+(↑x0.2.length:Int)),PUnit.unit)) (0,0,PUnit.unit)
def eK (x0:(List Int)×List ((List Int)×Int×Int)):Option ((List (Int×Int))×Int×Unit):=ny lpK jnK aR cf bh aO au aL x0
abbrev t57:=((List Int)×List ((List Int)×Int×Int))->Option ((List (Int×Int))×Int×Unit)
def c57:Ctr:=⟨[T82],[],[],.tup [(.sl T47),i64],fun x _ _=>eK x.1⟩
theorem e57 (lp:Lp) (jn:Jn) (aR:t99) (cf:H6) (bh:Kr) (aO:IK) (au:K8) (aL:JL):∀(x:TsS c57.as) (F:TsF c57.fs) (y:TsS c57.cs),ny lp jn aR cf bh aO au aL x.1=K6 lp jn (Dn.look [(102,Pp aO)]) (vA wa xP (D8 [(105,Qa aL),(106,P9 au)] [] (ib prog shs rz its [(100,Qm cf),(99,k99 aR)] [(32,r32),(92,r92),(112,Pf bh)]))) ak 4 57 f57 c57 x F y:=fun x F y=>by kernel_rfl
theorem Tt:c57.ok prog 57:=Ctr.of_denS (ao (qQ (aa (aa (q32) (by kernel_rfl) P7) (by kernel_rfl) OP) (gT (by kernel_rfl) OD (gT (by kernel_rfl) O5 (nu))) (nz))) aB (nA OH (qj)) (hl:=ak) (d:=4) func57 rfl (by decide) (e57 lpK jnK aR cf bh aO au aL)
def pR (_:Lp) (_:Jn) (aU:t55) (eK:t57) (x0:(List (ByteArray×Int))×List (ByteArray×(List (ByteArray×Int×Int×Int))×Bool)):Option ((List (Int×Int))×Int×Unit) :=
 af (aU x0) fun (t:(List Int×List (List Int×Int×Int))×Int×PUnit)=>bif !decide (t.2.1=0) then some ([],t.2.1,PUnit.unit) else af (eK t.1) fun (t:List (Int×Int)×Int×PUnit)=>some (t.1,t.2.1,PUnit.unit)
def cq (x0:(List (ByteArray×Int))×List (ByteArray×(List (ByteArray×Int×Int×Int))×Bool)):Option ((List (Int×Int))×Int×Unit):=pR lpK jnK aU eK x0
abbrev t21:=((List (ByteArray×Int))×List (ByteArray×(List (ByteArray×Int×Int×Int))×Bool))->Option ((List (Int×Int))×Int×Unit)
def k21 (cq:t21):Ctr:=⟨[T25],[],[],.tup [(.sl T47),i64],fun x _ _=>cq x.1⟩
def c21:Ctr:=k21 cq
theorem e21 (lp:Lp) (jn:Jn) (aU:t55) (eK:t57):∀(x:TsS c21.as) (F:TsF c21.fs) (y:TsS c21.cs),pR lp jn aU eK x.1=br lp jn (cx [(57,⟨[T82],[],[],.tup [(.sl T47),i64],fun x _ _=>eK x.1⟩),(55,k55 aU)] [(32,r32),(92,r92),(112,aY)]) ak 4 21 f21 c21 x F y:=fun x F y=>by kernel_rfl
theorem Ux:c21.ok prog 21:=Ctr.of_den (ao (aa (aa (q32) (by kernel_rfl) Qz) (by kernel_rfl) Tt)) aB (hl:=ak) (d:=4) func21 rfl (by decide) (e21 lpK jnK aU eK)
def pf (_:Lp) (_:Jn) (dq:t20) (cq:t21) (x0:(List (ByteArray×Int))×List (ByteArray×(List (ByteArray×Int×Int×Int))×Bool)):Option (((List (Int×Int))×Bool×List (Int×Int))×Int×Unit) :=
 af (dq x0) fun (t:List (Int×Int)×Int×PUnit)=>bif decide (t.2.1=0) then some ((t.1,false,[]),0,PUnit.unit) else bif decide (t.2.1=(22 : Int)) then af (cq x0) fun (t:List (Int×Int)×Int×PUnit)=>bif !decide (t.2.1=0) then some (([],false,[]),t.2.1,PUnit.unit) else some (([], true,t.1),0,PUnit.unit) else some (([],false,[]),t.2.1,PUnit.unit)
def ba (x0:(List (ByteArray×Int))×List (ByteArray×(List (ByteArray×Int×Int×Int))×Bool)):Option (((List (Int×Int))×Bool×List (Int×Int))×Int×Unit):=pf lpK jnK dq cq x0
abbrev t13:=((List (ByteArray×Int))×List (ByteArray×(List (ByteArray×Int×Int×Int))×Bool))->Option (((List (Int×Int))×Bool×List (Int×Int))×Int×Unit)
def k13 (ba:t13):Ctr:=⟨[T25],[],[],.tup [T30,i64],fun x _ _=>ba x.1⟩
def c13:Ctr:=k13 ba
theorem e13 (lp:Lp) (jn:Jn) (dq:t20) (cq:t21):∀(x:TsS c13.as) (F:TsF c13.fs) (y:TsS c13.cs),pf lp jn dq cq x.1=br lp jn (cx [(21,k21 cq),(20,k20 dq)] [(32,r32),(92,r92),(112,aY)]) ak 4 13 f13 c13 x F y:=fun x F y=>by kernel_rfl
theorem Ua:c13.ok prog 13:=Ctr.of_den (ao (aa (aa (q32) (by kernel_rfl) TZ) (by kernel_rfl) Ux)) aB (hl:=ak) (d:=4) func13 rfl (by decide) (e13 lpK jnK dq cq)
def mo (lp:Lp) (_:Jn) (x0:List (Int×Int)) (x1:List (Int×Int)):Option Bool :=
 bif !decide ((↑x0.length:Int)=(↑x1.length:Int)) then some false else lp (Int×PUnit) Bool (fun (again:Int×PUnit->Option Bool) (x:Int×PUnit)=>bif decide (x.1<(↑x0.length:Int)) then bif inB x.1 x0.length then bif inB x.1 x1.length then bif !(decide ((x0.getD x.1.toNat (0,(0 : Int))).1=(x1.getD x.1.toNat (0,0)).1)&&(decide ((x0.getD x.1.toNat (0,0)).2=(x1.getD x.1.toNat ((0 : Int),0)).2)&&true)) then some false else again (IntKind.wrap .i64 (x.1+1),PUnit.unit) else none else none else some true) (0,PUnit.unit)
def cE (x0:List (Int×Int)) (x1:List (Int×Int)):Option Bool:=mo lpK jnK x0 x1
abbrev t36:=(List (Int×Int))->(List (Int×Int))->Option (Bool)
def k36 (cE:t36):Ctr:=⟨[(.sl T47),(.sl T47)],[],[],.one .bool,fun x _ _=>cE x.1 x.2.1⟩
def c36:Ctr:=k36 cE
theorem e36 (lp:Lp) (jn:Jn):∀(x:TsS c36.as) (F:TsF c36.fs) (y:TsS c36.cs),mo lp jn x.1 x.2.1=br lp jn (cx [] [(32,r32),(92,r92),(112,aY)]) ak 4 36 f36 c36 x F y:=fun x F y=>by kernel_rfl
theorem Ul:c36.ok prog 36:=Ctr.of_den (ao (q32)) aB (hl:=ak) (d:=4) func36 rfl (by decide) (e36 lpK jnK)
def qu (_:Lp) (_:Jn) (cE:t36) (x0:(List (Int×Int))×Bool×List (Int×Int)) (x1:(List (Int×Int))×Bool×List (Int×Int)):Option Bool :=
 
 let v4:Bool:=decide (x0.2.1=x1.2.1);
 let v5:Bool:=!v4||v4;bif v5 then bif v5 then bif v5&&v5 then af (bif v4 then cE x0.1 x1.1 else some false) fun (t:Bool) =>
 let v7:Bool:=bif v4 then t else false;
 let v8:Bool:=!v7||v7;bif v5 then bif v8 then bif v8 then bif v8&&v8 then af (bif v7 then cE x0.2.2 x1.2.2 else some false) fun (t:Bool)=>bif v8 then some (bif v7 then t else false) else none else none else none else none else none else none else none else none
def bi (x0:(List (Int×Int))×Bool×List (Int×Int)) (x1:(List (Int×Int))×Bool×List (Int×Int)):Option Bool:=qu lpK jnK cE x0 x1
abbrev t15:=((List (Int×Int))×Bool×List (Int×Int))->((List (Int×Int))×Bool×List (Int×Int))->Option (Bool)
def k15 (bi:t15):Ctr:=⟨[T30,T30],[],[],.one .bool,fun x _ _=>bi x.1 x.2.1⟩
def c15:Ctr:=k15 bi
theorem e15 (lp:Lp) (jn:Jn) (cE:t36):∀(x:TsS c15.as) (F:TsF c15.fs) (y:TsS c15.cs),qu lp jn cE x.1 x.2.1=br lp jn (cx [(36,k36 cE)] [(32,r32),(92,r92),(112,aY)]) ak 4 15 f15 c15 x F y:=fun x F y=>by kernel_rfl
theorem TE:c15.ok prog 15:=Ctr.of_den (ao (aa (q32) (by kernel_rfl) Ul)) aB (hl:=ak) (d:=4) func15 rfl (by decide) (e15 lpK jnK cE)
def fx (lp:Lp) (_:Jn) (x0:List (Int×Int)) (f0:(((Int×Int)×Unit)->Option Bool)):Option Int :=
 lp (Int×PUnit) Int (fun (again:Int×PUnit->Option Int) (x:Int×PUnit)=>bif decide (x.1<(↑x0.length:Int)) then bif inB x.1 x0.length then af (f0 (x0.getD x.1.toNat (0,0),PUnit.unit)) fun (t:Bool)=>bif t then some x.1 else again (IntKind.wrap .i64 (x.1+1),PUnit.unit) else none else some (-1)) (0,PUnit.unit)
def bg (x0:List (Int×Int)) (f0:(((Int×Int)×Unit)->Option Bool)):Option Int:=fx lpK jnK x0 f0
abbrev t75:=(List (Int×Int))->((((Int×Int)×Unit)->Option Bool))->Option (Int)
def k75 (bg:t75):Ctr:=⟨[(.sl T47)],[([T47],.bool)],[],.one i64,fun x F _=>bg x.1 F.1⟩
def c75:Ctr:=k75 bg
theorem e75 (lp:Lp) (jn:Jn):∀(x:TsS c75.as) (F:TsF c75.fs) (y:TsS c75.cs),fx lp jn x.1 F.1=br lp jn (cx [] [(32,r32),(92,r92),(112,aY)]) ak 4 75 f75 c75 x F y:=fun x F y=>by kernel_rfl
theorem Ui:c75.ok prog 75:=Ctr.of_den (ao (q32)) aB (hl:=ak) (d:=4) func75 rfl (by decide) (e75 lpK jnK)
def eH (_:Lp) (_:Jn) (bg:t75) (x0:List (Int×Int)) (f0:(((Int×Int)×Unit)->Option Bool)):Option Bool :=
 af (bg x0 f0) fun (t:Int)=>some (decide (t>=0))
def ai (x0:List (Int×Int)) (f0:(((Int×Int)×Unit)->Option Bool)):Option Bool:=eH lpK jnK bg x0 f0
abbrev t34:=(List (Int×Int))->((((Int×Int)×Unit)->Option Bool))->Option (Bool)
def k34 (ai:t34):Ctr:=⟨[(.sl T47)],[([T47],.bool)],[],.one .bool,fun x F _=>ai x.1 F.1⟩
def c34:Ctr:=k34 ai
theorem e34 (lp:Lp) (jn:Jn) (bg:t75):∀(x:TsS c34.as) (F:TsF c34.fs) (y:TsS c34.cs),eH lp jn bg x.1 F.1=br lp jn (cx [(75,k75 bg)] [(32,r32),(92,r92),(112,aY)]) ak 4 34 f34 c34 x F y:=fun x F y=>by kernel_rfl
theorem KX:c34.ok prog 34:=Ctr.of_den (ao (aa (q32) (by kernel_rfl) Ui)) aB (hl:=ak) (d:=4) func34 rfl (by decide) (e34 lpK jnK bg)
def kH (_:Lp) (_:Jn) (x0:(List (Int×Int))×Bool×List (Int×Int)):Option ((List (Int×Int))×(List (Int×Int))×Unit) :=
 bif x0.2.1 then some (x0.2.2,x0.1,PUnit.unit) else some (x0.1,x0.2.2,PUnit.unit)
def bB (x0:(List (Int×Int))×Bool×List (Int×Int)):Option ((List (Int×Int))×(List (Int×Int))×Unit):=kH lpK jnK x0
abbrev t49:=((List (Int×Int))×Bool×List (Int×Int))->Option ((List (Int×Int))×(List (Int×Int))×Unit)
def k49 (bB:t49):Ctr:=⟨[T30],[],[],.tup [(.sl T47),(.sl T47)],fun x _ _=>bB x.1⟩
def c49:Ctr:=k49 bB
theorem e49 (lp:Lp) (jn:Jn):∀(x:TsS c49.as) (F:TsF c49.fs) (y:TsS c49.cs),kH lp jn x.1=br lp jn (cx [] [(32,r32),(92,r92),(112,aY)]) ak 4 49 f49 c49 x F y:=fun x F y=>by kernel_rfl
theorem Q1:c49.ok prog 49:=Ctr.of_den (ao (q32)) aB (hl:=ak) (d:=4) func49 rfl (by decide) (e49 lpK jnK)
def iX (_:Lp) (_:Jn) (an:t58) (x0:Int×Int):Option Bool :=
 af (an x0) fun (t:Bool)=>some !t
def dM (x0:Int×Int):Option Bool:=iX lpK jnK an x0
abbrev t93:=(Int×Int)->Option (Bool)
def c93:Ctr:=⟨[T47],[],[],.one .bool,fun x _ _=>dM x.1⟩
theorem e93 (lp:Lp) (jn:Jn) (an:t58):∀(x:TsS c93.as) (F:TsF c93.fs) (y:TsS c93.cs),iX lp jn an x.1=br lp jn (cx [(58,k58 an)] [(32,r32),(92,r92),(112,aY)]) ak 4 93 f93 c93 x F y:=fun x F y=>by kernel_rfl
theorem U2:c93.ok prog 93:=Ctr.of_den (ao (aa (q32) (by kernel_rfl) Cy)) aB (hl:=ak) (d:=4) func93 rfl (by decide) (e93 lpK jnK an)
def kT (_:Lp) (_:Jn) (ai:t34) (dM:t93) (cH:t92) (x0:(List (Int×Int))×Bool×List (Int×Int)):Option Bool :=
 af (cH [x0.1,x0.2.2]) fun (t:List (Int×Int))=>af (ai t fun (x:(Int×Int)×PUnit)=>dM x.1) fun (t:Bool)=>some !t
def bw (x0:(List (Int×Int))×Bool×List (Int×Int)):Option Bool:=kT lpK jnK ai dM cH x0
abbrev t51:=((List (Int×Int))×Bool×List (Int×Int))->Option (Bool)
def k51 (bw:t51):Ctr:=⟨[T30],[],[],.one .bool,fun x _ _=>bw x.1⟩
def c51:Ctr:=k51 bw
theorem e51 (lp:Lp) (jn:Jn) (ai:t34) (dM:t93) (cH:t92):∀(x:TsS c51.as) (F:TsF c51.fs) (y:TsS c51.cs),kT lp jn ai dM cH x.1=br lp jn (cx [(93,⟨[T47],[],[],.one .bool,fun x _ _=>dM x.1⟩),(34,k34 ai)] [(32,r32),(92,⟨[(.sl (.sl T47))],47,T47,fun x=>cH x.1⟩),(112,aY)]) ak 4 51 f51 c51 x F y:=fun x F y=>by kernel_rfl
theorem Tf:c51.ok prog 51:=Ctr.of_den (ao (aa (aa (q32) (by kernel_rfl) KX) (by kernel_rfl) U2)) aB (hl:=ak) (d:=4) func51 rfl (by decide) (e51 lpK jnK ai dM cH)
def jb (_:Lp) (_:Jn) (an:t58) (x0:Int×Int):Option Bool :=
 af (an x0) fun (t:Bool)=>some !t
def cW (x0:Int×Int):Option Bool:=jb lpK jnK an x0
abbrev RP:=(Int×Int)->Option (Bool)
def IX:Ctr:=⟨[T47],[],[],.one .bool,fun x _ _=>cW x.1⟩
theorem T6 (lp:Lp) (jn:Jn) (an:t58):∀(x:TsS IX.as) (F:TsF IX.fs) (y:TsS IX.cs),jb lp jn an x.1=br lp jn (cx [(58,k58 an)] [(32,r32),(92,r92),(112,aY)]) ak 4 168 f168 IX x F y:=fun x F y=>by kernel_rfl
theorem S6:IX.ok prog 168:=Ctr.of_den (ao (aa (q32) (by kernel_rfl) Cy)) aB (hl:=ak) (d:=4) func168 rfl (by decide) (T6 lpK jnK an)
def kV (_:Lp) (_:Jn) (ai:t34) (cW:RP) (x0:List (Int×Int)):Option Bool :=
 af (ai x0 fun (x:(Int×Int)×PUnit)=>cW x.1) fun (t:Bool)=>some !t
def dW (x0:List (Int×Int)):Option Bool:=kV lpK jnK ai cW x0
abbrev Sb:=(List (Int×Int))->Option (Bool)
def Kb:Ctr:=⟨[(.sl T47)],[],[],.one .bool,fun x _ _=>dW x.1⟩
theorem UA (lp:Lp) (jn:Jn) (ai:t34) (cW:RP):∀(x:TsS Kb.as) (F:TsF Kb.fs) (y:TsS Kb.cs),kV lp jn ai cW x.1=br lp jn (cx [(168,⟨[T47],[],[],.one .bool,fun x _ _=>cW x.1⟩),(34,k34 ai)] [(32,r32),(92,r92),(112,aY)]) ak 4 130 f130 Kb x F y:=fun x F y=>by kernel_rfl
theorem Se:Kb.ok prog 130:=Ctr.of_den (ao (aa (aa (q32) (by kernel_rfl) KX) (by kernel_rfl) S6)) aB (hl:=ak) (d:=4) func130 rfl (by decide) (UA lpK jnK ai cW)
def kK (_:Lp) (_:Jn) (bC:D1) (x0:Int) (x1:Int):Option (Int×Int) :=
 af (bC x0 x1) fun (t:Int×Int×PUnit)=>some (t.1,t.2.1)
def aF (x0:Int) (x1:Int):Option (Int×Int):=kK lpK jnK bC x0 x1
abbrev t61:=(Int)->(Int)->Option (Int×Int)
def k61 (aF:t61):Ctr:=⟨[(.int .u64),(.int .u64)],[],[],.one mS,fun x _ _=>aF x.1 x.2.1⟩
def c61:Ctr:=k61 aF
theorem e61 (lp:Lp) (jn:Jn) (bC:D1):∀(x:TsS c61.as) (F:TsF c61.fs) (y:TsS c61.cs),kK lp jn bC x.1 x.2.1=br lp jn (cx [(107,Ms bC)] [(32,r32),(92,r92),(112,aY)]) ak 4 61 f61 c61 x F y:=fun x F y=>by kernel_rfl
theorem Qh:c61.ok prog 61:=Ctr.of_den (ao (aa (q32) (by kernel_rfl) Ii)) aB (hl:=ak) (d:=4) func61 rfl (by decide) (e61 lpK jnK bC)
def py (_:Lp) (_:Jn) (be:t59) (ay:t60) (an:t58) (aV:t62) (aF:t61) (x0:Int×Int) (x1:Int×Int):Option ((Int×Int)×Int×Unit) :=
 
 let v4:Int:=IntKind.wrap .u64 x1.2;
 let v5:Int:=IntKind.wrap .u64 x0.2;af (an x0) fun (t:Bool) =>
 let v7:Bool:=!t;
 let v8:Bool:=!v7;
 let v9:Bool:=!v8||v8;bif v9 then af (bif v8 then an x1 else some false) fun (t:Bool)=>bif v9 then bif v7||v8 then bif bif v7 then true else !t then some (((0 : Int),0),1,PUnit.unit) else af (ay x0.1) fun (t:Int)=>af (be t v4) fun (t:Int) =>
 let v13:Bool:=nzB t;af (ay x1.1) fun (t_1:Int)=>af (be t_1 v5) fun (t_2:Int) =>
 let v16:Bool:=nzB t_2;af (ay x0.1) fun (t_3:Int)=>bif v13 then af (ay x1.1) fun (t_4:Int)=>bif v16 then af (aF (IntKind.wrap IntKind.u64 (Int.tdiv t_3 t)) (IntKind.wrap .u64 (Int.tdiv t_4 t_2))) fun (t_5:Int×Int) =>
 let v20:Bool:=decide (t_5.1>0);
 let v21:Bool:=decide (t_5.2>0);
 let v22:Bool:=!v20;
 let v23:Bool:=!v21||v21;
 let v24:Bool:=!v22||v22;bif v16 then bif v13 then af (aF (IntKind.wrap .u64 (Int.tdiv v5 t_2)) (IntKind.wrap .u64 (Int.tdiv v4 t))) fun (t:Int×Int) =>bif v24 then bif v24 then bif v20||v22 then bif bif v20 then true else decide (t.1>0) then some ((0,0),5,PUnit.unit) else bif v23 then bif v23 then bif v23 then bif v23 then bif v23&&v23 then bif v23 then af (aV (bif v21 then !decide (decide (x0.1<0)=decide (x1.1<0)) else false) t_5.2 t.2) fun (t:(Int×Int)×Int×PUnit)=>some (t.1,t.2.1,PUnit.unit) else none else none else none else none else none else none else none else none else none else none else none else none else none else none else none else none
def bo (x0:Int×Int) (x1:Int×Int):Option ((Int×Int)×Int×Unit):=py lpK jnK be ay an aV aF x0 x1
abbrev t23:=(Int×Int)->(Int×Int)->Option ((Int×Int)×Int×Unit)
def k23 (bo:t23):Ctr:=⟨[T47,T47],[],[],.tup [T47,i64],fun x _ _=>bo x.1 x.2.1⟩
def c23:Ctr:=k23 bo
theorem e23 (lp:Lp) (jn:Jn) (be:t59) (ay:t60) (an:t58) (aV:t62) (aF:t61):∀(x:TsS c23.as) (F:TsF c23.fs) (y:TsS c23.cs),py lp jn be ay an aV aF x.1 x.2.1=br lp jn (cx [(61,k61 aF),(62,k62 aV),(58,k58 an),(60,k60 ay),(59,k59 be)] [(32,r32),(92,r92),(112,aY)]) ak 4 23 f23 c23 x F y:=fun x F y=>by kernel_rfl
theorem PE:c23.ok prog 23:=Ctr.of_den (ao (aa (aa (aa (aa (aa (q32) (by kernel_rfl) MY) (by kernel_rfl) Kw) (by kernel_rfl) Cy) (by kernel_rfl) Qq) (by kernel_rfl) Qh)) aB (hl:=ak) (d:=4) func23 rfl (by decide) (e23 lpK jnK be ay an aV aF)
def oj (_:Lp) (_:Jn) (x0:Int×Int) (x1:Int×Int):Option (Int×Int) :=
 bif decide ((0:Int)<=0)&&decide ((0:Int)<=1) then bif decide (0<=wU x0.2 x1.2 0)&&decide (wU x0.2 x1.2 0<=1) then some (BR x0.1 x1.1 (wU x0.2 x1.2 0),BR x0.2 x1.2 0) else none else none
def fO (x0:Int×Int) (x1:Int×Int):Option (Int×Int):=oj lpK jnK x0 x1
abbrev Q2:=(Int×Int)->(Int×Int)->Option (Int×Int)
def Ju:Ctr:=⟨[mS,mS],[],[],.one mS,fun x _ _=>fO x.1 x.2.1⟩
theorem Ue (lp:Lp) (jn:Jn):∀(x:TsS Ju.as) (F:TsF Ju.fs) (y:TsS Ju.cs),oj lp jn x.1 x.2.1=br lp jn (cx [] [(32,r32),(92,r92),(112,aY)]) ak 4 188 f188 Ju x F y:=fun x F y=>by kernel_rfl
theorem RA:Ju.ok prog 188:=Ctr.of_den (ao (q32)) aB (hl:=ak) (d:=4) func188 rfl (by decide) (Ue lpK jnK)
def oP (_:Lp) (_:Jn) (x0:Int×Int) (x1:Int×Int):Option Bool :=
 
 let v4:Bool:=decide (x0.1=x1.1);
 let v5:Bool:=decide (x0.1<x1.1);
 let v6:Bool:=!v5;
 let v7:Bool:=!v6;
 let v8:Bool:=v6&&v4;
 let v9:Bool:=v7||v6;
 let v10:Bool:=!v8||v8;bif v9 then bif v9 then bif v9&&v9 then bif v9 then bif v10 then bif v10 then bif v10&&v10 then bif (v7||v9)&&(v7||(!v4||(v7||v8))) then bif v5 || v6 then some (bif v5 then true else bif v4 then decide (x0.2<x1.2) else false) else none else none else none else none else none else none else none else none else none
def cv (x0:Int×Int) (x1:Int×Int):Option Bool:=oP lpK jnK x0 x1
abbrev HO:=(Int×Int)->(Int×Int)->Option (Bool)
def Qd (cv:HO):Ctr:=⟨[mS,mS],[],[],.one .bool,fun x _ _=>cv x.1 x.2.1⟩
def JX:Ctr:=Qd cv
theorem UY (lp:Lp) (jn:Jn):∀(x:TsS JX.as) (F:TsF JX.fs) (y:TsS JX.cs),oP lp jn x.1 x.2.1=br lp jn (cx [] [(32,r32),(92,r92),(112,aY)]) ak 4 189 f189 JX x F y:=fun x F y=>by kernel_rfl
theorem OW:JX.ok prog 189:=Ctr.of_den (ao (q32)) aB (hl:=ak) (d:=4) func189 rfl (by decide) (UY lpK jnK)
def mJ (_:Lp) (_:Jn) (x0:Int×Int) (x1:Int×Int):Option (Int×Int) :=
 bif decide ((0:Int)<=0)&&decide ((0:Int)<=1) then bif decide (0<=tS x0.2 x1.2 0)&&decide (tS x0.2 x1.2 0<=1) then some (wh x0.1 x1.1 (tS x0.2 x1.2 0),wh x0.2 x1.2 0) else none else none
def eI (x0:Int×Int) (x1:Int×Int):Option (Int×Int):=mJ lpK jnK x0 x1
abbrev Tj:=(Int×Int)->(Int×Int)->Option (Int×Int)
def Lf:Ctr:=⟨[mS,mS],[],[],.one mS,fun x _ _=>eI x.1 x.2.1⟩
theorem Uu (lp:Lp) (jn:Jn):∀(x:TsS Lf.as) (F:TsF Lf.fs) (y:TsS Lf.cs),mJ lp jn x.1 x.2.1=br lp jn (cx [] [(32,r32),(92,r92),(112,aY)]) ak 4 190 f190 Lf x F y:=fun x F y=>by kernel_rfl
theorem RS:Lf.ok prog 190:=Ctr.of_den (ao (q32)) aB (hl:=ak) (d:=4) func190 rfl (by decide) (Uu lpK jnK)
def nX (_:Lp) (_:Jn) (cD:KL) (x0:Int×Int) (x1:Int):Option ((Int×Int)×Int×Unit) :=
 
 let v4:Bool:=nzB x1;bif v4 then af (cD (Int.tmod x0.1 x1) x0.2 x1) fun (t:Int×Int×PUnit)=>bif v4 then some ((IntKind.wrap .u64 (Int.tdiv x0.1 x1), t.1),t.2.1,PUnit.unit) else none else none
def dP (x0:Int×Int) (x1:Int):Option ((Int×Int)×Int×Unit):=nX lpK jnK cD x0 x1
abbrev Qs:=(Int×Int)->(Int)->Option ((Int×Int)×Int×Unit)
def SJ (dP:Qs):Ctr:=⟨[mS,(.int .u64)],[],[],.tup [mS,(.int .u64)],fun x _ _=>dP x.1 x.2.1⟩
def HY:Ctr:=SJ dP
theorem Uw (lp:Lp) (jn:Jn) (cD:KL):∀(x:TsS HY.as) (F:TsF HY.fs) (y:TsS HY.cs),nX lp jn cD x.1 x.2.1=br lp jn (cx [(185,Qf cD)] [(32,r32),(92,r92),(112,aY)]) ak 4 191 f191 HY x F y:=fun x F y=>by kernel_rfl
theorem RF:HY.ok prog 191:=Ctr.of_den (ao (aa (q32) (by kernel_rfl) OQ)) aB (hl:=ak) (d:=4) func191 rfl (by decide) (Uw lpK jnK cD)
def pD (_:Lp) (jn:Jn) (be:t59) (ay:t60) (an:t58) (aV:t62) (aF:t61) (fO:Q2) (cv:HO) (eI:Tj) (dP:Qs) (x0:Int×Int) (x1:Int×Int):Option ((Int×Int)×Int×Unit) :=
 
 let v4:Int:=IntKind.wrap .u64 x0.2;
 let v5:Int:=IntKind.wrap .u64 x1.2;
 let v6:Bool:=decide (x0.1<0);af (an x0) fun (t:Bool) =>
 let v8:Bool:=!t;
 let v9:Bool:=!v8;
 let v10:Bool:=!v9||v9;bif v10 then af (bif v9 then an x1 else some false) fun (t:Bool)=>bif v10 then bif v8||v9 then bif bif v8 then true else !t then some (((0 : Int),0),1,PUnit.unit) else af (be v4 v5) fun (t:Int) =>
 let v13:Bool:=nzB t;
 let v14:Int:=IntKind.wrap .u64 (Int.tdiv v4 t);af (ay x0.1) fun (t_1:Int)=>bif v13 then af (aF t_1 (IntKind.wrap .u64 (Int.tdiv v5 t))) fun (t_2:Int×Int)=>af (ay x1.1) fun (t_3:Int)=>bif v13 then af (aF t_3 v14) fun (t_4:Int×Int)=>jn (Bool×(Int×Int)×PUnit) ((Int×Int) × Int×PUnit) (fun (x:Bool×(Int×Int)×PUnit)=>bif decide (x.2.1.1=0)&&(decide (x.2.1.2=0)&&true) then some ((0,1),(0 : Int),PUnit.unit) else af (dP x.2.1 t) fun (t_5:(Int×Int)×Int×PUnit)=>af (be t t_5.2.1) fun (t:Int)=>af (dP x.2.1 t) fun (t_6 : (Int×Int)×Int×PUnit) =>
 let v23:Bool:=decide (t_6.1.1>0);
 let v24:Bool:=!v23;
 let v25:Bool:=!v24||v24;bif v13 then bif nzB t then af (aF v14 (IntKind.wrap .u64 (Int.tdiv v5 t))) fun (t:Int×Int)=>bif v25 then bif v25 then bif v23 || v24 then bif bif v23 then true else decide (t.1>0) then some ((0,0),5,PUnit.unit) else af (aV x.1 t_6.1.2 t.2) fun (t:(Int × Int)×Int×PUnit)=>some (t.1,t.2.1,PUnit.unit) else none else none else none else none else none) fun (j:Bool×(Int×Int)×PUnit->Option ((Int×Int)×Int×PUnit)) =>bif decide (v6=decide (x1.1<0)) then af (fO t_2 t_4) fun (t:Int×Int)=>j (v6,t,PUnit.unit) else af (cv t_2 t_4) fun (t:Bool)=>jn (Bool × (Int×Int)×PUnit) ((Int×Int)×Int×PUnit) (fun (x:Bool×(Int×Int)×PUnit)=>j (x.1,x.2.1,PUnit.unit)) fun (j:Bool×(Int×Int)×PUnit->Option ((Int×Int) × Int×PUnit))=>bif t then af (eI t_4 t_2) fun (t:Int×Int)=>j (!v6,t,PUnit.unit) else af (eI t_2 t_4) fun (t:Int×Int)=>j (v6,t,PUnit.unit) else none else none else none else none else none
def bZ (x0:Int×Int) (x1:Int×Int):Option ((Int×Int)×Int×Unit):=pD lpK jnK be ay an aV aF fO cv eI dP x0 x1
abbrev Er:=(Int×Int)->(Int×Int)->Option ((Int×Int)×Int×Unit)
def MB (bZ:Er):Ctr:=⟨[T47,T47],[],[],.tup [T47,i64],fun x _ _=>bZ x.1 x.2.1⟩
def HV:Ctr:=MB bZ
theorem UB (lp:Lp) (jn:Jn) (be:t59) (ay:t60) (an:t58) (aV:t62) (aF:t61) (fO:Q2) (cv:HO) (eI:Tj) (dP:Qs):∀(x:TsS HV.as) (F:TsF HV.fs) (y:TsS HV.cs),pD lp jn be ay an aV aF fO cv eI dP x.1 x.2.1=br lp jn (cx [(191,SJ dP),(190,⟨[mS,mS],[],[],.one mS,fun x _ _=>eI x.1 x.2.1⟩),(189,Qd cv),(188,⟨[mS,mS],[],[],.one mS,fun x _ _=>fO x.1 x.2.1⟩),(61,k61 aF),(62,k62 aV),(58,k58 an),(60,k60 ay),(59,k59 be)] [(32,r32),(92,r92),(112,aY)]) ak 4 171 f171 HV x F y:=fun x F y=>by kernel_rfl
theorem IR:HV.ok prog 171:=Ctr.of_den (ao (aa (aa (aa (aa (aa (aa (aa (aa (aa (q32) (by kernel_rfl) MY) (by kernel_rfl) Kw) (by kernel_rfl) Cy) (by kernel_rfl) Qq) (by kernel_rfl) Qh) (by kernel_rfl) RA) (by kernel_rfl) OW) (by kernel_rfl) RS) (by kernel_rfl) RF)) aB (hl:=ak) (d:=4) func171 rfl (by decide) (UB lpK jnK be ay an aV aF fO cv eI dP)
def jd (lp:Lp) (jn:Jn) (bo:t23) (bZ:Er) (x0:Int) (x1:List Int) (x2:List (Int×Int)):Option (Int×(Int×Int)) :=
 lp (Int×Int×(Int×Int)×(Int×Int)×PUnit) (Int×Int×Int) (fun (again:Int×Int×(Int×Int)×(Int×Int)×PUnit->Option (Int×Int×Int)) (x:Int×Int×(Int×Int) × (Int×Int)×PUnit)=>bif decide (x.1<(↑x1.length:Int)) then bif inB x.1 x1.length then bif inB x.1 x2.length then af (bo (x1.getD x.1.toNat 0,1) (x2.getD x.1.toNat (0,0))) fun (t:(Int×Int)×Int×PUnit)=>jn (Int×(Int×Int)×PUnit) (Int×Int×Int) (fun (x_1:Int×(Int×Int)×PUnit)=>bif !decide (x_1.1=0) then some (x_1.1,0,1) else again (IntKind.wrap .i64 (x.1+1), x.2.1,x.2.2.1,x_1.2.1,PUnit.unit)) fun (j:Int×(Int×Int)×PUnit->Option (Int×Int×Int))=>bif decide (t.2.1=0) then af (bZ x.2.2.2.1 t.1) fun (t:(Int×Int)×Int×PUnit)=>j (t.2.1,t.1,PUnit.unit) else j (t.2.1,t.1,PUnit.unit) else none else none else some (x.2.1, x.2.2.2.1)) (0,x0,(0,0),(0,1),PUnit.unit)
def bK (x0:Int) (x1:List Int) (x2:List (Int×Int)):Option (Int×(Int×Int)):=jd lpK jnK bo bZ x0 x1 x2
abbrev PV:=(Int)->(List Int)->(List (Int×Int))->Option (Int×(Int×Int))
def Ry (bK:PV):MCtr:=⟨Po,[(.sl i64),(.sl T47)],.one T47,fun x y=>bK x y.1 y.2.1⟩
def NU:MCtr:=Ry bK
theorem Tr (lp:Lp) (jn:Jn) (bo:t23) (bZ:Er):∀(x:NU.s.T) (y:TsS NU.as),jd lp jn bo bZ x y.1 y.2.1=QD lp jn (cx [(171,MB bZ),(23,k23 bo)] [(32,r32),(92,r92),(112,aY)]) ak 4 133 f133 NU x y:=fun x y=>by kernel_rfl
theorem RL:NU.ok prog 133:=MCtr.of_den (ao (aa (aa (q32) (by kernel_rfl) PE) (by kernel_rfl) IR)) aB (hl:=ak) (d:=4) func133 rfl (by decide) rfl (Tr lpK jnK bo bZ)
def pV (_:Lp) (jn:Jn) (ay:t60) (an:t58) (aF:t61) (cv:HO) (x0:Int×Int) (x1:Int×Int):Option (Int×Int×Unit) :=
 
 let v4:Bool:=decide (x0.1<0);af (an x0) fun (t:Bool) =>
 let v6:Bool:=!t;
 let v7:Bool:=!v6;
 let v8:Bool:=!v7||v7;bif v8 then af (bif v7 then an x1 else some false) fun (t:Bool)=>bif v8 then bif v6||v7 then bif bif v6 then true else !t then some ((0 : Int),1,PUnit.unit) else af (ay x0.1) fun (t:Int)=>af (aF t (IntKind.wrap .u64 x1.2)) fun (t:Int×Int)=>af (ay x1.1) fun (t_1:Int)=>af (aF t_1 (IntKind.wrap .u64 x0.2)) fun (t_2:Int×Int)=>bif !decide (v4=decide (x1.1<0)) then bif v4 then some ((-1), 0,PUnit.unit) else some (1,0,PUnit.unit) else jn ((Int×Int)×(Int×Int)×PUnit) (Int×Int×PUnit) (fun (x:(Int×Int)×(Int×Int)×PUnit)=>af (cv x.1 x.2.1) fun (t:Bool)=>bif t then some ((-1),0,PUnit.unit) else af (cv x.2.1 x.1) fun (t:Bool)=>bif t then some (1, 0,PUnit.unit) else some (0,0,PUnit.unit)) fun (j:(Int×Int)×(Int×Int)×PUnit->Option (Int×Int×PUnit))=>bif v4 then j (t_2,t,PUnit.unit) else j (t,t_2,PUnit.unit) else none else none else none
def gt (x0:Int×Int) (x1:Int×Int):Option (Int×Int×Unit):=pV lpK jnK ay an aF cv x0 x1
abbrev Rx:=(Int×Int)->(Int×Int)->Option (Int×Int×Unit)
def HU:Ctr:=⟨[T47,T47],[],[],.tup [i64,i64],fun x _ _=>gt x.1 x.2.1⟩
theorem TL (lp:Lp) (jn:Jn) (ay:t60) (an:t58) (aF:t61) (cv:HO):∀(x:TsS HU.as) (F:TsF HU.fs) (y:TsS HU.cs),pV lp jn ay an aF cv x.1 x.2.1=br lp jn (cx [(189,Qd cv),(61,k61 aF),(58,k58 an),(60,k60 ay)] [(32,r32),(92,r92),(112,aY)]) ak 4 187 f187 HU x F y:=fun x F y=>by kernel_rfl
theorem Rc:HU.ok prog 187:=Ctr.of_den (ao (aa (aa (aa (aa (q32) (by kernel_rfl) Kw) (by kernel_rfl) Cy) (by kernel_rfl) Qh) (by kernel_rfl) OW)) aB (hl:=ak) (d:=4) func187 rfl (by decide) (TL lpK jnK ay an aF cv)
def mM (_:Lp) (_:Jn) (gt:Rx) (x0:Int×Int) (x1:Int):Option Int :=
 af (gt x0 (x1,1)) fun (t:Int×Int×PUnit)=>some t.1
def fp (x0:Int×Int) (x1:Int):Option Int:=mM lpK jnK gt x0 x1
abbrev Rr:=(Int×Int)->(Int)->Option (Int)
def HT:Ctr:=⟨[T47,i64],[],[],.one i64,fun x _ _=>fp x.1 x.2.1⟩
theorem T7 (lp:Lp) (jn:Jn) (gt:Rx):∀(x:TsS HT.as) (F:TsF HT.fs) (y:TsS HT.cs),mM lp jn gt x.1 x.2.1=br lp jn (cx [(187,⟨[T47,T47],[],[],.tup [i64,i64],fun x _ _=>gt x.1 x.2.1⟩)] [(32,r32),(92,r92),(112,aY)]) ak 4 169 f169 HT x F y:=fun x F y=>by kernel_rfl
theorem R7:HT.ok prog 169:=Ctr.of_den (ao (aa (q32) (by kernel_rfl) Rc)) aB (hl:=ak) (d:=4) func169 rfl (by decide) (T7 lpK jnK gt)
def jK (lp:Lp) (_:Jn) (x0:(List Int)×List ((List Int)×Int×Int)) (x1:Int):Option (List Int) :=
 lp (List Int×Int×PUnit) (List Int) (fun (again:List Int×Int×PUnit->Option (List Int)) (x:List Int×Int×PUnit)=>bif decide (x.2.1<(↑x0.2.length:Int)) then bif inB x.2.1 x0.2.length then bif inB x1 (List.length (x0.2.getD x.2.1.toNat ([],0,0)).1) then bif eo (List.length x.1+(1 : Nat)) 8 then again (x.1++[List.getD (x0.2.getD x.2.1.toNat ([],0,0)).1 x1.toNat 0],IntKind.wrap .i64 (x.2.1 + 1),PUnit.unit) else none else none else none else some x.1) ([],0,PUnit.unit)
def dD (x0:(List Int)×List ((List Int)×Int×Int)) (x1:Int):Option (List Int):=jK lpK jnK x0 x1
abbrev Ri:=((List Int)×List ((List Int)×Int×Int))->(Int)->Option (List Int)
def JH:Ctr:=⟨[T82,i64],[],[],.one (.sl i64),fun x _ _=>dD x.1 x.2.1⟩
theorem T5 (lp:Lp) (jn:Jn):∀(x:TsS JH.as) (F:TsF JH.fs) (y:TsS JH.cs),jK lp jn x.1 x.2.1=br lp jn (cx [] [(32,r32),(92,r92),(112,aY)]) ak 4 170 f170 JH x F y:=fun x F y=>by kernel_rfl
theorem QM:JH.ok prog 170:=Ctr.of_den (ao (q32)) aB (hl:=ak) (d:=4) func170 rfl (by decide) (T5 lpK jnK)
def ig (_:Lp) (_:Jn) (_:Int):Option Int :=
 some 0
def cK (x0:Int):Option Int:=ig lpK jnK x0
abbrev Rt:=(Int)->Option (Int)
def J0:Ctr:=⟨[i64],[],[],.one i64,fun x _ _=>cK x.1⟩
theorem Vd (lp:Lp) (jn:Jn):∀(x:TsS J0.as) (F:TsF J0.fs) (y:TsS J0.cs),ig lp jn x.1=br lp jn (cx [] [(32,r32),(92,r92),(112,aY)]) ak 4 132 f132 J0 x F y:=fun x F y=>by kernel_rfl
theorem Rf:J0.ok prog 132:=Ctr.of_den (ao (q32)) aB (hl:=ak) (d:=4) func132 rfl (by decide) (Vd lpK jnK)
def jV (lp:Lp) (_:Jn) (x0:(List Int)×List ((List Int)×Int×Int)):Option (List Int) :=
 lp (List Int×Int×PUnit) (List Int) (fun (again:List Int×Int×PUnit->Option (List Int)) (x:List Int×Int×PUnit)=>bif decide (x.2.1<(↑x0.2.length:Int)) then bif inB x.2.1 x0.2.length then bif eo (List.length x.1+1) 8 then again (x.1++[(x0.2.getD x.2.1.toNat ([],0,(0 : Int))).2.2],IntKind.wrap .i64 (x.2.1+1),PUnit.unit) else none else none else some x.1) ([],0,PUnit.unit)
def dE (x0:(List Int)×List ((List Int)×Int×Int)):Option (List Int):=jV lpK jnK x0
abbrev Q4:=((List Int)×List ((List Int)×Int×Int))->Option (List Int)
def KP:Ctr:=⟨[T82],[],[],.one (.sl i64),fun x _ _=>dE x.1⟩
theorem Ug (lp:Lp) (jn:Jn):∀(x:TsS KP.as) (F:TsF KP.fs) (y:TsS KP.cs),jV lp jn x.1=br lp jn (cx [] [(32,r32),(92,r92),(112,aY)]) ak 4 134 f134 KP x F y:=fun x F y=>by kernel_rfl
theorem Q8:KP.ok prog 134:=Ctr.of_den (ao (q32)) aB (hl:=ak) (d:=4) func134 rfl (by decide) (Ug lpK jnK)
def jL (lp:Lp) (_:Jn) (x0:(List Int)×List ((List Int)×Int×Int)) (x1:List (Int×Int)):Option Bool :=
 lp (Int×PUnit) Bool (fun (again:Int×PUnit->Option Bool) (x:Int×PUnit) =>
 let v6:Bool:=inB x.1 x1.length;
 let v7:Bool:=decide ((x0.2.getD x.1.toNat ([],0,0)).2.1=1);
 let v8:Bool:=decide ((x0.2.getD x.1.toNat ([],0,0)).2.1=2);
 let v9:Bool:=!v7;
 let v10:Bool:=bif v7 then decide ((x1.getD x.1.toNat (0,0)).1>0) else false;
 let v11:Bool:=!v10;
 let v12:Bool:=!v11;
 let v13:Bool:=v9||v7;
 let v14:Bool:=v11&&v8;
 let v15:Bool:=!v14;
 let v16:Bool:=v12||v11;
 let v17:Bool:=v15||v14;bif decide (x.1<(↑x0.2.length:Int)) then bif inB x.1 x0.2.length then bif v13&&(v13&&(v9||v6)) then bif v13 then bif v13 then bif v13 then bif v13 then bif v16 then bif v16 then bif v16 then bif v17&&(v17&&(v15||v6)) then bif v17 then bif v17 then bif v17 then bif (v12||v16)&&(v12||(!v8||(v12 || v14))) then bif v10||v11 then bif bif v10 then true else bif v8 then decide ((x1.getD x.1.toNat (0,0)).1<0) else false then some false else again (IntKind.wrap .i64 (x.1+1),PUnit.unit) else none else none else none else none else none else none else none else none else none else none else none else none else none else none else none else some true) (0,PUnit.unit)
def dw (x0:(List Int)×List ((List Int)×Int×Int)) (x1:List (Int×Int)):Option Bool:=jL lpK jnK x0 x1
abbrev RE:=((List Int)×List ((List Int)×Int×Int))->(List (Int×Int))->Option (Bool)
def JA:Ctr:=⟨[T82,(.sl T47)],[],[],.one .bool,fun x _ _=>dw x.1 x.2.1⟩
theorem Tw (lp:Lp) (jn:Jn):∀(x:TsS JA.as) (F:TsF JA.fs) (y:TsS JA.cs),jL lp jn x.1 x.2.1=br lp jn (cx [] [(32,r32),(92,r92),(112,aY)]) ak 4 135 f135 JA x F y:=fun x F y=>by kernel_rfl
theorem SE:JA.ok prog 135:=Ctr.of_den (ao (q32)) aB (hl:=ak) (d:=4) func135 rfl (by decide) (Tw lpK jnK)
def jo (lp:Lp) (_:Jn) (aR:t99) (dW:Sb) (fp:Rr) (dD:Ri) (cK:Rt) (dE:Q4) (dw:RE) (bK:PV) (x0:(List Int)×List ((List Int)×Int×Int)) (x1:List (Int×Int)):Option (Bool×Int×Unit) :=
 af (aR x0) fun (t:Bool) =>
 let v5:Bool:=!t;
 let v6:Bool:=!v5;
 let v7:Bool:=!v6||v6;bif v7 then af (bif v6 then dW x1 else some false) fun (t:Bool)=>bif v7 then bif v5||v6 then bif bif v5 then true else !t then some (false, 1,PUnit.unit) else bif !decide ((↑x1.length:Int)=(↑x0.2.length:Int)) then some (false,3,PUnit.unit) else lp (Bool×Int×Int×PUnit) (Bool × Int×PUnit) (fun (again:Bool×Int×Int×PUnit->Option (Bool×Int×PUnit)) (x:Bool×Int×Int×PUnit)=>bif decide (x.2.1<(↑x0.1.length:Int)) then af (dD x0 x.2.1) fun (t:List Int)=>af (bK x.2.2.1 t x1) fun (t:Int×Int×Int)=>af (cK x.2.1) fun (t_1:Int)=>af (fp t.2 t_1) fun (t_2:Int) =>
 let v15:Bool:=decide (t_2<=0);bif !v15||v15 then again (bif v15 then x.1 else false,IntKind.wrap .i64 (x.2.1+1),t.1,PUnit.unit) else none else af (dE x0) fun (t:List Int)=>af (bK x.2.2.1 t x1) fun (t:Int×Int×Int) =>
 let v13:Bool:=decide (t.2.1>0);
 let v14:Bool:=!v13||v13;bif v14&&v14 then af (bif v13 then dw x0 x1 else some false) fun (t_1:Bool) =>
 let v16:Bool:=bif v13 then t_1 else false;
 let v17:Bool:=bif v16 then x.1 else false;
 let v18:Bool:=!v17||v17;bif v14 then bif !v16||v16 then bif v18 then bif v18 then bif v18 then some (bif v17 then decide (t.1=0) else false,t.1,PUnit.unit) else none else none else none else none else none else none) (true,0,0,PUnit.unit) else none else none else none
def cd (x0:(List Int)×List ((List Int)×Int×Int)) (x1:List (Int×Int)):Option (Bool×Int×Unit):=jo lpK jnK aR dW fp dD cK dE dw bK x0 x1
abbrev t94:=((List Int)×List ((List Int)×Int×Int))->(List (Int×Int))->Option (Bool×Int×Unit)
def k94 (cd:t94):Ctr:=⟨[T82,(.sl T47)],[],[],.tup [.bool,i64],fun x _ _=>cd x.1 x.2.1⟩
def c94:Ctr:=k94 cd
theorem e94 (lp:Lp) (jn:Jn) (aR:t99) (dW:Sb) (fp:Rr) (dD:Ri) (cK:Rt) (dE:Q4) (dw:RE) (bK:PV):∀(x:TsS c94.as) (F:TsF c94.fs) (y:TsS c94.cs),jo lp jn aR dW fp dD cK dE dw bK x.1 x.2.1=br lp jn (vA wa xP (D8 [] [(133,Ry bK)] (ib prog shs rz its [(135,⟨[T82,(.sl T47)],[],[],.one .bool,fun x _ _=>dw x.1 x.2.1⟩),(134,⟨[T82],[],[],.one (.sl i64),fun x _ _=>dE x.1⟩),(132,⟨[i64],[],[],.one i64,fun x _ _=>cK x.1⟩),(170,⟨[T82,i64],[],[],.one (.sl i64),fun x _ _=>dD x.1 x.2.1⟩),(169,⟨[T47,i64],[],[],.one i64,fun x _ _=>fp x.1 x.2.1⟩),(130,⟨[(.sl T47)],[],[],.one .bool,fun x _ _=>dW x.1⟩),(99,k99 aR)] [(32,r32),(92,r92),(112,aY)]))) ak 4 94 f94 c94 x F y:=fun x F y=>by kernel_rfl
theorem Uy:c94.ok prog 94:=Ctr.of_den (ao (qQ (aa (aa (aa (aa (aa (aa (aa (q32) (by kernel_rfl) P7) (by kernel_rfl) Se) (by kernel_rfl) R7) (by kernel_rfl) QM) (by kernel_rfl) Rf) (by kernel_rfl) Q8) (by kernel_rfl) SE) (nu) (Gp (by kernel_rfl) RL (nz)))) aB (hl:=ak) (d:=4) func94 rfl (by decide) (e94 lpK jnK aR dW fp dD cK dE dw bK)
def lL (_:Lp) (_:Jn) (aU:t55) (cd:t94) (x0:(List (ByteArray×Int))×List (ByteArray×(List (ByteArray×Int×Int×Int))×Bool)) (x1:List (Int×Int)):Option (Bool×Int×Unit) :=
 af (aU x0) fun (t:(List Int×List (List Int×Int×Int))×Int×PUnit)=>bif !decide (t.2.1=0) then some (false,t.2.1,PUnit.unit) else af (cd t.1 x1) fun (t:Bool×Int×PUnit)=>some (t.1,t.2.1,PUnit.unit)
def df (x0:(List (ByteArray×Int))×List (ByteArray×(List (ByteArray×Int×Int×Int))×Bool)) (x1:List (Int×Int)):Option (Bool×Int×Unit):=lL lpK jnK aU cd x0 x1
abbrev t52:=((List (ByteArray×Int))×List (ByteArray×(List (ByteArray×Int×Int×Int))×Bool))->(List (Int×Int))->Option (Bool×Int×Unit)
def k52 (df:t52):Ctr:=⟨[T25,(.sl T47)],[],[],.tup [.bool,i64],fun x _ _=>df x.1 x.2.1⟩
def c52:Ctr:=k52 df
theorem e52 (lp:Lp) (jn:Jn) (aU:t55) (cd:t94):∀(x:TsS c52.as) (F:TsF c52.fs) (y:TsS c52.cs),lL lp jn aU cd x.1 x.2.1=br lp jn (cx [(94,k94 cd),(55,k55 aU)] [(32,r32),(92,r92),(112,aY)]) ak 4 52 f52 c52 x F y:=fun x F y=>by kernel_rfl
theorem Ud:c52.ok prog 52:=Ctr.of_den (ao (aa (aa (q32) (by kernel_rfl) Qz) (by kernel_rfl) Uy)) aB (hl:=ak) (d:=4) func52 rfl (by decide) (e52 lpK jnK aU cd)
def jc (_:Lp) (_:Jn) (an:t58) (x0:Int×Int):Option Bool :=
 af (an x0) fun (t:Bool)=>some !t
def cZ (x0:Int×Int):Option Bool:=jc lpK jnK an x0
abbrev Ta:=(Int×Int)->Option (Bool)
def Ih:Ctr:=⟨[T47],[],[],.one .bool,fun x _ _=>cZ x.1⟩
theorem TG (lp:Lp) (jn:Jn) (an:t58):∀(x:TsS Ih.as) (F:TsF Ih.fs) (y:TsS Ih.cs),jc lp jn an x.1=br lp jn (cx [(58,k58 an)] [(32,r32),(92,r92),(112,aY)]) ak 4 172 f172 Ih x F y:=fun x F y=>by kernel_rfl
theorem Ti:Ih.ok prog 172:=Ctr.of_den (ao (aa (q32) (by kernel_rfl) Cy)) aB (hl:=ak) (d:=4) func172 rfl (by decide) (TG lpK jnK an)
def kP (_:Lp) (_:Jn) (bm:t72) (ai:t34) (cZ:Ta) (x0:(List (ByteArray×Int))×List (ByteArray×(List (ByteArray×Int×Int×Int))×Bool)) (x1:List (Int×Int)):Option ((List (List Int))×Int×Unit) :=
 af (bm x0) fun (t:List (List Int)×Int×PUnit)=>bif !decide (t.2.1=0) then some ([],t.2.1,PUnit.unit) else af (ai x1 fun (x : (Int×Int)×PUnit)=>cZ x.1) fun (t_1:Bool)=>bif t_1 then some ([],1,PUnit.unit) else bif !decide ((↑x1.length:Int)=(↑x0.2.length : Int)) then some ([],3,PUnit.unit) else some (t.1,0,PUnit.unit)
def cY (x0:(List (ByteArray×Int))×List (ByteArray×(List (ByteArray×Int×Int×Int))×Bool)) (x1:List (Int×Int)):Option ((List (List Int))×Int×Unit):=kP lpK jnK bm ai cZ x0 x1
abbrev O6:=((List (ByteArray×Int))×List (ByteArray×(List (ByteArray×Int×Int×Int))×Bool))->(List (Int×Int))->Option ((List (List Int))×Int×Unit)
def SN (cY:O6):Ctr:=⟨[T25,(.sl T47)],[],[],.tup [(.sl (.sl i64)),i64],fun x _ _=>cY x.1 x.2.1⟩
def HN:Ctr:=SN cY
theorem UJ (lp:Lp) (jn:Jn) (bm:t72) (ai:t34) (cZ:Ta):∀(x:TsS HN.as) (F:TsF HN.fs) (y:TsS HN.cs),kP lp jn bm ai cZ x.1 x.2.1=br lp jn (cx [(172,⟨[T47],[],[],.one .bool,fun x _ _=>cZ x.1⟩),(34,k34 ai),(72,k72 bm)] [(32,r32),(92,r92),(112,aY)]) ak 4 136 f136 HN x F y:=fun x F y=>by kernel_rfl
theorem Sw:HN.ok prog 136:=Ctr.of_den (ao (aa (aa (aa (q32) (by kernel_rfl) S7) (by kernel_rfl) KX) (by kernel_rfl) Ti)) aB (hl:=ak) (d:=4) func136 rfl (by decide) (UJ lpK jnK bm ai cZ)
def tP (_:Lp) (_:Jn) (x0:Int):Option (Int×Int) :=
 some (x0,1)
def ci (x0:Int):Option (Int×Int):=tP lpK jnK x0
abbrev Iv:=(Int)->Option (Int×Int)
def Pv (ci:Iv):Ctr:=⟨[i64],[],[],.one T47,fun x _ _=>ci x.1⟩
def Lg:Ctr:=Pv ci
theorem TF (lp:Lp) (jn:Jn):∀(x:TsS Lg.as) (F:TsF Lg.fs) (y:TsS Lg.cs),tP lp jn x.1=br lp jn (cx [] [(32,r32),(92,r92),(112,aY)]) ak 4 137 f137 Lg x F y:=fun x F y=>by kernel_rfl
theorem Oz:Lg.ok prog 137:=Ctr.of_den (ao (q32)) aB (hl:=ak) (d:=4) func137 rfl (by decide) (TF lpK jnK)
def lK (_:Lp) (_:Jn) (bo:t23) (bZ:Er) (ci:Iv) (x0:Int×Int) (x1:Int) (x2:Int×Int):Option ((Int×Int)×Int×Unit) :=
 af (ci x1) fun (t:Int×Int)=>af (bo t x2) fun (t:(Int×Int)×Int×PUnit)=>bif !decide (t.2.1=0) then some ((0,0),t.2.1, PUnit.unit) else af (bZ x0 t.1) fun (t:(Int×Int)×Int×PUnit)=>some (t.1,t.2.1,PUnit.unit)
def dJ (x0:Int×Int) (x1:Int) (x2:Int×Int):Option ((Int×Int)×Int×Unit):=lK lpK jnK bo bZ ci x0 x1 x2
abbrev Pz:=(Int×Int)->(Int)->(Int×Int)->Option ((Int×Int)×Int×Unit)
def SO (dJ:Pz):Ctr:=⟨[T47,i64,T47],[],[],.tup [T47,i64],fun x _ _=>dJ x.1 x.2.1 x.2.2.1⟩
def Ku:Ctr:=SO dJ
theorem Uv (lp:Lp) (jn:Jn) (bo:t23) (bZ:Er) (ci:Iv):∀(x:TsS Ku.as) (F:TsF Ku.fs) (y:TsS Ku.cs),lK lp jn bo bZ ci x.1 x.2.1 x.2.2.1=br lp jn (cx [(137,Pv ci),(171,MB bZ),(23,k23 bo)] [(32,r32),(92,r92),(112,aY)]) ak 4 138 f138 Ku x F y:=fun x F y=>by kernel_rfl
theorem R4:Ku.ok prog 138:=Ctr.of_den (ao (aa (aa (aa (q32) (by kernel_rfl) PE) (by kernel_rfl) IR) (by kernel_rfl) Oz)) aB (hl:=ak) (d:=4) func138 rfl (by decide) (Uv lpK jnK bo bZ ci)
def qD (_:Lp) (_:Jn) (an:t58) (bZ:Er) (x0:Int×Int) (x1:Int×Int):Option ((Int×Int)×Int×Unit) :=
 af (an x0) fun (t:Bool) =>
 let v5:Bool:=!t;
 let v6:Bool:=!v5;
 let v7:Bool:=!v6||v6;bif v7 then af (bif v6 then an x1 else some false) fun (t:Bool)=>bif v7 then bif v5||v6 then bif bif v5 then true else !t then some (((0 : Int),0),1,PUnit.unit) else af (bZ x0 (IntKind.wrap .i64 (0 - x1.1),x1.2)) fun (t:(Int×Int)×Int×PUnit)=>some (t.1,t.2.1, PUnit.unit) else none else none else none
def gu (x0:Int×Int) (x1:Int×Int):Option ((Int×Int)×Int×Unit):=qD lpK jnK an bZ x0 x1
abbrev QP:=(Int×Int)->(Int×Int)->Option ((Int×Int)×Int×Unit)
def HI:Ctr:=⟨[T47,T47],[],[],.tup [T47,i64],fun x _ _=>gu x.1 x.2.1⟩
theorem U8 (lp:Lp) (jn:Jn) (an:t58) (bZ:Er):∀(x:TsS HI.as) (F:TsF HI.fs) (y:TsS HI.cs),qD lp jn an bZ x.1 x.2.1=br lp jn (cx [(171,MB bZ),(58,k58 an)] [(32,r32),(92,r92),(112,aY)]) ak 4 139 f139 HI x F y:=fun x F y=>by kernel_rfl
theorem R9:HI.ok prog 139:=Ctr.of_den (ao (aa (aa (q32) (by kernel_rfl) Cy) (by kernel_rfl) IR)) aB (hl:=ak) (d:=4) func139 rfl (by decide) (U8 lpK jnK an bZ)
def fh (lp:Lp) (_:Jn) (cY:O6) (ci:Iv) (dJ:Pz) (gu:QP) (x0:(List (ByteArray×Int))×List (ByteArray×(List (ByteArray×Int×Int×Int))×Bool)) (x1:List (Int×Int)):Option ((List (Int×Int))×Int×Unit) :=
 af (cY x0 x1) fun (t:List (List Int)×Int×PUnit)=>bif !decide (t.2.1=0) then some ([],t.2.1,PUnit.unit) else lp (List (Int×Int)×Int×Int × PUnit) (List (Int×Int)×Int×PUnit) (fun (again:List (Int×Int)×Int×Int×PUnit->Option (List (Int×Int)×Int×PUnit)) (x:List (Int×Int)×Int×Int×PUnit) =>
 let v7:List Int:=t.1.getD x.2.2.1.toNat [];bif decide (x.2.2.1<(↑t.1.length:Int)) then af (ci 0) fun (t_1:Int×Int)=>lp (Int×(Int×Int)×PUnit) (List (Int×Int)×Int×PUnit) (fun (again_1:Int×(Int×Int)×PUnit->Option (List (Int×Int)×Int×PUnit)) (x_1:Int×(Int×Int)×PUnit) => bif decide (x_1.1<(↑x1.length:Int)) then bif inB x.2.2.1 t.1.length then bif inB x_1.1 v7.length then bif inB x_1.1 x1.length then af (dJ x_1.2.1 (v7.getD x_1.1.toNat 0) (x1.getD x_1.1.toNat (0,0))) fun (t:(Int×Int)×Int×PUnit) =>
 let v12:Bool:=!decide (t.2.1=0);bif v12 then bif v12 then some ([],t.2.1,PUnit.unit) else some (x.1,0,PUnit.unit) else again_1 (IntKind.wrap IntKind.i64 (x_1.1+1),t.1,PUnit.unit) else none else none else none else bif inB x.2.2.1 x0.1.length then af (ci (x0.1.getD x.2.2.1.toNat ({ data:={ toList:=[] } },0)).2) fun (t:Int×Int)=>af (gu t x_1.2.1) fun (t:(Int×Int)×Int×PUnit) =>
 let v13:Bool:=!decide (t.2.1=0);bif v13 then bif v13 then some ([],t.2.1,PUnit.unit) else some (x.1,0,PUnit.unit) else bif eo (List.length x.1 + 1) 16 then again (x.1++[t.1],t.2.1,IntKind.wrap .i64 (x.2.2.1+1),PUnit.unit) else none else none) (0,t_1,PUnit.unit) else bif !decide (x.2.1=0) then some ([],x.2.1,PUnit.unit) else some (x.1,0,PUnit.unit)) ([],0,0,PUnit.unit)
def bf (x0:(List (ByteArray×Int))×List (ByteArray×(List (ByteArray×Int×Int×Int))×Bool)) (x1:List (Int×Int)):Option ((List (Int×Int))×Int×Unit):=fh lpK jnK cY ci dJ gu x0 x1
abbrev t95:=((List (ByteArray×Int))×List (ByteArray×(List (ByteArray×Int×Int×Int))×Bool))->(List (Int×Int))->Option ((List (Int×Int))×Int×Unit)
def k95 (bf:t95):Ctr:=⟨[T25,(.sl T47)],[],[],.tup [(.sl T47),i64],fun x _ _=>bf x.1 x.2.1⟩
def c95:Ctr:=k95 bf
theorem e95 (lp:Lp) (jn:Jn) (cY:O6) (ci:Iv) (dJ:Pz) (gu:QP):∀(x:TsS c95.as) (F:TsF c95.fs) (y:TsS c95.cs),fh lp jn cY ci dJ gu x.1 x.2.1=br lp jn (cx [(139,⟨[T47,T47],[],[],.tup [T47,i64],fun x _ _=>gu x.1 x.2.1⟩),(138,SO dJ),(137,Pv ci),(136,SN cY)] [(32,r32),(92,r92),(112,aY)]) ak 4 95 f95 c95 x F y:=fun x F y=>by kernel_rfl
theorem UI:c95.ok prog 95:=Ctr.of_den (ao (aa (aa (aa (aa (q32) (by kernel_rfl) Sw) (by kernel_rfl) Oz) (by kernel_rfl) R4) (by kernel_rfl) R9)) aB (hl:=ak) (d:=4) func95 rfl (by decide) (e95 lpK jnK cY ci dJ gu)
def jq (_:Lp) (_:Jn) (x0:Int×Int):Option Bool :=
 some !decide (x0.1=0)
def cU (x0:Int×Int):Option Bool:=jq lpK jnK x0
abbrev t96:=(Int×Int)->Option (Bool)
def c96:Ctr:=⟨[T47],[],[],.one .bool,fun x _ _=>cU x.1⟩
theorem e96 (lp:Lp) (jn:Jn):∀(x:TsS c96.as) (F:TsF c96.fs) (y:TsS c96.cs),jq lp jn x.1=br lp jn (cx [] [(32,r32),(92,r92),(112,aY)]) ak 4 96 f96 c96 x F y:=fun x F y=>by kernel_rfl
theorem TV:c96.ok prog 96:=Ctr.of_den (ao (q32)) aB (hl:=ak) (d:=4) func96 rfl (by decide) (e96 lpK jnK)
def kI (_:Lp) (_:Jn) (ai:t34) (bf:t95) (cU:t96) (x0:(List (ByteArray×Int))×List (ByteArray×(List (ByteArray×Int×Int×Int))×Bool)) (x1:List (Int×Int)):Option (Bool×Int×Unit) :=
 af (bf x0 x1) fun (t:List (Int×Int)×Int×PUnit)=>bif !decide (t.2.1=0) then some (false,t.2.1,PUnit.unit) else af (ai t.1 fun (x:(Int×Int)×PUnit)=>cU x.1) fun (t:Bool)=>some (!t,0,PUnit.unit)
def cX (x0:(List (ByteArray×Int))×List (ByteArray×(List (ByteArray×Int×Int×Int))×Bool)) (x1:List (Int×Int)):Option (Bool×Int×Unit):=kI lpK jnK ai bf cU x0 x1
abbrev t53:=((List (ByteArray×Int))×List (ByteArray×(List (ByteArray×Int×Int×Int))×Bool))->(List (Int×Int))->Option (Bool×Int×Unit)
def k53 (cX:t53):Ctr:=⟨[T25,(.sl T47)],[],[],.tup [.bool,i64],fun x _ _=>cX x.1 x.2.1⟩
def c53:Ctr:=k53 cX
theorem e53 (lp:Lp) (jn:Jn) (ai:t34) (bf:t95) (cU:t96):∀(x:TsS c53.as) (F:TsF c53.fs) (y:TsS c53.cs),kI lp jn ai bf cU x.1 x.2.1=br lp jn (cx [(96,⟨[T47],[],[],.one .bool,fun x _ _=>cU x.1⟩),(95,k95 bf),(34,k34 ai)] [(32,r32),(92,r92),(112,aY)]) ak 4 53 f53 c53 x F y:=fun x F y=>by kernel_rfl
theorem Vb:c53.ok prog 53:=Ctr.of_den (ao (aa (aa (aa (q32) (by kernel_rfl) KX) (by kernel_rfl) UI) (by kernel_rfl) TV)) aB (hl:=ak) (d:=4) func53 rfl (by decide) (e53 lpK jnK ai bf cU)
def jl (_:Lp) (_:Jn) (x0:Int×Int):Option Bool :=
 some (decide (x0.1<0))
def dH (x0:Int×Int):Option Bool:=jl lpK jnK x0
abbrev t54:=(Int×Int)->Option (Bool)
def c54:Ctr:=⟨[T47],[],[],.one .bool,fun x _ _=>dH x.1⟩
theorem e54 (lp:Lp) (jn:Jn):∀(x:TsS c54.as) (F:TsF c54.fs) (y:TsS c54.cs),jl lp jn x.1=br lp jn (cx [] [(32,r32),(92,r92),(112,aY)]) ak 4 54 f54 c54 x F y:=fun x F y=>by kernel_rfl
theorem US:c54.ok prog 54:=Ctr.of_den (ao (q32)) aB (hl:=ak) (d:=4) func54 rfl (by decide) (e54 lpK jnK)
def kN (_:Lp) (jn:Jn) (aN:t50) (ai:t34) (bB:t49) (bw:t51) (df:t52) (cX:t53) (dH:t54) (x0:(List (ByteArray×Int))×List (ByteArray×(List (ByteArray×Int×Int×Int))×Bool)) (x1:(List (Int×Int))×Bool×List (Int×Int)):Option (Bool×Int×Unit) :=
 af (bB x1) fun (t:List (Int×Int)×List (Int×Int)×PUnit)=>jn (Int×PUnit) (Bool×Int×PUnit) (fun (x:Int×PUnit)=>af (aN x0) fun (t_1:Bool) =>
 let v7:Bool:=!t_1;
 let v8:Bool:=!v7;
 let v9:Bool:=!v8||v8;bif v9 then af (bif v8 then bw x1 else some false) fun (t_2:Bool)=>bif v9 then bif v7||v8 then bif bif v7 then true else !t_2 then some (false,1,PUnit.unit) else bif decide ((↑t.2.1.length:Int)>0) then some (false,19,PUnit.unit) else bif !decide ((↑t.1.length:Int) = x.1) then some (false,3,PUnit.unit) else bif x1.2.1 then af (df x0 t.1) fun (t:Bool×Int×PUnit)=>some (t.1,t.2.1,PUnit.unit) else af (cX x0 t.1) fun (t_3:Bool×Int×PUnit) =>
 let v12:Bool:=decide (t_3.2.1=0);
 let v13:Bool:=bif v12 then t_3.1 else false;
 let v14:Bool:=!v13||v13;bif !v12||v12 then bif v14 then af (bif v13 then ai t.1 fun (x:(Int×Int)×PUnit)=>dH x.1 else some false) fun (t:Bool)=>bif v14 then bif v14 then some (bif v13 then !t else false,t_3.2.1,PUnit.unit) else none else none else none else none else none else none else none) fun (j : Int×PUnit->Option (Bool×Int×PUnit))=>bif x1.2.1 then j ((↑x0.1.length:Int),PUnit.unit) else j ((↑x0.2.length:Int),PUnit.unit)
def ap (x0:(List (ByteArray×Int))×List (ByteArray×(List (ByteArray×Int×Int×Int))×Bool)) (x1:(List (Int×Int))×Bool×List (Int×Int)):Option (Bool×Int×Unit):=kN lpK jnK aN ai bB bw df cX dH x0 x1
abbrev t19:=((List (ByteArray×Int))×List (ByteArray×(List (ByteArray×Int×Int×Int))×Bool))->((List (Int×Int))×Bool×List (Int×Int))->Option (Bool×Int×Unit)
def k19 (ap:t19):Ctr:=⟨[T25,T30],[],[],.tup [.bool,i64],fun x _ _=>ap x.1 x.2.1⟩
def c19:Ctr:=k19 ap
theorem e19 (lp:Lp) (jn:Jn) (aN:t50) (ai:t34) (bB:t49) (bw:t51) (df:t52) (cX:t53) (dH:t54):∀(x:TsS c19.as) (F:TsF c19.fs) (y:TsS c19.cs),kN lp jn aN ai bB bw df cX dH x.1 x.2.1=br lp jn (cx [(54,⟨[T47],[],[],.one .bool,fun x _ _=>dH x.1⟩),(53,k53 cX),(52,k52 df),(51,k51 bw),(49,k49 bB),(34,k34 ai),(50,k50 aN)] [(32,r32),(92,r92),(112,aY)]) ak 4 19 f19 c19 x F y:=fun x F y=>by kernel_rfl
theorem RQ:c19.ok prog 19:=Ctr.of_den (ao (aa (aa (aa (aa (aa (aa (aa (q32) (by kernel_rfl) P8) (by kernel_rfl) KX) (by kernel_rfl) Q1) (by kernel_rfl) Tf) (by kernel_rfl) Ud) (by kernel_rfl) Vb) (by kernel_rfl) US)) aB (hl:=ak) (d:=4) func19 rfl (by decide) (e19 lpK jnK aN ai bB bw df cX dH)
def wA (_:Lp) (_:Jn) (x0:Int):Option (Int×Int) :=
 some (x0,1)
def aA (x0:Int):Option (Int×Int):=wA lpK jnK x0
abbrev t24:=(Int)->Option (Int×Int)
def k24 (aA:t24):Ctr:=⟨[i64],[],[],.one T47,fun x _ _=>aA x.1⟩
def c24:Ctr:=k24 aA
theorem e24 (lp:Lp) (jn:Jn):∀(x:TsS c24.as) (F:TsF c24.fs) (y:TsS c24.cs),wA lp jn x.1=br lp jn (cx [] [(32,r32),(92,r92),(112,aY)]) ak 4 24 f24 c24 x F y:=fun x F y=>by kernel_rfl
theorem Mr:c24.ok prog 24:=Ctr.of_den (ao (q32)) aB (hl:=ak) (d:=4) func24 rfl (by decide) (e24 lpK jnK)
def rL (lp:Lp) (_:Jn) (x0:List Int) (x1:Int) (x2:Int):Option (List Int) :=
 lp (List Int×Int×PUnit) (List Int) (fun (again:List Int×Int×PUnit->Option (List Int)) (x:List Int×Int×PUnit)=>bif decide (x.2.1>=0) then bif decide ((0 : Int)<=IntKind.wrap .i64 (8*x.2.1)) then bif eo (List.length x.1+1) 1 then again (x.1++[IntKind.wrap IntKind.u8 (Int.fdiv x1 (2 ^ min (Int.toNat (IntKind.wrap .i64 (8*x.2.1))) 64))],IntKind.wrap .i64 (x.2.1 - 1),PUnit.unit) else none else none else bif Nat.ble (1 : Nat) x.1.length then some x.1 else none) (x0,IntKind.wrap .i64 (x2 - 1),PUnit.unit)
def fm (x0:List Int) (x1:Int) (x2:Int):Option (List Int):=rL lpK jnK x0 x1 x2
def a63:ACtr:=⟨[i64,i64],5,(.int .u8),fun l x=>fm l x.1 x.2.1⟩
theorem e63 (lp:Lp) (jn:Jn):∀(l:List a63.e.T) (x:TsS a63.as),rL lp jn l x.1 x.2.1=PG lp jn (cx [] [(32,r32),(92,r92),(112,aY)]) ak 4 63 f63 a63 l x:=fun l x=>by kernel_rfl
theorem TB:a63.ok prog 63:=ACtr.of_den (ao (q32)) aB (hl:=ak) (d:=4) func63 rfl (by decide) (e63 lpK jnK)
def rN (lp:Lp) (_:Jn) (x0:List Int):Option Int :=
 lp (Int×Int×PUnit) Int (fun (again:Int×Int×PUnit->Option Int) (x:Int×Int×PUnit)=>bif decide (x.2.1<(↑x0.length:Int)) then bif inB x.2.1 x0.length then again (IntKind.wrap IntKind.u32 (IntKind.wrap IntKind.u32 (IntKind.wrap IntKind.u32 (31*x.1)+IntKind.wrap IntKind.u32 (x0.getD x.2.1.toNat (0 : Int)))+1),IntKind.wrap .i64 (x.2.1+1),PUnit.unit) else none else some (IntKind.wrap .i64 x.1)) (0,0,PUnit.unit)
def dQ (x0:List Int):Option Int:=rN lpK jnK x0
abbrev t64:=(List Int)->Option (Int)
def k64 (dQ:t64):Ctr:=⟨[(.sl (.int .u8))],[],[],.one i64,fun x _ _=>dQ x.1⟩
def c64:Ctr:=k64 dQ
theorem e64 (lp:Lp) (jn:Jn):∀(x:TsS c64.as) (F:TsF c64.fs) (y:TsS c64.cs),rN lp jn x.1=br lp jn (cx [] [(32,r32),(92,r92),(112,aY)]) ak 4 64 f64 c64 x F y:=fun x F y=>by kernel_rfl
theorem Vf:c64.ok prog 64:=Ctr.of_den (ao (q32)) aB (hl:=ak) (d:=4) func64 rfl (by decide) (e64 lpK jnK)
def ni (lp:Lp) (jn:Jn) (bB:t49) (bw:t51) (dQ:t64) (fm:(List Int)->(Int)->(Int)->Option (List Int)) (x0:(List (Int×Int))×Bool×List (Int×Int)):Option ((List Int)×Int×Unit) :=
 af (bB x0) fun (t:List (Int×Int)×List (Int×Int)×PUnit) =>
 let v4:List Int:=[IntKind.wrap IntKind.u8 (↑t.1.length:Int)];af (bw x0) fun (t_1:Bool)=>bif !t_1 then some ([],1,PUnit.unit) else bif decide ((↑t.2.1.length:Int)>0) then some ([],19,PUnit.unit) else bif decide ((↑t.1.length:Int)>20) then some ([],4,PUnit.unit) else jn (List Int×PUnit) (List Int×Int×PUnit) (fun (x:List Int×PUnit)=>lp (List Int×Int×PUnit) (List Int×Int×PUnit) (fun (again:List Int×Int×PUnit->Option (List Int×Int×PUnit)) (x:List Int×Int×PUnit) =>
 let v9:Int×Int:=t.1.getD x.2.1.toNat (0,0);bif decide (x.2.1<(↑t.1.length:Int)) then bif inB x.2.1 t.1.length then af (fm x.1 v9.1 8) fun (t:List Int)=>af (fm t v9.2 8) fun (t:List Int)=>again (t,IntKind.wrap .i64 (x.2.1+1), PUnit.unit) else none else af (dQ x.1) fun (t:Int)=>af (fm x.1 t 4) fun (t:List Int)=>some (t,0,PUnit.unit)) (x.1,0, PUnit.unit)) fun (j:List Int×PUnit->Option (List Int×Int×PUnit))=>bif x0.2.1 then j (84 ::67 ::1 ::v4,PUnit.unit) else j (84 ::(67 : Int) ::0 ::v4,PUnit.unit)
def bN (x0:(List (Int×Int))×Bool×List (Int×Int)):Option ((List Int)×Int×Unit):=ni lpK jnK bB bw dQ fm x0
abbrev t25:=((List (Int×Int))×Bool×List (Int×Int))->Option ((List Int)×Int×Unit)
def k25 (bN:t25):Ctr:=⟨[T30],[],[],.tup [(.sl (.int .u8)),i64],fun x _ _=>bN x.1⟩
def c25:Ctr:=k25 bN
theorem e25 (lp:Lp) (jn:Jn) (bB:t49) (bw:t51) (dQ:t64) (fm:(List Int)->(Int)->(Int)->Option (List Int)):∀(x:TsS c25.as) (F:TsF c25.fs) (y:TsS c25.cs),ni lp jn bB bw dQ fm x.1=br lp jn (vA wa xP (Ss [(63,⟨[i64,i64],5,(.int .u8),fun l x=>fm l x.1 x.2.1⟩)] (ib prog shs rz its [(64,k64 dQ),(51,k51 bw),(49,k49 bB)] [(32,r32),(92,r92),(112,aY)]))) ak 4 25 f25 c25 x F y:=fun x F y=>by kernel_rfl
theorem TQ:c25.ok prog 25:=Ctr.of_den (ao (L0 (aa (aa (aa (q32) (by kernel_rfl) Q1) (by kernel_rfl) Tf) (by kernel_rfl) Vf) (G6 (by kernel_rfl) TB (Ie)))) aB (hl:=ak) (d:=4) func25 rfl (by decide) (e25 lpK jnK bB bw dQ fm)
def pn (_:Lp) (_:Jn) (aA:t24) (x0:Int):Option ((List (ByteArray×Int))×List (ByteArray×(List (ByteArray×Int×Int×Int))×Bool)) :=
 af (aA 1) fun (t:Int×Int) =>
 let v4:ByteArray×Int×Int×Int:=({ data:=#[] },0,t);some ([({ data:=#[(98:UInt8)] },300)],[({ data:=#[(114:UInt8)] },[v4,({ data:=#[(98 : UInt8)] },x0,t),v4],true)])
def dU (x0:Int):Option ((List (ByteArray×Int))×List (ByteArray×(List (ByteArray×Int×Int×Int))×Bool)):=pn lpK jnK aA x0
abbrev t37:=(Int)->Option ((List (ByteArray×Int))×List (ByteArray×(List (ByteArray×Int×Int×Int))×Bool))
def c37:Ctr:=⟨[i64],[],[],.one T25,fun x _ _=>dU x.1⟩
theorem e37 (lp:Lp) (jn:Jn) (aA:t24):∀(x:TsS c37.as) (F:TsF c37.fs) (y:TsS c37.cs),pn lp jn aA x.1=br lp jn (cx [(24,k24 aA)] [(32,r32),(92,r92),(112,aY)]) ak 4 37 f37 c37 x F y:=fun x F y=>by kernel_rfl
theorem UE:c37.ok prog 37:=Ctr.of_den (ao (aa (q32) (by kernel_rfl) Mr)) aB (hl:=ak) (d:=4) func37 rfl (by decide) (e37 lpK jnK aA)
def xI (_:Lp) (_:Jn) (x0:Bool) (x1:List (Int×Int)):Option ((List (Int×Int))×Bool×List (Int×Int)) :=
 bif x0 then some ([],true,x1) else some (x1,false,[])
def gP (x0:Bool) (x1:List (Int×Int)):Option ((List (Int×Int))×Bool×List (Int×Int)):=xI lpK jnK x0 x1
abbrev t38:=(Bool)->(List (Int×Int))->Option ((List (Int×Int))×Bool×List (Int×Int))
def k38 (gP:t38):Ctr:=⟨[.bool,(.sl T47)],[],[],.one T30,fun x _ _=>gP x.1 x.2.1⟩
def c38:Ctr:=k38 gP
theorem e38 (lp:Lp) (jn:Jn):∀(x:TsS c38.as) (F:TsF c38.fs) (y:TsS c38.cs),xI lp jn x.1 x.2.1=br lp jn (cx [] [(32,r32),(92,r92),(112,aY)]) ak 4 38 f38 c38 x F y:=fun x F y=>by kernel_rfl
theorem Tq:c38.ok prog 38:=Ctr.of_den (ao (q32)) aB (hl:=ak) (d:=4) func38 rfl (by decide) (e38 lpK jnK)
def rP (_:Lp) (_:Jn) (ba:t13) (bi:t15) (ap:t19) (aA:t24) (bN:t25) (dU:t37) (gP:t38):Option Bool :=
 af (dU 2) fun (t:List (ByteArray×Int)×List (ByteArray×List (ByteArray×Int×Int×Int)×Bool))=>af (ba t) fun (t:(List (Int×Int)×Bool × List (Int×Int))×Int×PUnit) =>
 let v4:Bool:=decide (t.2.1=0);
 let v5:Bool:=!v4||v4;af (dU (-2)) fun (t_1:List (ByteArray×Int)×List (ByteArray×List (ByteArray×Int×Int×Int)×Bool))=>af (ba t_1) fun (t_2:(List (Int×Int)×Bool×List (Int×Int))×Int×PUnit)=>af (dU (-2)) fun (t_3:List (ByteArray×Int)×List (ByteArray×List (ByteArray×Int × Int×Int)×Bool))=>af (aA 1) fun (t_4:Int×Int)=>af (gP true [t_4]) fun (t_5:List (Int×Int)×Bool×List (Int×Int))=>af (ap t_3 t_5) fun (t_6:Bool×Int×PUnit)=>af (bN ([],false,[])) fun (t_7:List Int×Int×PUnit)=>af (bif v4 then aA 150 else some (0,(0 : Int))) fun (t_8:Int×Int)=>bif v5 then bif v5 then af (bif v4 then gP false [t_8] else some ([],false,[])) fun (t_9:List (Int×Int)×Bool×List (Int×Int))=>bif v5&&v5 then af (bif v4 then bi t.1 t_9 else some false) fun (t:Bool) =>
 let v16:Bool:=bif v4 then t else false;
 let v17:Bool:=!v16||v16;
 let v18:Bool:=bif v16 then decide (t_2.2.1=0) else false;
 let v19:Bool:=bif v18 then t_2.1.2.1 else false;
 let v20:Bool:=!v18||v18;
 let v21:Bool:=bif v19 then decide ((↑t_2.1.2.2.length:Int)=1) else false;
 let v22:Bool:=!v19||v19;
 let v23:Bool:=bif v21 then decide (t_6.2.1=0) else false;
 let v24:Bool:=bif v23 then t_6.1 else false;
 let v25:Bool:=bif v24 then decide (t_7.2.1=0) else false;
 let v26:Bool:=!v21||v21;
 let v27:Bool:=!v24||v24;
 let v28:Bool:=!v25||v25;bif v5 then bif v17 then bif v17 then bif v20 then bif v20 then bif v22 then bif v22 then bif v22 then bif v22 then bif v26 then bif v26 then bif !v23 || v23 then bif v27 then bif v27 then bif v28 then bif v28 then bif v28 then some (bif v25 then decide ((↑t_7.1.length:Int)=8) else false) else none else none else none else none else none else none else none else none else none else none else none else none else none else none else none else none else none else none else none else none
def ax:Option Bool:=rP lpK jnK ba bi ap aA bN dU gP
abbrev t11:=Option (Bool)
def k11 (ax:t11):Ctr:=⟨[],[],[],.one .bool,fun _ _ _=>ax⟩
def c11:Ctr:=k11 ax
theorem e11 (lp:Lp) (jn:Jn) (ba:t13) (bi:t15) (ap:t19) (aA:t24) (bN:t25) (dU:t37) (gP:t38):∀(x:TsS c11.as) (F:TsF c11.fs) (y:TsS c11.cs),rP lp jn ba bi ap aA bN dU gP=br lp jn (cx [(38,k38 gP),(37,⟨[i64],[],[],.one T25,fun x _ _=>dU x.1⟩),(25,k25 bN),(24,k24 aA),(19,k19 ap),(15,k15 bi),(13,k13 ba)] [(32,r32),(92,r92),(112,aY)]) ak 4 11 f11 c11 x F y:=fun x F y=>by kernel_rfl
theorem T3:c11.ok prog 11:=Ctr.of_den (ao (aa (aa (aa (aa (aa (aa (aa (q32) (by kernel_rfl) Ua) (by kernel_rfl) TE) (by kernel_rfl) RQ) (by kernel_rfl) Mr) (by kernel_rfl) TQ) (by kernel_rfl) UE) (by kernel_rfl) Tq)) aB (hl:=ak) (d:=4) func11 rfl (by decide) (e11 lpK jnK ba bi ap aA bN dU gP)
def nc (lp:Lp) (_:Jn) (x0:(List (ByteArray×Int))×List (ByteArray×(List (ByteArray×Int×Int×Int))×Bool)):Option Bool :=
 
 let v3:Bool:=decide ((↑x0.1.length:Int)>9);
 let v4:Bool:=!v3;
 let v5:Bool:=!v4||v4;bif v5 then bif v5 then bif v5 then bif v3||v4 then bif bif v3 then true else decide ((↑x0.2.length:Int)>9) then some false else lp (Int × PUnit) Bool (fun (again:Int×PUnit->Option Bool) (x:Int×PUnit)=>bif decide (x.1<(↑x0.1.length:Int)) then bif inB x.1 x0.1.length then bif decide ((↑(ByteArray.size (x0.1.getD x.1.toNat ({ data:={ toList:=[] } },0)).1):Int)>60) then some false else again (IntKind.wrap .i64 (x.1 + 1),PUnit.unit) else none else lp (Int×PUnit) Bool (fun (again:Int×PUnit->Option Bool) (x:Int×PUnit) =>
 let v10:Bool:=inB x.1 x0.2.length;
 let v11:Bool:=decide ((↑(ByteArray.size (x0.2.getD x.1.toNat ({ data:={ toList:=[] } },[],false)).1):Int)>60);
 let v12:Bool:=!v11;
 let v13:Bool:=!v12;
 let v14:Bool:=v13||v12;bif decide (x.1<(↑x0.2.length:Int)) then bif v10 then bif v14 then bif v14&&(v14&&(v13||v10)) then bif v14 then bif v14 then bif v14 then bif v14 then bif v11||v12 then bif bif v11 then true else decide ((↑(List.length (x0.2.getD x.1.toNat ({ data:={ toList:=[] } },[],false)).2.1):Int) > 13) then some false else lp (Int×PUnit) Bool (fun (again_1:Int×PUnit->Option Bool) (x_1:Int×PUnit)=>bif v10 then bif decide (x_1.1<(↑(List.length (x0.2.getD x.1.toNat ({ data:={ toList:=[] } },[],false)).2.1):Int)) then bif v10 then bif inB x_1.1 (List.length (x0.2.getD x.1.toNat ({ data:={ toList:=[] } },[],false)).2.1) then bif decide ((↑(ByteArray.size (List.getD (x0.2.getD x.1.toNat ({ data:={ toList:=[] } },[],false)).2.1 x_1.1.toNat ({ data:={ toList:=[] } },0,0,0)).1):Int)>60) then some false else again_1 (IntKind.wrap .i64 (x_1.1+1), PUnit.unit) else none else none else again (IntKind.wrap .i64 (x.1+1),PUnit.unit) else none) (0,PUnit.unit) else none else none else none else none else none else none else none else none else some true) (0,PUnit.unit)) (0,PUnit.unit) else none else none else none else none
def aI (x0:(List (ByteArray×Int))×List (ByteArray×(List (ByteArray×Int×Int×Int))×Bool)):Option Bool:=nc lpK jnK x0
abbrev t12:=((List (ByteArray×Int))×List (ByteArray×(List (ByteArray×Int×Int×Int))×Bool))->Option (Bool)
def k12 (aI:t12):Ctr:=⟨[T25],[],[],.one .bool,fun x _ _=>aI x.1⟩
def c12:Ctr:=k12 aI
theorem e12 (lp:Lp) (jn:Jn):∀(x:TsS c12.as) (F:TsF c12.fs) (y:TsS c12.cs),nc lp jn x.1=br lp jn (cx [] [(32,r32),(92,r92),(112,aY)]) ak 4 12 f12 c12 x F y:=fun x F y=>by kernel_rfl
theorem TW:c12.ok prog 12:=Ctr.of_den (ao (q32)) aB (hl:=ak) (d:=4) func12 rfl (by decide) (e12 lpK jnK)
def pB (_:Lp) (_:Jn) (x0:Int):Option Bool :=
 
 let v3:Bool:=decide (x0>=97);
 let v4:Bool:=decide (x0>=65);
 let v5:Bool:=!v3||v3;
 let v6:Bool:=bif v3 then decide (x0<=122) else false;
 let v7:Bool:=!v6;
 let v8:Bool:=!v7;
 let v9:Bool:=v7&&v4;
 let v10:Bool:=v8||v7;bif v5 then bif v5 then bif v10 then bif v10 then bif !v9||v9 then bif (v8||v10)&&(v8||(!v4||(v8||v9))) then bif v6||v7 then some (bif v6 then true else bif v4 then decide (x0<=90) else false) else none else none else none else none else none else none else none
def bU (x0:Int):Option Bool:=pB lpK jnK x0
abbrev t76:=(Int)->Option (Bool)
def k76 (bU:t76):Ctr:=⟨[(.int .u8)],[],[],.one .bool,fun x _ _=>bU x.1⟩
def c76:Ctr:=k76 bU
theorem e76 (lp:Lp) (jn:Jn):∀(x:TsS c76.as) (F:TsF c76.fs) (y:TsS c76.cs),pB lp jn x.1=br lp jn (cx [] [(32,r32),(92,r92),(112,aY)]) ak 4 76 f76 c76 x F y:=fun x F y=>by kernel_rfl
theorem RB:c76.ok prog 76:=Ctr.of_den (ao (q32)) aB (hl:=ak) (d:=4) func76 rfl (by decide) (e76 lpK jnK)
def rT (_:Lp) (_:Jn) (x0:Int):Option Bool :=
 
 let v3:Bool:=decide (x0>=48);
 let v4:Bool:=!v3||v3;bif v4 then bif v4 then some (bif v3 then decide (x0<=57) else false) else none else none
def fI (x0:Int):Option Bool:=rT lpK jnK x0
abbrev QT:=(Int)->Option (Bool)
def LL:Ctr:=⟨[(.int .u8)],[],[],.one .bool,fun x _ _=>fI x.1⟩
theorem UK (lp:Lp) (jn:Jn):∀(x:TsS LL.as) (F:TsF LL.fs) (y:TsS LL.cs),rT lp jn x.1=br lp jn (cx [] [(32,r32),(92,r92),(112,aY)]) ak 4 115 f115 LL x F y:=fun x F y=>by kernel_rfl
theorem RV:LL.ok prog 115:=Ctr.of_den (ao (q32)) aB (hl:=ak) (d:=4) func115 rfl (by decide) (UK lpK jnK)
def oV (lp:Lp) (_:Jn) (bU:t76) (fI:QT) (x0:ByteArray) (x1:Int):Option Int :=
 lp (Int×PUnit) Int (fun (again:Int×PUnit->Option Int) (x:Int×PUnit) =>
 let v6:Bool:=inB x.1 (ByteArray.size x0);
 let v7:Int:=fb x0 x.1.toNat;
 let v8:Bool:=decide (x.1<(↑(ByteArray.size x0):Int));
 let v9:Bool:=!v8;
 let v10:Bool:=v9||v8;
 let v11:Bool:=v9||v10;bif v10&&(v10&&(v9||v6)) then bif v10 then af (bif v8 then bU v7 else some false) fun (t:Bool) =>
 let v13:Bool:=v8&&!t;
 let v14:Bool:=!v13;
 let v15:Bool:=v14||v13;bif v10 then bif v15&&(v15&&(v14||v6)) then bif v15 then af (bif v13 then fI v7 else some false) fun (t_1:Bool) =>
 let v17:Bool:=bif t then true else t_1;
 let v18:Bool:=v8&&!v17;
 let v19:Bool:=!v18;
 let v20:Bool:=v19||v18;bif v11&&(v9||(t||(v9||v13))) then bif v10 then bif v20&&(v20&&(v19||v6)) then bif v20 then bif v11&&(v9||(v17||(v9||v18))) then bif v10 then bif bif v8 then bif v17 then true else decide (v7=95) else false then again (IntKind.wrap .i64 (x.1+1),PUnit.unit) else some x.1 else none else none else none else none else none else none else none else none else none else none else none) (x1,PUnit.unit)
def fR (x0:ByteArray) (x1:Int):Option Int:=oV lpK jnK bU fI x0 x1
abbrev t77:=(ByteArray)->(Int)->Option (Int)
def c77:Ctr:=⟨[.str,i64],[],[],.one i64,fun x _ _=>fR x.1 x.2.1⟩
theorem e77 (lp:Lp) (jn:Jn) (bU:t76) (fI:QT):∀(x:TsS c77.as) (F:TsF c77.fs) (y:TsS c77.cs),oV lp jn bU fI x.1 x.2.1=br lp jn (cx [(115,⟨[(.int .u8)],[],[],.one .bool,fun x _ _=>fI x.1⟩),(76,k76 bU)] [(32,r32),(92,r92),(112,aY)]) ak 4 77 f77 c77 x F y:=fun x F y=>by kernel_rfl
theorem Um:c77.ok prog 77:=Ctr.of_den (ao (aa (aa (q32) (by kernel_rfl) RB) (by kernel_rfl) RV)) aB (hl:=ak) (d:=4) func77 rfl (by decide) (e77 lpK jnK bU fI)
def mj (_:Lp) (_:Jn) (bU:t76) (fR:t77) (x0:ByteArray):Option Bool :=
 
 let v3:Bool:=decide ((↑(ByteArray.size x0):Int)=0);
 let v4:Bool:=!v3;
 let v5:Bool:=!v4||v4;
 let v6:Bool:=bif v3 then true else decide ((↑(ByteArray.size x0):Int)>20);
 let v7:Bool:=!v6;
 let v8:Bool:=!v7;
 let v9:Bool:=v8||v7;bif v5 then bif v5 then bif v3||v4 then bif v9&&(v8||inB 0 (ByteArray.size x0)) then bif v9 then af (bif v7 then bU (fb x0 (0 : Nat)) else some false) fun (t:Bool)=>bif v9 then bif v6||v7 then bif bif v6 then true else !t then some false else af (fR x0 0) fun (t:Int)=>some (decide (t = (↑(ByteArray.size x0):Int))) else none else none else none else none else none else none else none
def eg (x0:ByteArray):Option Bool:=mj lpK jnK bU fR x0
abbrev t39:=(ByteArray)->Option (Bool)
def c39:Ctr:=⟨[.str],[],[],.one .bool,fun x _ _=>eg x.1⟩
theorem e39 (lp:Lp) (jn:Jn) (bU:t76) (fR:t77):∀(x:TsS c39.as) (F:TsF c39.fs) (y:TsS c39.cs),mj lp jn bU fR x.1=br lp jn (cx [(77,⟨[.str,i64],[],[],.one i64,fun x _ _=>fR x.1 x.2.1⟩),(76,k76 bU)] [(32,r32),(92,r92),(112,aY)]) ak 4 39 f39 c39 x F y:=fun x F y=>by kernel_rfl
theorem TI:c39.ok prog 39:=Ctr.of_den (ao (aa (aa (q32) (by kernel_rfl) RB) (by kernel_rfl) Um)) aB (hl:=ak) (d:=4) func39 rfl (by decide) (e39 lpK jnK bU fR)
def jp (lp:Lp) (_:Jn) (x0:(List (ByteArray×Int))×List (ByteArray×(List (ByteArray×Int×Int×Int))×Bool)) (x1:ByteArray):Option Int :=
 lp (Int×PUnit) Int (fun (again:Int×PUnit->Option Int) (x:Int×PUnit)=>bif decide (x.1<(↑x0.1.length:Int)) then bif inB x.1 x0.1.length then bif List.beq (ByteArray.toList (x0.1.getD x.1.toNat ({ data:={ toList:=[] } },0)).1) (ByteArray.toList x1) then some x.1 else again (IntKind.wrap .i64 (x.1+1),PUnit.unit) else none else some (-1)) (0,PUnit.unit)
def aW (x0:(List (ByteArray×Int))×List (ByteArray×(List (ByteArray×Int×Int×Int))×Bool)) (x1:ByteArray):Option Int:=jp lpK jnK x0 x1
abbrev t40:=((List (ByteArray×Int))×List (ByteArray×(List (ByteArray×Int×Int×Int))×Bool))->(ByteArray)->Option (Int)
def k40 (aW:t40):Ctr:=⟨[T25,.str],[],[],.one i64,fun x _ _=>aW x.1 x.2.1⟩
def c40:Ctr:=k40 aW
theorem e40 (lp:Lp) (jn:Jn):∀(x:TsS c40.as) (F:TsF c40.fs) (y:TsS c40.cs),jp lp jn x.1 x.2.1=br lp jn (cx [] [(32,r32),(92,r92),(112,aY)]) ak 4 40 f40 c40 x F y:=fun x F y=>by kernel_rfl
theorem S3:c40.ok prog 40:=Ctr.of_den (ao (q32)) aB (hl:=ak) (d:=4) func40 rfl (by decide) (e40 lpK jnK)
def jH (lp:Lp) (_:Jn) (x0:(List (ByteArray×Int))×List (ByteArray×(List (ByteArray×Int×Int×Int))×Bool)) (x1:ByteArray):Option Int :=
 lp (Int×PUnit) Int (fun (again:Int×PUnit->Option Int) (x:Int×PUnit)=>bif decide (x.1<(↑x0.2.length:Int)) then bif inB x.1 x0.2.length then bif List.beq (ByteArray.toList (x0.2.getD x.1.toNat ({ data:={ toList:=[] } },[],false)).1) (ByteArray.toList x1) then some x.1 else again (IntKind.wrap .i64 (x.1+1),PUnit.unit) else none else some (-1)) (0,PUnit.unit)
def du (x0:(List (ByteArray×Int))×List (ByteArray×(List (ByteArray×Int×Int×Int))×Bool)) (x1:ByteArray):Option Int:=jH lpK jnK x0 x1
abbrev t41:=((List (ByteArray×Int))×List (ByteArray×(List (ByteArray×Int×Int×Int))×Bool))->(ByteArray)->Option (Int)
def c41:Ctr:=⟨[T25,.str],[],[],.one i64,fun x _ _=>du x.1 x.2.1⟩
theorem e41 (lp:Lp) (jn:Jn):∀(x:TsS c41.as) (F:TsF c41.fs) (y:TsS c41.cs),jH lp jn x.1 x.2.1=br lp jn (cx [] [(32,r32),(92,r92),(112,aY)]) ak 4 41 f41 c41 x F y:=fun x F y=>by kernel_rfl
theorem Tv:c41.ok prog 41:=Ctr.of_den (ao (q32)) aB (hl:=ak) (d:=4) func41 rfl (by decide) (e41 lpK jnK)
def ot (_:Lp) (_:Jn) (x0:Int×Int) (x1:Int×Int):Option Bool :=
 
 let v4:Bool:=decide (x0.1=x1.1);
 let v5:Bool:=decide (x0.1<x1.1);
 let v6:Bool:=!v5;
 let v7:Bool:=!v6;
 let v8:Bool:=v6&&v4;
 let v9:Bool:=v7||v6;
 let v10:Bool:=!v8||v8;bif v9 then bif v9 then bif v9&&v9 then bif v9 then bif v10 then bif v10 then bif v10&&v10 then bif (v7||v9)&&(v7||(!v4||(v7||v8))) then bif v5 || v6 then some (bif v5 then true else bif v4 then decide (x0.2<x1.2) else false) else none else none else none else none else none else none else none else none else none
def cg (x0:Int×Int) (x1:Int×Int):Option Bool:=ot lpK jnK x0 x1
abbrev GG:=(Int×Int)->(Int×Int)->Option (Bool)
def SD (cg:GG):Ctr:=⟨[kL,kL],[],[],.one .bool,fun x _ _=>cg x.1 x.2.1⟩
def Lu:Ctr:=SD cg
theorem Vg (lp:Lp) (jn:Jn):∀(x:TsS Lu.as) (F:TsF Lu.fs) (y:TsS Lu.cs),ot lp jn x.1 x.2.1=br lp jn (cx [] [(32,r32),(92,r92),(112,aY)]) ak 4 161 f161 Lu x F y:=fun x F y=>by kernel_rfl
theorem SY:Lu.ok prog 161:=Ctr.of_den (ao (q32)) aB (hl:=ak) (d:=4) func161 rfl (by decide) (Vg lpK jnK)
def oc (_:Lp) (_:Jn) (x0:Int×Int) (x1:Int×Int):Option (Int×Int) :=
 
 let v4:Int:=IntKind.wrap .u64 (x0.1+x1.1);
 let v5:Int:=IntKind.wrap .u64 (x0.2+x1.2);bif decide (v5<x0.2) then some (IntKind.wrap .u64 (v4+1),v5) else some (v4,v5)
def dN (x0:Int×Int) (x1:Int×Int):Option (Int×Int):=oc lpK jnK x0 x1
abbrev MO:=(Int×Int)->(Int×Int)->Option (Int×Int)
def Sq (dN:MO):Ctr:=⟨[kL,kL],[],[],.one kL,fun x _ _=>dN x.1 x.2.1⟩
def I7:Ctr:=Sq dN
theorem To (lp:Lp) (jn:Jn):∀(x:TsS I7.as) (F:TsF I7.fs) (y:TsS I7.cs),oc lp jn x.1 x.2.1=br lp jn (cx [] [(32,r32),(92,r92),(112,aY)]) ak 4 163 f163 I7 x F y:=fun x F y=>by kernel_rfl
theorem R6:I7.ok prog 163:=Ctr.of_den (ao (q32)) aB (hl:=ak) (d:=4) func163 rfl (by decide) (To lpK jnK)
def mQ (_:Lp) (_:Jn) (x0:Int×Int) (x1:Int×Int):Option (Int×Int) :=
 
 let v4:Int:=IntKind.wrap .u64 (x0.1 - x1.1);
 let v5:Int:=IntKind.wrap .u64 (x0.2 - x1.2);bif decide (x0.2<x1.2) then some (IntKind.wrap .u64 (v4 - 1),v5) else some (v4,v5)
def bV (x0:Int×Int) (x1:Int×Int):Option (Int×Int):=mQ lpK jnK x0 x1
abbrev Ki:=(Int×Int)->(Int×Int)->Option (Int×Int)
def Sd (bV:Ki):Ctr:=⟨[kL,kL],[],[],.one kL,fun x _ _=>bV x.1 x.2.1⟩
def Iy:Ctr:=Sd bV
theorem U4 (lp:Lp) (jn:Jn):∀(x:TsS Iy.as) (F:TsF Iy.fs) (y:TsS Iy.cs),mQ lp jn x.1 x.2.1=br lp jn (cx [] [(32,r32),(92,r92),(112,aY)]) ak 4 164 f164 Iy x F y:=fun x F y=>by kernel_rfl
theorem Si:Iy.ok prog 164:=Ctr.of_den (ao (q32)) aB (hl:=ak) (d:=4) func164 rfl (by decide) (U4 lpK jnK)
def oQ (_:Lp) (_:Jn) (x0:Int×Int):Option (Int×Int) :=
 
 let v3:Int:=2 ^ 1;
 let v4:Bool:=decide ((0:Int)<=1);bif v4 then bif v4 then bif decide ((0:Int)<=63) then some (Int.fdiv x0.1 v3,IntKind.wrap .u64 (Int.fdiv x0.2 v3 + IntKind.wrap .u64 (x0.1*2 ^ 63))) else none else none else none
def eB (x0:Int×Int):Option (Int×Int):=oQ lpK jnK x0
abbrev RR:=(Int×Int)->Option (Int×Int)
def Ky:Ctr:=⟨[kL],[],[],.one kL,fun x _ _=>eB x.1⟩
theorem U7 (lp:Lp) (jn:Jn):∀(x:TsS Ky.as) (F:TsF Ky.fs) (y:TsS Ky.cs),oQ lp jn x.1=br lp jn (cx [] [(32,r32),(92,r92),(112,aY)]) ak 4 180 f180 Ky x F y:=fun x F y=>by kernel_rfl
theorem Q6:Ky.ok prog 180:=Ctr.of_den (ao (q32)) aB (hl:=ak) (d:=4) func180 rfl (by decide) (U7 lpK jnK)
def qp (lp:Lp) (_:Jn) (cg:GG) (dN:MO) (bV:Ki) (eB:RR) (x0:Int×Int) (x1:Int×Int):Option (Int×Int) :=
 bif decide (x0.1=0)&&(decide (x0.2=0)&&true) then some x1 else lp (Int×(Int×Int)×(Int×Int)×PUnit) (Int×Int) (fun (again:Int×(Int×Int)×(Int × Int)×PUnit->Option (Int×Int)) (x:Int×(Int×Int)×(Int×Int)×PUnit) =>
 let v6:Bool:=decide (IntKind.wrap .u64 (↑(Nat.land (Int.toNat (x.2.1.2 % Int.ofNat 18446744073709551616)) (Int.toNat (1 % Int.ofNat (18446744073709551616 : Nat)))):Int)=0);
 let v7:Bool:=!v6||v6;bif v7 then bif v7 then bif v7 then bif v7 then bif bif v6 then decide (IntKind.wrap .u64 (↑(Nat.land (Int.toNat (x.2.2.1.2 % Int.ofNat 18446744073709551616)) (Int.toNat (1 % Int.ofNat 18446744073709551616))):Int)=0) else false then af (eB x.2.1) fun (t:Int×Int) => af (eB x.2.2.1) fun (t_1:Int×Int)=>again (IntKind.wrap .i64 (x.1+1),t,t_1,PUnit.unit) else lp ((Int×Int)×(Int×Int)×PUnit) (Int × Int) (fun (again:(Int×Int)×(Int×Int)×PUnit->Option (Int×Int)) (x_1:(Int×Int)×(Int×Int)×PUnit) =>
 let v10:(Int×Int)×PUnit:=(x_1.2.1,PUnit.unit);bif !(decide (x_1.1.1=0)&&(decide (x_1.1.2=0)&&true)) then lp ((Int×Int)×PUnit) (Int×Int) (fun (again_1:(Int×Int)×PUnit->Option (Int×Int)) (x:(Int×Int)×PUnit)=>bif decide (IntKind.wrap .u64 (↑(Nat.land (Int.toNat (x.1.2 % Int.ofNat 18446744073709551616)) (Int.toNat (1 % Int.ofNat 18446744073709551616))):Int)=0) then af (eB x.1) fun (t:Int×Int)=>again_1 (t, PUnit.unit) else lp ((Int×Int)×PUnit) (Int×Int) (fun (again_2:(Int×Int)×PUnit->Option (Int×Int)) (x_2:(Int×Int)×PUnit)=>bif decide (IntKind.wrap .u64 (↑(Nat.land (Int.toNat (x_2.1.2 % Int.ofNat 18446744073709551616)) (Int.toNat (1 % Int.ofNat 18446744073709551616))):Int)=0) then af (eB x_2.1) fun (t:Int×Int)=>again_2 (t,PUnit.unit) else af (cg x.1 x_2.1) fun (t:Bool)=>bif t then af (bV x_2.1 x.1) fun (t:Int × Int)=>again (t,x.1,PUnit.unit) else af (bV x.1 x_2.1) fun (t:Int×Int)=>again (t,x_2.1,PUnit.unit)) v10) (x_1.1,PUnit.unit) else lp (Int×(Int×Int) × PUnit) (Int×Int) (fun (again:Int×(Int×Int)×PUnit->Option (Int×Int)) (x:Int×(Int×Int)×PUnit)=>bif decide (x.1>0) then af (dN x.2.1 x.2.1) fun (t:Int×Int)=>again (IntKind.wrap .i64 (x.1 - 1),t,PUnit.unit) else some x.2.1) (x.1,v10)) (x.2.1,x.2.2.1,PUnit.unit) else none else none else none else none) (0,x0,x1,PUnit.unit)
def eA (x0:Int×Int) (x1:Int×Int):Option (Int×Int):=qp lpK jnK cg dN bV eB x0 x1
abbrev NZ:=(Int×Int)->(Int×Int)->Option (Int×Int)
def SU (eA:NZ):Ctr:=⟨[kL,kL],[],[],.one kL,fun x _ _=>eA x.1 x.2.1⟩
def JS:Ctr:=SU eA
theorem UU (lp:Lp) (jn:Jn) (cg:GG) (dN:MO) (bV:Ki) (eB:RR):∀(x:TsS JS.as) (F:TsF JS.fs) (y:TsS JS.cs),qp lp jn cg dN bV eB x.1 x.2.1=br lp jn (cx [(180,⟨[kL],[],[],.one kL,fun x _ _=>eB x.1⟩),(164,Sd bV),(163,Sq dN),(161,SD cg)] [(32,r32),(92,r92),(112,aY)]) ak 4 152 f152 JS x F y:=fun x F y=>by kernel_rfl
theorem SB:JS.ok prog 152:=Ctr.of_den (ao (aa (aa (aa (aa (q32) (by kernel_rfl) SY) (by kernel_rfl) R6) (by kernel_rfl) Si) (by kernel_rfl) Q6)) aB (hl:=ak) (d:=4) func152 rfl (by decide) (UU lpK jnK cg dN bV eB)
def ou (_:Lp) (_:Jn) (x0:Int):Option Int :=
 
 let v3:Int:=IntKind.wrap .u64 x0;bif decide (x0<0) then some (IntKind.wrap .u64 (0 - v3)) else some v3
def aX (x0:Int):Option Int:=ou lpK jnK x0
abbrev Gz:=(Int)->Option (Int)
def Sf (aX:Gz):Ctr:=⟨[i64],[],[],.one (.int .u64),fun x _ _=>aX x.1⟩
def Lm:Ctr:=Sf aX
theorem Tk (lp:Lp) (jn:Jn):∀(x:TsS Lm.as) (F:TsF Lm.fs) (y:TsS Lm.cs),ou lp jn x.1=br lp jn (cx [] [(32,r32),(92,r92),(112,aY)]) ak 4 153 f153 Lm x F y:=fun x F y=>by kernel_rfl
theorem SR:Lm.ok prog 153:=Ctr.of_den (ao (q32)) aB (hl:=ak) (d:=4) func153 rfl (by decide) (Tk lpK jnK)
def mO (_:Lp) (_:Jn) (eA:NZ) (aX:Gz) (x0:Int×Int):Option Bool :=
 
 let v3:Bool:=decide (x0.2<1);
 let v4:Bool:=!v3;
 let v5:Bool:=bif v3 then true else decide (x0.2>1152921504606846976);
 let v6:Bool:=!v4||v4;
 let v7:Bool:=!v5;
 let v8:Bool:=bif v5 then true else decide (x0.1<(-1152921504606846976));
 let v9:Bool:=!v8;
 let v10:Bool:=!v7||v7;
 let v11:Bool:=!v9||v9;bif v6 then bif v6 then bif v3||v4 then bif v10 then bif v10 then bif v5||v7 then bif v11 then bif v11 then bif v8||v9 then bif bif v8 then true else decide (x0.1>1152921504606846976) then some false else af (aX x0.1) fun (t:Int)=>af (aX x0.2) fun (t_1:Int)=>af (eA (0, t) (0,t_1)) fun (t:Int×Int)=>some (decide (t.1=0)&&(decide (t.2=1)&&true)) else none else none else none else none else none else none else none else none else none
def cO (x0:Int×Int):Option Bool:=mO lpK jnK eA aX x0
abbrev Mz:=(Int×Int)->Option (Bool)
def RJ (cO:Mz):Ctr:=⟨[T47],[],[],.one .bool,fun x _ _=>cO x.1⟩
def I9:Ctr:=RJ cO
theorem Uh (lp:Lp) (jn:Jn) (eA:NZ) (aX:Gz):∀(x:TsS I9.as) (F:TsF I9.fs) (y:TsS I9.cs),mO lp jn eA aX x.1=br lp jn (cx [(153,Sf aX),(152,SU eA)] [(32,r32),(92,r92),(112,aY)]) ak 4 108 f108 I9 x F y:=fun x F y=>by kernel_rfl
theorem Tc:I9.ok prog 108:=Ctr.of_den (ao (aa (aa (q32) (by kernel_rfl) SB) (by kernel_rfl) SR)) aB (hl:=ak) (d:=4) func108 rfl (by decide) (Uh lpK jnK eA aX)
def iW (_:Lp) (_:Jn) (cO:Mz) (x0:Int×Int):Option Bool :=
 af (cO x0) fun (t:Bool) =>
 let v4:Bool:=!t||t;
 let v5:Bool:=bif t then decide (x0.1>=x0.2) else false;
 let v6:Bool:=!v5||v5;bif v4 then bif v4 then bif v4&&v4 then bif v4 then bif v6 then bif v6 then bif v6 then some (bif v5 then decide (x0.1<=100) else false) else none else none else none else none else none else none else none
def cV (x0:Int×Int):Option Bool:=iW lpK jnK cO x0
abbrev SS:=(Int×Int)->Option (Bool)
def I4:Ctr:=⟨[T47],[],[],.one .bool,fun x _ _=>cV x.1⟩
theorem Uq (lp:Lp) (jn:Jn) (cO:Mz):∀(x:TsS I4.as) (F:TsF I4.fs) (y:TsS I4.cs),iW lp jn cO x.1=br lp jn (cx [(108,RJ cO)] [(32,r32),(92,r92),(112,aY)]) ak 4 116 f116 I4 x F y:=fun x F y=>by kernel_rfl
theorem Rv:I4.ok prog 116:=Ctr.of_den (ao (aa (q32) (by kernel_rfl) Tc)) aB (hl:=ak) (d:=4) func116 rfl (by decide) (Uq lpK jnK cO)
def nZ (_:Lp) (_:Jn) (aA:t24) (aW:t40) (cV:SS) (x0:(List (ByteArray×Int))×List (ByteArray×(List (ByteArray×Int×Int×Int))×Bool)) (x1:ByteArray×Int×Int×Int) (x2:Bool):Option Bool :=
 
 let v5:Bool:=!x2||x2;
 let v6:Bool:=decide (x1.2.1=0);
 let v7:Bool:=decide (x1.2.1=1);
 let v8:Bool:=decide (x1.2.1=2);
 let v9:Bool:=!v7;
 let v10:Bool:=!v8;
 let v11:Bool:=bif v8 then true else v6;
 let v12:Bool:=!v9||v9;
 let v13:Bool:=!v10||v10;
 let v14:Bool:=!v11;
 let v15:Bool:=!v14||v14;bif v5 then af (bif x2 then aA 1 else some (0,0)) fun (t:Int×Int) =>
 let v17:Bool:=bif x2 then !(decide (x1.2.2.1=t.1)&&(decide (x1.2.2.2=t.2)&&true)) else false;
 let v18:Bool:=!v17;
 let v19:Bool:=!v18||v18;bif v5&&v5 then bif v5 then bif v19 then bif v19 then af (bif v18 then cV x1.2.2 else some false) fun (t:Bool)=>bif v19 then bif v17||v18 then bif bif v17 then true else !t then some false else bif List.beq (ByteArray.toList x1.1) (ByteArray.toList { data:=#[] }) then some v6 else af (aW x0 x1.1) fun (t:Int)=>bif decide (t<0) then some false else bif x2 then bif v12 then bif v12 then bif v7||v9 then some (bif v7 then true else decide (x1.2.1=(-1 : Int))) else none else none else none else bif v13 then bif v13 then bif v8||v10 then bif v15 then bif v15 then bif v11||v14 then some (bif v11 then true else decide (x1.2.1 = (-2))) else none else none else none else none else none else none else none else none else none else none else none else none else none
def ff (x0:(List (ByteArray×Int))×List (ByteArray×(List (ByteArray×Int×Int×Int))×Bool)) (x1:ByteArray×Int×Int×Int) (x2:Bool):Option Bool:=nZ lpK jnK aA aW cV x0 x1 x2
abbrev t78:=((List (ByteArray×Int))×List (ByteArray×(List (ByteArray×Int×Int×Int))×Bool))->(ByteArray×Int×Int×Int)->(Bool)->Option (Bool)
def k78 (ff:t78):Ctr:=⟨[T25,T74,.bool],[],[],.one .bool,fun x _ _=>ff x.1 x.2.1 x.2.2.1⟩
def c78:Ctr:=k78 ff
theorem e78 (lp:Lp) (jn:Jn) (aA:t24) (aW:t40) (cV:SS):∀(x:TsS c78.as) (F:TsF c78.fs) (y:TsS c78.cs),nZ lp jn aA aW cV x.1 x.2.1 x.2.2.1=br lp jn (cx [(116,⟨[T47],[],[],.one .bool,fun x _ _=>cV x.1⟩),(40,k40 aW),(24,k24 aA)] [(32,r32),(92,r92),(112,aY)]) ak 4 78 f78 c78 x F y:=fun x F y=>by kernel_rfl
theorem U6:c78.ok prog 78:=Ctr.of_den (ao (aa (aa (aa (q32) (by kernel_rfl) Mr) (by kernel_rfl) S3) (by kernel_rfl) Rv)) aB (hl:=ak) (d:=4) func78 rfl (by decide) (e78 lpK jnK aA aW cV)
def nT (lp:Lp) (_:Jn) (ff:t78) (x0:(List (ByteArray×Int))×List (ByteArray×(List (ByteArray×Int×Int×Int))×Bool)) (x1:ByteArray×(List (ByteArray×Int×Int×Int))×Bool):Option Bool :=
 
 let v4:Bool:=!x1.2.2;
 let v5:Bool:=!v4;
 let v6:Bool:=!v5;
 let v7:Int:=IntKind.wrap .i64 ((↑x1.2.1.length:Int) - 1);
 let v8:Bool:=v6||v5;
 let v9:Bool:=decide ((↑x1.2.1.length:Int)<2);
 let v10:Bool:=!v9;
 let v11:Bool:=!v10||v10;bif v11 then bif v11 then bif v11 then bif v9||v10 then bif bif v9 then true else decide ((↑x1.2.1.length:Int)>10) then some false else lp (Int×PUnit) Bool (fun (again:Int×PUnit->Option Bool) (x:Int×PUnit) =>
 let v14:Bool:=decide (x.1=0);
 let v15:Bool:=!v14;
 let v16:Bool:=!v15||v15;bif decide (x.1<(↑x1.2.1.length:Int)) then bif inB x.1 x1.2.1.length then bif v16 then bif v16 then bif v16 then bif v16 && v16 then bif v14||v15 then af (ff x0 (x1.2.1.getD x.1.toNat ({ data:={ toList:=[] } },0,0,0)) (bif v14 then true else decide (x.1=v7))) fun (t:Bool)=>bif !t then some false else again (IntKind.wrap .i64 (x.1+1),PUnit.unit) else none else none else none else none else none else none else bif v8 then bif v8 then bif v8 then bif v8 then bif v8&&(v8&&(v6||inB v7 x1.2.1.length)) then bif v8 then bif v8 then bif v8 then bif v4||v5 then some (bif v4 then true else List.beq (ByteArray.toList (x1.2.1.getD v7.toNat ({ data:={ toList:=[] } },0,0,0)).1) (ByteArray.toList { data:=#[] })) else none else none else none else none else none else none else none else none else none) (0,PUnit.unit) else none else none else none else none
def fN (x0:(List (ByteArray×Int))×List (ByteArray×(List (ByteArray×Int×Int×Int))×Bool)) (x1:ByteArray×(List (ByteArray×Int×Int×Int))×Bool):Option Bool:=nT lpK jnK ff x0 x1
abbrev t42:=((List (ByteArray×Int))×List (ByteArray×(List (ByteArray×Int×Int×Int))×Bool))->(ByteArray×(List (ByteArray×Int×Int×Int))×Bool)->Option (Bool)
def c42:Ctr:=⟨[T25,T72],[],[],.one .bool,fun x _ _=>fN x.1 x.2.1⟩
theorem e42 (lp:Lp) (jn:Jn) (ff:t78):∀(x:TsS c42.as) (F:TsF c42.fs) (y:TsS c42.cs),nT lp jn ff x.1 x.2.1=br lp jn (cx [(78,k78 ff)] [(32,r32),(92,r92),(112,aY)]) ak 4 42 f42 c42 x F y:=fun x F y=>by kernel_rfl
theorem UG:c42.ok prog 42:=Ctr.of_den (ao (aa (q32) (by kernel_rfl) U6)) aB (hl:=ak) (d:=4) func42 rfl (by decide) (e42 lpK jnK ff)
def mN (lp:Lp) (_:Jn) (eg:t39) (aW:t40) (du:t41) (fN:t42) (x0:(List (ByteArray×Int))×List (ByteArray×(List (ByteArray×Int×Int×Int))×Bool)):Option Bool :=
 
 let v3:Bool:=decide ((↑x0.1.length:Int)<1);
 let v4:Bool:=!v3;
 let v5:Bool:=bif v3 then true else decide ((↑x0.1.length:Int)>6);
 let v6:Bool:=!v4||v4;
 let v7:Bool:=!v5;
 let v8:Bool:=bif v5 then true else decide ((↑x0.2.length:Int)<1);
 let v9:Bool:=!v8;
 let v10:Bool:=!v7||v7;
 let v11:Bool:=!v9||v9;bif v6 then bif v6 then bif v6 then bif v3||v4 then bif v10 then bif v10 then bif v10 then bif v5||v7 then bif v11 then bif v11 then bif v11 then bif v8 || v9 then bif bif v8 then true else decide ((↑x0.2.length:Int)>6) then some false else lp (Int×PUnit) Bool (fun (again:Int×PUnit->Option Bool) (x:Int × PUnit)=>bif decide (x.1<(↑x0.1.length:Int)) then bif inB x.1 x0.1.length then af (eg (x0.1.getD x.1.toNat ({ data:={ toList := [] } },0)).1) fun (t:Bool) =>
 let v15:Bool:=!t;
 let v16:Bool:=!v15;
 let v17:Bool:=!v16||v16;
 let v18:Bool:=v17&&v17;bif v17 then bif v18 then af (bif v16 then aW x0 (x0.1.getD x.1.toNat ({ data:={ toList:=[] } },0)).1 else some 0) fun (t:Int) =>
 let v20:Bool:=bif v15 then true else !decide (t=x.1);
 let v21:Bool:=!v20;
 let v22:Bool:=!v21||v21;
 let v23:Bool:=bif v20 then true else decide ((x0.1.getD x.1.toNat ({ data:={ toList:=[] } },0)).2<0);
 let v24:Bool:=!v23;
 let v25:Bool:=!v24||v24;bif v18 then bif v15||v16 then bif v22 then bif v22 then bif v20||v21 then bif v25 then bif v25 then bif v23||v24 then bif bif v23 then true else decide ((x0.1.getD x.1.toNat ({ data:={ toList:=[] } },0)).2>16777216) then some false else again (IntKind.wrap .i64 (x.1+1), PUnit.unit) else none else none else none else none else none else none else none else none else none else none else none else lp (Int×Int×PUnit) Bool (fun (again:Int×Int × PUnit->Option Bool) (x:Int×Int×PUnit) =>
 let v16:Int×PUnit:=(IntKind.wrap .i64 (x.2.1+1),PUnit.unit);
 let v17:ByteArray×List (ByteArray×Int×Int×Int)×Bool:=x0.2.getD x.2.1.toNat ({ data:={ toList:=[] } },[],false);bif decide (x.2.1<(↑x0.2.length:Int)) then bif inB x.2.1 x0.2.length then af (eg v17.1) fun (t:Bool) =>
 let v19:Bool:=!t;
 let v20:Bool:=!v19;
 let v21:Bool:=!v20||v20;
 let v22:Bool:=v21&&v21;bif v21 then bif v22 then af (bif v20 then du x0 v17.1 else some 0) fun (t:Int) =>
 let v24:Bool:=bif v19 then true else !decide (t=x.2.1);
 let v25:Bool:=!v24;
 let v26:Bool:=!v25||v25;bif v22 then bif v19||v20 then bif v26 then bif v26&&v26 then af (bif v25 then aW x0 v17.1 else some 0) fun (t:Int) =>
 let v28:Bool:=bif v24 then true else decide (t>=0);
 let v29:Bool:=!v28;
 let v30:Bool:=!v29||v29;bif v26 then bif v24||v25 then bif v30&&v30 then af (bif v29 then fN x0 v17 else some false) fun (t:Bool)=>bif v30 then bif v28||v29 then bif bif v28 then true else !t then some false else bif v17.2.2 then again (IntKind.wrap .i64 (x.1+1),v16) else again (x.1,v16) else none else none else none else none else none else none else none else none else none else none else none else none else some (decide (x.1<=1))) (0,0,PUnit.unit)) (0, PUnit.unit) else none else none else none else none else none else none else none else none else none else none else none else none
def aG (x0:(List (ByteArray×Int))×List (ByteArray×(List (ByteArray×Int×Int×Int))×Bool)):Option Bool:=mN lpK jnK eg aW du fN x0
abbrev t14:=((List (ByteArray×Int))×List (ByteArray×(List (ByteArray×Int×Int×Int))×Bool))->Option (Bool)
def k14 (aG:t14):Ctr:=⟨[T25],[],[],.one .bool,fun x _ _=>aG x.1⟩
def c14:Ctr:=k14 aG
theorem e14 (lp:Lp) (jn:Jn) (eg:t39) (aW:t40) (du:t41) (fN:t42):∀(x:TsS c14.as) (F:TsF c14.fs) (y:TsS c14.cs),mN lp jn eg aW du fN x.1=br lp jn (cx [(42,⟨[T25,T72],[],[],.one .bool,fun x _ _=>fN x.1 x.2.1⟩),(41,⟨[T25,.str],[],[],.one i64,fun x _ _=>du x.1 x.2.1⟩),(40,k40 aW),(39,⟨[.str],[],[],.one .bool,fun x _ _=>eg x.1⟩)] [(32,r32),(92,r92),(112,aY)]) ak 4 14 f14 c14 x F y:=fun x F y=>by kernel_rfl
theorem Tl:c14.ok prog 14:=Ctr.of_den (ao (aa (aa (aa (aa (q32) (by kernel_rfl) TI) (by kernel_rfl) S3) (by kernel_rfl) Tv) (by kernel_rfl) UG)) aB (hl:=ak) (d:=4) func14 rfl (by decide) (e14 lpK jnK eg aW du fN)
def zA (_:Lp) (_:Jn) (x0:Int):Option Int :=
 some (if IntKind.wrap .i64 (0 - x0)>x0 then IntKind.wrap .i64 (0 - x0) else x0)
def mm (x0:Int):Option Int:=zA lpK jnK x0
abbrev TK:=(Int)->Option (Int)
def vu (lp:Lp) (_:Jn) (mm:TK) (x0:(List Int)×List ((List Int)×Int×Int)):Option (List Int) :=
 lp (Int×Int×PUnit) (List Int) (fun (again:Int×Int×PUnit->Option (List Int)) (x:Int×Int×PUnit)=>bif decide (x.2.1<(↑x0.1.length:Int)) then bif inB x.2.1 x0.1.length then af (mm (x0.1.getD x.2.1.toNat 0)) fun (t:Int)=>again (IntKind.wrap .i64 (x.1+t),IntKind.wrap IntKind.i64 (x.2.1+1),PUnit.unit) else none else lp (List Int×Int×PUnit) (List Int) (fun (again:List Int×Int×PUnit->Option (List Int)) (x:List Int×Int × PUnit) =>
 let v7:Bool:=inB x.2.1 x0.2.length;
 let v8:List Int×Int×Int:=x0.2.getD x.2.1.toNat ([],0,0);bif decide (x.2.1<(↑x0.2.length:Int)) then bif v7 then af (mm v8.2.2) fun (t:Int)=>lp (Int×Int×PUnit) (List Int) (fun (again_1:Int×Int×PUnit->Option (List Int)) (x_1:Int×Int×PUnit)=>bif decide (x_1.2.1 < (↑x0.1.length:Int)) then bif v7 then bif inB x_1.2.1 v8.1.length then af (mm (v8.1.getD x_1.2.1.toNat 0)) fun (t:Int) => again_1 (IntKind.wrap .i64 (x_1.1+t),IntKind.wrap .i64 (x_1.2.1+1),PUnit.unit) else none else none else bif eo (List.length x.1+1) (8 : Nat) then again (x.1++[x_1.1],IntKind.wrap .i64 (x.2.1+1),PUnit.unit) else none) (IntKind.wrap .i64 (1+t),0,PUnit.unit) else none else some x.1) ([x.1],0,PUnit.unit)) (1,0,PUnit.unit)
def mX (x0:(List Int)×List ((List Int)×Int×Int)):Option (List Int):=vu lpK jnK mm x0
abbrev t79:=((List Int)×List ((List Int)×Int×Int))->Option (List Int)
end
end Go.Proofs.YtegbncajloeepaaGreat
