/- r50: the shapes of its types, and the places of its loops. r50: what its functions answer (printed by a program), and that they do. r50: what its functions answer (printed by a program), and that they do; part 2. -/
import Derived.Test.YtegbncajloeepaaGreatProg
import Derived.KernelRfl
import Derived.Test.YtegbncajloeepaaGreatMgL

namespace Go.Proofs.YtegbncajloeepaaGreat
open Tryz Dn Dn.Sh
abbrev i64:Sh:=.int .i64
abbrev T45:Sh:=.agg (.pair .str i64)
abbrev T47:Sh:=.agg (.pair i64 i64)
abbrev T74:Sh:=.agg (.pair .str (.pair i64 T47))
abbrev T72:Sh:=.agg (.pair .str (.pair (.sl T74) .bool))
abbrev T25:Sh:=.agg (.pair (.sl T45) (.sl T72))
abbrev T30:Sh:=.agg (.pair (.sl T47) (.pair .bool (.sl T47)))
abbrev Aw:Sh:=.agg (.pair (.sl i64) (.pair i64 i64))
abbrev T82:Sh:=.agg (.pair (.sl i64) (.sl Aw))
abbrev T94:Sh:=.agg (.pair T47 (.pair (.sl T47) (.sl T47)))
abbrev kY:Sh:=.agg (.pair (.int .u64) (.int .u64))
abbrev Dr:Sh:=.agg (.pair (.sl (.sl i64)) (.pair i64 (.pair (.sl i64) (.pair (.sl i64) (.pair (.sl i64) (.pair i64 i64))))))
abbrev LY:Sh:=.agg i64
abbrev jo:Sh:=.agg (.pair (.int .u64) (.int .u64))
abbrev ra:Sh:=.agg (.pair .bool (.pair (.int .u64) (.int .u64)))
def shs:TypeId->Option Sh
 | 3=>some i64
 | 4=>some .bool
 | 5=>some (.int .u8)
 | 9=>some .str
 | 28=>some (.sl T47)
 | 45=>some T45
 | 47=>some T47
 | 72=>some T72
 | 74=>some T74
 | 79=>some (.sl i64)
 | 124=>some Aw
 | _=>none
def JA:Nat->Option Hd
 | 3=>some ⟨[(3,false,[.d i64]),(11,false,[.d i64])],[],[]⟩
 | 11=>some ⟨[(6,false,[.row 47 T47]),(27,false,[.d i64])],[],[]⟩
 | _=>none
def Hl:Nat->Option Hd
 | 2=>some ⟨[(3,false,[.d i64])],[],[]⟩
 | _=>none
def EE:Nat->Option Hd
 | 2=>some ⟨[(8,false,[.d i64])],[],[]⟩
 | _=>none
def I9:Nat->Option Hd
 | 1=>some ⟨[(0,false,[.d (.int .u64)]),(1,false,[.d (.int .u64)])],[],[]⟩
 | _=>none
def Jf:Nat->Option Hd
 | 5=>some ⟨[(17,false,[.d i64])],[],[]⟩
 | _=>none
def J3:Nat->Option Hd
 | 6=>some ⟨[(27,false,[.d i64])],[],[(3,some 0,.x (.map 133 .str .bool))]⟩
 | 13=>some ⟨[(7,false,[.d i64]),(46,false,[.d i64])],[],[(3,some 0,.x (.map 133 .str .bool))]⟩
 | _=>none
def IB:Nat->Option Hd
 | 5=>some ⟨[(20,false,[.d i64])],[],[(4,none,.x (.tab 79 .ref 3 i64))]⟩
 | 10=>some ⟨[(34,false,[.d i64])],[],[(4,none,.x (.tab 79 .ref 3 i64))]⟩
 | 13=>some ⟨[(42,false,[.d i64])],[],[(4,none,.x (.tab 79 .ref 3 i64))]⟩
 | _=>none
def Kb:Nat->Option Hd
 | 5=>some ⟨[(4,false,[.row 3 i64]),(13,false,[.d i64])],[],[]⟩
 | _=>none
def Jv:Nat->Option Hd
 | 9=>some ⟨[(34,false,[.d i64])],[(9,[.d (.sl i64),.row 124 Aw])],[]⟩
 | _=>none
def JD:Nat->Option Hd
 | 8=>some ⟨[(8,false,[.d i64])],[],[(7,none,.row 3 i64)]⟩
 | _=>none
def JJ:Nat->Option Hd
 | 1000002=>some ⟨[],[],[]⟩
 | 1000005=>some ⟨[],[],[]⟩
 | _=>none
def FT:Nat->Option Hd
 | 2=>some ⟨[(8,false,[.d i64])],[],[]⟩
 | _=>none
def HR:Nat->Option Hd
 | 2=>some ⟨[(8,false,[.d i64])],[],[]⟩
 | _=>none
def FG:Nat->Option Hd
 | 3=>some ⟨[(5,false,[.d i64]),(14,false,[.d i64])],[],[]⟩
 | _=>none
def HZ:Nat->Option Hd
 | 5=>some ⟨[(3,false,[.d i64]),(4,false,[.d i64])],[],[]⟩
 | _=>none
def EV:Nat->Option Hd
 | 1000002=>some ⟨[],[],[]⟩
 | _=>none
def Gi:Nat->Option Hd
 | 4=>some ⟨[(4,false,[.row 3 i64]),(18,false,[.d i64])],[],[]⟩
 | 10=>some ⟨[(7,false,[.d i64]),(34,false,[.d i64])],[],[]⟩
 | _=>none
def Fo:Nat->Option Hd
 | 4=>some ⟨[(5,false,[.d i64]),(24,false,[.d i64])],[],[]⟩
 | 12=>some ⟨[(9,false,[.d i64]),(51,false,[.d i64])],[(46,[.x (.tab 79 .ref 3 i64),.d i64,.row 3 i64,.row 3 i64,.row 3 i64,.d i64,.d i64])],[]⟩
 | 28=>some ⟨[(95,false,[.d i64])],[],[(12,none,.row 3 i64)]⟩
 | _=>none
def Hm:Nat->Option Hd
 | 1000019=>some ⟨[(9,false,[.d i64])],[],[(12,none,.row 3 i64)]⟩
 | 1000022=>some ⟨[(9,false,[.d i64])],[],[(12,none,.row 3 i64)]⟩
 | 1000026=>some ⟨[(13,false,[.d i64])],[],[(12,none,.row 3 i64)]⟩
 | _=>none
def Fl:Nat->Option Hd
 | 3=>some ⟨[(5,false,[.d i64]),(13,false,[.d i64])],[],[]⟩
 | _=>none
def HM:Nat->Option Hd
 | 1000008=>some ⟨[(10,false,[.d .bool])],[(2,[.d ra]),(3,[.d ra])],[]⟩
 | _=>none
def G7:Nat->Option Hd
 | 1000002=>some ⟨[(0,false,[.d (.int .u64)]),(2,false,[.d i64])],[],[]⟩
 | 1000005=>some ⟨[(0,false,[.d (.int .u64)]),(2,false,[.d i64])],[],[]⟩
 | _=>none
def Er:Nat->Option Hd
 | 17=>some ⟨[(15,false,[.d (.int .u64)]),(16,false,[.d (.int .u64)])],[],[]⟩
 | 24=>some ⟨[(16,false,[.d (.int .u64)]),(18,false,[.d (.int .u64)])],[],[]⟩
 | _=>none
def Ez:Nat->Option Hd
 | 0=>some ⟨[(15,false,[.d (.int .u64)])],[],[]⟩
 | 2=>some ⟨[(18,false,[.d (.int .u64)])],[],[]⟩
 | 1000002=>some ⟨[],[],[]⟩
 | 1000004=>some ⟨[],[],[]⟩
 | _=>none
def Fy:Nat->Option Hd
 | 2=>some ⟨[(29,false,[.d i64])],[],[(0,some 0,.x (.tab 79 .ref 3 i64))]⟩
 | 7=>some ⟨[(43,false,[.d i64])],[],[(0,some 0,.x (.tab 79 .ref 3 i64))]⟩
 | 17=>some ⟨[(98,false,[.d i64])],[],[(0,some 0,.x (.tab 79 .ref 3 i64))]⟩
 | 20=>some ⟨[(104,false,[.d i64])],[],[(0,some 0,.x (.tab 79 .ref 3 i64))]⟩
 | _=>none
def Hj:Nat->Option Hd
 | 3=>some ⟨[(5,false,[.d i64]),(14,false,[.d i64])],[],[]⟩
 | _=>none
def Fa:Nat->Option Hd
 | 1=>some ⟨[],[(0,[.x (.tab 79 .ref 3 i64),.d i64,.row 3 i64,.row 3 i64,.row 3 i64,.d i64,.d i64])],[]⟩
 | 3=>some ⟨[(3,false,[.d i64]),(4,false,[.d i64])],[],[]⟩
 | 12=>some ⟨[(44,false,[.d i64])],[(0,[.x (.tab 79 .ref 3 i64),.d i64,.row 3 i64,.row 3 i64,.row 3 i64,.d i64,.d i64])],[]⟩
 | 15=>some ⟨[(6,false,[.d i64])],[(0,[.x (.tab 79 .ref 3 i64),.d i64,.row 3 i64,.row 3 i64,.row 3 i64,.d i64,.d i64])],[]⟩
 | _=>none
def En:Nat->Option Hd
 | 3=>some ⟨[(5,false,[.d i64]),(21,false,[.d i64])],[],[]⟩
 | _=>none
def Gx:Nat->Option Hd
 | 1=>some ⟨[],[(0,[.x (.tab 79 .ref 3 i64),.d i64,.row 3 i64,.row 3 i64,.row 3 i64,.d i64,.d i64])],[]⟩
 | 3=>some ⟨[(3,false,[.d i64]),(4,false,[.d i64])],[],[]⟩
 | _=>none
def JF:Nat->Option Hd
 | 14=>some ⟨[(6,false,[.d i64]),(43,false,[.d i64])],[],[(7,none,.row 3 i64)]⟩
 | 22=>some ⟨[(94,false,[.d i64])],[(5,[.d T47,.row 47 T47,.row 47 T47])],[]⟩
 | 27=>some ⟨[(110,false,[.d i64])],[(5,[.d T47,.row 47 T47,.row 47 T47])],[]⟩
 | 31=>some ⟨[(13,false,[.d i64]),(118,false,[.d i64])],[],[]⟩
 | _=>none
def Kf:Nat->Option Hd
 | 10=>some ⟨[(5,false,[.row 47 T47]),(20,false,[.d i64])],[],[]⟩
 | _=>none
def IP:Nat->Option Hd
 | 4=>some ⟨[(13,false,[.d i64])],[],[]⟩
 | _=>none
def Jy:Nat->Option Hd
 | 2=>some ⟨[(8,false,[.d i64])],[],[]⟩
 | _=>none
def FJ:Nat->Option Hd
 | 1000002=>some ⟨[],[],[]⟩
 | _=>none
def F6:Nat->Option Hd
 | 1000008=>some ⟨[(9,false,[.d .bool])],[(10,[.d kY])],[]⟩
 | 1000010=>some ⟨[(9,false,[.d .bool])],[(10,[.d kY])],[]⟩
 | _=>none
def GB:Nat->Option Hd
 | 3=>some ⟨[(15,false,[.d i64])],[(0,[.d LY]),(6,[.d T47]),(7,[.d T47])],[]⟩
 | _=>none
def G1:Nat->Option Hd
 | 1000007=>some ⟨[(11,false,[.d i64])],[(10,[.d T47])],[]⟩
 | _=>none
def GG:Nat->Option Hd
 | 1000009=>some ⟨[],[(6,[.d kY]),(7,[.d kY])],[]⟩
 | _=>none
def HE:Nat->Option Hd
 | 3=>some ⟨[(5,false,[.row 3 i64]),(11,false,[.d i64])],[],[]⟩
 | _=>none
def Fx:Nat->Option Hd
 | 3=>some ⟨[(9,false,[.d .bool]),(14,false,[.d i64])],[(0,[.d LY])],[]⟩
 | _=>none
def Ei:Nat->Option Hd
 | 3=>some ⟨[(3,false,[.row 3 i64]),(9,false,[.d i64])],[],[]⟩
 | _=>none
def Hs:Nat->Option Hd
 | 2=>some ⟨[(10,false,[.d i64])],[],[]⟩
 | _=>none
def Jp:Nat->Option Hd
 | 7=>some ⟨[(8,false,[.row 47 T47]),(9,false,[.d i64]),(25,false,[.d i64])],[],[]⟩
 | 11=>some ⟨[(31,false,[.d i64])],[(11,[.d T47])],[]⟩
 | _=>none
def IC:Nat->Option Hd
 | 1000004=>some ⟨[(8,false,[.d i64])],[],[]⟩
 | _=>none
def Iu:Nat->Option Hd
 | 2=>some ⟨[(0,false,[.row 5 (.int .u8)]),(7,false,[.d i64])],[],[]⟩
 | _=>none
def Js:Nat->Option Hd
 | 3=>some ⟨[(3,false,[.d (.int .u32)]),(8,false,[.d i64])],[],[]⟩
 | _=>none
def JM:Nat->Option Hd
 | 12=>some ⟨[(6,false,[.row 5 (.int .u8)]),(36,false,[.d i64])],[],[]⟩
 | _=>none
def Jc:Nat->Option Hd
 | 1000010=>some ⟨[],[],[(6,none,.row 5 (.int .u8))]⟩
 | _=>none
def Kr:Nat->Option Hd
 | 4=>some ⟨[(3,false,[.d i64])],[],[]⟩
 | 9=>some ⟨[(4,false,[.d i64])],[],[]⟩
 | 14=>some ⟨[(5,false,[.d i64])],[],[]⟩
 | _=>none
def Kg:Nat->Option Hd
 | 1=>some ⟨[(1,false,[.d i64])],[],[]⟩
 | _=>none
def Jd:Nat->Option Hd
 | 2=>some ⟨[(5,false,[.d i64])],[],[]⟩
 | _=>none
def IM:Nat->Option Hd
 | 2=>some ⟨[(5,false,[.d i64])],[],[]⟩
 | _=>none
def G0:Nat->Option Hd
 | 4=>some ⟨[(5,false,[.d i64])],[(2,[.d jo]),(3,[.d jo])],[]⟩
 | 6=>some ⟨[],[(2,[.d jo]),(3,[.d jo])],[]⟩
 | 7=>some ⟨[],[(2,[.d jo])],[]⟩
 | 9=>some ⟨[],[(3,[.d jo])],[]⟩
 | 14=>some ⟨[(5,false,[.d i64])],[(3,[.d jo])],[]⟩
 | _=>none
def Kn:Nat->Option Hd
 | 4=>some ⟨[(5,false,[.d i64])],[],[]⟩
 | _=>none
def Jl:Nat->Option Hd
 | 4=>some ⟨[(3,false,[.d i64])],[],[]⟩
 | 11=>some ⟨[(5,false,[.d i64]),(6,false,[.d i64])],[],[]⟩
 | _=>none
def Ju:Nat->Option Hd
 | 3=>some ⟨[(3,false,[.d i64]),(4,false,[.d i64])],[],[]⟩
 | 8=>some ⟨[(5,false,[.row 3 i64]),(6,false,[.d i64])],[],[]⟩
 | 12=>some ⟨[(7,false,[.d i64]),(8,false,[.d i64])],[],[]⟩
 | _=>none
def JC:Nat->Option Hd
 | 3=>some ⟨[(6,false,[.d i64]),(7,false,[.d i64])],[],[]⟩
 | _=>none
def I4:Nat->Option Hd
 | 5=>some ⟨[(6,false,[.d i64]),(7,false,[.d i64])],[],[]⟩
 | _=>none
def Fb:Nat->Option Hd
 | 3=>some ⟨[(5,false,[.d i64]),(6,false,[.d i64])],[],[]⟩
 | _=>none
def Jr:Nat->Option Hd
 | 3=>some ⟨[(3,false,[.x (.tab 79 .ref 3 i64)]),(4,false,[.d i64])],[],[]⟩
 | 7=>some ⟨[(5,false,[.row 3 i64]),(6,false,[.d i64])],[],[]⟩
 | _=>none
def Jz:Nat->Option Hd
 | 4=>some ⟨[(7,false,[.d i64])],[(5,[.d (.sl i64),.row 124 Aw])],[]⟩
 | _=>none
def Iq:Nat->Option Hd
 | 3=>some ⟨[(3,false,[.row 3 i64]),(4,false,[.d i64])],[],[]⟩
 | _=>none
def IW:Nat->Option Hd
 | 2=>some ⟨[(3,false,[.d i64])],[],[]⟩
 | _=>none
def FE:Nat->Option Hd
 | 5=>some ⟨[(8,false,[.d i64])],[(2,[.d jo]),(6,[.d jo]),(7,[.d jo])],[]⟩
 | _=>none
def J4:Nat->Option Hd
 | 3=>some ⟨[(7,false,[.d i64])],[(4,[.d T47]),(6,[.d T47])],[]⟩
 | _=>none
def EA:Nat->Option Hd
 | 3=>some ⟨[(5,false,[.row 3 i64]),(6,false,[.d i64])],[],[]⟩
 | _=>none
def Jt:Nat->Option Hd
 | 3=>some ⟨[(8,false,[.d .bool]),(9,false,[.d i64])],[],[]⟩
 | _=>none
def Iy:Nat->Option Hd
 | 3=>some ⟨[(3,false,[.row 3 i64]),(4,false,[.d i64])],[],[]⟩
 | _=>none
def Ji:Nat->Option Hd
 | 2=>some ⟨[(5,false,[.d i64])],[],[]⟩
 | _=>none
def H8:Nat->Option Hd
 | 3=>some ⟨[(7,false,[.d i64])],[(4,[.d T47]),(6,[.d T47])],[]⟩
 | _=>none
def JN:Nat->Option Hd
 | 7=>some ⟨[(8,false,[.row 47 T47]),(9,false,[.d i64])],[],[]⟩
 | _=>none
def Jb:Nat->Option Hd
 | 5=>some ⟨[(8,false,[.d i64])],[],[]⟩
 | _=>none
def J8:Nat->Option Hd
 | 18=>some ⟨[(9,false,[.d .bool]),(10,false,[.d i64])],[],[]⟩
 | _=>none
def I5:Nat->Option Hd
 | 1000009=>some ⟨[(8,false,[.d i64])],[],[]⟩
 | _=>none
def Kp:Nat->Option Hd
 | 3=>some ⟨[(4,false,[.d i64])],[(3,[.row 45 T45,.row 72 T72])],[]⟩
 | _=>none
def K1:Nat->Option Hd
 | 10=>some ⟨[(45,false,[.d i64])],[],[(7,some 0,.row 45 T45)]⟩
 | 20=>some ⟨[(69,false,[.d i64])],[(9,[.row 47 T47,.d .bool,.d (.sl T47)])],[]⟩
 | _=>none
def L8:Nat->Option Hd
 | 1000018=>some ⟨[],[(9,[.row 47 T47,.d .bool,.d (.sl T47)])],[]⟩
 | _=>none
def JH:Nat->Option Hd
 | 2=>some ⟨[(0,false,[.row 5 (.int .u8)]),(7,false,[.d i64])],[],[]⟩
 | _=>none
def Kl:Nat->Option Hd
 | 3=>some ⟨[(3,false,[.d i64]),(4,false,[.d i64])],[],[]⟩
 | _=>none
def IT:Nat->Option Hd
 | 11=>some ⟨[(6,false,[.row 5 (.int .u8)]),(7,false,[.d i64])],[],[]⟩
 | _=>none
def JP:Nat->Option Hd
 | 1000009=>some ⟨[],[],[(6,none,.row 5 (.int .u8))]⟩
 | _=>none
def Iw:Nat->Option Hd
 | 4=>some ⟨[(13,false,[.d i64])],[],[]⟩
 | _=>none
def JZ:Nat->Option Hd
 | 4=>some ⟨[(5,false,[.d i64])],[],[]⟩
 | _=>none
def I7:Nat->Option Hd
 | 3=>some ⟨[(3,false,[.d i64]),(8,false,[.d i64])],[],[]⟩
 | _=>none
def Jg:Nat->Option Hd
 | 12=>some ⟨[(5,false,[.row 47 T47]),(6,false,[.d i64])],[(2,[.d T30])],[]⟩
 | _=>none
def I6:Nat->Option Hd
 | 3=>some ⟨[(3,false,[.d i64]),(4,false,[.d i64])],[],[]⟩
 | _=>none
def Ki:Nat->Option Hd
 | 12=>some ⟨[(5,false,[.row 47 T47]),(6,false,[.d i64])],[],[]⟩
 | _=>none
def Gy:Nat->Option Hd
 | 2=>some ⟨[(8,false,[.d i64])],[],[]⟩
 | _=>none
def GZ:Nat->Option Hd
 | 1000007=>some ⟨[(12,false,[.d (.int .u64)]),(13,false,[.d (.int .u64)]),(18,false,[.d .bool])],[],[]⟩
 | 1000008=>some ⟨[(12,false,[.d (.int .u64)]),(13,false,[.d (.int .u64)]),(14,false,[.d (.int .u64)]),(15,false,[.d (.int .u64)]),(18,false,[.d .bool])],[],[]⟩
 | _=>none
def Ep:Nat->Option Hd
 | 3=>some ⟨[(20,false,[.d i64])],[(5,[.x (.tab 79 .ref 3 i64),.d i64,.row 3 i64,.row 3 i64,.d .bool])],[]⟩
 | 9=>some ⟨[(40,false,[.d i64])],[(5,[.x (.tab 79 .ref 3 i64),.d i64,.row 3 i64,.row 3 i64,.d .bool])],[]⟩
 | 14=>some ⟨[(10,false,[.d i64]),(11,false,[.d i64])],[],[]⟩
 | 19=>some ⟨[(10,false,[.d i64])],[(5,[.x (.tab 79 .ref 3 i64),.d i64,.row 3 i64,.row 3 i64,.d .bool])],[]⟩
 | 26=>some ⟨[(130,false,[.d i64])],[],[(5,some 0,.x (.tab 79 .ref 3 i64))]⟩
 | 31=>some ⟨[(144,false,[.d i64])],[],[(5,some 0,.x (.tab 79 .ref 3 i64))]⟩
 | _=>none
def Kk:Nat->Option Hd
 | 10=>some ⟨[(7,false,[.x (.tab 79 .ref 3 i64)]),(37,false,[.d i64])],[],[]⟩
 | 16=>some ⟨[(64,false,[.d i64])],[],[]⟩
 | 25=>some ⟨[(13,false,[.row 47 T47]),(80,false,[.d i64])],[],[]⟩
 | _=>none
def Ln:Nat->List Nat
 | 2000014=>[7]
 | _=>[]
def aj:FuncId->Hint
 | 92=>{loop:=JA}
 | 127=>{loop:=Hl}
 | 154=>{loop:=EE}
 | 59=>{loop:=I9}
 | 91=>{loop:=Jf}
 | 50=>{loop:=J3}
 | 72=>{loop:=IB}
 | 73=>{loop:=Kb}
 | 97=>{loop:=Jv}
 | 98=>{loop:=JD,join:=JJ}
 | 174=>{loop:=FT}
 | 175=>{loop:=HR}
 | 146=>{loop:=FG}
 | 148=>{loop:=HZ,join:=EV}
 | 100=>{loop:=Gi}
 | 101=>{loop:=Fo,join:=Hm}
 | 106=>{loop:=Fl}
 | 177=>{join:=HM}
 | 194=>{join:=G7}
 | 185=>{loop:=Er,join:=Ez}
 | 149=>{loop:=Fy}
 | 150=>{loop:=Hj}
 | 102=>{loop:=Fa}
 | 151=>{loop:=En}
 | 103=>{loop:=Gx}
 | 56=>{loop:=JF}
 | 57=>{loop:=Kf}
 | 36=>{loop:=IP}
 | 75=>{loop:=Jy}
 | 129=>{join:=FJ}
 | 171=>{join:=F6}
 | 133=>{loop:=GB,join:=G1}
 | 187=>{join:=GG}
 | 170=>{loop:=HE}
 | 131=>{loop:=Fx}
 | 134=>{loop:=Ei}
 | 135=>{loop:=Hs}
 | 95=>{loop:=Jp}
 | 19=>{join:=IC}
 | 63=>{loop:=Iu}
 | 64=>{loop:=Js}
 | 25=>{loop:=JM,join:=Jc}
 | 12=>{loop:=Kr}
 | 77=>{loop:=Kg}
 | 40=>{loop:=Jd}
 | 41=>{loop:=IM}
 | 152=>{loop:=G0}
 | 42=>{loop:=Kn}
 | 14=>{loop:=Jl}
 | 79=>{loop:=Ju}
 | 80=>{loop:=JC}
 | 43=>{loop:=I4}
 | 118=>{loop:=Fb}
 | 81=>{loop:=Jr}
 | 44=>{loop:=Jz}
 | 45=>{loop:=Iq}
 | 70=>{loop:=IW}
 | 186=>{loop:=FE}
 | 83=>{loop:=J4}
 | 119=>{loop:=EA}
 | 82=>{loop:=Jt}
 | 84=>{loop:=Iy}
 | 86=>{loop:=Ji}
 | 124=>{loop:=H8}
 | 87=>{loop:=JN}
 | 48=>{loop:=Jb}
 | 18=>{loop:=J8,join:=I5}
 | 22=>{loop:=Kp}
 | 6=>{loop:=K1,join:=L8,thaw:=Ln}
 | 65=>{loop:=JH}
 | 66=>{loop:=Kl}
 | 26=>{loop:=IT,join:=JP}
 | 27=>{loop:=Iw}
 | 67=>{loop:=JZ}
 | 68=>{loop:=I7}
 | 29=>{loop:=Jg}
 | 69=>{loop:=I6}
 | 30=>{loop:=Ki}
 | 181=>{loop:=Gy}
 | 159=>{join:=GZ}
 | 113=>{loop:=Ep}
 | 74=>{loop:=Kk}
 | _=>{}
def uo (p : String) : Bool := p == "program.go:104" || p == "ref.go:45" || p == "tension.go:104" || p == "ref.go:107"
def vv:TypeId->Option XP
 | 108=>some (.tab 79 .ref 3 i64)
 | 109=>some (.tab 79 .ref 3 i64)
 | _=>none
def pf:List Nat:=[89,175,144,145,101,149,102,103,129,131]
def its:List (Nat×ICtr):=[]
theorem Mz:G8 prog its:=Dk
end Go.Proofs.YtegbncajloeepaaGreat

namespace Go.Proofs.YtegbncajloeepaaGreat
noncomputable section
open Tryz Dn Dn.Sh
set_option maxRecDepth 100000
theorem ax:prog.follows .mixedOrders=true:=by kernel_rfl
theorem Ll:Af prog pf=true:=by kernel_rfl
theorem q0:(gl prog shs pf its [] []).ok:=Dy Ll Mz
abbrev cx (l) (r):=tj vv uo (gl prog shs pf its l r)
def jV (_:Lp) (_:Jn) (x0:List Int):Option (List Int) :=
 bif dK (0+List.length x0) 8 then some x0 else none
def aZ (x0:List Int):Option (List Int):=jV lpK jnK x0
abbrev HN:=(List Int)->Option (List Int)
def L4 (aZ:HN):RCtr:=⟨[(.sl i64)],3,i64,fun x=>aZ x.1⟩
def aU:RCtr:=L4 aZ
theorem O2 (lp:Lp) (jn:Jn):∀x:TsS aU.as,jV lp jn x.1=Ax lp jn (cx [] []) aj 4 112 f112 aU.t aU.e (wd aU.as x true):=fun x=>by kernel_rfl
theorem KZ:aU.ok prog 112:=RCtr.of_den_nil (c:=aU) (an (q0)) ax (hl:=aj) (d:=4) rfl func112 rfl (by decide) (O2 lpK jnK) fun x h=>by
 obtain ⟨l,u⟩:=x
 simp only at h
 subst h
 kernel_rfl
theorem ML:(gl prog shs pf its [] [(112,aU)]).ok:=rJ q0 (by kernel_rfl) KZ
def gF (lp:Lp) (jn:Jn) (x0:List (List (Int×Int))):Option (List (Int×Int)) :=
 lp (Int×Int×PUnit) (List (Int×Int)) (fun (again:Int×Int×PUnit->Option (List (Int×Int))) (x:Int×Int×PUnit)=>bif decide (x.2.1<(↑x0.length:Int)) then bif inB x.2.1 x0.length then bif decide (IntKind.wrap .i64 (x.1+(↑(List.length (x0.getD x.2.1.toNat [])):Int))<0) then none else again (IntKind.wrap .i64 (x.1+(↑(List.length (x0.getD x.2.1.toNat [])):Int)),IntKind.wrap .i64 (x.2.1+1),PUnit.unit) else none else jn PUnit (List (Int×Int)) (fun (_:PUnit)=>bif decide (IntKind.wrap .i64 (x.1 - IntKind.wrap .i64 ((↑0:Int) - (↑0:Int)))>0) then bif slB (0 : Int) (↑0:Int) 0 then bif decide (0<IntKind.wrap .i64 (x.1 - IntKind.wrap .i64 ((↑0:Int) - (↑0:Int))))&&dK (Int.toNat (IntKind.wrap .i64 (x.1 - IntKind.wrap .i64 ((↑0:Int) - (↑0:Int))))) 16 then bif slB 0 (↑0:Int) (Int.toNat (IntKind.wrap IntKind.i64 (x.1 - IntKind.wrap .i64 ((↑0:Int) - (↑0:Int)))))&&decide (0<Int.toNat (IntKind.wrap .i64 (x.1 - IntKind.wrap .i64 ((↑0:Int) - (↑0:Int))))) then lp (List (Int×Int)×Int×PUnit) (List (Int×Int)) (fun (again:List (Int×Int)×Int×PUnit->Option (List (Int×Int))) (x : List (Int×Int)×Int×PUnit) =>
 let v8:List (Int×Int):=x0.getD x.2.1.toNat [];bif decide (x.2.1<(↑x0.length:Int)) then bif inB x.2.1 x0.length then bif dK (List.length x.1+List.length v8) 16 then again (x.1++v8,IntKind.wrap .i64 (x.2.1+1),PUnit.unit) else none else none else some x.1) (List.take (Int.toNat (↑(0 : Nat):Int)) (List.replicate (Int.toNat (IntKind.wrap .i64 (x.1 - IntKind.wrap .i64 ((↑0:Int) - (↑0:Int))))) (0,0)),0, PUnit.unit) else none else none else none else lp (List (Int×Int)×Int×PUnit) (List (Int×Int)) (fun (again:List (Int×Int)×Int×PUnit->Option (List (Int×Int))) (x:List (Int×Int)×Int×PUnit) =>
 let v8:List (Int×Int):=x0.getD x.2.1.toNat [];bif decide (x.2.1<(↑x0.length:Int)) then bif inB x.2.1 x0.length then bif dK (List.length x.1+List.length v8) 16 then again (x.1++v8,IntKind.wrap .i64 (x.2.1+1),PUnit.unit) else none else none else some x.1) ([],0, PUnit.unit)) fun (j:PUnit->Option (List (Int×Int)))=>bif decide (x.1<0) then none else j PUnit.unit) (0,0,PUnit.unit)
def cj (x0:List (List (Int×Int))):Option (List (Int×Int)):=gF lpK jnK x0
abbrev t92:=(List (List (Int×Int)))->Option (List (Int×Int))
def r92:RCtr:=⟨[(.sl (.sl T47))],47,T47,fun x=>cj x.1⟩
theorem e92 (lp:Lp) (jn:Jn):∀x:TsS r92.as,gF lp jn x.1=Ax lp jn (cx [] [(112,aU)]) aj 4 92 f92 r92.t r92.e (ij r92.as x 0):=fun x=>by kernel_rfl
theorem Ns:r92.ok prog 92:=RCtr.of_den (c:=r92) (an (ML)) ax (hl:=aj) (d:=4) func92 rfl (by decide) (e92 lpK jnK)
theorem q92:(gl prog shs pf its [] [(92,r92),(112,aU)]).ok:=rJ ML (by kernel_rfl) Ns
def kR (_:Lp) (_:Jn) (x0:List Int):Option (List Int) :=
 bif dK (0+List.length x0) 1 then some x0 else none
def tn (x0:List Int):Option (List Int):=kR lpK jnK x0
def r32:RCtr:=⟨[(.sl (.int .u8))],5,(.int .u8),fun x=>tn x.1⟩
theorem e32 (lp:Lp) (jn:Jn):∀x:TsS r32.as,kR lp jn x.1=Ax lp jn (cx [] [(92,r92),(112,aU)]) aj 4 32 f32 r32.t r32.e (wd r32.as x true):=fun x=>by kernel_rfl
theorem NM:r32.ok prog 32:=RCtr.of_den_nil (c:=r32) (an (q92)) ax (hl:=aj) (d:=4) rfl func32 rfl (by decide) (e32 lpK jnK) fun x h=>by
 obtain ⟨l,u⟩:=x
 simp only at h
 subst h
 kernel_rfl
theorem q32:(gl prog shs pf its [] [(32,r32),(92,r92),(112,aU)]).ok:=rJ q92 (by kernel_rfl) NM
def lG (_:Lp) (_:Jn) (x0:Int) (x1:Int) (x2:Int):Option Bool :=
 
 let v5:Bool:=decide (x0>=x1);
 let v6:Bool:=!v5||v5;bif v6&&v6 then bif v6 then some (bif v5 then decide (x0<=x2) else false) else none else none
def bd (x0:Int) (x1:Int) (x2:Int):Option Bool:=lG lpK jnK x0 x1 x2
abbrev t88:=(Int)->(Int)->(Int)->Option (Bool)
def k88 (bd:t88):Ctr:=⟨[i64,i64,i64],[],[],.one .bool,fun x _ _=>bd x.1 x.2.1 x.2.2.1⟩
def c88:Ctr:=k88 bd
theorem e88 (lp:Lp) (jn:Jn):∀(x:TsS c88.as) (F:TsF c88.fs) (y:TsS c88.cs),lG lp jn x.1 x.2.1 x.2.2.1=bf lp jn (cx [] [(32,r32),(92,r92),(112,aU)]) aj 4 88 f88 c88 x F y:=fun x F y=>by kernel_rfl
theorem Nf:c88.ok prog 88:=Ctr.of_den (an (q32)) ax (hl:=aj) (d:=4) func88 rfl (by decide) (e88 lpK jnK)
def lr (_:Lp) (_:Jn) (x0:Int):Option Bool :=
 
 let v3:Bool:=decide (x0>=97);
 let v4:Bool:=decide (x0>=65);
 let v5:Bool:=!v3||v3;
 let v6:Bool:=bif v3 then decide (x0<=122) else false;
 let v7:Bool:=!v6;
 let v8:Bool:=!v7;
 let v9:Bool:=v7&&v4;
 let v10:Bool:=v8||v7;bif v5 then bif v5 then bif v10 then bif v10 then bif !v9||v9 then bif (v8||v10)&&(v8||(!v4||(v8||v9))) then bif v6||v7 then some (bif v6 then true else bif v4 then decide (x0<=90) else false) else none else none else none else none else none else none else none
def br (x0:Int):Option Bool:=lr lpK jnK x0
abbrev F5:=(Int)->Option (Bool)
def K6 (br:F5):Ctr:=⟨[(.int .u8)],[],[],.one .bool,fun x _ _=>br x.1⟩
def Hw:Ctr:=K6 br
theorem QC (lp:Lp) (jn:Jn):∀(x:TsS Hw.as) (F:TsF Hw.fs) (y:TsS Hw.cs),lr lp jn x.1=bf lp jn (cx [] [(32,r32),(92,r92),(112,aU)]) aj 4 126 f126 Hw x F y:=fun x F y=>by kernel_rfl
theorem KI:Hw.ok prog 126:=Ctr.of_den (an (q32)) ax (hl:=aj) (d:=4) func126 rfl (by decide) (QC lpK jnK)
def nc (_:Lp) (_:Jn) (x0:Int):Option Bool :=
 
 let v3:Bool:=decide (x0>=48);
 let v4:Bool:=!v3||v3;bif v4 then bif v4 then some (bif v3 then decide (x0<=57) else false) else none else none
def eG (x0:Int):Option Bool:=nc lpK jnK x0
abbrev Ov:=(Int)->Option (Bool)
def FU:Ctr:=⟨[(.int .u8)],[],[],.one .bool,fun x _ _=>eG x.1⟩
theorem Ps (lp:Lp) (jn:Jn):∀(x:TsS FU.as) (F:TsF FU.fs) (y:TsS FU.cs),nc lp jn x.1=bf lp jn (cx [] [(32,r32),(92,r92),(112,aU)]) aj 4 166 f166 FU x F y:=fun x F y=>by kernel_rfl
theorem MA:FU.ok prog 166:=Ctr.of_den (an (q32)) ax (hl:=aj) (d:=4) func166 rfl (by decide) (Ps lpK jnK)
def nL (lp:Lp) (_:Jn) (br:F5) (eG:Ov) (x0:ByteArray):Option Int :=
 lp (Int×PUnit) Int (fun (again:Int×PUnit->Option Int) (x:Int×PUnit) =>
 let v5:Bool:=inB x.1 (ByteArray.size x0);
 let v6:Int:=kr x0 x.1.toNat;
 let v7:Bool:=decide (x.1<(↑(ByteArray.size x0):Int));
 let v8:Bool:=!v7;
 let v9:Bool:=v8||v7;
 let v10:Bool:=v8||v9;bif v9&&(v9&&(v8||v5)) then bif v9 then af (bif v7 then br v6 else some false) fun (t:Bool) =>
 let v12:Bool:=v7&&!t;
 let v13:Bool:=!v12;
 let v14:Bool:=v13||v12;bif v9 then bif v14&&(v14&&(v13||v5)) then bif v14 then af (bif v12 then eG v6 else some false) fun (t_1:Bool) =>
 let v16:Bool:=bif t then true else t_1;
 let v17:Bool:=v7&&!v16;
 let v18:Bool:=!v17;
 let v19:Bool:=v18||v17;bif v10&&(v8||(t||(v8||v12))) then bif v9 then bif v19&&(v19&&(v18||v5)) then bif v19 then bif v10&&(v8||(v16||(v8||v17))) then bif v9 then bif bif v7 then bif v16 then true else decide (v6=95) else false then again (IntKind.wrap .i64 (x.1+1),PUnit.unit) else some x.1 else none else none else none else none else none else none else none else none else none else none else none) (0,PUnit.unit)
def fa (x0:ByteArray):Option Int:=nL lpK jnK br eG x0
abbrev NF:=(ByteArray)->Option (Int)
def Gk:Ctr:=⟨[.str],[],[],.one i64,fun x _ _=>fa x.1⟩
theorem O1 (lp:Lp) (jn:Jn) (br:F5) (eG:Ov):∀(x:TsS Gk.as) (F:TsF Gk.fs) (y:TsS Gk.cs),nL lp jn br eG x.1=bf lp jn (cx [(166,⟨[(.int .u8)],[],[],.one .bool,fun x _ _=>eG x.1⟩),(126,K6 br)] [(32,r32),(92,r92),(112,aU)]) aj 4 127 f127 Gk x F y:=fun x F y=>by kernel_rfl
theorem Ng:Gk.ok prog 127:=Ctr.of_den (an (aa (aa (q32) (by kernel_rfl) KI) (by kernel_rfl) MA)) ax (hl:=aj) (d:=4) func127 rfl (by decide) (O1 lpK jnK br eG)
def lQ (_:Lp) (_:Jn) (br:F5) (fa:NF) (x0:ByteArray):Option Bool :=
 
 let v3:Bool:=!List.beq (ByteArray.toList x0) (ByteArray.toList { data:=#[] });
 let v4:Bool:=!v3||v3;
 let v5:Bool:=bif v3 then decide ((↑(ByteArray.size x0):Int)<=20) else false;
 let v6:Bool:=!v5;
 let v7:Bool:=v6||v5;bif v4 then bif v4 then bif v4 then bif v7&&(v6||inB 0 (ByteArray.size x0)) then bif v7 then af (bif v5 then br (kr x0 0) else some false) fun (t:Bool) =>
 let v9:Bool:=bif v5 then t else false;
 let v10:Bool:=!v9||v9;bif v7 then bif v10 then af (bif v9 then fa x0 else some 0) fun (t:Int)=>bif v10 then bif v10&&v10 then bif v10 then some (bif v9 then decide (t=(↑(ByteArray.size x0):Int)) else false) else none else none else none else none else none else none else none else none else none else none
def du (x0:ByteArray):Option Bool:=lQ lpK jnK br fa x0
abbrev t90:=(ByteArray)->Option (Bool)
def c90:Ctr:=⟨[.str],[],[],.one .bool,fun x _ _=>du x.1⟩
theorem e90 (lp:Lp) (jn:Jn) (br:F5) (fa:NF):∀(x:TsS c90.as) (F:TsF c90.fs) (y:TsS c90.cs),lQ lp jn br fa x.1=bf lp jn (cx [(127,⟨[.str],[],[],.one i64,fun x _ _=>fa x.1⟩),(126,K6 br)] [(32,r32),(92,r92),(112,aU)]) aj 4 90 f90 c90 x F y:=fun x F y=>by kernel_rfl
theorem QY:c90.ok prog 90:=Ctr.of_den (an (aa (aa (q32) (by kernel_rfl) KI) (by kernel_rfl) Ng)) ax (hl:=aj) (d:=4) func90 rfl (by decide) (e90 lpK jnK br fa)
def gU (lp:Lp) (_:Jn) (x0:List (ByteArray×Int)) (f0:(((ByteArray×Int)×Unit)->Option Bool)):Option Int :=
 lp (Int×PUnit) Int (fun (again:Int×PUnit->Option Int) (x:Int×PUnit)=>bif decide (x.1<(↑x0.length:Int)) then bif inB x.1 x0.length then af (f0 (x0.getD x.1.toNat ({ data:={ toList:=[] } },0),PUnit.unit)) fun (t:Bool)=>bif t then some x.1 else again (IntKind.wrap .i64 (x.1+1), PUnit.unit) else none else some (-1)) (0,PUnit.unit)
def bE (x0:List (ByteArray×Int)) (f0:(((ByteArray×Int)×Unit)->Option Bool)):Option Int:=gU lpK jnK x0 f0
abbrev KW:=(List (ByteArray×Int))->((((ByteArray×Int)×Unit)->Option Bool))->Option (Int)
def M8 (bE:KW):Ctr:=⟨[(.sl T45)],[([T45],.bool)],[],.one i64,fun x F _=>bE x.1 F.1⟩
def FX:Ctr:=M8 bE
theorem PC (lp:Lp) (jn:Jn):∀(x:TsS FX.as) (F:TsF FX.fs) (y:TsS FX.cs),gU lp jn x.1 F.1=bf lp jn (cx [] [(32,r32),(92,r92),(112,aU)]) aj 4 154 f154 FX x F y:=fun x F y=>by kernel_rfl
theorem Og:FX.ok prog 154:=Ctr.of_den (an (q32)) ax (hl:=aj) (d:=4) func154 rfl (by decide) (PC lpK jnK)
def lu (_:Lp) (_:Jn) (x0:ByteArray×Int) (y0:ByteArray):Option Bool :=
 some (List.beq (ByteArray.toList x0.1) (ByteArray.toList y0))
def dV (x0:ByteArray×Int) (y0:ByteArray):Option Bool:=lu lpK jnK x0 y0
abbrev MP:=(ByteArray×Int)->(ByteArray)->Option (Bool)
def Im:Ctr:=⟨[T45],[],[.str],.one .bool,fun x _ y=>dV x.1 y.1⟩
theorem QA (lp:Lp) (jn:Jn):∀(x:TsS Im.as) (F:TsF Im.fs) (y:TsS Im.cs),lu lp jn x.1 y.1=bf lp jn (cx [] [(32,r32),(92,r92),(112,aU)]) aj 4 155 f155 Im x F y:=fun x F y=>by kernel_rfl
theorem OG:Im.ok prog 155:=Ctr.of_den (an (q32)) ax (hl:=aj) (d:=4) func155 rfl (by decide) (QA lpK jnK)
def od (_:Lp) (_:Jn) (bE:KW) (dV:MP) (x0:(List (ByteArray×Int))×List (ByteArray×(List (ByteArray×Int×Int×Int))×Bool)) (x1:ByteArray):Option Int :=
 af (bE x0.1 fun (x:(ByteArray×Int)×PUnit)=>dV x.1 x1) fun (t:Int)=>some t
def bM (x0:(List (ByteArray×Int))×List (ByteArray×(List (ByteArray×Int×Int×Int))×Bool)) (x1:ByteArray):Option Int:=od lpK jnK bE dV x0 x1
abbrev H5:=((List (ByteArray×Int))×List (ByteArray×(List (ByteArray×Int×Int×Int))×Bool))->(ByteArray)->Option (Int)
def LS (bM:H5):Ctr:=⟨[T25,.str],[],[],.one i64,fun x _ _=>bM x.1 x.2.1⟩
def Eu:Ctr:=LS bM
theorem O0 (lp:Lp) (jn:Jn) (bE:KW) (dV:MP):∀(x:TsS Eu.as) (F:TsF Eu.fs) (y:TsS Eu.cs),od lp jn bE dV x.1 x.2.1=bf lp jn (cx [(155,⟨[T45],[],[.str],.one .bool,fun x _ y=>dV x.1 y.1⟩),(154,M8 bE)] [(32,r32),(92,r92),(112,aU)]) aj 4 109 f109 Eu x F y:=fun x F y=>by kernel_rfl
theorem KL:Eu.ok prog 109:=Ctr.of_den (an (aa (aa (q32) (by kernel_rfl) Og) (by kernel_rfl) OG)) ax (hl:=aj) (d:=4) func109 rfl (by decide) (O0 lpK jnK bE dV)
def nG (lp:Lp) (_:Jn) (x0:Int) (x1:Int):Option Int :=
 lp (Int×Int×PUnit) Int (fun (again:Int×Int×PUnit->Option Int) (x:Int×Int×PUnit)=>bif !decide (x.2.1=0) then bif nzB x.2.1 then again (x.2.1, Int.tmod x.1 x.2.1,PUnit.unit) else none else some x.1) (x0,x1,PUnit.unit)
def aY (x0:Int) (x1:Int):Option Int:=nG lpK jnK x0 x1
abbrev t59:=(Int)->(Int)->Option (Int)
def k59 (aY:t59):Ctr:=⟨[(.int .u64),(.int .u64)],[],[],.one (.int .u64),fun x _ _=>aY x.1 x.2.1⟩
def c59:Ctr:=k59 aY
theorem e59 (lp:Lp) (jn:Jn):∀(x:TsS c59.as) (F:TsF c59.fs) (y:TsS c59.cs),nG lp jn x.1 x.2.1=bf lp jn (cx [] [(32,r32),(92,r92),(112,aU)]) aj 4 59 f59 c59 x F y:=fun x F y=>by kernel_rfl
theorem Io:c59.ok prog 59:=Ctr.of_den (an (q32)) ax (hl:=aj) (d:=4) func59 rfl (by decide) (e59 lpK jnK)
def mQ (_:Lp) (_:Jn) (x0:Int):Option Int :=
 
 let v3:Int:=IntKind.wrap .u64 x0;bif decide (x0<0) then some (IntKind.wrap .u64 (0 - v3)) else some v3
def aw (x0:Int):Option Int:=mQ lpK jnK x0
abbrev t60:=(Int)->Option (Int)
def k60 (aw:t60):Ctr:=⟨[i64],[],[],.one (.int .u64),fun x _ _=>aw x.1⟩
def c60:Ctr:=k60 aw
theorem e60 (lp:Lp) (jn:Jn):∀(x:TsS c60.as) (F:TsF c60.fs) (y:TsS c60.cs),mQ lp jn x.1=bf lp jn (cx [] [(32,r32),(92,r92),(112,aU)]) aj 4 60 f60 c60 x F y:=fun x F y=>by kernel_rfl
theorem EK:c60.ok prog 60:=Ctr.of_den (an (q32)) ax (hl:=aj) (d:=4) func60 rfl (by decide) (e60 lpK jnK)
def kW (_:Lp) (_:Jn) (aY:t59) (aw:t60) (x0:Int×Int):Option Bool :=
 
 let v3:Bool:=decide (x0.2>=1);
 let v4:Bool:=!v3||v3;
 let v5:Bool:=bif v3 then decide (x0.2<=1152921504606846976) else false;
 let v6:Bool:=bif v5 then decide (x0.1>=(-1152921504606846976)) else false;
 let v7:Bool:=!v5||v5;
 let v8:Bool:=bif v6 then decide (x0.1<=1152921504606846976) else false;
 let v9:Bool:=!v6||v6;
 let v10:Bool:=!v8||v8;bif v4 then bif v4 then bif v4 then bif v7 then bif v7 then bif v7 then bif v9 then bif v9 then bif v9 then bif v10 then bif v10 then af (bif v8 then aw x0.1 else some 0) fun (t:Int)=>bif v10 then bif v10 then bif v10&&v10 then af (bif v8 then aY t (IntKind.wrap .u64 x0.2) else some (0 : Int)) fun (t:Int)=>bif v10 then bif v10 then some (bif v8 then decide (t=1) else false) else none else none else none else none else none else none else none else none else none else none else none else none else none else none else none else none
def al (x0:Int×Int):Option Bool:=kW lpK jnK aY aw x0
abbrev t58:=(Int×Int)->Option (Bool)
def k58 (al:t58):Ctr:=⟨[T47],[],[],.one .bool,fun x _ _=>al x.1⟩
def c58:Ctr:=k58 al
theorem e58 (lp:Lp) (jn:Jn) (aY:t59) (aw:t60):∀(x:TsS c58.as) (F:TsF c58.fs) (y:TsS c58.cs),kW lp jn aY aw x.1=bf lp jn (cx [(60,k60 aw),(59,k59 aY)] [(32,r32),(92,r92),(112,aU)]) aj 4 58 f58 c58 x F y:=fun x F y=>by kernel_rfl
theorem xN:c58.ok prog 58:=Ctr.of_den (an (aa (aa (q32) (by kernel_rfl) Io) (by kernel_rfl) EK)) ax (hl:=aj) (d:=4) func58 rfl (by decide) (e58 lpK jnK aY aw)
def nl (_:Lp) (_:Jn) (al:t58) (x0:Int×Int):Option Bool :=
 af (al x0) fun (t:Bool) =>
 let v4:Bool:=!t||t;
 let v5:Bool:=bif t then decide (x0.1>=x0.2) else false;
 let v6:Bool:=!v5||v5;bif v4 then bif v4 then bif v4&&v4 then bif v4 then bif v6 then bif v6 then bif v6 then some (bif v5 then decide (x0.1<=100) else false) else none else none else none else none else none else none else none
def eB (x0:Int×Int):Option Bool:=nl lpK jnK al x0
abbrev Oq:=(Int×Int)->Option (Bool)
def GY:Ctr:=⟨[T47],[],[],.one .bool,fun x _ _=>eB x.1⟩
theorem Pj (lp:Lp) (jn:Jn) (al:t58):∀(x:TsS GY.as) (F:TsF GY.fs) (y:TsS GY.cs),nl lp jn al x.1=bf lp jn (cx [(58,k58 al)] [(32,r32),(92,r92),(112,aU)]) aj 4 167 f167 GY x F y:=fun x F y=>by kernel_rfl
theorem Nu:GY.ok prog 167:=Ctr.of_den (an (aa (q32) (by kernel_rfl) xN)) ax (hl:=aj) (d:=4) func167 rfl (by decide) (Pj lpK jnK al)
def nN (_:Lp) (_:Jn) (bM:H5) (eB:Oq) (x0:(List (ByteArray×Int))×List (ByteArray×(List (ByteArray×Int×Int×Int))×Bool)) (x1:ByteArray×Int×Int×Int) (x2:Bool):Option Bool :=
 
 let v5:Bool:=!x2;
 let v6:Bool:=v5||x2;
 let v7:Bool:=decide (x1.2.1=0);
 let v8:Bool:=decide (x1.2.1=1);
 let v9:Bool:=decide (x1.2.1=2);
 let v10:Bool:=!v8;
 let v11:Bool:=!v9;
 let v12:Bool:=bif v9 then true else v7;
 let v13:Bool:=!v10||v10;
 let v14:Bool:=!v11||v11;
 let v15:Bool:=!v12;
 let v16:Bool:=bif x2 then !(decide (x1.2.2.1=1)&&(decide (x1.2.2.2=1)&&true)) else false;
 let v17:Bool:=!v16;
 let v18:Bool:=!v17;
 let v19:Bool:=v17&&v5;
 let v20:Bool:=!v15||v15;
 let v21:Bool:=v18||v17;
 let v22:Bool:=!v19||v19;bif v6 then bif v6&&v6 then bif v6 then bif v21 then bif v21 then bif v22 then bif v22 then af (bif v19 then eB x1.2.2 else some false) fun (t:Bool)=>bif v22 then bif (v18||v21)&&(v18||(!v5||(v18||v19))) then bif v16||v17 then bif bif v16 then true else bif v5 then !t else false then some false else bif List.beq (ByteArray.toList x1.1) (ByteArray.toList { data:=#[] }) then some v7 else af (bM x0 x1.1) fun (t:Int)=>bif decide (t<0) then some false else bif x2 then bif v13 then bif v13 then bif v8||v10 then some (bif v8 then true else decide (x1.2.1=(-1))) else none else none else none else bif v14 then bif v14 then bif v9||v11 then bif v20 then bif v20 then bif v12||v15 then some (bif v12 then true else decide (x1.2.1=(-2))) else none else none else none else none else none else none else none else none else none else none else none else none else none else none else none else none
def dN (x0:(List (ByteArray×Int))×List (ByteArray×(List (ByteArray×Int×Int×Int))×Bool)) (x1:ByteArray×Int×Int×Int) (x2:Bool):Option Bool:=nN lpK jnK bM eB x0 x1 x2
abbrev Mb:=((List (ByteArray×Int))×List (ByteArray×(List (ByteArray×Int×Int×Int))×Bool))->(ByteArray×Int×Int×Int)->(Bool)->Option (Bool)
def Np (dN:Mb):Ctr:=⟨[T25,T74,.bool],[],[],.one .bool,fun x _ _=>dN x.1 x.2.1 x.2.2.1⟩
def FZ:Ctr:=Np dN
theorem QP (lp:Lp) (jn:Jn) (bM:H5) (eB:Oq):∀(x:TsS FZ.as) (F:TsF FZ.fs) (y:TsS FZ.cs),nN lp jn bM eB x.1 x.2.1 x.2.2.1=bf lp jn (cx [(167,⟨[T47],[],[],.one .bool,fun x _ _=>eB x.1⟩),(109,LS bM)] [(32,r32),(92,r92),(112,aU)]) aj 4 128 f128 FZ x F y:=fun x F y=>by kernel_rfl
theorem MD:FZ.ok prog 128:=Ctr.of_den (an (aa (aa (q32) (by kernel_rfl) KL) (by kernel_rfl) Nu)) ax (hl:=aj) (d:=4) func128 rfl (by decide) (QP lpK jnK bM eB)
def oo (lp:Lp) (_:Jn) (bd:t88) (dN:Mb) (x0:(List (ByteArray×Int))×List (ByteArray×(List (ByteArray×Int×Int×Int))×Bool)) (x1:ByteArray×(List (ByteArray×Int×Int×Int))×Bool):Option Bool :=
 
 let v4:Bool:=!x1.2.2;
 let v5:Bool:=!v4;
 let v6:Bool:=!v5;
 let v7:Int:=IntKind.wrap .i64 ((↑x1.2.1.length:Int) - 1);
 let v8:Bool:=v6||v5;af (bd (↑x1.2.1.length:Int) 2 10) fun (t:Bool)=>bif !t then some false else lp (Int×PUnit) Bool (fun (again : Int×PUnit->Option Bool) (x:Int×PUnit) =>
 let v12:Bool:=decide (x.1=0);
 let v13:Bool:=!v12;
 let v14:Bool:=!v13||v13;bif decide (x.1<(↑x1.2.1.length:Int)) then bif inB x.1 x1.2.1.length then bif v14 then bif v14&&v14 then bif v12||v13 then af (dN x0 (x1.2.1.getD x.1.toNat ({ data:={ toList:=[] } },0,0,0)) (bif v12 then true else decide (x.1=v7))) fun (t : Bool)=>bif !t then some false else again (IntKind.wrap .i64 (x.1+1),PUnit.unit) else none else none else none else none else bif v8 then bif v8 then bif v8&&(v8 && (v6||inB v7 x1.2.1.length)) then bif v8 then bif v8 then bif v8 then bif v4||v5 then some (bif v4 then true else List.beq (ByteArray.toList (x1.2.1.getD v7.toNat ({ data:={ toList:=[] } },0,0,0)).1) (ByteArray.toList { data:=#[] })) else none else none else none else none else none else none else none) (0,PUnit.unit)
def fb (x0:(List (ByteArray×Int))×List (ByteArray×(List (ByteArray×Int×Int×Int))×Bool)) (x1:ByteArray×(List (ByteArray×Int×Int×Int))×Bool):Option Bool:=oo lpK jnK bd dN x0 x1
abbrev t91:=((List (ByteArray×Int))×List (ByteArray×(List (ByteArray×Int×Int×Int))×Bool))->(ByteArray×(List (ByteArray×Int×Int×Int))×Bool)->Option (Bool)
def c91:Ctr:=⟨[T25,T72],[],[],.one .bool,fun x _ _=>fb x.1 x.2.1⟩
theorem e91 (lp:Lp) (jn:Jn) (bd:t88) (dN:Mb):∀(x:TsS c91.as) (F:TsF c91.fs) (y:TsS c91.cs),oo lp jn bd dN x.1 x.2.1=bf lp jn (cx [(128,Np dN),(88,k88 bd)] [(32,r32),(92,r92),(112,aU)]) aj 4 91 f91 c91 x F y:=fun x F y=>by kernel_rfl
theorem Qp:c91.ok prog 91:=Ctr.of_den (an (aa (aa (q32) (by kernel_rfl) Nf) (by kernel_rfl) MD)) ax (hl:=aj) (d:=4) func91 rfl (by decide) (e91 lpK jnK bd dN)
def nm (lp:Lp) (_:Jn) (bd:t88) (du:t90) (fb:t91) (x0:(List (ByteArray×Int))×List (ByteArray×(List (ByteArray×Int×Int×Int))×Bool)):Option Bool :=
 af (bd (↑x0.1.length:Int) 1 6) fun (t:Bool) =>
 let v4:Bool:=!t;
 let v5:Bool:=!v4;
 let v6:Bool:=!v5||v5;bif v6 then bif v6 then bif v6 then af (bif v5 then bd (↑x0.2.length:Int) 1 6 else some false) fun (t:Bool)=>bif v6 then bif v4||v5 then bif bif v4 then true else !t then some false else lp (Int×List (ByteArray×Bool)×PUnit) Bool (fun (again:Int×List (ByteArray×Bool)×PUnit->Option Bool) (x:Int×List (ByteArray×Bool)×PUnit) =>
 let v10:ByteArray×Int:=x0.1.getD x.1.toNat ({ data:={ toList:=[] } },0);bif decide (x.1<(↑x0.1.length:Int)) then bif inB x.1 x0.1.length then af (du v10.1) fun (t:Bool) =>
 let v12:Bool:=!t||t;bif v12&&v12 then bif v12 then bif v12 then bif (!!!bif t then !je str Sh.bool v10.1 false x.2.1 else false)||!!bif t then !je str Sh.bool v10.1 false x.2.1 else false then bif (!!!bif t then !je str Sh.bool v10.1 false x.2.1 else false)||!!bif t then !je str Sh.bool v10.1 false x.2.1 else false then af (bif !!bif t then !je str Sh.bool v10.1 false x.2.1 else false then bd v10.2 0 16777216 else some false) fun (t_1:Bool)=>bif (!!!bif t then !je str Sh.bool v10.1 false x.2.1 else false)||!!bif t then !je str Sh.bool v10.1 false x.2.1 else false then bif (!bif t then !je str Sh.bool v10.1 false x.2.1 else false)||!!bif t then !je str Sh.bool v10.1 false x.2.1 else false then bif bif !bif t then !je str Sh.bool v10.1 false x.2.1 else false then true else !t_1 then some false else again (IntKind.wrap .i64 (x.1+1),uX str Sh.bool v10.1 true x.2.1,PUnit.unit) else none else none else none else none else none else none else none else none else lp (Int×Int×List (ByteArray×Bool)×PUnit) Bool (fun (again:Int×Int×List (ByteArray×Bool)×PUnit->Option Bool) (x:Int×Int×List (ByteArray×Bool)×PUnit) =>
 let v13:ByteArray×List (ByteArray×Int×Int×Int)×Bool:=x0.2.getD x.2.1.toNat ({ data:={ toList:=[] } },[],false);bif decide (x.2.1<(↑x0.2.length:Int)) then bif inB x.2.1 x0.2.length then af (du v13.1) fun (t:Bool) =>
 let v15:Bool:=!t||t;bif v15&&v15 then bif v15 then bif v15 then bif ((!!!bif t then !je str Sh.bool v13.1 false x.2.2.1 else false)||!!bif t then !je str Sh.bool v13.1 false x.2.2.1 else false)&&((!!!bif t then !je str Sh.bool v13.1 false x.2.2.1 else false)||!!bif t then !je str Sh.bool v13.1 false x.2.2.1 else false) then af (bif !!bif t then !je str Sh.bool v13.1 false x.2.2.1 else false then fb x0 v13 else some false) fun (t_1:Bool)=>bif (!!!bif t then !je str Sh.bool v13.1 false x.2.2.1 else false)||!!bif t then !je str Sh.bool v13.1 false x.2.2.1 else false then bif (!bif t then !je str Sh.bool v13.1 false x.2.2.1 else false)||!!bif t then !je str Sh.bool v13.1 false x.2.2.1 else false then bif bif !bif t then !je str Sh.bool v13.1 false x.2.2.1 else false then true else !t_1 then some false else bif v13.2.2 then again (IntKind.wrap .i64 (x.1+1),IntKind.wrap .i64 (x.2.1+1),uX str Sh.bool v13.1 true x.2.2.1,PUnit.unit) else again (x.1,IntKind.wrap .i64 (x.2.1+1),uX str Sh.bool v13.1 true x.2.2.1,PUnit.unit) else none else none else none else none else none else none else none else some (decide (x.1<=1))) (0,0,x.2.1,PUnit.unit)) (0,[],PUnit.unit) else none else none else none else none else none
def aN (x0:(List (ByteArray×Int))×List (ByteArray×(List (ByteArray×Int×Int×Int))×Bool)):Option Bool:=nm lpK jnK bd du fb x0
abbrev t50:=((List (ByteArray×Int))×List (ByteArray×(List (ByteArray×Int×Int×Int))×Bool))->Option (Bool)
def k50 (aN:t50):Ctr:=⟨[T25],[],[],.one .bool,fun x _ _=>aN x.1⟩
def c50:Ctr:=k50 aN
theorem e50 (lp:Lp) (jn:Jn) (bd:t88) (du:t90) (fb:t91):∀(x:TsS c50.as) (F:TsF c50.fs) (y:TsS c50.cs),nm lp jn bd du fb x.1=bf lp jn (cx [(91,⟨[T25,T72],[],[],.one .bool,fun x _ _=>fb x.1 x.2.1⟩),(90,⟨[.str],[],[],.one .bool,fun x _ _=>du x.1⟩),(88,k88 bd)] [(32,r32),(92,r92),(112,aU)]) aj 4 50 f50 c50 x F y:=fun x F y=>by kernel_rfl
theorem Mf:c50.ok prog 50:=Ctr.of_den (an (aa (aa (aa (q32) (by kernel_rfl) Nf) (by kernel_rfl) QY) (by kernel_rfl) Qp)) ax (hl:=aj) (d:=4) func50 rfl (by decide) (e50 lpK jnK bd du fb)
def lL (lp:Lp) (_:Jn) (bM:H5) (aN:t50) (x0:(List (ByteArray×Int))×List (ByteArray×(List (ByteArray×Int×Int×Int))×Bool)):Option ((List (List Int))×Int×Unit) :=
 af (aN x0) fun (t:Bool)=>bif !t then some ([],1,PUnit.unit) else bif decide (0<=(↑x0.1.length:Int))&&dK (Int.toNat (↑x0.1.length : Int)) 24 then lp (Int×(List Nat×List (Option (List Int)))×PUnit) (List (List Int)×Int×PUnit) (fun (again:Int×(List Nat×List (Option (List Int)))×PUnit -> Option (List (List Int)×Int×PUnit)) (x:Int×(List Nat×List (Option (List Int)))×PUnit)=>bif decide (x.1<(↑(List.length (Nat.brecOn (motive:=fun (x:Nat)=>Nat->List Nat) (Int.toNat (↑x0.1.length:Int)) (fun (x:Nat) (f:Nat.below (motive:=fun (x:Nat)=>Nat->List (T ref)) x) (x_1:Nat)=>(match (motive:=(x:Nat)->Nat->Nat.below (motive:=fun (x:Nat)=>Nat->List (T ref)) x->List Nat) x,x_1 with | 0,x=>fun (_:PUnit)=>[] | Nat.succ n,k=>fun (x:(Nat->List Nat) ×' Nat.rec PUnit (fun (n:Nat) (n_ih:Type)=>(fun (x:Nat)=>Nat->List (T ref)) n ×' n_ih) n)=>(k+0) ::x.1 (k+1)) f) 0)):Int)) then bif decide (0 <= (↑x0.2.length:Int))&&dK (Int.toNat (↑x0.2.length:Int)) 8 then bif inB x.1 x.2.1.1.length then bif Nat.ble (Nat.succ x.1.toNat) x.2.1.1.length then again (IntKind.wrap .i64 (x.1+1),(x.2.1.1.set x.1.toNat x.2.1.2.length,x.2.1.2++[some (List.replicate (Int.toNat (↑x0.2.length:Int)) 0)]),PUnit.unit) else none else none else none else lp (Int×(List Nat×List (Option (List Int)))×PUnit) (List (List Int)×Int×PUnit) (fun (again:Int×(List Nat×List (Option (List Int)))×PUnit->Option (List (List Int)×Int×PUnit)) (x:Int×(List Nat×List (Option (List Int))) × PUnit)=>bif decide (x.1<(↑x0.2.length:Int)) then bif inB x.1 x0.2.length then lp (Int×(List Nat×List (Option (List Int)))×PUnit) (List (List Int)×Int × PUnit) (fun (again_1:Int×(List Nat×List (Option (List Int)))×PUnit->Option (List (List Int)×Int×PUnit)) (x_1:Int×(List Nat×List (Option (List Int)))×PUnit) =>
 let v10:Int:=IntKind.wrap .i64 (x_1.1+1);
 let v11:(List Nat×List (Option (List Int)))×PUnit:=(x_1.2.1,PUnit.unit);
 let v12:ByteArray×Int×Int×Int:=List.getD (x0.2.getD x.1.toNat ({ data:={ toList:=[] } },[],false)).2.1 x_1.1.toNat ({ data:={ toList:=[] } },0,0,0);bif decide (x_1.1<(↑(List.length (x0.2.getD x.1.toNat ({ data:={ toList:=[] } },[],false)).2.1):Int)) then bif inB x_1.1 (List.length (x0.2.getD x.1.toNat ({ data:={ toList:=[] } },[],false)).2.1) then af (bM x0 v12.1) fun (t:Int)=>bif decide (t>=(0 : Int)) then bif inB t x_1.2.1.1.length then bif Nat.ble (Nat.succ t.toNat) x_1.2.1.1.length then bif inB x.1 (List.length (bA x_1.2.1.2 (x_1.2.1.1.getD t.toNat 0))) then bif Nat.ble (Nat.succ x.1.toNat) (List.length (bA x_1.2.1.2 (x_1.2.1.1.getD t.toNat (0 : Nat)))) then bif inB x.1 (List.length (bA x_1.2.1.2 (x_1.2.1.1.getD t.toNat 0))) then bif Nat.ble (Nat.succ x.1.toNat) (List.length (bA x_1.2.1.2 (x_1.2.1.1.getD t.toNat 0))) then again_1 (v10,(x_1.2.1.1,x_1.2.1.2.set (x_1.2.1.1.getD t.toNat 0) (some (List.set (bA x_1.2.1.2 (x_1.2.1.1.getD t.toNat 0)) x.1.toNat (IntKind.wrap .i64 (List.getD (bA x_1.2.1.2 (x_1.2.1.1.getD t.toNat 0)) x.1.toNat 0+v12.2.1))))),PUnit.unit) else none else none else none else none else none else none else again_1 (v10,v11) else none else again (IntKind.wrap .i64 (x.1+1),v11)) (0,x.2.1,PUnit.unit) else none else bif List.all x.2.1.1 fun (x_1:Nat)=>fJ x.2.1.2 x_1 then some (List.map (fun (x_1:Nat)=>bA x.2.1.2 x_1) x.2.1.1,0,PUnit.unit) else none) (0,x.2.1,PUnit.unit)) (0, (Nat.brecOn (motive:=fun (x:Nat)=>Nat->List Nat) (Int.toNat (↑x0.1.length:Int)) (fun (x:Nat) (f:Nat.below (motive:=fun (x:Nat)=>Nat->List (T ref)) x) (x_1:Nat)=>(match (motive:=(x:Nat)->Nat->Nat.below (motive:=fun (x:Nat)=>Nat->List (T ref)) x->List Nat) x,x_1 with | 0,x=>fun (_:PUnit)=>[] | Nat.succ n,k=>fun (x:(Nat->List Nat) ×' Nat.rec PUnit (fun (n:Nat) (n_ih:Type)=>(fun (x:Nat)=>Nat->List (T ref)) n ×' n_ih) n)=>(k+0) ::x.1 (k+1)) f) 0,List.replicate (Int.toNat (↑x0.1.length:Int)) (some [])),PUnit.unit) else none
def bq (x0:(List (ByteArray×Int))×List (ByteArray×(List (ByteArray×Int×Int×Int))×Bool)):Option ((List (List Int))×Int×Unit):=lL lpK jnK bM aN x0
abbrev t72:=((List (ByteArray×Int))×List (ByteArray×(List (ByteArray×Int×Int×Int))×Bool))->Option ((List (List Int))×Int×Unit)
def k72 (bq:t72):Ctr:=⟨[T25],[],[],.tup [(.sl (.sl i64)),i64],fun x _ _=>bq x.1⟩
def c72:Ctr:=k72 bq
theorem e72 (lp:Lp) (jn:Jn) (bM:H5) (aN:t50):∀(x:TsS c72.as) (F:TsF c72.fs) (y:TsS c72.cs),lL lp jn bM aN x.1=bf lp jn (cx [(50,k50 aN),(109,LS bM)] [(32,r32),(92,r92),(112,aU)]) aj 4 72 f72 c72 x F y:=fun x F y=>by kernel_rfl
theorem MF:c72.ok prog 72:=Ctr.of_den (an (aa (aa (q32) (by kernel_rfl) KL) (by kernel_rfl) Mf)) ax (hl:=aj) (d:=4) func72 rfl (by decide) (e72 lpK jnK bM aN)
def kF (lp:Lp) (_:Jn) (aN:t50) (x0:(List (ByteArray×Int))×List (ByteArray×(List (ByteArray×Int×Int×Int))×Bool)):Option ((List Int)×Int×Unit) :=
 af (aN x0) fun (t:Bool)=>bif !t then some ([],1,PUnit.unit) else lp (List Int×Int×PUnit) (List Int×Int×PUnit) (fun (again:List Int×Int×PUnit -> Option (List Int×Int×PUnit)) (x:List Int×Int×PUnit)=>bif decide (x.2.1<(↑x0.1.length:Int)) then bif inB x.2.1 x0.1.length then bif dK (List.length x.1+1) 8 then again (x.1++[(x0.1.getD x.2.1.toNat ({ data:={ toList:=[] } },0)).2],IntKind.wrap .i64 (x.2.1+1),PUnit.unit) else none else none else some (x.1,0,PUnit.unit)) ([],0,PUnit.unit)
def cG (x0:(List (ByteArray×Int))×List (ByteArray×(List (ByteArray×Int×Int×Int))×Bool)):Option ((List Int)×Int×Unit):=kF lpK jnK aN x0
abbrev t73:=((List (ByteArray×Int))×List (ByteArray×(List (ByteArray×Int×Int×Int))×Bool))->Option ((List Int)×Int×Unit)
def k73 (cG:t73):Ctr:=⟨[T25],[],[],.tup [(.sl i64),i64],fun x _ _=>cG x.1⟩
def c73:Ctr:=k73 cG
theorem e73 (lp:Lp) (jn:Jn) (aN:t50):∀(x:TsS c73.as) (F:TsF c73.fs) (y:TsS c73.cs),kF lp jn aN x.1=bf lp jn (cx [(50,k50 aN)] [(32,r32),(92,r92),(112,aU)]) aj 4 73 f73 c73 x F y:=fun x F y=>by kernel_rfl
theorem PT:c73.ok prog 73:=Ctr.of_den (an (aa (q32) (by kernel_rfl) Mf)) ax (hl:=aj) (d:=4) func73 rfl (by decide) (e73 lpK jnK aN)
def qD (lp:Lp) (_:Jn) (bq:t72) (cG:t73) (x0:(List (ByteArray×Int))×List (ByteArray×(List (ByteArray×Int×Int×Int))×Bool)) (x1:List Int):Option (((List Int)×List ((List Int)×Int×Int))×Int×Unit) :=
 af (bq x0) fun (t:List (List Int)×Int×PUnit)=>bif !decide (t.2.1=0) then some (([],[]),t.2.1,PUnit.unit) else af (cG x0) fun (t_1 : List Int×Int×PUnit)=>bif !decide (t_1.2.1=0) then some (([],[]),t_1.2.1,PUnit.unit) else lp (Int×List Int×List (List Int×Int×Int)×PUnit) ((List Int×List (List Int×Int×Int))×Int×PUnit) (fun (again:Int×List Int×List (List Int×Int×Int)×PUnit->Option ((List Int×List (List Int×Int×Int))×Int×PUnit)) (x:Int×List Int×List (List Int×Int×Int)×PUnit)=>bif decide (x.1<(↑t.1.length:Int)) then bif inB x.1 t.1.length then bif inB x.1 t_1.1.length then bif dK (List.length x.2.2.1+1) 40 then again (IntKind.wrap .i64 (x.1+1),x.2.1,x.2.2.1++[(t.1.getD x.1.toNat [],3,t_1.1.getD x.1.toNat 0)],PUnit.unit) else none else none else none else some ((x.2.1,x.2.2.1),0, PUnit.unit)) (0,x1,[],PUnit.unit)
def fQ (x0:(List (ByteArray×Int))×List (ByteArray×(List (ByteArray×Int×Int×Int))×Bool)) (x1:List Int):Option (((List Int)×List ((List Int)×Int×Int))×Int×Unit):=qD lpK jnK bq cG x0 x1
abbrev t97:=((List (ByteArray×Int))×List (ByteArray×(List (ByteArray×Int×Int×Int))×Bool))->(List Int)->Option (((List Int)×List ((List Int)×Int×Int))×Int×Unit)
def c97:Ctr:=⟨[T25,(.sl i64)],[],[],.tup [T82,i64],fun x _ _=>fQ x.1 x.2.1⟩
theorem e97 (lp:Lp) (jn:Jn) (bq:t72) (cG:t73):∀(x:TsS c97.as) (F:TsF c97.fs) (y:TsS c97.cs),qD lp jn bq cG x.1 x.2.1=bf lp jn (cx [(73,k73 cG),(72,k72 bq)] [(32,r32),(92,r92),(112,aU)]) aj 4 97 f97 c97 x F y:=fun x F y=>by kernel_rfl
theorem OV:c97.ok prog 97:=Ctr.of_den (an (aa (aa (q32) (by kernel_rfl) MF) (by kernel_rfl) PT)) ax (hl:=aj) (d:=4) func97 rfl (by decide) (e97 lpK jnK bq cG)
def rr (_:Lp) (_:Jn) (x0:Int) (x1:Int):Option (Int×Int×Unit) :=
 
 let v4:Int:=2 ^ 32;
 let v5:Int:=Int.fdiv x0 v4;
 let v6:Int:=Int.fdiv x1 v4;
 let v7:Bool:=decide ((0:Int)<=32);
 let v8:Int:=IntKind.wrap .u64 (↑(Nat.land (Int.toNat (x1 % Int.ofNat 18446744073709551616)) (Int.toNat (4294967295 % Int.ofNat 18446744073709551616))) : Int);
 let v9:Int:=IntKind.wrap .u64 (↑(Nat.land (Int.toNat (x0 % Int.ofNat 18446744073709551616)) (Int.toNat (4294967295 % Int.ofNat 18446744073709551616))) : Int);
 let v10:Int:=IntKind.wrap .u64 (IntKind.wrap .u64 (v5*v8)+Int.fdiv (IntKind.wrap .u64 (v9*v8)) v4);bif v7 then bif v7 then bif v7 then bif v7 then bif v7 then some (IntKind.wrap .u64 (IntKind.wrap .u64 (IntKind.wrap .u64 (v5*v6)+Int.fdiv v10 v4)+Int.fdiv (IntKind.wrap .u64 (IntKind.wrap .u64 (↑(Nat.land (Int.toNat (v10 % Int.ofNat 18446744073709551616)) (Int.toNat (4294967295 % Int.ofNat 18446744073709551616))):Int)+IntKind.wrap .u64 (v9 * v6))) v4),IntKind.wrap .u64 (x0*x1),PUnit.unit) else none else none else none else none else none
def bD (x0:Int) (x1:Int):Option (Int×Int×Unit):=rr lpK jnK x0 x1
abbrev BN:=(Int)->(Int)->Option (Int×Int×Unit)
def JI (bD:BN):Ctr:=⟨[(.int .u64),(.int .u64)],[],[],.tup [(.int .u64),(.int .u64)],fun x _ _=>bD x.1 x.2.1⟩
def Ib:Ctr:=JI bD
theorem QO (lp:Lp) (jn:Jn):∀(x:TsS Ib.as) (F:TsF Ib.fs) (y:TsS Ib.cs),rr lp jn x.1 x.2.1=bf lp jn (cx [] [(32,r32),(92,r92),(112,aU)]) aj 4 107 f107 Ib x F y:=fun x F y=>by kernel_rfl
theorem H3:Ib.ok prog 107:=Ctr.of_den (an (q32)) ax (hl:=aj) (d:=4) func107 rfl (by decide) (QO lpK jnK)
def qN (_:Lp) (_:Jn) (x0:Int) (x1:Int):Option (Int×Int×Unit) :=
 
 let v4:Int:=IntKind.wrap .u64 (IntKind.wrap .u64 x0*IntKind.wrap .u64 x1);bif decide ((0:Int)<=32) then some (IntKind.wrap IntKind.u32 (Int.fdiv v4 (2 ^ 32)),IntKind.wrap IntKind.u32 v4,PUnit.unit) else none
def fT (x0:Int) (x1:Int):Option (Int×Int×Unit):=qN lpK jnK x0 x1
def NZ (fT:(Int)->(Int)->Option (Int×Int×Unit)):Ctr:=⟨[(.int .u32),(.int .u32)],[],[],.tup [(.int .u32),(.int .u32)],fun x _ _=>fT x.1 x.2.1⟩
def Ij:Ctr:=NZ fT
theorem P8 (lp:Lp) (jn:Jn):∀(x:TsS Ij.as) (F:TsF Ij.fs) (y:TsS Ij.cs),qN lp jn x.1 x.2.1=bf lp jn (cx [] [(32,r32),(92,r92),(112,aU)]) aj 4 173 f173 Ij x F y:=fun x F y=>by kernel_rfl
theorem NI:Ij.ok prog 173:=Ctr.of_den (an (q32)) ax (hl:=aj) (d:=4) func173 rfl (by decide) (P8 lpK jnK)
def uN (_:Lp) (_:Jn) (bD:BN) (_:(Int)->(Int)->Option (Int×Int×Unit)) (x0:Int) (x1:Int):Option (Int×Int×Unit) :=
 af (bD x0 x1) fun (t:Int×Int×PUnit)=>some (t.1,t.2.1,PUnit.unit)
def gq (x0:Int) (x1:Int):Option (Int×Int×Unit):=uN lpK jnK bD fT x0 x1
abbrev K5:=(Int)->(Int)->Option (Int×Int×Unit)
def Ot (gq:K5):Ctr:=⟨[(.int .u64),(.int .u64)],[],[],.tup [(.int .u64),(.int .u64)],fun x _ _=>gq x.1 x.2.1⟩
def Ev:Ctr:=Ot gq
theorem Qk (lp:Lp) (jn:Jn) (bD:BN) (fT:(Int)->(Int)->Option (Int×Int×Unit)):∀(x:TsS Ev.as) (F:TsF Ev.fs) (y:TsS Ev.cs),uN lp jn bD fT x.1 x.2.1=bf lp jn (cx [(173,NZ fT),(107,JI bD)] [(32,r32),(92,r92),(112,aU)]) aj 4 140 f140 Ev x F y:=fun x F y=>by kernel_rfl
theorem MN:Ev.ok prog 140:=Ctr.of_den (an (aa (aa (q32) (by kernel_rfl) H3) (by kernel_rfl) NI)) ax (hl:=aj) (d:=4) func140 rfl (by decide) (Qk lpK jnK bD fT)
def ka (lp:Lp) (jn:Jn) (gq:K5) (x0:List Int) (x1:Int):Option (List Int) :=
 jn PUnit (List Int) (fun (_:PUnit)=>af (gq (IntKind.wrap .u64 (↑x0.length:Int)) (IntKind.wrap .u64 x1)) fun (t:Int×Int×PUnit) =>
 let v6:List Int:=List.take (Int.toNat (IntKind.wrap .i64 t.2.1)) x0;
 let v7:List Int:=List.replicate (Int.toNat (IntKind.wrap .i64 t.2.1)) 0;
 let v8:Bool:=decide (t.1>0);
 let v9:Bool:=!v8;bif !v9||v9 then bif v8||v9 then jn PUnit (List Int) (fun (_:PUnit)=>bif decide (0<=IntKind.wrap .i64 t.2.1)&&dK (Int.toNat (IntKind.wrap .i64 t.2.1)) 8 then lp (Int×List Int×PUnit) (List Int) (fun (again:Int×List Int×PUnit->Option (List Int)) (x:Int×List Int×PUnit) =>
 let v13:List Int:=List.take x.1.toNat x.2.1;
 let v14:List Int:=List.take (Int.toNat (↑x.2.1.length:Int) - Int.toNat x.1) (List.drop 0 v13);bif decide (x.1<(↑x.2.1.length:Int)) then bif slB x.1 (↑x.2.1.length:Int) x.2.1.length then bif slB 0 x.1 x.2.1.length then bif Nat.ble x.1.toNat (Int.toNat (↑x.2.1.length:Int))&&(Nat.ble (Int.toNat (↑x.2.1.length:Int)) x.2.1.length&&Nat.ble x.1.toNat x.2.1.length) then again (IntKind.wrap IntKind.i64 (x.1+(↑v14.length:Int)),v13++v14++List.drop (Int.toNat x.1+List.length v14) x.2.1,PUnit.unit) else none else none else none else some x.2.1) ((↑v6.length:Int),List.take 0 v7++v6++List.drop (0+List.length v6) v7,PUnit.unit) else none) fun (j:PUnit->Option (List Int))=>bif bif v8 then true else decide (t.2.1>9223372036854775807) then none else j PUnit.unit else none else none) fun (j:PUnit->Option (List Int))=>bif decide (x1<0) then none else j PUnit.unit
def cm (x0:List Int) (x1:Int):Option (List Int):=ka lpK jnK gq x0 x1
abbrev t98:=(List Int)->(Int)->Option (List Int)
def k98 (cm:t98):Ctr:=⟨[(.sl i64),i64],[],[],.one (.sl i64),fun x _ _=>cm x.1 x.2.1⟩
def c98:Ctr:=k98 cm
theorem e98 (lp:Lp) (jn:Jn) (gq:K5):∀(x:TsS c98.as) (F:TsF c98.fs) (y:TsS c98.cs),ka lp jn gq x.1 x.2.1=bf lp jn (cx [(140,Ot gq)] [(32,r32),(92,r92),(112,aU)]) aj 4 98 f98 c98 x F y:=fun x F y=>by kernel_rfl
theorem O8:c98.ok prog 98:=Ctr.of_den (an (aa (q32) (by kernel_rfl) MN)) ax (hl:=aj) (d:=4) func98 rfl (by decide) (e98 lpK jnK gq)
def ni (_:Lp) (_:Jn) (fQ:t97) (cm:t98) (x0:(List (ByteArray×Int))×List (ByteArray×(List (ByteArray×Int×Int×Int))×Bool)):Option (((List Int)×List ((List Int)×Int×Int))×Int×Unit) :=
 af (cm [1] (↑x0.2.length:Int)) fun (t:List Int)=>af (fQ x0 t) fun (t:(List Int×List (List Int×Int×Int))×Int×PUnit)=>some (t.1,t.2.1,PUnit.unit)
def aO (x0:(List (ByteArray×Int))×List (ByteArray×(List (ByteArray×Int×Int×Int))×Bool)):Option (((List Int)×List ((List Int)×Int×Int))×Int×Unit):=ni lpK jnK fQ cm x0
abbrev t55:=((List (ByteArray×Int))×List (ByteArray×(List (ByteArray×Int×Int×Int))×Bool))->Option (((List Int)×List ((List Int)×Int×Int))×Int×Unit)
def k55 (aO:t55):Ctr:=⟨[T25],[],[],.tup [T82,i64],fun x _ _=>aO x.1⟩
def c55:Ctr:=k55 aO
theorem e55 (lp:Lp) (jn:Jn) (fQ:t97) (cm:t98):∀(x:TsS c55.as) (F:TsF c55.fs) (y:TsS c55.cs),ni lp jn fQ cm x.1=bf lp jn (cx [(98,k98 cm),(97,⟨[T25,(.sl i64)],[],[],.tup [T82,i64],fun x _ _=>fQ x.1 x.2.1⟩)] [(32,r32),(92,r92),(112,aU)]) aj 4 55 f55 c55 x F y:=fun x F y=>by kernel_rfl
theorem LV:c55.ok prog 55:=Ctr.of_den (an (aa (aa (q32) (by kernel_rfl) OV) (by kernel_rfl) O8)) ax (hl:=aj) (d:=4) func55 rfl (by decide) (e55 lpK jnK fQ cm)
def ju (_:Lp) (_:Jn) (x0:Int) (y0:Int):Option Bool :=
 
 let v4:Bool:=decide (x0<IntKind.wrap .i64 (0 - y0));
 let v5:Bool:=!v4;
 let v6:Bool:=!v5||v5;bif v6&&v6 then bif v4||v5 then some (bif v4 then true else decide (x0>y0)) else none else none
def cQ (x0:Int) (y0:Int):Option Bool:=ju lpK jnK x0 y0
abbrev Oo:=(Int)->(Int)->Option (Bool)
def Gt:Ctr:=⟨[i64],[],[i64],.one .bool,fun x _ y=>cQ x.1 y.1⟩
theorem QM (lp:Lp) (jn:Jn):∀(x:TsS Gt.as) (F:TsF Gt.fs) (y:TsS Gt.cs),ju lp jn x.1 y.1=bf lp jn (cx [] [(32,r32),(92,r92),(112,aU)]) aj 4 142 f142 Gt x F y:=fun x F y=>by kernel_rfl
theorem Mw:Gt.ok prog 142:=Ctr.of_den (an (q32)) ax (hl:=aj) (d:=4) func142 rfl (by decide) (QM lpK jnK)
def kP (_:Lp) (_:Jn) (cQ:Oo) (x0:Int):Option ((Int×Unit)->Option Bool) :=
 some fun (x:Int×PUnit)=>cQ x.1 x0
def cI (x0:Int):Option ((Int×Unit)->Option Bool):=kP lpK jnK cQ x0
abbrev NW:=(Int)->Option ((Int×Unit)->Option Bool)
def Mo:FCtr:=⟨[i64],[i64],.bool,fun x=>cI x.1⟩
theorem Qv (lp:Lp) (jn:Jn) (cQ:Oo):∀x:TsS Mo.as,kP lp jn cQ x.1=LG lp jn (cx [(142,⟨[i64],[],[i64],.one .bool,fun x _ y=>cQ x.1 y.1⟩)] [(32,r32),(92,r92),(112,aU)]) aj 4 141 f141 Mo x:=fun x=>by kernel_rfl
theorem Lm:Mo.ok prog 141:=FCtr.of_den (an (aa (q32) (by kernel_rfl) Mw)) ax (hl:=aj) (d:=4) func141 rfl (by decide) (Qv lpK jnK cQ)
def hY (lp:Lp) (_:Jn) (x0:List Int) (f0:((Int×Unit)->Option Bool)):Option Int :=
 lp (Int×PUnit) Int (fun (again:Int×PUnit->Option Int) (x:Int×PUnit)=>bif decide (x.1<(↑x0.length:Int)) then bif inB x.1 x0.length then af (f0 (x0.getD x.1.toNat 0,PUnit.unit)) fun (t:Bool)=>bif t then some x.1 else again (IntKind.wrap .i64 (x.1+1),PUnit.unit) else none else some (-1)) (0,PUnit.unit)
def bG (x0:List Int) (f0:((Int×Unit)->Option Bool)):Option Int:=hY lpK jnK x0 f0
abbrev Mc:=(List Int)->(((Int×Unit)->Option Bool))->Option (Int)
def N1 (bG:Mc):Ctr:=⟨[(.sl i64)],[([i64],.bool)],[],.one i64,fun x F _=>bG x.1 F.1⟩
def FF:Ctr:=N1 bG
theorem OU (lp:Lp) (jn:Jn):∀(x:TsS FF.as) (F:TsF FF.fs) (y:TsS FF.cs),hY lp jn x.1 F.1=bf lp jn (cx [] [(32,r32),(92,r92),(112,aU)]) aj 4 174 f174 FF x F y:=fun x F y=>by kernel_rfl
theorem Ow:FF.ok prog 174:=Ctr.of_den (an (q32)) ax (hl:=aj) (d:=4) func174 rfl (by decide) (OU lpK jnK)
def gk (_:Lp) (_:Jn) (bG:Mc) (x0:List Int) (f0:((Int×Unit)->Option Bool)):Option Bool :=
 af (bG x0 f0) fun (t:Int)=>some (decide (t>=0))
def aW (x0:List Int) (f0:((Int×Unit)->Option Bool)):Option Bool:=gk lpK jnK bG x0 f0
abbrev Lc:=(List Int)->(((Int×Unit)->Option Bool))->Option (Bool)
def NK (aW:Lc):Ctr:=⟨[(.sl i64)],[([i64],.bool)],[],.one .bool,fun x F _=>aW x.1 F.1⟩
def EU:Ctr:=NK aW
theorem OT (lp:Lp) (jn:Jn) (bG:Mc):∀(x:TsS EU.as) (F:TsF EU.fs) (y:TsS EU.cs),gk lp jn bG x.1 F.1=bf lp jn (cx [(174,N1 bG)] [(32,r32),(92,r92),(112,aU)]) aj 4 143 f143 EU x F y:=fun x F y=>by kernel_rfl
theorem NB:EU.ok prog 143:=Ctr.of_den (an (aa (q32) (by kernel_rfl) Ow)) ax (hl:=aj) (d:=4) func143 rfl (by decide) (OT lpK jnK bG)
def ia (lp:Lp) (_:Jn) (x0:List ((List Int)×Int×Int)) (f0:((((List Int)×Int×Int)×Unit)->Option Bool)):Option Int :=
 lp (Int×PUnit) Int (fun (again:Int×PUnit->Option Int) (x:Int×PUnit)=>bif decide (x.1<(↑x0.length:Int)) then bif inB x.1 x0.length then af (f0 (x0.getD x.1.toNat ([],0,0),PUnit.unit)) fun (t:Bool)=>bif t then some x.1 else again (IntKind.wrap .i64 (x.1+1),PUnit.unit) else none else some (-1)) (0,PUnit.unit)
def bF (x0:List ((List Int)×Int×Int)) (f0:((((List Int)×Int×Int)×Unit)->Option Bool)):Option Int:=ia lpK jnK x0 f0
abbrev L5:=(List ((List Int)×Int×Int))->(((((List Int)×Int×Int)×Unit)->Option Bool))->Option (Int)
def M7 (bF:L5):Ctr:=⟨[(.sl Aw)],[([Aw],.bool)],[],.one i64,fun x F _=>bF x.1 F.1⟩
def GX:Ctr:=M7 bF
theorem P7 (lp:Lp) (jn:Jn):∀(x:TsS GX.as) (F:TsF GX.fs) (y:TsS GX.cs),ia lp jn x.1 F.1=bf lp jn (cx [] [(32,r32),(92,r92),(112,aU)]) aj 4 175 f175 GX x F y:=fun x F y=>by kernel_rfl
theorem Ol:GX.ok prog 175:=Ctr.of_den (an (q32)) ax (hl:=aj) (d:=4) func175 rfl (by decide) (P7 lpK jnK)
def gp (_:Lp) (_:Jn) (bF:L5) (x0:List ((List Int)×Int×Int)) (f0:((((List Int)×Int×Int)×Unit)->Option Bool)):Option Bool :=
 af (bF x0 f0) fun (t:Int)=>some (decide (t>=0))
def bI (x0:List ((List Int)×Int×Int)) (f0:((((List Int)×Int×Int)×Unit)->Option Bool)):Option Bool:=gp lpK jnK bF x0 f0
def Nz (bI:(List ((List Int)×Int×Int))->(((((List Int)×Int×Int)×Unit)->Option Bool))->Option (Bool)):Ctr:=⟨[(.sl Aw)],[([Aw],.bool)],[],.one .bool,fun x F _=>bI x.1 F.1⟩
def F7:Ctr:=Nz bI
theorem Pv (lp:Lp) (jn:Jn) (bF:L5):∀(x:TsS F7.as) (F:TsF F7.fs) (y:TsS F7.cs),gp lp jn bF x.1 F.1=bf lp jn (cx [(175,M7 bF)] [(32,r32),(92,r92),(112,aU)]) aj 4 144 f144 F7 x F y:=fun x F y=>by kernel_rfl
theorem NC:F7.ok prog 144:=Ctr.of_den (an (aa (q32) (by kernel_rfl) Ol)) ax (hl:=aj) (d:=4) func144 rfl (by decide) (Pv lpK jnK bF)
def na (lp:Lp) (_:Jn) (aW:Lc) (_:(List ((List Int)×Int×Int))->(((((List Int)×Int×Int)×Unit)->Option Bool))->Option (Bool)) (cI:NW) (x0:(List Int)×List ((List Int)×Int×Int)):Option Bool :=
 
 let v3:Bool:=decide ((↑x0.1.length:Int)<1);
 let v4:Bool:=!v3;
 let v5:Bool:=bif v3 then true else decide ((↑x0.1.length:Int)>12);
 let v6:Bool:=!v4||v4;
 let v7:Bool:=!v5;
 let v8:Bool:=bif v5 then true else decide ((↑x0.2.length:Int)>6);
 let v9:Bool:=!v8;
 let v10:Bool:=!v7||v7;
 let v11:Bool:=!v9||v9;bif v6 then bif v6 then bif v6 then bif v3||v4 then bif v10 then bif v10 then bif v10 then bif v5||v7 then bif v11 then bif v11 then af (bif v9 then cI 1048576 else some fun (_:Int×PUnit)=>none) fun (t:Int×PUnit->Option Bool)=>bif v11&&v11 then af (bif v9 then aW x0.1 t else some false) fun (t:Bool)=>bif v8||v9 then bif bif v8 then true else t then some false else lp (Int×PUnit) Bool (fun (again:Int×PUnit->Option Bool) (x:Int×PUnit) =>
 let v16:List Int×Int×Int:=x0.2.getD x.1.toNat ([],0,0);
 let v17:Bool:=decide (v16.2.1<1);
 let v18:Bool:=decide (v16.2.1>3);
 let v19:Bool:=!decide ((↑v16.1.length:Int)=(↑x0.1.length:Int));
 let v20:Bool:=!v19;
 let v21:Bool:=!v20||v20;bif decide (x.1<(↑x0.2.length:Int)) then bif inB x.1 x0.2.length then bif v21 then bif v21 then af (bif v20 then cI 1048576 else some fun (_:Int×PUnit)=>none) fun (t:Int×PUnit->Option Bool)=>bif v21&&v21 then af (bif v20 then aW v16.1 t else some false) fun (t:Bool) =>
 let v24:Bool:=bif v19 then true else t;
 let v25:Bool:=!v24;
 let v26:Bool:=bif v24 then true else v17;
 let v27:Bool:=!v26;
 let v28:Bool:=bif v26 then true else v18;
 let v29:Bool:=!v25||v25;
 let v30:Bool:=!v28;
 let v31:Bool:=!v27||v27;
 let v32:Bool:=!v30||v30;bif v19||v20 then bif v29 then bif v29 then bif v24||v25 then bif v31 then bif v31 then bif v26||v27 then bif v32 then af (bif v30 then cI 1073741824 else some fun (_:Int×PUnit)=>none) fun (t:Int×PUnit->Option Bool)=>bif v32 then bif v32&&v32 then af (bif v30 then t (v16.2.2, PUnit.unit) else some false) fun (t:Bool)=>bif v28||v30 then bif bif v28 then true else t then some !decide (x.1>=0) else again (IntKind.wrap .i64 (x.1+(1 : Int)),PUnit.unit) else none else none else none else none else none else none else none else none else none else none else none else none else none else none else none else some !decide ((-1:Int)>=0)) (0,PUnit.unit) else none else none else none else none else none else none else none else none else none else none else none else none
def aP (x0:(List Int)×List ((List Int)×Int×Int)):Option Bool:=na lpK jnK aW bI cI x0
abbrev t99:=((List Int)×List ((List Int)×Int×Int))->Option (Bool)
def k99 (aP:t99):Ctr:=⟨[T82],[],[],.one .bool,fun x _ _=>aP x.1⟩
def c99:Ctr:=k99 aP
theorem e99 (lp:Lp) (jn:Jn) (aW:Lc) (bI:(List ((List Int)×Int×Int))->(((((List Int)×Int×Int)×Unit)->Option Bool))->Option (Bool)) (cI:NW):∀(x:TsS c99.as) (F:TsF c99.fs) (y:TsS c99.cs),na lp jn aW bI cI x.1=bf lp jn (tj vv uo (Mr [(141,⟨[i64],[i64],.bool,fun x=>cI x.1⟩)] (gl prog shs pf its [(144,Nz bI),(143,NK aW)] [(32,r32),(92,r92),(112,aU)]))) aj 4 99 f99 c99 x F y:=fun x F y=>by kernel_rfl
theorem Md:c99.ok prog 99:=Ctr.of_den (an (Ip (aa (aa (q32) (by kernel_rfl) NB) (by kernel_rfl) NC) (CP (by kernel_rfl) Lm (Ff)))) ax (hl:=aj) (d:=4) func99 rfl (by decide) (e99 lpK jnK aW bI cI)
def oi (_:Lp) (_:Jn) (x0:Int):Option Int :=
 
 let v3:Int:=IntKind.wrap .u64 x0;bif decide (x0<0) then some (IntKind.wrap .u64 (0 - v3)) else some v3
def bC (x0:Int):Option Int:=oi lpK jnK x0
abbrev EO:=(Int)->Option (Int)
def LM (bC:EO):Ctr:=⟨[i64],[],[],.one (.int .u64),fun x _ _=>bC x.1⟩
def Ik:Ctr:=LM bC
theorem QL (lp:Lp) (jn:Jn):∀(x:TsS Ik.as) (F:TsF Ik.fs) (y:TsS Ik.cs),oi lp jn x.1=bf lp jn (cx [] [(32,r32),(92,r92),(112,aU)]) aj 4 147 f147 Ik x F y:=fun x F y=>by kernel_rfl
theorem KB:Ik.ok prog 147:=Ctr.of_den (an (q32)) ax (hl:=aj) (d:=4) func147 rfl (by decide) (QL lpK jnK)
def lX (lp:Lp) (_:Jn) (bC:EO) (x0:List Int) (x1:Int):Option Int :=
 af (bC x1) fun (t:Int)=>lp (Int×Int×PUnit) Int (fun (again:Int×Int×PUnit->Option Int) (x:Int×Int×PUnit)=>bif decide (x.2.1<(↑x0.length : Int)) then bif inB x.2.1 x0.length then af (bC (x0.getD x.2.1.toNat 0)) fun (t:Int)=>again (IntKind.wrap .i64 (x.1 + IntKind.wrap .i64 t),IntKind.wrap .i64 (x.2.1+1),PUnit.unit) else none else some x.1) (IntKind.wrap .i64 (1+IntKind.wrap .i64 t), 0,PUnit.unit)
def dn (x0:List Int) (x1:Int):Option Int:=lX lpK jnK bC x0 x1
abbrev Nl:=(List Int)->(Int)->Option (Int)
def Fu:Ctr:=⟨[(.sl i64),i64],[],[],.one i64,fun x _ _=>dn x.1 x.2.1⟩
theorem Qa (lp:Lp) (jn:Jn) (bC:EO):∀(x:TsS Fu.as) (F:TsF Fu.fs) (y:TsS Fu.cs),lX lp jn bC x.1 x.2.1=bf lp jn (cx [(147,LM bC)] [(32,r32),(92,r92),(112,aU)]) aj 4 146 f146 Fu x F y:=fun x F y=>by kernel_rfl
theorem MB:Fu.ok prog 146:=Ctr.of_den (an (aa (q32) (by kernel_rfl) KB)) ax (hl:=aj) (d:=4) func146 rfl (by decide) (Qa lpK jnK bC)
def lz (lp:Lp) (jn:Jn) (x0:List Int):Option Int :=
 jn PUnit Int (fun (_:PUnit)=>bif inB 0 x0.length then lp (Int×Int×PUnit) Int (fun (again:Int×Int×PUnit->Option Int) (x:Int×Int×PUnit)=>bif decide (x.2.1<(↑x0.length:Int)) then bif inB x.2.1 x0.length then again (if x0.getD x.2.1.toNat 0>x.1 then x0.getD x.2.1.toNat 0 else x.1,IntKind.wrap .i64 (x.2.1+1),PUnit.unit) else none else some x.1) (x0.getD 0 0,1,PUnit.unit) else none) fun (j:PUnit->Option Int)=>bif decide ((↑x0.length:Int)<1) then none else j PUnit.unit
def dS (x0:List Int):Option Int:=lz lpK jnK x0
abbrev MW:=(List Int)->Option (Int)
def EP:Ctr:=⟨[(.sl i64)],[],[],.one i64,fun x _ _=>dS x.1⟩
theorem Qe (lp:Lp) (jn:Jn):∀(x:TsS EP.as) (F:TsF EP.fs) (y:TsS EP.cs),lz lp jn x.1=bf lp jn (cx [] [(32,r32),(92,r92),(112,aU)]) aj 4 148 f148 EP x F y:=fun x F y=>by kernel_rfl
theorem ND:EP.ok prog 148:=Ctr.of_den (an (q32)) ax (hl:=aj) (d:=4) func148 rfl (by decide) (Qe lpK jnK)
def ot (lp:Lp) (_:Jn) (dn:Nl) (dS:MW) (x0:(List Int)×List ((List Int)×Int×Int)):Option Bool :=
 af (dn x0.1 0) fun (t:Int)=>lp (List Int×Int×PUnit) Bool (fun (again:List Int×Int×PUnit->Option Bool) (x:List Int×Int×PUnit) =>
 let v6:List Int×Int×Int:=x0.2.getD x.2.1.toNat ([],0,0);bif decide (x.2.1<(↑x0.2.length:Int)) then bif inB x.2.1 x0.2.length then af (dn v6.1 v6.2.2) fun (t:Int)=>bif dK (List.length x.1+1) 8 then again (x.1++[t],IntKind.wrap .i64 (x.2.1+1),PUnit.unit) else none else none else lp (Int×Int×PUnit) Bool (fun (again:Int×Int×PUnit->Option Bool) (x_1:Int×Int×PUnit) =>
 let v9:Int:=x.1.getD x_1.2.1.toNat 0;bif decide (x_1.2.1<(↑x.1.length:Int)) then bif inB x_1.2.1 x.1.length then bif Nat.ble (Nat.succ x_1.2.1.toNat) x.1.length then bif nzB v9 then bif decide (x_1.1>IntKind.wrap .i64 (Int.tdiv 17592186044416 v9)) then some false else again (IntKind.wrap .i64 (x_1.1*v9),IntKind.wrap .i64 (x_1.2.1+1),PUnit.unit) else none else none else none else af (dS x.1) fun (t : Int)=>bif nzB t then some (decide (x_1.1<=IntKind.wrap .i64 (Int.tdiv 144115188075855872 t))) else none) (1,0,PUnit.unit)) ([t],0, PUnit.unit)
def bN (x0:(List Int)×List ((List Int)×Int×Int)):Option Bool:=ot lpK jnK dn dS x0
abbrev HC:=((List Int)×List ((List Int)×Int×Int))->Option (Bool)
def Lf (bN:HC):Ctr:=⟨[T82],[],[],.one .bool,fun x _ _=>bN x.1⟩
def Ic:Ctr:=Lf bN
theorem Qm (lp:Lp) (jn:Jn) (dn:Nl) (dS:MW):∀(x:TsS Ic.as) (F:TsF Ic.fs) (y:TsS Ic.cs),ot lp jn dn dS x.1=bf lp jn (cx [(148,⟨[(.sl i64)],[],[],.one i64,fun x _ _=>dS x.1⟩),(146,⟨[(.sl i64),i64],[],[],.one i64,fun x _ _=>dn x.1 x.2.1⟩)] [(32,r32),(92,r92),(112,aU)]) aj 4 100 f100 Ic x F y:=fun x F y=>by kernel_rfl
theorem KJ:Ic.ok prog 100:=Ctr.of_den (an (aa (aa (q32) (by kernel_rfl) MB) (by kernel_rfl) ND)) ax (hl:=aj) (d:=4) func100 rfl (by decide) (Qm lpK jnK dn dS)
def fN (lp:Lp) (_:Jn) (x0:(List (List Int))×Int×(List Int)×(List Int)×(List Int)×Int×Int) (x1:Int):Option Int :=
 lp (Int×Int×PUnit) Int (fun (again:Int×Int×PUnit->Option Int) (x:Int×Int×PUnit) =>
 let v6:Int×PUnit:=(IntKind.wrap .i64 (x.2.1+1),PUnit.unit);
 let v7:List Int:=x0.1.getD x.2.1.toNat [];bif decide (x.2.1<(↑x0.1.length:Int)) then bif inB x.2.1 x0.1.length then bif inB x.2.1 x0.2.2.1.length then bif decide (x0.2.2.1.getD x.2.1.toNat 0>=x0.2.2.2.2.2.1) then bif inB x1 v7.length then again (IntKind.wrap .i64 (x.1+v7.getD x1.toNat 0),v6) else none else again (x.1,v6) else none else none else some x.1) (0,0,PUnit.unit)
def ao (x0:(List (List Int))×Int×(List Int)×(List Int)×(List Int)×Int×Int) (x1:Int):Option Int:=fN lpK jnK x0 x1
abbrev Gj:=((List (List Int))×Int×(List Int)×(List Int)×(List Int)×Int×Int)->(Int)->Option (Int)
def K3 (ao:Gj):PCtr:=⟨Dr,[i64],.one i64,fun x y=>ao x y.1⟩
def IK:PCtr:=K3 ao
theorem PV (lp:Lp) (jn:Jn):∀(x:IK.s.T) (y:TsS IK.as),fN lp jn x y.1=BU lp jn (cx [] [(32,r32),(92,r92),(112,aU)]) aj 4 106 f106 IK x y:=fun x y=>by kernel_rfl
theorem KH:IK.ok prog 106:=PCtr.of_den (an (q32)) ax (hl:=aj) (d:=4) func106 rfl (by decide) (PV lpK jnK)
def nn (_:Lp) (_:Jn) (bD:BN) (bC:EO) (x0:Int) (x1:Int):Option (Bool×Int×Int) :=
 
 let v4:Bool:=!decide (decide (x0<0)=decide (x1<0));
 let v5:Bool:=!v4;
 let v6:Bool:=v5||v4;af (bC x0) fun (t:Int)=>af (bC x1) fun (t_1:Int)=>af (bD t t_1) fun (t:Int×Int×PUnit) =>
 let v10:Bool:=!decide (t.1=0);
 let v11:Bool:=v4&&!v10;bif v6 then bif v6 then bif !v11||v11 then bif (v5||v6)&&(v5||(v10||(v5||v11))) then bif v6 then some (bif v4 then bif v10 then true else !decide (t.2.1=0) else false,t.1,t.2.1) else none else none else none else none else none
def bm (x0:Int) (x1:Int):Option (Bool×Int×Int):=nn lpK jnK bD bC x0 x1
abbrev HF:=(Int)->(Int)->Option (Bool×Int×Int)
def Lz (bm:HF):Ctr:=⟨[i64,i64],[],[],.one ra,fun x _ _=>bm x.1 x.2.1⟩
def Eo:Ctr:=Lz bm
theorem O3 (lp:Lp) (jn:Jn) (bD:BN) (bC:EO):∀(x:TsS Eo.as) (F:TsF Eo.fs) (y:TsS Eo.cs),nn lp jn bD bC x.1 x.2.1=bf lp jn (cx [(147,LM bC),(107,JI bD)] [(32,r32),(92,r92),(112,aU)]) aj 4 176 f176 Eo x F y:=fun x F y=>by kernel_rfl
theorem KD:Eo.ok prog 176:=Ctr.of_den (an (aa (aa (q32) (by kernel_rfl) H3) (by kernel_rfl) KB)) ax (hl:=aj) (d:=4) func176 rfl (by decide) (O3 lpK jnK bD bC)
def gm (_:Lp) (_:Jn) (x0:Bool×Int×Int) (x1:Bool×Int×Int):Option Int :=
 
 let v4:Bool:=decide (x0.2.1=x1.2.1);
 let v5:Bool:=!v4;
 let v6:Bool:=v5||v4;
 let v7:Bool:=!v5||v5;
 let v8:Bool:=bif v5 then decide (x0.2.1<x1.2.1) else false;
 let v9:Bool:=!v8;
 let v10:Bool:=!v9;
 let v11:Bool:=v9&&v4;
 let v12:Bool:=v10||v9;
 let v13:Bool:=!v11||v11;bif v7 then bif v7 then bif v7&&v7 then bif v7 then bif v12 then bif v12 then bif v12&&v12 then bif v12 then bif v13 then bif v13 then bif v13&&v13 then bif (v10||v12)&&(v10||(v5||(v10||v11))) then bif v8||v9 then bif bif v8 then true else bif v4 then decide (x0.2.2<x1.2.2) else false then some (-1) else bif v6 then bif v6 then bif v6&&v6 then bif v6 then bif bif v4 then decide (x0.2.2=x1.2.2) else false then some 0 else some 1 else none else none else none else none else none else none else none else none else none else none else none else none else none else none else none else none else none
def ap (x0:Bool×Int×Int) (x1:Bool×Int×Int):Option Int:=gm lpK jnK x0 x1
abbrev HI:=(Bool×Int×Int)->(Bool×Int×Int)->Option (Int)
def KY (ap:HI):Ctr:=⟨[ra,ra],[],[],.one i64,fun x _ _=>ap x.1 x.2.1⟩
def G6:Ctr:=KY ap
theorem Pf (lp:Lp) (jn:Jn):∀(x:TsS G6.as) (F:TsF G6.fs) (y:TsS G6.cs),gm lp jn x.1 x.2.1=bf lp jn (cx [] [(32,r32),(92,r92),(112,aU)]) aj 4 192 f192 G6 x F y:=fun x F y=>by kernel_rfl
theorem Kt:G6.ok prog 192:=Ctr.of_den (an (q32)) ax (hl:=aj) (d:=4) func192 rfl (by decide) (Pf lpK jnK)
def gJ (_:Lp) (jn:Jn) (ap:HI) (x0:Bool×Int×Int) (x1:Bool×Int×Int):Option (Bool×Int×Int) :=
 
 let v4:Bool:=!x0.1;
 let v5:Bool:=!x1.1;
 let v6:Bool:=!v4;
 let v7:Bool:=v4&&v5;
 let v8:Bool:=v6||v4;
 let v9:Bool:=!v7;
 let v10:Bool:=v9||v7;
 let v11:Bool:=!decide (x1.2.1=0);
 let v12:Bool:=v7&&!v11;
 let v13:Bool:=decide ((0:Int)<=0)&&decide ((0:Int)<=1);
 let v14:Bool:=!v12||v12;bif !decide (x0.1=x1.1) then bif v13 then bif decide (0<=xM x0.2.2 x1.2.2 0)&&decide (xM x0.2.2 x1.2.2 (0 : Int)<=1) then bif v8 then bif v8 then bif v8 then bif v10 then bif v10 then bif v10 then bif v14 then bif v14 then bif (v9||v10)&&(v9||(v11||(v9||v12))) then bif (v6 || v8)&&(v6||(!v5||(v6||v7))) then bif x0.1||v4 then some (bif x0.1 then true else bif v5 then bif v11 then true else !decide (x1.2.2=0) else false,BV x0.2.1 x1.2.1 (xM x0.2.2 x1.2.2 0),BV x0.2.2 x1.2.2 0) else none else none else none else none else none else none else none else none else none else none else none else none else none else af (ap x0 x1) fun (t:Int)=>jn (Bool×(Bool×Int×Int)×(Bool×Int×Int)×PUnit) (Bool×Int×Int) (fun (x:Bool×(Bool×Int×Int)×(Bool×Int×Int)×PUnit) =>
 let v17:Bool:=!x.1;
 let v18:Bool:=v17||x.1;
 let v19:Bool:=!decide (vC x.2.1.2.1 x.2.2.1.2.1 (uU x.2.1.2.2 x.2.2.1.2.2 0)=0);
 let v20:Bool:=x.1&&!v19;bif v13 then bif decide (0<=uU x.2.1.2.2 x.2.2.1.2.2 0)&&decide (uU x.2.1.2.2 x.2.2.1.2.2 (0 : Int)<=1) then bif v18 then bif v18 then bif !v20||v20 then bif (v17||v18)&&(v17||(v19||(v17||v20))) then bif v18 then some (bif x.1 then bif v19 then true else !decide (vC x.2.1.2.2 x.2.2.1.2.2 0=0) else false,vC x.2.1.2.1 x.2.2.1.2.1 (uU x.2.1.2.2 x.2.2.1.2.2 (0 : Int)),vC x.2.1.2.2 x.2.2.1.2.2 0) else none else none else none else none else none else none else none) fun (j:Bool×(Bool×Int×Int)×(Bool×Int × Int)×PUnit->Option (Bool×Int×Int))=>bif decide (t<0) then j (v4,x1,x0,PUnit.unit) else j (x0.1,x0,x1,PUnit.unit)
def bw (x0:Bool×Int×Int) (x1:Bool×Int×Int):Option (Bool×Int×Int):=gJ lpK jnK ap x0 x1
abbrev K8:=(Bool×Int×Int)->(Bool×Int×Int)->Option (Bool×Int×Int)
def NR (bw:K8):Ctr:=⟨[ra,ra],[],[],.one ra,fun x _ _=>bw x.1 x.2.1⟩
def GT:Ctr:=NR bw
theorem Qq (lp:Lp) (jn:Jn) (ap:HI):∀(x:TsS GT.as) (F:TsF GT.fs) (y:TsS GT.cs),gJ lp jn ap x.1 x.2.1=bf lp jn (cx [(192,KY ap)] [(32,r32),(92,r92),(112,aU)]) aj 4 177 f177 GT x F y:=fun x F y=>by kernel_rfl
theorem Ob:GT.ok prog 177:=Ctr.of_den (an (aa (q32) (by kernel_rfl) Kt)) ax (hl:=aj) (d:=4) func177 rfl (by decide) (Qq lpK jnK ap)
def qG (_:Lp) (jn:Jn) (x0:Int):Option Int :=
 jn (Int×Int×PUnit) Int (fun (x:Int×Int×PUnit)=>jn (Int×Int×PUnit) Int (fun (x:Int×Int×PUnit) =>
 let v5:Int:=IntKind.wrap IntKind.u8 x.1;
 let v6:Int:=IntKind.wrap IntKind.u8 (Int.fdiv x.1 (2 ^ 8));bif decide (x.1>=256) then bif decide ((0:Int)<=8) then bif inB v6 256 then some (IntKind.wrap .i64 (IntKind.wrap .i64 (x.2.1+8)+IntKind.wrap .i64 (kr { data:=List.toArray (List.append (List.append [(0:UInt8),(1 : UInt8),(2:UInt8),(2:UInt8),(3:UInt8),(3:UInt8),(3:UInt8),(3:UInt8),(4:UInt8),(4:UInt8),(4:UInt8),(4:UInt8),(4:UInt8),(4:UInt8),(4:UInt8),(4 : UInt8),(5:UInt8),(5:UInt8),(5:UInt8),(5:UInt8),(5:UInt8),(5:UInt8),(5:UInt8),(5:UInt8),(5:UInt8),(5:UInt8),(5:UInt8),(5:UInt8),(5:UInt8),(5 : UInt8),(5:UInt8),(5:UInt8),(6:UInt8),(6:UInt8),(6:UInt8),(6:UInt8),(6:UInt8),(6:UInt8),(6:UInt8),(6:UInt8),(6:UInt8),(6:UInt8),(6:UInt8),(6 : UInt8),(6:UInt8),(6:UInt8),(6:UInt8),(6:UInt8),(6:UInt8),(6:UInt8),(6:UInt8),(6:UInt8),(6:UInt8),(6:UInt8),(6:UInt8),(6:UInt8),(6:UInt8),(6 : UInt8),(6:UInt8),(6:UInt8),(6:UInt8),(6:UInt8),(6:UInt8),(6:UInt8)] [(7:UInt8),(7:UInt8),(7:UInt8),(7:UInt8),(7:UInt8),(7:UInt8),(7:UInt8),(7 : UInt8),(7:UInt8),(7:UInt8),(7:UInt8),(7:UInt8),(7:UInt8),(7:UInt8),(7:UInt8),(7:UInt8),(7:UInt8),(7:UInt8),(7:UInt8),(7:UInt8),(7:UInt8),(7 : UInt8),(7:UInt8),(7:UInt8),(7:UInt8),(7:UInt8),(7:UInt8),(7:UInt8),(7:UInt8),(7:UInt8),(7:UInt8),(7:UInt8),(7:UInt8),(7:UInt8),(7:UInt8),(7 : UInt8),(7:UInt8),(7:UInt8),(7:UInt8),(7:UInt8),(7:UInt8),(7:UInt8),(7:UInt8),(7:UInt8),(7:UInt8),(7:UInt8),(7:UInt8),(7:UInt8),(7:UInt8),(7 : UInt8),(7:UInt8),(7:UInt8),(7:UInt8),(7:UInt8),(7:UInt8),(7:UInt8),(7:UInt8),(7:UInt8),(7:UInt8),(7:UInt8),(7:UInt8),(7:UInt8),(7:UInt8),(7 : UInt8)]) (List.append [(8:UInt8),(8:UInt8),(8:UInt8),(8:UInt8),(8:UInt8),(8:UInt8),(8:UInt8),(8:UInt8),(8:UInt8),(8:UInt8),(8:UInt8),(8:UInt8),(8 : UInt8),(8:UInt8),(8:UInt8),(8:UInt8),(8:UInt8),(8:UInt8),(8:UInt8),(8:UInt8),(8:UInt8),(8:UInt8),(8:UInt8),(8:UInt8),(8:UInt8),(8:UInt8),(8 : UInt8),(8:UInt8),(8:UInt8),(8:UInt8),(8:UInt8),(8:UInt8),(8:UInt8),(8:UInt8),(8:UInt8),(8:UInt8),(8:UInt8),(8:UInt8),(8:UInt8),(8:UInt8),(8 : UInt8),(8:UInt8),(8:UInt8),(8:UInt8),(8:UInt8),(8:UInt8),(8:UInt8),(8:UInt8),(8:UInt8),(8:UInt8),(8:UInt8),(8:UInt8),(8:UInt8),(8:UInt8),(8 : UInt8),(8:UInt8),(8:UInt8),(8:UInt8),(8:UInt8),(8:UInt8),(8:UInt8),(8:UInt8),(8:UInt8),(8:UInt8)] [(8:UInt8),(8:UInt8),(8:UInt8),(8:UInt8),(8 : UInt8),(8:UInt8),(8:UInt8),(8:UInt8),(8:UInt8),(8:UInt8),(8:UInt8),(8:UInt8),(8:UInt8),(8:UInt8),(8:UInt8),(8:UInt8),(8:UInt8),(8:UInt8),(8 : UInt8),(8:UInt8),(8:UInt8),(8:UInt8),(8:UInt8),(8:UInt8),(8:UInt8),(8:UInt8),(8:UInt8),(8:UInt8),(8:UInt8),(8:UInt8),(8:UInt8),(8:UInt8),(8 : UInt8),(8:UInt8),(8:UInt8),(8:UInt8),(8:UInt8),(8:UInt8),(8:UInt8),(8:UInt8),(8:UInt8),(8:UInt8),(8:UInt8),(8:UInt8),(8:UInt8),(8:UInt8),(8 : UInt8),(8:UInt8),(8:UInt8),(8:UInt8),(8:UInt8),(8:UInt8),(8:UInt8),(8:UInt8),(8:UInt8),(8:UInt8),(8:UInt8),(8:UInt8),(8:UInt8),(8:UInt8),(8 : UInt8),(8:UInt8),(8:UInt8),(8:UInt8)])) } v6.toNat))) else none else none else bif inB v5 256 then some (IntKind.wrap .i64 (x.2.1+IntKind.wrap IntKind.i64 (kr { data:=List.toArray (List.append (List.append [(0:UInt8),(1:UInt8),(2:UInt8),(2:UInt8),(3:UInt8),(3:UInt8),(3:UInt8),(3:UInt8),(4 : UInt8),(4:UInt8),(4:UInt8),(4:UInt8),(4:UInt8),(4:UInt8),(4:UInt8),(4:UInt8),(5:UInt8),(5:UInt8),(5:UInt8),(5:UInt8),(5:UInt8),(5:UInt8),(5 : UInt8),(5:UInt8),(5:UInt8),(5:UInt8),(5:UInt8),(5:UInt8),(5:UInt8),(5:UInt8),(5:UInt8),(5:UInt8),(6:UInt8),(6:UInt8),(6:UInt8),(6:UInt8),(6 : UInt8),(6:UInt8),(6:UInt8),(6:UInt8),(6:UInt8),(6:UInt8),(6:UInt8),(6:UInt8),(6:UInt8),(6:UInt8),(6:UInt8),(6:UInt8),(6:UInt8),(6:UInt8),(6 : UInt8),(6:UInt8),(6:UInt8),(6:UInt8),(6:UInt8),(6:UInt8),(6:UInt8),(6:UInt8),(6:UInt8),(6:UInt8),(6:UInt8),(6:UInt8),(6:UInt8),(6:UInt8)] [(7 : UInt8),(7:UInt8),(7:UInt8),(7:UInt8),(7:UInt8),(7:UInt8),(7:UInt8),(7:UInt8),(7:UInt8),(7:UInt8),(7:UInt8),(7:UInt8),(7:UInt8),(7:UInt8),(7 : UInt8),(7:UInt8),(7:UInt8),(7:UInt8),(7:UInt8),(7:UInt8),(7:UInt8),(7:UInt8),(7:UInt8),(7:UInt8),(7:UInt8),(7:UInt8),(7:UInt8),(7:UInt8),(7 : UInt8),(7:UInt8),(7:UInt8),(7:UInt8),(7:UInt8),(7:UInt8),(7:UInt8),(7:UInt8),(7:UInt8),(7:UInt8),(7:UInt8),(7:UInt8),(7:UInt8),(7:UInt8),(7 : UInt8),(7:UInt8),(7:UInt8),(7:UInt8),(7:UInt8),(7:UInt8),(7:UInt8),(7:UInt8),(7:UInt8),(7:UInt8),(7:UInt8),(7:UInt8),(7:UInt8),(7:UInt8),(7 : UInt8),(7:UInt8),(7:UInt8),(7:UInt8),(7:UInt8),(7:UInt8),(7:UInt8),(7:UInt8)]) (List.append [(8:UInt8),(8:UInt8),(8:UInt8),(8:UInt8),(8:UInt8),(8 : UInt8),(8:UInt8),(8:UInt8),(8:UInt8),(8:UInt8),(8:UInt8),(8:UInt8),(8:UInt8),(8:UInt8),(8:UInt8),(8:UInt8),(8:UInt8),(8:UInt8),(8:UInt8),(8 : UInt8),(8:UInt8),(8:UInt8),(8:UInt8),(8:UInt8),(8:UInt8),(8:UInt8),(8:UInt8),(8:UInt8),(8:UInt8),(8:UInt8),(8:UInt8),(8:UInt8),(8:UInt8),(8 : UInt8),(8:UInt8),(8:UInt8),(8:UInt8),(8:UInt8),(8:UInt8),(8:UInt8),(8:UInt8),(8:UInt8),(8:UInt8),(8:UInt8),(8:UInt8),(8:UInt8),(8:UInt8),(8 : UInt8),(8:UInt8),(8:UInt8),(8:UInt8),(8:UInt8),(8:UInt8),(8:UInt8),(8:UInt8),(8:UInt8),(8:UInt8),(8:UInt8),(8:UInt8),(8:UInt8),(8:UInt8),(8 : UInt8),(8:UInt8),(8:UInt8)] [(8:UInt8),(8:UInt8),(8:UInt8),(8:UInt8),(8:UInt8),(8:UInt8),(8:UInt8),(8:UInt8),(8:UInt8),(8:UInt8),(8:UInt8),(8 : UInt8),(8:UInt8),(8:UInt8),(8:UInt8),(8:UInt8),(8:UInt8),(8:UInt8),(8:UInt8),(8:UInt8),(8:UInt8),(8:UInt8),(8:UInt8),(8:UInt8),(8:UInt8),(8 : UInt8),(8:UInt8),(8:UInt8),(8:UInt8),(8:UInt8),(8:UInt8),(8:UInt8),(8:UInt8),(8:UInt8),(8:UInt8),(8:UInt8),(8:UInt8),(8:UInt8),(8:UInt8),(8 : UInt8),(8:UInt8),(8:UInt8),(8:UInt8),(8:UInt8),(8:UInt8),(8:UInt8),(8:UInt8),(8:UInt8),(8:UInt8),(8:UInt8),(8:UInt8),(8:UInt8),(8:UInt8),(8 : UInt8),(8:UInt8),(8:UInt8),(8:UInt8),(8:UInt8),(8:UInt8),(8:UInt8),(8:UInt8),(8:UInt8),(8:UInt8),(8:UInt8)])) } v5.toNat))) else none) fun (j:Int × Int×PUnit->Option Int)=>bif decide (x.1>=65536) then bif decide ((0:Int)<=16) then j (Int.fdiv x.1 (2 ^ 16),IntKind.wrap .i64 (x.2.1+16),PUnit.unit) else none else j (x.1,x.2.1,PUnit.unit)) fun (j:Int×Int×PUnit->Option Int)=>bif decide (x0>=4294967296) then bif decide (0<=32) then j (Int.fdiv x0 (2 ^ 32),32,PUnit.unit) else none else j (x0,0,PUnit.unit)
def fX (x0:Int):Option Int:=qG lpK jnK x0
abbrev OQ:=(Int)->Option (Int)
def Gs:Ctr:=⟨[(.int .u64)],[],[],.one i64,fun x _ _=>fX x.1⟩
theorem Qn (lp:Lp) (jn:Jn):∀(x:TsS Gs.as) (F:TsF Gs.fs) (y:TsS Gs.cs),qG lp jn x.1=bf lp jn (cx [] [(32,r32),(92,r92),(112,aU)]) aj 4 194 f194 Gs x F y:=fun x F y=>by kernel_rfl
theorem N3:Gs.ok prog 194:=Ctr.of_den (an (q32)) ax (hl:=aj) (d:=4) func194 rfl (by decide) (Qn lpK jnK)
def im (_:Lp) (_:Jn) (fX:OQ) (x0:Int):Option Int :=
 af (fX x0) fun (t:Int)=>some (IntKind.wrap .i64 (64 - t))
def cq (x0:Int):Option Int:=im lpK jnK fX x0
abbrev Nh:=(Int)->Option (Int)
def G9:Ctr:=⟨[(.int .u64)],[],[],.one i64,fun x _ _=>cq x.1⟩
theorem QI (lp:Lp) (jn:Jn) (fX:OQ):∀(x:TsS G9.as) (F:TsF G9.fs) (y:TsS G9.cs),im lp jn fX x.1=bf lp jn (cx [(194,⟨[(.int .u64)],[],[],.one i64,fun x _ _=>fX x.1⟩)] [(32,r32),(92,r92),(112,aU)]) aj 4 193 f193 G9 x F y:=fun x F y=>by kernel_rfl
theorem Nr:G9.ok prog 193:=Ctr.of_den (an (aa (q32) (by kernel_rfl) N3)) ax (hl:=aj) (d:=4) func193 rfl (by decide) (QI lpK jnK fX)
def qX (lp:Lp) (jn:Jn) (cq:Nh) (x0:Int) (x1:Int) (x2:Int):Option (Int×Int×Unit) :=
 
 let v5:Bool:=nzB x2;
 let v6:Int:=2 ^ 32;
 let v7:Bool:=decide ((0:Int)<=32);jn PUnit (Int×Int×PUnit) (fun (_:PUnit)=>jn PUnit (Int×Int×PUnit) (fun (_:PUnit)=>bif decide (x0=0) then bif v5 then bif v5 then some (IntKind.wrap .u64 (Int.tdiv x1 x2),Int.tmod x1 x2,PUnit.unit) else none else none else af (cq x2) fun (t:Int) =>
 let v11:Int:=IntKind.wrap .u64 t;
 let v12:Bool:=decide (0<=v11);
 let v13:Int:=2 ^ min v11.toNat 64;
 let v14:Int:=IntKind.wrap .u64 (x2*v13);
 let v15:Int:=IntKind.wrap .u64 (x1*v13);
 let v16:Int:=Int.fdiv v14 v6;
 let v17:Int:=Int.fdiv v15 v6;
 let v18:Bool:=nzB v16;
 let v19:Int:=IntKind.wrap .u64 (↑(Nat.land (Int.toNat (v15 % Int.ofNat 18446744073709551616)) (Int.toNat (4294967295 % Int.ofNat 18446744073709551616))) : Int);
 let v20:Int:=IntKind.wrap .u64 (↑(Nat.land (Int.toNat (v14 % Int.ofNat 18446744073709551616)) (Int.toNat (4294967295 % Int.ofNat 18446744073709551616))) : Int);
 let v21:Int:=IntKind.wrap .u64 (↑(Nat.lor (Int.toNat (IntKind.wrap .u64 (x0*v13) % Int.ofNat 18446744073709551616)) (Int.toNat (Int.fdiv x1 (2 ^ min (Int.toNat (IntKind.wrap .u64 (64 - v11))) 64) % Int.ofNat 18446744073709551616))):Int);
 let v22:Int:=IntKind.wrap .u64 (Int.tdiv v21 v16);bif v12 then bif v7 then bif v12 then bif decide (0<=IntKind.wrap .u64 (64 - v11)) then bif v12 then bif v7 then bif v18 then jn (Int×PUnit) (Int×Int×PUnit) (fun (x:Int×PUnit) =>
 let v24:Int:=IntKind.wrap .u64 (IntKind.wrap .u64 (IntKind.wrap .u64 (v21*4294967296)+v17) - IntKind.wrap .u64 (x.1*v14));
 let v25:Int:=IntKind.wrap .u64 (Int.tdiv v24 v16);bif v18 then jn (Int×PUnit) (Int×Int×PUnit) (fun (x_1:Int×PUnit)=>bif v12 then some (IntKind.wrap .u64 (IntKind.wrap .u64 (x.1*4294967296)+x_1.1),Int.fdiv (IntKind.wrap .u64 (IntKind.wrap .u64 (IntKind.wrap .u64 (v24*4294967296) + v19) - IntKind.wrap .u64 (x_1.1*v14))) v13,PUnit.unit) else none) fun (j:Int×PUnit->Option (Int×Int×PUnit))=>lp (Int×Int×PUnit) (Int×Int×PUnit) (fun (again:Int×Int×PUnit->Option (Int×Int×PUnit)) (x:Int×Int×PUnit) =>
 let v29:Int×PUnit:=(IntKind.wrap .u64 (x.2.1 - 1),PUnit.unit);
 let v30:Bool:=decide (x.2.1>=4294967296);
 let v31:Bool:=!v30;
 let v32:Bool:=!v31||v31;
 let v33:Bool:=v32&&v32;bif v33 then bif v32 then bif v33 then bif v33 then bif v30||v31 then bif bif v30 then true else decide (IntKind.wrap .u64 (x.2.1*v20) > IntKind.wrap .u64 (IntKind.wrap .u64 (4294967296*x.1)+v19)) then bif decide (IntKind.wrap .u64 (x.1+v16)>=4294967296) then j v29 else again (IntKind.wrap .u64 (x.1+v16),v29) else j (x.2.1,PUnit.unit) else none else none else none else none else none) (IntKind.wrap .u64 (v24 - IntKind.wrap IntKind.u64 (v25*v16)),v25,PUnit.unit) else none) fun (j:Int×PUnit->Option (Int×Int×PUnit))=>lp (Int×Int×PUnit) (Int×Int×PUnit) (fun (again:Int×Int×PUnit -> Option (Int×Int×PUnit)) (x:Int×Int×PUnit) =>
 let v26:Int:=IntKind.wrap .u64 (x.1 - 1);
 let v27:Bool:=decide (x.1>=4294967296);
 let v28:Bool:=!v27;
 let v29:Bool:=!v28||v28;
 let v30:Bool:=v29&&v29;bif v30 then bif v29 then bif v30 then bif v30 then bif v27||v28 then bif bif v27 then true else decide (IntKind.wrap .u64 (x.1*v20) > IntKind.wrap .u64 (IntKind.wrap .u64 (4294967296*x.2.1)+v17)) then bif decide (IntKind.wrap .u64 (x.2.1+v16)>=4294967296) then j (v26,PUnit.unit) else again (v26,IntKind.wrap .u64 (x.2.1+v16),PUnit.unit) else j (x.1,PUnit.unit) else none else none else none else none else none) (v22, IntKind.wrap .u64 (v21 - IntKind.wrap .u64 (v22*v16)),PUnit.unit) else none else none else none else none else none else none else none) fun (j:PUnit->Option (Int × Int×PUnit))=>bif decide (x2<=x0) then none else j PUnit.unit) fun (j:PUnit->Option (Int×Int×PUnit))=>bif decide (x2=0) then none else j PUnit.unit
def cC (x0:Int) (x1:Int) (x2:Int):Option (Int×Int×Unit):=qX lpK jnK cq x0 x1 x2
abbrev Ek:=(Int)->(Int)->(Int)->Option (Int×Int×Unit)
def LH (cC:Ek):Ctr:=⟨[(.int .u64),(.int .u64),(.int .u64)],[],[],.tup [(.int .u64),(.int .u64)],fun x _ _=>cC x.1 x.2.1 x.2.2.1⟩
def Gl:Ctr:=LH cC
theorem QQ (lp:Lp) (jn:Jn) (cq:Nh):∀(x:TsS Gl.as) (F:TsF Gl.fs) (y:TsS Gl.cs),qX lp jn cq x.1 x.2.1 x.2.2.1=bf lp jn (cx [(193,⟨[(.int .u64)],[],[],.one i64,fun x _ _=>cq x.1⟩)] [(32,r32),(92,r92),(112,aU)]) aj 4 185 f185 Gl x F y:=fun x F y=>by kernel_rfl
theorem KS:Gl.ok prog 185:=Ctr.of_den (an (aa (q32) (by kernel_rfl) Nr)) ax (hl:=aj) (d:=4) func185 rfl (by decide) (QQ lpK jnK cq)
def ig (_:Lp) (_:Jn) (cC:Ek) (x0:Bool×Int×Int) (x1:Int):Option Int :=
 af (cC x0.2.1 x0.2.2 (IntKind.wrap .u64 x1)) fun (t:Int×Int×PUnit) =>
 let v5:Int:=IntKind.wrap .i64 t.1;bif x0.1 then some (IntKind.wrap .i64 (0 - v5)) else some v5
def ce (x0:Bool×Int×Int) (x1:Int):Option Int:=ig lpK jnK cC x0 x1
abbrev NY:=(Bool×Int×Int)->(Int)->Option (Int)
def G2:Ctr:=⟨[ra,i64],[],[],.one i64,fun x _ _=>ce x.1 x.2.1⟩
theorem Qc (lp:Lp) (jn:Jn) (cC:Ek):∀(x:TsS G2.as) (F:TsF G2.fs) (y:TsS G2.cs),ig lp jn cC x.1 x.2.1=bf lp jn (cx [(185,LH cC)] [(32,r32),(92,r92),(112,aU)]) aj 4 178 f178 G2 x F y:=fun x F y=>by kernel_rfl
theorem Oe:G2.ok prog 178:=Ctr.of_den (an (aa (q32) (by kernel_rfl) KS)) ax (hl:=aj) (d:=4) func178 rfl (by decide) (Qc lpK jnK cC)
def io (lp:Lp) (_:Jn) (bm:HF) (bw:K8) (ce:NY) (x0:List Nat×List (Option (List Int))) (x1:Int) (x2:List Int) (x3:List Int) (x4:List Int) (x5:Int) (x6:Int) (x7:Int) (x8:Int):Option ((List Nat×List (Option (List Int)))×Int×(List Int)×(List Int)×(List Int)×Int×Int×Unit) :=
 
 let v11:List Int×List Int×List Int×Int×Int×PUnit:=(x2.set x7.toNat x8,x3,x4,x5,x6,PUnit.unit);bif inB x7 x0.1.length then bif Nat.ble (Nat.succ x7.toNat) x0.1.length then bif inB x8 (List.length (bA x0.2 (x0.1.getD x7.toNat 0))) then bif Nat.ble (Nat.succ x8.toNat) (List.length (bA x0.2 (x0.1.getD x7.toNat 0))) then lp (Int×(List Nat×List (Option (List Int)))×PUnit) ((List Nat×List (Option (List Int)))×Int×List Int×List Int×List Int×Int×Int×PUnit) (fun (again:Int×(List Nat×List (Option (List Int)))×PUnit->Option ((List Nat×List (Option (List Int)))×Int×List Int×List Int×List Int×Int×Int×PUnit)) (x:Int×(List Nat×List (Option (List Int)))×PUnit) =>
 let v14:Int:=IntKind.wrap .i64 (x.1+1);
 let v15:(List Nat×List (Option (List Int)))×PUnit:=(x.2.1,PUnit.unit);
 let v16:Int×(List Nat×List (Option (List Int)))×PUnit:=(0,v15);bif decide (x.1<(↑x0.1.length:Int)) then bif inB x.1 x.2.1.1.length then bif Nat.ble (Nat.succ x.1.toNat) x.2.1.1.length then bif decide (x.1=x7) then again (v14,v15) else bif inB x8 (List.length (bA x.2.1.2 (x.2.1.1.getD x.1.toNat 0))) then bif Nat.ble (Nat.succ x8.toNat) (List.length (bA x.2.1.2 (x.2.1.1.getD x.1.toNat 0))) then bif fJ x.2.1.2 (x.2.1.1.getD x.1.toNat 0) then lp (Int×(List Nat×List (Option (List Int)))×PUnit) ((List Nat×List (Option (List Int)))×Int × List Int×List Int×List Int×Int×Int×PUnit) (fun (again_1:Int×(List Nat×List (Option (List Int)))×PUnit->Option ((List Nat×List (Option (List Int)))×Int×List Int × List Int×List Int×Int×Int×PUnit)) (x_1:Int×(List Nat×List (Option (List Int)))×PUnit)=>bif decide (x_1.1<(↑(List.length (bA x.2.1.2 (x.2.1.1.getD x.1.toNat 0))):Int)) then bif inB x_1.1 (List.length (bA x_1.2.1.2 (x.2.1.1.getD x.1.toNat 0))) then bif Nat.ble (Nat.succ x_1.1.toNat) (List.length (bA x_1.2.1.2 (x.2.1.1.getD x.1.toNat 0))) then af (bm (List.getD (bA x_1.2.1.2 (x.2.1.1.getD x.1.toNat 0)) x_1.1.toNat 0) (List.getD (bA x0.2 (x0.1.getD x7.toNat 0)) x8.toNat 0)) fun (t:Bool×Int×Int)=>bif inB x7 x_1.2.1.1.length then bif Nat.ble (Nat.succ x7.toNat) x_1.2.1.1.length then bif inB x_1.1 (List.length (bA x_1.2.1.2 (x_1.2.1.1.getD x7.toNat 0))) then bif Nat.ble (Nat.succ x_1.1.toNat) (List.length (bA x_1.2.1.2 (x_1.2.1.1.getD x7.toNat 0))) then af (bm (List.getD (bA x.2.1.2 (x.2.1.1.getD x.1.toNat 0)) x8.toNat 0) (List.getD (bA x_1.2.1.2 (x_1.2.1.1.getD x7.toNat 0)) x_1.1.toNat 0)) fun (t_1:Bool×Int×Int)=>af (bw t t_1) fun (t:Bool × Int×Int)=>af (ce t x1) fun (t:Int)=>bif inB x_1.1 (List.length (bA x_1.2.1.2 (x.2.1.1.getD x.1.toNat 0))) then bif Nat.ble (Nat.succ x_1.1.toNat) (List.length (bA x_1.2.1.2 (x.2.1.1.getD x.1.toNat 0))) then again_1 (IntKind.wrap .i64 (x_1.1+(1 : Int)),(x_1.2.1.1,x_1.2.1.2.set (x.2.1.1.getD x.1.toNat 0) (some (List.set (bA x_1.2.1.2 (x.2.1.1.getD x.1.toNat 0)) x_1.1.toNat t))),PUnit.unit) else none else none else none else none else none else none else none else none else again (v14,x_1.2.1,PUnit.unit)) v16 else none else none else none else none else none else bif inB x7 x2.length then bif Nat.ble (Nat.succ x7.toNat) x2.length then bif decide (List.getD (bA x0.2 (x0.1.getD x7.toNat 0)) x8.toNat 0<0) then lp (Int×(List Nat×List (Option (List Int)))×PUnit) ((List Nat×List (Option (List Int))) × Int×List Int×List Int×List Int×Int×Int×PUnit) (fun (again:Int×(List Nat×List (Option (List Int)))×PUnit->Option ((List Nat×List (Option (List Int)))×Int×List Int×List Int×List Int×Int×Int×PUnit)) (x_1:Int×(List Nat×List (Option (List Int)))×PUnit)=>bif decide (x_1.1<(↑x.2.1.1.length:Int)) then bif inB x_1.1 x_1.2.1.1.length then bif Nat.ble (Nat.succ x_1.1.toNat) x_1.2.1.1.length then bif fJ x_1.2.1.2 (x_1.2.1.1.getD x_1.1.toNat 0) then lp (Int×(List Nat×List (Option (List Int)))×PUnit) ((List Nat×List (Option (List Int)))×Int×List Int×List Int×List Int×Int×Int×PUnit) (fun (again_1:Int×(List Nat×List (Option (List Int)))×PUnit->Option ((List Nat×List (Option (List Int)))×Int×List Int×List Int×List Int×Int×Int×PUnit)) (x:Int × (List Nat×List (Option (List Int)))×PUnit)=>bif decide (x.1<(↑(List.length (bA x_1.2.1.2 (x_1.2.1.1.getD x_1.1.toNat 0))):Int)) then bif inB x.1 (List.length (bA x.2.1.2 (x_1.2.1.1.getD x_1.1.toNat 0))) then bif Nat.ble (Nat.succ x.1.toNat) (List.length (bA x.2.1.2 (x_1.2.1.1.getD x_1.1.toNat 0))) then bif inB x.1 (List.length (bA x.2.1.2 (x_1.2.1.1.getD x_1.1.toNat 0))) then bif Nat.ble (Nat.succ x.1.toNat) (List.length (bA x.2.1.2 (x_1.2.1.1.getD x_1.1.toNat 0))) then again_1 (IntKind.wrap .i64 (x.1+(1 : Int)),(x.2.1.1,x.2.1.2.set (x_1.2.1.1.getD x_1.1.toNat 0) (some (List.set (bA x.2.1.2 (x_1.2.1.1.getD x_1.1.toNat 0)) x.1.toNat (IntKind.wrap .i64 (0 - List.getD (bA x.2.1.2 (x_1.2.1.1.getD x_1.1.toNat 0)) x.1.toNat 0))))),PUnit.unit) else none else none else none else none else again (IntKind.wrap .i64 (x_1.1+1),x.2.1,PUnit.unit)) (0,x_1.2.1, PUnit.unit) else none else none else none else some (x_1.2.1,IntKind.wrap .i64 (0 - List.getD (bA x0.2 (x0.1.getD x7.toNat 0)) x8.toNat 0),v11)) v16 else some (x.2.1,List.getD (bA x0.2 (x0.1.getD x7.toNat 0)) x8.toNat 0,v11) else none else none) (0,x0, PUnit.unit) else none else none else none else none
def aE (x0:List Nat×List (Option (List Int))) (x1:Int) (x2:List Int) (x3:List Int) (x4:List Int) (x5:Int) (x6:Int) (x7:Int) (x8:Int):Option ((List Nat×List (Option (List Int)))×Int×(List Int)×(List Int)×(List Int)×Int×Int×Unit):=io lpK jnK bm bw ce x0 x1 x2 x3 x4 x5 x6 x7 x8
abbrev Hh:=(List Nat×List (Option (List Int)))->(Int)->(List Int)->(List Int)->(List Int)->(Int)->(Int)->(Int)->(Int)->Option ((List Nat×List (Option (List Int)))×Int×(List Int)×(List Int)×(List Int)×Int×Int×Unit)
def LL (aE:Hh):SCtr:=⟨[.b [.x (.tab 79 .ref 3 i64),.d i64,.row 3 i64,.row 3 i64,.row 3 i64,.d i64,.d i64],.d i64,.d i64],[],fun x=>aE x.1 x.2.1 x.2.2.1 x.2.2.2.1 x.2.2.2.2.1 x.2.2.2.2.2.1 x.2.2.2.2.2.2.1 x.2.2.2.2.2.2.2.1 x.2.2.2.2.2.2.2.2.1⟩
def Mp:SCtr:=LL aE
theorem Pn (lp:Lp) (jn:Jn) (bm:HF) (bw:K8) (ce:NY):∀x:TsR (rhI 0 Mp.ks),io lp jn bm bw ce x.1 x.2.1 x.2.2.1 x.2.2.2.1 x.2.2.2.2.1 x.2.2.2.2.2.1 x.2.2.2.2.2.2.1 x.2.2.2.2.2.2.2.1 x.2.2.2.2.2.2.2.2.1=Fe lp jn (Dn.look []) (cx [(178,⟨[ra,i64],[],[],.one i64,fun x _ _=>ce x.1 x.2.1⟩),(177,NR bw),(176,Lz bm)] [(32,r32),(92,r92),(112,aU)]) aj 4 149 f149 Mp x:=fun x=>by kernel_rfl
theorem Kx:Mp.ok prog 149:=SCtr.of_den (an (aa (aa (aa (q32) (by kernel_rfl) KD) (by kernel_rfl) Ob) (by kernel_rfl) Oe)) ax (oa) (hl:=aj) (d:=4) func149 rfl (by decide) (Pn lpK jnK bm bw ce)
def iq (_:Lp) (_:Jn) (ap:HI) (x0:Bool×Int×Int) (x1:Bool×Int×Int):Option Int :=
 
 let v4:Bool:=!decide (x0.1=x1.1);
 let v5:Bool:=!v4||v4;bif v5 then bif v5 then bif bif v4 then x0.1 else false then some (-1) else bif v4 then some 1 else bif x0.1 then af (ap x1 x0) fun (t:Int)=>some t else af (ap x0 x1) fun (t:Int)=>some t else none else none
def cn (x0:Bool×Int×Int) (x1:Bool×Int×Int):Option Int:=iq lpK jnK ap x0 x1
abbrev Nm:=(Bool×Int×Int)->(Bool×Int×Int)->Option (Int)
def Em:Ctr:=⟨[ra,ra],[],[],.one i64,fun x _ _=>cn x.1 x.2.1⟩
theorem PY (lp:Lp) (jn:Jn) (ap:HI):∀(x:TsS Em.as) (F:TsF Em.fs) (y:TsS Em.cs),iq lp jn ap x.1 x.2.1=bf lp jn (cx [(192,KY ap)] [(32,r32),(92,r92),(112,aU)]) aj 4 179 f179 Em x F y:=fun x F y=>by kernel_rfl
theorem OO:Em.ok prog 179:=Ctr.of_den (an (aa (q32) (by kernel_rfl) Kt)) ax (hl:=aj) (d:=4) func179 rfl (by decide) (PY lpK jnK ap)
def gP (lp:Lp) (_:Jn) (bm:HF) (cn:Nm) (x0:(List (List Int))×Int×(List Int)×(List Int)×(List Int)×Int×Int) (x1:Int):Option Int :=
 lp (Int×Int×PUnit) Int (fun (again:Int×Int×PUnit->Option Int) (x:Int×Int×PUnit) =>
 let v6:Int×PUnit:=(IntKind.wrap .i64 (x.2.1+1),PUnit.unit);
 let v7:Bool:=inB x.1 x0.1.length;
 let v8:List Int:=x0.1.getD x.1.toNat [];
 let v9:List Int:=x0.1.getD x.2.1.toNat [];
 let v10:Bool:=inB x1 v9.length;bif decide (x.2.1<(↑x0.1.length:Int)) then bif inB x.2.1 x0.1.length then bif v10 then bif decide (v9.getD x1.toNat 0<=0) then again (x.1,v6) else bif decide (x.1<0) then again (x.2.1,v6) else bif inB x0.2.2.2.2.2.2 v9.length then bif v7 then bif inB x1 v8.length then af (bm (v9.getD x0.2.2.2.2.2.2.toNat 0) (v8.getD x1.toNat 0)) fun (t:Bool × Int×Int)=>bif v7 then bif inB x0.2.2.2.2.2.2 v8.length then bif v10 then af (bm (v8.getD x0.2.2.2.2.2.2.toNat 0) (v9.getD x1.toNat 0)) fun (t_1:Bool×Int×Int)=>af (cn t t_1) fun (t:Int) =>
 let v14:Bool:=decide (t=0);
 let v15:Bool:=decide (t<0);
 let v16:Bool:=!v15;
 let v17:Bool:=!v16;
 let v18:Bool:=v16&&v14;
 let v19:Bool:=!v18;
 let v20:Bool:=v17||v16;
 let v21:Bool:=v19||v18;bif v20 then bif v20 then bif v21 then bif v21 then bif v21 then bif v21&&(v21&&(v19||inB x.2.1 x0.2.2.1.length)) then bif v21 then bif v21 then bif v21 then bif v21 then bif v21&&(v21&&(v19||inB x.1 x0.2.2.1.length)) then bif v21 then bif v21&&v21 then bif (v17||v20)&&(v17||(!v14 || (v17||v18))) then bif v15||v16 then bif bif v15 then true else bif v14 then decide (x0.2.2.1.getD x.2.1.toNat 0<x0.2.2.1.getD x.1.toNat 0) else false then again (x.2.1,v6) else again (x.1,v6) else none else none else none else none else none else none else none else none else none else none else none else none else none else none else none else none else none else none else none else none else none else none else none else some x.1) ((-1),0,PUnit.unit)
def ay (x0:(List (List Int))×Int×(List Int)×(List Int)×(List Int)×Int×Int) (x1:Int):Option Int:=gP lpK jnK bm cn x0 x1
abbrev G5:=((List (List Int))×Int×(List Int)×(List Int)×(List Int)×Int×Int)->(Int)->Option (Int)
def Mn (ay:G5):PCtr:=⟨Dr,[i64],.one i64,fun x y=>ay x y.1⟩
def It:PCtr:=Mn ay
theorem Q0 (lp:Lp) (jn:Jn) (bm:HF) (cn:Nm):∀(x:It.s.T) (y:TsS It.as),gP lp jn bm cn x y.1=BU lp jn (cx [(179,⟨[ra,ra],[],[],.one i64,fun x _ _=>cn x.1 x.2.1⟩),(176,Lz bm)] [(32,r32),(92,r92),(112,aU)]) aj 4 150 f150 It x y:=fun x y=>by kernel_rfl
theorem Kz:It.ok prog 150:=PCtr.of_den (an (aa (aa (q32) (by kernel_rfl) KD) (by kernel_rfl) OO)) ax (hl:=aj) (d:=4) func150 rfl (by decide) (Q0 lpK jnK bm cn)
def ip (lp:Lp) (_:Jn) (aE:Hh) (ao:Gj) (ay:G5) (x0:List Nat×List (Option (List Int))) (x1:Int) (x2:List Int) (x3:List Int) (x4:List Int) (x5:Int) (x6:Int):Option ((List Nat×List (Option (List Int)))×Int×(List Int)×(List Int)×(List Int)×Int×Int×Bool×Unit) :=
 lp ((List Nat×List (Option (List Int)))×Int×List Int×List Int×List Int×Int×Int×PUnit) ((List Nat×List (Option (List Int)))×Int×List Int×List Int×List Int×Int × Int×Bool×PUnit) (fun (again:(List Nat×List (Option (List Int)))×Int×List Int×List Int×List Int×Int×Int×PUnit->Option ((List Nat×List (Option (List Int)))×Int × List Int×List Int×List Int×Int×Int×Bool×PUnit)) (x:(List Nat×List (Option (List Int)))×Int×List Int×List Int×List Int×Int×Int×PUnit)=>lp (Int×Int × PUnit) ((List Nat×List (Option (List Int)))×Int×List Int×List Int×List Int×Int×Int×Bool×PUnit) (fun (again_1:Int×Int×PUnit->Option ((List Nat×List (Option (List Int)))×Int×List Int×List Int×List Int×Int×Int×Bool×PUnit)) (x_1:Int×Int×PUnit) =>
 let v13:Bool:=decide (x_1.1<0);
 let v14:Int×PUnit:=(IntKind.wrap .i64 (x_1.2.1+1),PUnit.unit);
 let v15:Bool:=decide (x_1.2.1<x.2.2.2.2.2.1);
 let v16:Bool:=!v15||v15;bif v16 then bif v16 then bif bif v15 then v13 else false then af (bif List.all x.1.1 fun (x_2:Nat)=>fJ x.1.2 x_2 then ao (List.map (fun (x_2:Nat)=>bA x.1.2 x_2) x.1.1,x.2.1,x.2.2.1,x.2.2.2.1,x.2.2.2.2.1,x.2.2.2.2.2.1, x.2.2.2.2.2.2.1) x_1.2.1 else none) fun (t:Int)=>bif decide (t>0) then again_1 (x_1.2.1,v14) else again_1 (x_1.1,v14) else bif v13 then af (bif List.all x.1.1 fun (x_2:Nat)=>fJ x.1.2 x_2 then ao (List.map (fun (x_2:Nat)=>bA x.1.2 x_2) x.1.1,x.2.1,x.2.2.1, x.2.2.2.1,x.2.2.2.2.1,x.2.2.2.2.2.1,x.2.2.2.2.2.2.1) x.2.2.2.2.2.2.1 else none) fun (t:Int)=>bif decide (t>0) then some (x.1,x.2.1,x.2.2.1,x.2.2.2.1,x.2.2.2.2.1,x.2.2.2.2.2.1,x.2.2.2.2.2.2.1,false,PUnit.unit) else lp (Int×(List Nat×List (Option (List Int)))×Int×List Int×List Int×List Int×Int×Int×PUnit) ((List Nat×List (Option (List Int)))×Int×List Int×List Int×List Int×Int×Int × Bool×PUnit) (fun (again:Int×(List Nat×List (Option (List Int)))×Int×List Int×List Int×List Int×Int×Int×PUnit->Option ((List Nat×List (Option (List Int)))×Int × List Int×List Int×List Int×Int×Int×Bool×PUnit)) (x_2:Int×(List Nat×List (Option (List Int)))×Int×List Int×List Int×List Int×Int×Int×PUnit)=>bif decide (x_2.1<(↑x.1.1.length:Int)) then lp (Int×(List Nat×List (Option (List Int)))×Int×List Int×List Int×List Int×Int×Int×PUnit) ((List Nat×List (Option (List Int)))×Int×List Int×List Int×List Int×Int×Int×Bool×PUnit) (fun (again_2:Int×(List Nat×List (Option (List Int)))×Int×List Int×List Int×List Int×Int×Int×PUnit->Option ((List Nat×List (Option (List Int)))×Int×List Int×List Int×List Int×Int×Int×Bool×PUnit)) (x:Int×(List Nat×List (Option (List Int)))×Int×List Int×List Int×List Int×Int×Int×PUnit) =>
 let v22:Int:=IntKind.wrap .i64 (x.1+1);
 let v23:Bool:=decide (x.1<x.2.2.2.2.2.2.1);
 let v24:Bool:=!v23;
 let v25:Bool:=v24||v23;
 let v26:(List Nat×List (Option (List Int)))×Int×List Int×List Int×List Int×Int×Int×PUnit:=(x.2.1,x.2.2.1,x.2.2.2.1,x.2.2.2.2.1, x.2.2.2.2.2.1,x.2.2.2.2.2.2.1,x.2.2.2.2.2.2.2.1,PUnit.unit);bif v25 then bif v25 then bif v25 then bif v25&&(v25&&(v24||inB x_2.1 x.2.2.2.1.length)) then bif v25&&(v24||Nat.ble (Nat.succ x_2.1.toNat) x.2.2.2.1.length) then bif v25 then bif v25 then bif v25 then bif v25 && v25 then bif v25 then bif bif v23 then decide (x.2.2.2.1.getD x_2.1.toNat 0>=x.2.2.2.2.2.2.1) else false then bif inB x_2.1 x.2.1.1.length then bif Nat.ble (Nat.succ x_2.1.toNat) x.2.1.1.length then bif inB x.1 (List.length (bA x.2.1.2 (x.2.1.1.getD x_2.1.toNat 0))) then bif Nat.ble (Nat.succ x.1.toNat) (List.length (bA x.2.1.2 (x.2.1.1.getD x_2.1.toNat 0))) then bif !decide (List.getD (bA x.2.1.2 (x.2.1.1.getD x_2.1.toNat 0)) x.1.toNat 0=0) then af (aE x.2.1 x.2.2.1 x.2.2.2.1 x.2.2.2.2.1 x.2.2.2.2.2.1 x.2.2.2.2.2.2.1 x.2.2.2.2.2.2.2.1 x_2.1 x.1) fun (y:(List Nat×List (Option (List Int)))×Int×List Int×List Int×List Int×Int×Int×PUnit)=>again_2 (v22,y.1,y.2.1,y.2.2.1,y.2.2.2.1,y.2.2.2.2.1,y.2.2.2.2.2.1, y.2.2.2.2.2.2.1,PUnit.unit) else again_2 (v22,v26) else none else none else none else none else again (IntKind.wrap .i64 (x_2.1+1),v26) else none else none else none else none else none else none else none else none else none else none) (0,x_2.2.1,x_2.2.2.1,x_2.2.2.2.1,x_2.2.2.2.2.1, x_2.2.2.2.2.2.1,x_2.2.2.2.2.2.2.1,x_2.2.2.2.2.2.2.2.1,PUnit.unit) else some (x_2.2.1,x_2.2.2.1,x_2.2.2.2.1, x_2.2.2.2.2.1,x_2.2.2.2.2.2.1,x_2.2.2.2.2.2.2.1,x_2.2.2.2.2.2.2.2.1,true,PUnit.unit)) (0,x.1,x.2.1, x.2.2.1,x.2.2.2.1,x.2.2.2.2.1,x.2.2.2.2.2.1,x.2.2.2.2.2.2.1,PUnit.unit) else af (bif List.all x.1.1 fun (x_2:Nat) => fJ x.1.2 x_2 then ay (List.map (fun (x_2:Nat)=>bA x.1.2 x_2) x.1.1,x.2.1,x.2.2.1,x.2.2.2.1,x.2.2.2.2.1, x.2.2.2.2.2.1,x.2.2.2.2.2.2.1) x_1.1 else none) fun (t:Int)=>af (aE x.1 x.2.1 x.2.2.1 x.2.2.2.1 x.2.2.2.2.1 x.2.2.2.2.2.1 x.2.2.2.2.2.2.1 t x_1.1) fun (y:(List Nat×List (Option (List Int)))×Int×List Int×List Int×List Int×Int × Int×PUnit)=>again (y.1,y.2.1,y.2.2.1,y.2.2.2.1,y.2.2.2.2.1,y.2.2.2.2.2.1,y.2.2.2.2.2.2.1,PUnit.unit) else none else none) ((-1),0,PUnit.unit)) (x0,x1,x2,x3,x4,x5,x6,PUnit.unit)
def aJ (x0:List Nat×List (Option (List Int))) (x1:Int) (x2:List Int) (x3:List Int) (x4:List Int) (x5:Int) (x6:Int):Option ((List Nat×List (Option (List Int)))×Int×(List Int)×(List Int)×(List Int)×Int×Int×Bool×Unit):=ip lpK jnK aE ao ay x0 x1 x2 x3 x4 x5 x6
abbrev Ha:=(List Nat×List (Option (List Int)))->(Int)->(List Int)->(List Int)->(List Int)->(Int)->(Int)->Option ((List Nat×List (Option (List Int)))×Int×(List Int)×(List Int)×(List Int)×Int×Int×Bool×Unit)
def Mg (aJ:Ha):SCtr:=⟨[.b [.x (.tab 79 .ref 3 i64),.d i64,.row 3 i64,.row 3 i64,.row 3 i64,.d i64,.d i64]],[(false,[.d .bool])],fun x=>aJ x.1 x.2.1 x.2.2.1 x.2.2.2.1 x.2.2.2.2.1 x.2.2.2.2.2.1 x.2.2.2.2.2.2.1⟩
def Mh:SCtr:=Mg aJ
theorem Pr (lp:Lp) (jn:Jn) (aE:Hh) (ao:Gj) (ay:G5):∀x:TsR (rhI 0 Mh.ks),ip lp jn aE ao ay x.1 x.2.1 x.2.2.1 x.2.2.2.1 x.2.2.2.2.1 x.2.2.2.2.2.1 x.2.2.2.2.2.2.1=Fe lp jn (Dn.look [(149,LL aE)]) (tj vv uo (BH [(150,Mn ay),(106,K3 ao)] [] (gl prog shs pf its [] [(32,r32),(92,r92),(112,aU)]))) aj 4 102 f102 Mh x:=fun x=>by kernel_rfl
theorem KA:Mh.ok prog 102:=SCtr.of_den (an (oO (q32) (fY (by kernel_rfl) Kz (fY (by kernel_rfl) KH (lV))) (lH))) ax (lZ Kx (oa)) (hl:=aj) (d:=4) func102 rfl (by decide) (Pr lpK jnK aE ao ay)
def iY (_:Lp) (_:Jn) (x0:(List (List Int))×Int×(List Int)×(List Int)×(List Int)×Int×Int) (x1:Int):Option Int :=
 bif decide (x1<(↑x0.2.2.2.2.1.length:Int)) then bif inB x1 x0.2.2.2.2.1.length then some (x0.2.2.2.2.1.getD x1.toNat 0) else none else some 0
def aG (x0:(List (List Int))×Int×(List Int)×(List Int)×(List Int)×Int×Int) (x1:Int):Option Int:=iY lpK jnK x0 x1
abbrev E9:=((List (List Int))×Int×(List Int)×(List Int)×(List Int)×Int×Int)->(Int)->Option (Int)
def LP (aG:E9):PCtr:=⟨Dr,[i64],.one i64,fun x y=>aG x y.1⟩
def IJ:PCtr:=LP aG
theorem Po (lp:Lp) (jn:Jn):∀(x:IJ.s.T) (y:TsS IJ.as),iY lp jn x y.1=BU lp jn (cx [] [(32,r32),(92,r92),(112,aU)]) aj 4 104 f104 IJ x y:=fun x y=>by kernel_rfl
theorem KO:IJ.ok prog 104:=PCtr.of_den (an (q32)) ax (hl:=aj) (d:=4) func104 rfl (by decide) (Po lpK jnK)
def gN (lp:Lp) (_:Jn) (aG:E9) (x0:(List (List Int))×Int×(List Int)×(List Int)×(List Int)×Int×Int) (x1:Int):Option Int :=
 af (aG x0 x1) fun (t:Int)=>lp (Int×Int×PUnit) Int (fun (again:Int×Int×PUnit->Option Int) (x:Int×Int×PUnit) =>
 let v7:List Int:=x0.1.getD x.2.1.toNat [];bif decide (x.2.1<(↑x0.1.length:Int)) then bif inB x.2.1 x0.1.length then bif inB x.2.1 x0.2.2.1.length then af (aG x0 (x0.2.2.1.getD x.2.1.toNat 0)) fun (t:Int)=>bif inB x1 v7.length then again (IntKind.wrap .i64 (x.1 - IntKind.wrap .i64 (t*v7.getD x1.toNat 0)),IntKind.wrap .i64 (x.2.1+1),PUnit.unit) else none else none else none else some x.1) (IntKind.wrap .i64 (t*x0.2.1),0,PUnit.unit)
def bU (x0:(List (List Int))×Int×(List Int)×(List Int)×(List Int)×Int×Int) (x1:Int):Option Int:=gN lpK jnK aG x0 x1
abbrev Oj:=((List (List Int))×Int×(List Int)×(List Int)×(List Int)×Int×Int)->(Int)->Option (Int)
def JS:PCtr:=⟨Dr,[i64],.one i64,fun x y=>bU x y.1⟩
theorem Qb (lp:Lp) (jn:Jn) (aG:E9):∀(x:JS.s.T) (y:TsS JS.as),gN lp jn aG x y.1=BU lp jn (tj vv uo (BH [(104,LP aG)] [] (gl prog shs pf its [] [(32,r32),(92,r92),(112,aU)]))) aj 4 151 f151 JS x y:=fun x y=>by kernel_rfl
theorem MM:JS.ok prog 151:=PCtr.of_den (an (oO (q32) (fY (by kernel_rfl) KO (lV)) (lH))) ax (hl:=aj) (d:=4) func151 rfl (by decide) (Qb lpK jnK aG)
def gL (lp:Lp) (_:Jn) (aE:Hh) (ay:G5) (bU:Oj) (x0:List Nat×List (Option (List Int))) (x1:Int) (x2:List Int) (x3:List Int) (x4:List Int) (x5:Int) (x6:Int):Option ((List Nat×List (Option (List Int)))×Int×(List Int)×(List Int)×(List Int)×Int×Int×Bool×Unit) :=
 lp ((List Nat×List (Option (List Int)))×Int×List Int×List Int×List Int×Int×Int×PUnit) ((List Nat×List (Option (List Int)))×Int×List Int×List Int×List Int×Int × Int×Bool×PUnit) (fun (again:(List Nat×List (Option (List Int)))×Int×List Int×List Int×List Int×Int×Int×PUnit->Option ((List Nat×List (Option (List Int)))×Int × List Int×List Int×List Int×Int×Int×Bool×PUnit)) (x:(List Nat×List (Option (List Int)))×Int×List Int×List Int×List Int×Int×Int×PUnit)=>lp (Int×Int × PUnit) ((List Nat×List (Option (List Int)))×Int×List Int×List Int×List Int×Int×Int×Bool×PUnit) (fun (again_1:Int×Int×PUnit->Option ((List Nat×List (Option (List Int)))×Int×List Int×List Int×List Int×Int×Int×Bool×PUnit)) (x_1:Int×Int×PUnit) =>
 let v13:Bool:=decide (x_1.1<0);
 let v14:Int×PUnit:=(IntKind.wrap .i64 (x_1.2.1+1),PUnit.unit);
 let v15:Bool:=decide (x_1.2.1<x.2.2.2.2.2.1);
 let v16:Bool:=!v15||v15;bif v16 then bif v16 then bif bif v15 then v13 else false then af (bif List.all x.1.1 fun (x_2:Nat)=>fJ x.1.2 x_2 then bU (List.map (fun (x_2:Nat)=>bA x.1.2 x_2) x.1.1,x.2.1,x.2.2.1,x.2.2.2.1,x.2.2.2.2.1,x.2.2.2.2.2.1, x.2.2.2.2.2.2.1) x_1.2.1 else none) fun (t:Int)=>bif decide (t<0) then again_1 (x_1.2.1,v14) else again_1 (x_1.1,v14) else bif v13 then some (x.1,x.2.1,x.2.2.1,x.2.2.2.1,x.2.2.2.2.1,x.2.2.2.2.2.1,x.2.2.2.2.2.2.1,true,PUnit.unit) else af (bif List.all x.1.1 fun (x_2:Nat)=>fJ x.1.2 x_2 then ay (List.map (fun (x_2:Nat)=>bA x.1.2 x_2) x.1.1,x.2.1,x.2.2.1,x.2.2.2.1, x.2.2.2.2.1,x.2.2.2.2.2.1,x.2.2.2.2.2.2.1) x_1.1 else none) fun (t:Int)=>bif decide (t<0) then some (x.1,x.2.1, x.2.2.1,x.2.2.2.1,x.2.2.2.2.1,x.2.2.2.2.2.1,x.2.2.2.2.2.2.1,false,PUnit.unit) else af (aE x.1 x.2.1 x.2.2.1 x.2.2.2.1 x.2.2.2.2.1 x.2.2.2.2.2.1 x.2.2.2.2.2.2.1 t x_1.1) fun (y:(List Nat×List (Option (List Int)))×Int×List Int × List Int×List Int×Int×Int×PUnit)=>again (y.1,y.2.1,y.2.2.1,y.2.2.2.1,y.2.2.2.2.1,y.2.2.2.2.2.1,y.2.2.2.2.2.2.1, PUnit.unit) else none else none) ((-1),0,PUnit.unit)) (x0,x1,x2,x3,x4,x5,x6,PUnit.unit)
def bv (x0:List Nat×List (Option (List Int))) (x1:Int) (x2:List Int) (x3:List Int) (x4:List Int) (x5:Int) (x6:Int):Option ((List Nat×List (Option (List Int)))×Int×(List Int)×(List Int)×(List Int)×Int×Int×Bool×Unit):=gL lpK jnK aE ay bU x0 x1 x2 x3 x4 x5 x6
abbrev Lu:=(List Nat×List (Option (List Int)))->(Int)->(List Int)->(List Int)->(List Int)->(Int)->(Int)->Option ((List Nat×List (Option (List Int)))×Int×(List Int)×(List Int)×(List Int)×Int×Int×Bool×Unit)
def NO (bv:Lu):SCtr:=⟨[.b [.x (.tab 79 .ref 3 i64),.d i64,.row 3 i64,.row 3 i64,.row 3 i64,.d i64,.d i64]],[(false,[.d .bool])],fun x=>bv x.1 x.2.1 x.2.2.1 x.2.2.2.1 x.2.2.2.2.1 x.2.2.2.2.2.1 x.2.2.2.2.2.2.1⟩
def Lj:SCtr:=NO bv
theorem Pd (lp:Lp) (jn:Jn) (aE:Hh) (ay:G5) (bU:Oj):∀x:TsR (rhI 0 Lj.ks),gL lp jn aE ay bU x.1 x.2.1 x.2.2.1 x.2.2.2.1 x.2.2.2.2.1 x.2.2.2.2.2.1 x.2.2.2.2.2.2.1=Fe lp jn (Dn.look [(149,LL aE)]) (tj vv uo (BH [(151,⟨Dr,[i64],.one i64,fun x y=>bU x y.1⟩),(150,Mn ay)] [] (gl prog shs pf its [] [(32,r32),(92,r92),(112,aU)]))) aj 4 103 f103 Lj x:=fun x=>by kernel_rfl
theorem NL:Lj.ok prog 103:=SCtr.of_den (an (oO (q32) (fY (by kernel_rfl) MM (fY (by kernel_rfl) Kz (lV))) (lH))) ax (lZ Kx (oa)) (hl:=aj) (d:=4) func103 rfl (by decide) (Pd lpK jnK aE ay bU)
def nQ (_:Lp) (_:Jn) (x0:Bool) (x1:Int) (x2:Int):Option ((Int×Int)×Int×Unit) :=
 
 let v5:Int:=IntKind.wrap .i64 x1;
 let v6:Int:=IntKind.wrap .i64 x2;
 let v7:Bool:=decide (x1>1152921504606846976);
 let v8:Bool:=!v7;bif !v8||v8 then bif v7||v8 then bif bif v7 then true else decide (x2>1152921504606846976) then some ((0,0),5,PUnit.unit) else bif x0 then some ((IntKind.wrap .i64 (0 - v5),v6),0,PUnit.unit) else some ((v5,v6),0,PUnit.unit) else none else none
def ba (x0:Bool) (x1:Int) (x2:Int):Option ((Int×Int)×Int×Unit):=nQ lpK jnK x0 x1 x2
abbrev t62:=(Bool)->(Int)->(Int)->Option ((Int×Int)×Int×Unit)
def k62 (ba:t62):Ctr:=⟨[.bool,(.int .u64),(.int .u64)],[],[],.tup [T47,i64],fun x _ _=>ba x.1 x.2.1 x.2.2.1⟩
def c62:Ctr:=k62 ba
theorem e62 (lp:Lp) (jn:Jn):∀(x:TsS c62.as) (F:TsF c62.fs) (y:TsS c62.cs),nQ lp jn x.1 x.2.1 x.2.2.1=bf lp jn (cx [] [(32,r32),(92,r92),(112,aU)]) aj 4 62 f62 c62 x F y:=fun x F y=>by kernel_rfl
theorem LF:c62.ok prog 62:=Ctr.of_den (an (q32)) ax (hl:=aj) (d:=4) func62 rfl (by decide) (e62 lpK jnK)
def qH (_:Lp) (_:Jn) (aY:t59) (aw:t60) (ba:t62) (x0:Int) (x1:Int):Option ((Int×Int)×Int×Unit) :=
 
 let v4:Bool:=!decide (x0=0);
 let v5:Bool:=!v4||v4;bif decide (x1=0) then some ((0,0),16,PUnit.unit) else af (aw x0) fun (t:Int)=>af (aw x1) fun (t_1:Int)=>af (aY t t_1) fun (t_2:Int) =>
 let v9:Bool:=nzB t_2;bif v5 then bif v5 then bif v5&&v5 then bif v5 then bif v9 then bif v9 then af (ba (bif v4 then !decide (decide (x0<0)=decide (x1<(0 : Int))) else false) (IntKind.wrap .u64 (Int.tdiv t t_2)) (IntKind.wrap .u64 (Int.tdiv t_1 t_2))) fun (t:(Int×Int)×Int×PUnit)=>some (t.1,t.2.1, PUnit.unit) else none else none else none else none else none else none
def fg (x0:Int) (x1:Int):Option ((Int×Int)×Int×Unit):=qH lpK jnK aY aw ba x0 x1
abbrev L9:=(Int)->(Int)->Option ((Int×Int)×Int×Unit)
def Mu (fg:L9):Ctr:=⟨[i64,i64],[],[],.tup [T47,i64],fun x _ _=>fg x.1 x.2.1⟩
def Ht:Ctr:=Mu fg
theorem QH (lp:Lp) (jn:Jn) (aY:t59) (aw:t60) (ba:t62):∀(x:TsS Ht.as) (F:TsF Ht.fs) (y:TsS Ht.cs),qH lp jn aY aw ba x.1 x.2.1=bf lp jn (cx [(62,k62 ba),(60,k60 aw),(59,k59 aY)] [(32,r32),(92,r92),(112,aU)]) aj 4 114 f114 Ht x F y:=fun x F y=>by kernel_rfl
theorem MH:Ht.ok prog 114:=Ctr.of_den (an (aa (aa (aa (q32) (by kernel_rfl) Io) (by kernel_rfl) EK) (by kernel_rfl) LF)) ax (hl:=aj) (d:=4) func114 rfl (by decide) (QH lpK jnK aY aw ba)
def jh (_:Lp) (_:Jn) (fg:L9) (x0:(List (List Int))×Int×(List Int)×(List Int)×(List Int)×Int×Int) (x1:Int):Option (Int×Int) :=
 af (fg x1 x0.2.1) fun (t:(Int×Int)×Int×PUnit)=>some t.1
def aF (x0:(List (List Int))×Int×(List Int)×(List Int)×(List Int)×Int×Int) (x1:Int):Option (Int×Int):=jh lpK jnK fg x0 x1
abbrev FM:=((List (List Int))×Int×(List Int)×(List Int)×(List Int)×Int×Int)->(Int)->Option (Int×Int)
def Lw (aF:FM):PCtr:=⟨Dr,[i64],.one T47,fun x y=>aF x y.1⟩
def Kq:PCtr:=Lw aF
theorem P5 (lp:Lp) (jn:Jn) (fg:L9):∀(x:Kq.s.T) (y:TsS Kq.as),jh lp jn fg x y.1=BU lp jn (cx [(114,Mu fg)] [(32,r32),(92,r92),(112,aU)]) aj 4 105 f105 Kq x y:=fun x y=>by kernel_rfl
theorem KV:Kq.ok prog 105:=PCtr.of_den (an (aa (q32) (by kernel_rfl) MH)) ax (hl:=aj) (d:=4) func105 rfl (by decide) (P5 lpK jnK fg)
def nj (lp:Lp) (jn:Jn) (aP:t99) (bN:HC) (aZ:HN) (aJ:Ha) (bv:Lu) (aG:E9) (aF:FM) (x0:(List Int)×List ((List Int)×Int×Int)):Option (((Int×Int)×(List (Int×Int))×List (Int×Int))×Int×Unit) :=
 af (aP x0) fun (t:Bool)=>bif !t then some (((0,0),[],[]),1,PUnit.unit) else af (bN x0) fun (t:Bool)=>bif !t then some ((((0 : Int),0),[],[]),5,PUnit.unit) else lp (Int×Int×PUnit) (((Int×Int)×List (Int×Int)×List (Int×Int))×Int×PUnit) (fun (again:Int×Int×PUnit -> Option (((Int×Int)×List (Int×Int)×List (Int×Int))×Int×PUnit)) (x:Int×Int×PUnit) =>
 let v7:Int×PUnit:=(IntKind.wrap .i64 (x.2.1+1),PUnit.unit);
 let v8:Int:=IntKind.wrap .i64 ((↑x0.1.length:Int)+x.1);bif decide (x.2.1<(↑x0.2.length:Int)) then bif inB x.2.1 x0.2.length then bif !decide ((x0.2.getD x.2.1.toNat ([],0,0)).2.1=3) then again (IntKind.wrap .i64 (x.1+1),v7) else again (x.1, v7) else none else af (aZ x0.1) fun (t:List Int)=>lp (Int×Int×(List Nat×List (Option (List Int)))×Int×List Int×List Int×List Int×Int×Int × PUnit) (((Int×Int)×List (Int×Int)×List (Int×Int))×Int×PUnit) (fun (again:Int×Int×(List Nat×List (Option (List Int)))×Int×List Int×List Int×List Int×Int × Int×PUnit->Option (((Int×Int)×List (Int×Int)×List (Int×Int))×Int×PUnit)) (x:Int×Int×(List Nat×List (Option (List Int)))×Int×List Int×List Int×List Int × Int×Int×PUnit) =>
 let v12:Int:=IntKind.wrap .i64 (x.1+1);
 let v13:List Int×Int×Int:=x0.2.getD x.2.1.toNat ([],0,0);
 let v14:List Int:=List.replicate (Int.toNat (IntKind.wrap .i64 (x.2.2.2.2.2.2.2.2.1+1))) 0;
 let v15:Bool:=inB x.1 (Int.toNat (IntKind.wrap .i64 (x.2.2.2.2.2.2.2.2.1+1)));
 let v16:Bool:=Nat.ble (Nat.succ x.1.toNat) (Int.toNat (IntKind.wrap .i64 (x.2.2.2.2.2.2.2.2.1+1)));
 let v17:Int:=IntKind.wrap .i64 (x.2.2.2.2.2.2.2.1+x.2.1);
 let v18:List Int:=List.take (Int.toNat (IntKind.wrap .i64 (x.2.2.2.2.2.2.2.2.1+1))) v13.1;
 let v19:List Int:=List.set (List.take 0 v14++v18++List.drop (0+List.length v18) v14) x.2.2.2.2.2.2.2.2.1.toNat v13.2.2;bif decide (x.2.1<(↑x0.2.length:Int)) then bif inB x.2.1 x0.2.length then bif decide (0<=IntKind.wrap .i64 (x.2.2.2.2.2.2.2.2.1+(1 : Int)))&&dK (Int.toNat (IntKind.wrap .i64 (x.2.2.2.2.2.2.2.2.1+1))) 8 then bif inB x.2.2.2.2.2.2.2.2.1 (Int.toNat (IntKind.wrap .i64 (x.2.2.2.2.2.2.2.2.1+1))) then bif Nat.ble (Nat.succ x.2.2.2.2.2.2.2.2.1.toNat) (Int.toNat (IntKind.wrap IntKind.i64 (x.2.2.2.2.2.2.2.2.1+1))) then jn (Int×List Int×PUnit) (((Int×Int)×List (Int×Int)×List (Int×Int))×Int×PUnit) (fun (x_1:Int × List Int×PUnit) =>
 let v21:List Int×PUnit:=(x_1.2.1,PUnit.unit);jn (Int×List Int×PUnit) (((Int×Int)×List (Int×Int)×List (Int×Int))×Int×PUnit) (fun (x_2:Int×List Int × PUnit)=>bif inB v17 x_2.2.1.length then bif Nat.ble (Nat.succ v17.toNat) x_2.2.1.length then bif dK (List.length x.2.2.1.1+1) (24 : Nat) then bif dK (List.length x.2.2.2.2.2.1+1) 8 then bif dK (List.length x.2.2.2.2.1+1) 8 then again (x_1.1, IntKind.wrap .i64 (x.2.1+1),(x.2.2.1.1++[List.length x.2.2.1.2+0],x.2.2.1.2++[some (x_2.2.1.set v17.toNat (1 : Int))]),x.2.2.2.1,x.2.2.2.2.1++[v17],x.2.2.2.2.2.1++[x_2.1],x.2.2.2.2.2.2.1,x.2.2.2.2.2.2.2.1, x.2.2.2.2.2.2.2.2.1,PUnit.unit) else none else none else none else none else none) fun (j:Int×List Int×PUnit->Option (((Int×Int)×List (Int×Int)×List (Int×Int))×Int×PUnit))=>bif decide (v13.2.2<0) then lp (Int×List Int×PUnit) (((Int×Int)×List (Int×Int)×List (Int×Int))×Int×PUnit) (fun (again : Int×List Int×PUnit->Option (((Int×Int)×List (Int×Int)×List (Int×Int))×Int×PUnit)) (x:Int×List Int×PUnit) =>
 let v25:Bool:=inB x.1 x.2.1.length;
 let v26:Bool:=Nat.ble (Nat.succ x.1.toNat) x.2.1.length;bif decide (x.1<(↑x_1.2.1.length:Int)) then bif v25 then bif v26 then bif v25 then bif v26 then again (IntKind.wrap .i64 (x.1+1),x.2.1.set x.1.toNat (IntKind.wrap .i64 (0 - x.2.1.getD x.1.toNat 0)), PUnit.unit) else none else none else none else none else j ((-1),x.2.1,PUnit.unit)) (0,v21) else j (1,v21)) fun (j:Int×List Int×PUnit->Option (((Int × Int)×List (Int×Int)×List (Int×Int))×Int×PUnit))=>bif decide (v13.2.1=1) then bif v15 then bif v16 then j (v12,v19.set x.1.toNat 1, PUnit.unit) else none else none else jn (Int×List Int×PUnit) (((Int×Int)×List (Int×Int)×List (Int×Int))×Int×PUnit) (fun (x:Int×List Int×PUnit)=>j (x.1, x.2.1,PUnit.unit)) fun (j:Int×List Int×PUnit->Option (((Int×Int)×List (Int×Int)×List (Int×Int))×Int×PUnit))=>bif decide (v13.2.1=2) then bif v15 then bif v16 then j (v12,v19.set x.1.toNat (-1),PUnit.unit) else none else none else j (x.1,v19,PUnit.unit) else none else none else none else none else af (aJ x.2.2.1 x.2.2.2.1 x.2.2.2.2.1 x.2.2.2.2.2.1 x.2.2.2.2.2.2.1 x.2.2.2.2.2.2.2.1 x.2.2.2.2.2.2.2.2.1) fun (y:(List Nat×List (Option (List Int)))×Int×List Int×List Int×List Int×Int×Int×Bool×PUnit)=>bif !y.2.2.2.2.2.2.2.1 then some (((0,0),[],[]),22,PUnit.unit) else af (bv y.1 y.2.1 y.2.2.1 y.2.2.2.1 y.2.2.2.2.1 y.2.2.2.2.2.1 y.2.2.2.2.2.2.1) fun (y:(List Nat×List (Option (List Int)))×Int×List Int×List Int×List Int×Int×Int×Bool × PUnit)=>bif !y.2.2.2.2.2.2.2.1 then some (((0,0),[],[]),21,PUnit.unit) else bif decide (0<=(↑x0.1.length:Int))&&dK (Int.toNat (↑x0.1.length:Int)) 8 then lp (Int×Int×List Int×PUnit) (((Int×Int)×List (Int×Int)×List (Int×Int))×Int×PUnit) (fun (again:Int×Int × List Int×PUnit->Option (((Int×Int)×List (Int×Int)×List (Int×Int))×Int×PUnit)) (x:Int×Int×List Int×PUnit) =>
 let v24:Int:=IntKind.wrap .i64 (x.2.1+1);
 let v25:Bool:=inB x.2.1 y.1.1.length;
 let v26:Bool:=Nat.ble (Nat.succ x.2.1.toNat) y.1.1.length;
 let v27:Int:=y.2.2.1.getD x.2.1.toNat 0;bif decide (x.2.1<(↑y.2.2.1.length:Int)) then bif inB x.2.1 y.2.2.1.length then bif Nat.ble (Nat.succ x.2.1.toNat) y.2.2.1.length then af (bif List.all y.1.1 fun (x:Nat)=>fJ y.1.2 x then aG (List.map (fun (x:Nat)=>bA y.1.2 x) y.1.1,y.2.1,y.2.2.1,y.2.2.2.1,y.2.2.2.2.1,y.2.2.2.2.2.1,y.2.2.2.2.2.2.1) v27 else none) fun (t:Int)=>bif v25 then bif v26 then bif inB y.2.2.2.2.2.2.1 (List.length (bA y.1.2 (y.1.1.getD x.2.1.toNat 0))) then bif Nat.ble (Nat.succ y.2.2.2.2.2.2.1.toNat) (List.length (bA y.1.2 (y.1.1.getD x.2.1.toNat 0))) then bif decide (v27<(↑x.2.2.1.length:Int)) then bif v25 then bif v26 then bif inB y.2.2.2.2.2.2.1 (List.length (bA y.1.2 (y.1.1.getD x.2.1.toNat 0))) then bif Nat.ble (Nat.succ y.2.2.2.2.2.2.1.toNat) (List.length (bA y.1.2 (y.1.1.getD x.2.1.toNat 0))) then bif inB v27 x.2.2.1.length then bif Nat.ble (Nat.succ v27.toNat) x.2.2.1.length then again (IntKind.wrap .i64 (x.1+IntKind.wrap .i64 (t*List.getD (bA y.1.2 (y.1.1.getD x.2.1.toNat 0)) y.2.2.2.2.2.2.1.toNat 0)),v24,x.2.2.1.set v27.toNat (List.getD (bA y.1.2 (y.1.1.getD x.2.1.toNat 0)) y.2.2.2.2.2.2.1.toNat 0),PUnit.unit) else none else none else none else none else none else none else again (IntKind.wrap .i64 (x.1+IntKind.wrap .i64 (t*List.getD (bA y.1.2 (y.1.1.getD x.2.1.toNat 0)) y.2.2.2.2.2.2.1.toNat 0)),v24,x.2.2.1,PUnit.unit) else none else none else none else none else none else none else af (bif List.all y.1.1 fun (x:Nat) =>fJ y.1.2 x then aF (List.map (fun (x:Nat)=>bA y.1.2 x) y.1.1,y.2.1,y.2.2.1,y.2.2.2.1,y.2.2.2.2.1, y.2.2.2.2.2.1,y.2.2.2.2.2.2.1) x.1 else none) fun (t:Int×Int)=>lp (Int×(Int×Int)×List (Int×Int)×List (Int×Int)×PUnit) (((Int×Int) × List (Int×Int)×List (Int×Int))×Int×PUnit) (fun (again:Int×(Int×Int)×List (Int×Int)×List (Int×Int)×PUnit->Option (((Int×Int)×List (Int×Int)×List (Int × Int))×Int×PUnit)) (x_1:Int×(Int×Int)×List (Int×Int)×List (Int×Int)×PUnit) =>
 let v31:List (Int×Int)×PUnit:=(x_1.2.2.2.1,PUnit.unit);bif decide (x_1.1<(↑x.2.2.1.length:Int)) then bif inB x_1.1 x.2.2.1.length then bif Nat.ble (Nat.succ x_1.1.toNat) x.2.2.1.length then af (bif List.all y.1.1 fun (x:Nat)=>fJ y.1.2 x then aF (List.map (fun (x : Nat)=>bA y.1.2 x) y.1.1,y.2.1,y.2.2.1,y.2.2.2.1,y.2.2.2.2.1,y.2.2.2.2.2.1,y.2.2.2.2.2.2.1) (x.2.2.1.getD x_1.1.toNat 0) else none) fun (t:Int×Int)=>bif dK (List.length x_1.2.2.1+1) 16 then again (IntKind.wrap .i64 (x_1.1+1),x_1.2.1,x_1.2.2.1++[t],v31) else none else none else none else lp (Int×(Int×Int)×List (Int×Int)×List (Int×Int)×PUnit) (((Int×Int) × List (Int×Int)×List (Int×Int))×Int×PUnit) (fun (again:Int×(Int×Int)×List (Int×Int)×List (Int×Int)×PUnit->Option (((Int×Int)×List (Int×Int)×List (Int × Int))×Int×PUnit)) (x:Int×(Int×Int)×List (Int×Int)×List (Int×Int)×PUnit) =>
 let v34:Int:=IntKind.wrap .i64 (y.2.2.2.2.2.1+x.1);bif decide (x.1<(↑x0.2.length:Int)) then lp (Int×Int×PUnit) (((Int×Int)×List (Int × Int)×List (Int×Int))×Int×PUnit) (fun (again_1:Int×Int×PUnit->Option (((Int×Int)×List (Int×Int)×List (Int×Int))×Int×PUnit)) (x_2:Int×Int×PUnit)=>bif decide (x_2.2.1<(↑y.2.2.1.length:Int)) then bif inB x_2.2.1 y.2.2.1.length then bif Nat.ble (Nat.succ x_2.2.1.toNat) y.2.2.1.length then af (bif List.all y.1.1 fun (x:Nat)=>fJ y.1.2 x then aG (List.map (fun (x:Nat)=>bA y.1.2 x) y.1.1,y.2.1, y.2.2.1,y.2.2.2.1,y.2.2.2.2.1,y.2.2.2.2.2.1,y.2.2.2.2.2.2.1) (y.2.2.1.getD x_2.2.1.toNat 0) else none) fun (t:Int)=>bif inB x_2.2.1 y.1.1.length then bif Nat.ble (Nat.succ x_2.2.1.toNat) y.1.1.length then bif inB v34 (List.length (bA y.1.2 (y.1.1.getD x_2.2.1.toNat 0))) then bif Nat.ble (Nat.succ v34.toNat) (List.length (bA y.1.2 (y.1.1.getD x_2.2.1.toNat (0 : Nat)))) then again_1 (IntKind.wrap .i64 (x_2.1+IntKind.wrap .i64 (t*List.getD (bA y.1.2 (y.1.1.getD x_2.2.1.toNat 0)) v34.toNat 0)),IntKind.wrap .i64 (x_2.2.1+1),PUnit.unit) else none else none else none else none else none else none else bif inB x.1 y.2.2.2.1.length then bif Nat.ble (Nat.succ x.1.toNat) y.2.2.2.1.length then af (bif List.all y.1.1 fun (x:Nat)=>fJ y.1.2 x then aF (List.map (fun (x:Nat)=>bA y.1.2 x) y.1.1,y.2.1,y.2.2.1,y.2.2.2.1,y.2.2.2.2.1,y.2.2.2.2.2.1, y.2.2.2.2.2.2.1) (IntKind.wrap .i64 (y.2.2.2.1.getD x.1.toNat 0*x_2.1)) else none) fun (t:Int×Int)=>bif dK (List.length x.2.2.2.1+1) 16 then again (IntKind.wrap .i64 (x.1+1),x.2.1,x.2.2.1,x.2.2.2.1++[t],PUnit.unit) else none else none else none) (0,0,PUnit.unit) else some ((x.2.1,x.2.2.1,x.2.2.2.1),0,PUnit.unit)) (0,x_1.2.1,x_1.2.2.1,v31)) ((0 : Int),t,[],[],PUnit.unit)) (0,0,List.replicate (Int.toNat (↑x0.1.length:Int)) 0,PUnit.unit) else none) ((↑x0.1.length:Int),(0 : Int),([],[]),1,[],[],t,v8,IntKind.wrap .i64 (v8+(↑x0.2.length:Int)),PUnit.unit)) (0,0,PUnit.unit)
def eF (x0:(List Int)×List ((List Int)×Int×Int)):Option (((Int×Int)×(List (Int×Int))×List (Int×Int))×Int×Unit):=nj lpK jnK aP bN aZ aJ bv aG aF x0
abbrev t56:=((List Int)×List ((List Int)×Int×Int))->Option (((Int×Int)×(List (Int×Int))×List (Int×Int))×Int×Unit)
def c56:Ctr:=⟨[T82],[],[],.tup [T94,i64],fun x _ _=>eF x.1⟩
theorem e56 (lp:Lp) (jn:Jn) (aP:t99) (bN:HC) (aZ:HN) (aJ:Ha) (bv:Lu) (aG:E9) (aF:FM):∀(x:TsS c56.as) (F:TsF c56.fs) (y:TsS c56.cs),nj lp jn aP bN aZ aJ bv aG aF x.1=FW lp jn (Dn.look [(103,NO bv),(102,Mg aJ)]) (tj vv uo (BH [(105,Lw aF),(104,LP aG)] [] (gl prog shs pf its [(100,Lf bN),(99,k99 aP)] [(32,r32),(92,r92),(112,L4 aZ)]))) aj 4 56 f56 c56 x F y:=fun x F y=>by kernel_rfl
theorem Qx:c56.ok prog 56:=Ctr.of_denS (an (oO (aa (aa (q32) (by kernel_rfl) Md) (by kernel_rfl) KJ) (fY (by kernel_rfl) KV (fY (by kernel_rfl) KO (lV))) (lH))) ax (lZ NL (lZ KA (oa))) (hl:=aj) (d:=4) func56 rfl (by decide) (e56 lpK jnK aP bN aZ aJ bv aG aF)
set_option maxRecDepth 100000
def qL (_:Lp) (_:Jn) (aO:t55) (eF:t56) (x0:(List (ByteArray×Int))×List (ByteArray×(List (ByteArray×Int×Int×Int))×Bool)):Option ((List (Int×Int))×Int×Unit) :=
 af (aO x0) fun (t:(List Int×List (List Int×Int×Int))×Int×PUnit)=>bif !decide (t.2.1=0) then some ([],t.2.1,PUnit.unit) else af (eF t.1) fun (t:((Int×Int)×List (Int×Int)×List (Int×Int))×Int×PUnit)=>bif !decide (t.2.1=0) then some ([],t.2.1,PUnit.unit) else some (t.1.2.1,0,PUnit.unit)
def cO (x0:(List (ByteArray×Int))×List (ByteArray×(List (ByteArray×Int×Int×Int))×Bool)):Option ((List (Int×Int))×Int×Unit):=qL lpK jnK aO eF x0
abbrev t20:=((List (ByteArray×Int))×List (ByteArray×(List (ByteArray×Int×Int×Int))×Bool))->Option ((List (Int×Int))×Int×Unit)
def k20 (cO:t20):Ctr:=⟨[T25],[],[],.tup [(.sl T47),i64],fun x _ _=>cO x.1⟩
def c20:Ctr:=k20 cO
theorem e20 (lp:Lp) (jn:Jn) (aO:t55) (eF:t56):∀(x:TsS c20.as) (F:TsF c20.fs) (y:TsS c20.cs),qL lp jn aO eF x.1=bf lp jn (cx [(56,⟨[T82],[],[],.tup [T94,i64],fun x _ _=>eF x.1⟩),(55,k55 aO)] [(32,r32),(92,r92),(112,aU)]) aj 4 20 f20 c20 x F y:=fun x F y=>by kernel_rfl
theorem Qf:c20.ok prog 20:=Ctr.of_den (an (aa (aa (q32) (by kernel_rfl) LV) (by kernel_rfl) Qx)) ax (hl:=aj) (d:=4) func20 rfl (by decide) (e20 lpK jnK aO eF)
def md (lp:Lp) (jn:Jn) (aP:t99) (bN:HC) (aZ:HN) (aJ:Ha) (ao:Gj) (aF:FM) (x0:(List Int)×List ((List Int)×Int×Int)):Option ((List (Int×Int))×Int×Unit) :=
 af (aP x0) fun (t:Bool)=>bif !t then some ([],1,PUnit.unit) else af (bN x0) fun (t:Bool)=>bif !t then some ([],5,PUnit.unit) else lp (Int×Int×PUnit) (List (Int×Int)×Int×PUnit) (fun (again:Int×Int×PUnit->Option (List (Int×Int)×Int×PUnit)) (x:Int×Int×PUnit) =>
 let v7:Int×PUnit:=(IntKind.wrap .i64 (x.2.1+1),PUnit.unit);
 let v8:Int:=IntKind.wrap .i64 ((↑x0.1.length:Int)+x.1);bif decide (x.2.1<(↑x0.2.length:Int)) then bif inB x.2.1 x0.2.length then bif !decide ((x0.2.getD x.2.1.toNat ([],0,0)).2.1=3) then again (IntKind.wrap .i64 (x.1+1),v7) else again (x.1, v7) else none else af (aZ x0.1) fun (t:List Int)=>lp (Int×Int×(List Nat×List (Option (List Int)))×Int×List Int×List Int×List Int×Int×Int × PUnit) (List (Int×Int)×Int×PUnit) (fun (again:Int×Int×(List Nat×List (Option (List Int)))×Int×List Int×List Int×List Int×Int×Int×PUnit->Option (List (Int × Int)×Int×PUnit)) (x:Int×Int×(List Nat×List (Option (List Int)))×Int×List Int×List Int×List Int×Int×Int×PUnit) =>
 let v12:Int:=IntKind.wrap .i64 (x.1+1);
 let v13:List Int×Int×Int:=x0.2.getD x.2.1.toNat ([],0,0);
 let v14:List Int:=List.replicate (Int.toNat (IntKind.wrap .i64 (x.2.2.2.2.2.2.2.2.1+1))) 0;
 let v15:Bool:=inB x.1 (Int.toNat (IntKind.wrap .i64 (x.2.2.2.2.2.2.2.2.1+1)));
 let v16:Bool:=Nat.ble (Nat.succ x.1.toNat) (Int.toNat (IntKind.wrap .i64 (x.2.2.2.2.2.2.2.2.1+1)));
 let v17:Int:=IntKind.wrap .i64 (x.2.2.2.2.2.2.2.1+x.2.1);
 let v18:List Int:=List.take (Int.toNat (IntKind.wrap .i64 (x.2.2.2.2.2.2.2.2.1+1))) v13.1;
 let v19:List Int:=List.set (List.take 0 v14++v18++List.drop (0+List.length v18) v14) x.2.2.2.2.2.2.2.2.1.toNat v13.2.2;bif decide (x.2.1<(↑x0.2.length:Int)) then bif inB x.2.1 x0.2.length then bif decide (0<=IntKind.wrap .i64 (x.2.2.2.2.2.2.2.2.1+(1 : Int)))&&dK (Int.toNat (IntKind.wrap .i64 (x.2.2.2.2.2.2.2.2.1+1))) 8 then bif inB x.2.2.2.2.2.2.2.2.1 (Int.toNat (IntKind.wrap .i64 (x.2.2.2.2.2.2.2.2.1+1))) then bif Nat.ble (Nat.succ x.2.2.2.2.2.2.2.2.1.toNat) (Int.toNat (IntKind.wrap IntKind.i64 (x.2.2.2.2.2.2.2.2.1+1))) then jn (Int×List Int×PUnit) (List (Int×Int)×Int×PUnit) (fun (x_1:Int×List Int×PUnit) =>
 let v21:List Int×PUnit:=(x_1.2.1,PUnit.unit);jn (Int×List Int×PUnit) (List (Int×Int)×Int×PUnit) (fun (x_2:Int×List Int×PUnit)=>bif inB v17 x_2.2.1.length then bif Nat.ble (Nat.succ v17.toNat) x_2.2.1.length then bif dK (List.length x.2.2.1.1+1) 24 then bif dK (List.length x.2.2.2.2.2.1+1) 8 then bif dK (List.length x.2.2.2.2.1+1) 8 then again (x_1.1,IntKind.wrap .i64 (x.2.1+(1 : Int)),(x.2.2.1.1++[List.length x.2.2.1.2+0],x.2.2.1.2++[some (x_2.2.1.set v17.toNat 1)]),x.2.2.2.1, x.2.2.2.2.1++[v17],x.2.2.2.2.2.1++[x_2.1],x.2.2.2.2.2.2.1,x.2.2.2.2.2.2.2.1,x.2.2.2.2.2.2.2.2.1, PUnit.unit) else none else none else none else none else none) fun (j:Int×List Int×PUnit->Option (List (Int×Int)×Int×PUnit))=>bif decide (v13.2.2<0) then lp (Int×List Int×PUnit) (List (Int×Int)×Int×PUnit) (fun (again:Int×List Int×PUnit->Option (List (Int×Int)×Int×PUnit)) (x:Int×List Int×PUnit) =>
 let v25:Bool:=inB x.1 x.2.1.length;
 let v26:Bool:=Nat.ble (Nat.succ x.1.toNat) x.2.1.length;bif decide (x.1<(↑x_1.2.1.length:Int)) then bif v25 then bif v26 then bif v25 then bif v26 then again (IntKind.wrap .i64 (x.1+1),x.2.1.set x.1.toNat (IntKind.wrap .i64 (0 - x.2.1.getD x.1.toNat 0)), PUnit.unit) else none else none else none else none else j ((-1),x.2.1,PUnit.unit)) (0,v21) else j (1,v21)) fun (j:Int×List Int×PUnit->Option (List (Int×Int)×Int×PUnit))=>bif decide (v13.2.1=1) then bif v15 then bif v16 then j (v12,v19.set x.1.toNat 1,PUnit.unit) else none else none else jn (Int×List Int×PUnit) (List (Int×Int)×Int×PUnit) (fun (x:Int×List Int×PUnit)=>j (x.1,x.2.1,PUnit.unit)) fun (j:Int×List Int×PUnit->Option (List (Int × Int)×Int×PUnit))=>bif decide (v13.2.1=2) then bif v15 then bif v16 then j (v12,v19.set x.1.toNat (-1),PUnit.unit) else none else none else j (x.1,v19,PUnit.unit) else none else none else none else none else af (aJ x.2.2.1 x.2.2.2.1 x.2.2.2.2.1 x.2.2.2.2.2.1 x.2.2.2.2.2.2.1 x.2.2.2.2.2.2.2.1 x.2.2.2.2.2.2.2.2.1) fun (y:(List Nat×List (Option (List Int)))×Int×List Int×List Int×List Int×Int×Int×Bool×PUnit)=>bif y.2.2.2.2.2.2.2.1 then some ([],12,PUnit.unit) else lp (List (Int×Int)×Int×PUnit) (List (Int×Int)×Int×PUnit) (fun (again:List (Int×Int)×Int×PUnit->Option (List (Int×Int)×Int×PUnit)) (x:List (Int×Int)×Int×PUnit)=>bif decide (x.2.1<(↑x0.2.length:Int)) then bif inB x.2.1 y.2.2.2.1.length then bif Nat.ble (Nat.succ x.2.1.toNat) y.2.2.2.1.length then af (bif List.all y.1.1 fun (x:Nat) =>fJ y.1.2 x then ao (List.map (fun (x:Nat)=>bA y.1.2 x) y.1.1,y.2.1,y.2.2.1,y.2.2.2.1,y.2.2.2.2.1, y.2.2.2.2.2.1,y.2.2.2.2.2.2.1) (IntKind.wrap .i64 (y.2.2.2.2.2.1+x.2.1)) else none) fun (t:Int)=>af (bif List.all y.1.1 fun (x:Nat)=>fJ y.1.2 x then aF (List.map (fun (x:Nat)=>bA y.1.2 x) y.1.1,y.2.1,y.2.2.1,y.2.2.2.1,y.2.2.2.2.1, y.2.2.2.2.2.1,y.2.2.2.2.2.2.1) (IntKind.wrap .i64 (y.2.2.2.1.getD x.2.1.toNat 0*t)) else none) fun (t:Int×Int) => bif dK (List.length x.1+1) 16 then again (x.1++[t],IntKind.wrap .i64 (x.2.1+1),PUnit.unit) else none else none else none else some (x.1,0,PUnit.unit)) ([],0,PUnit.unit)) ((↑x0.1.length:Int),0,([],[]),1,[],[],t,v8,IntKind.wrap .i64 (v8+(↑x0.2.length:Int)),PUnit.unit)) (0,0,PUnit.unit)
def dY (x0:(List Int)×List ((List Int)×Int×Int)):Option ((List (Int×Int))×Int×Unit):=md lpK jnK aP bN aZ aJ ao aF x0
abbrev t57:=((List Int)×List ((List Int)×Int×Int))->Option ((List (Int×Int))×Int×Unit)
def c57:Ctr:=⟨[T82],[],[],.tup [(.sl T47),i64],fun x _ _=>dY x.1⟩
theorem e57 (lp:Lp) (jn:Jn) (aP:t99) (bN:HC) (aZ:HN) (aJ:Ha) (ao:Gj) (aF:FM):∀(x:TsS c57.as) (F:TsF c57.fs) (y:TsS c57.cs),md lp jn aP bN aZ aJ ao aF x.1=FW lp jn (Dn.look [(102,Mg aJ)]) (tj vv uo (BH [(105,Lw aF),(106,K3 ao)] [] (gl prog shs pf its [(100,Lf bN),(99,k99 aP)] [(32,r32),(92,r92),(112,L4 aZ)]))) aj 4 57 f57 c57 x F y:=fun x F y=>by kernel_rfl
theorem PO:c57.ok prog 57:=Ctr.of_denS (an (oO (aa (aa (q32) (by kernel_rfl) Md) (by kernel_rfl) KJ) (fY (by kernel_rfl) KV (fY (by kernel_rfl) KH (lV))) (lH))) ax (lZ KA (oa)) (hl:=aj) (d:=4) func57 rfl (by decide) (e57 lpK jnK aP bN aZ aJ ao aF)
def nB (_:Lp) (_:Jn) (aO:t55) (dY:t57) (x0:(List (ByteArray×Int))×List (ByteArray×(List (ByteArray×Int×Int×Int))×Bool)):Option ((List (Int×Int))×Int×Unit) :=
 af (aO x0) fun (t:(List Int×List (List Int×Int×Int))×Int×PUnit)=>bif !decide (t.2.1=0) then some ([],t.2.1,PUnit.unit) else af (dY t.1) fun (t:List (Int×Int)×Int×PUnit)=>some (t.1,t.2.1,PUnit.unit)
def bV (x0:(List (ByteArray×Int))×List (ByteArray×(List (ByteArray×Int×Int×Int))×Bool)):Option ((List (Int×Int))×Int×Unit):=nB lpK jnK aO dY x0
abbrev t21:=((List (ByteArray×Int))×List (ByteArray×(List (ByteArray×Int×Int×Int))×Bool))->Option ((List (Int×Int))×Int×Unit)
def k21 (bV:t21):Ctr:=⟨[T25],[],[],.tup [(.sl T47),i64],fun x _ _=>bV x.1⟩
def c21:Ctr:=k21 bV
theorem e21 (lp:Lp) (jn:Jn) (aO:t55) (dY:t57):∀(x:TsS c21.as) (F:TsF c21.fs) (y:TsS c21.cs),nB lp jn aO dY x.1=bf lp jn (cx [(57,⟨[T82],[],[],.tup [(.sl T47),i64],fun x _ _=>dY x.1⟩),(55,k55 aO)] [(32,r32),(92,r92),(112,aU)]) aj 4 21 f21 c21 x F y:=fun x F y=>by kernel_rfl
theorem Ql:c21.ok prog 21:=Ctr.of_den (an (aa (aa (q32) (by kernel_rfl) LV) (by kernel_rfl) PO)) ax (hl:=aj) (d:=4) func21 rfl (by decide) (e21 lpK jnK aO dY)
def nh (_:Lp) (_:Jn) (cO:t20) (bV:t21) (x0:(List (ByteArray×Int))×List (ByteArray×(List (ByteArray×Int×Int×Int))×Bool)):Option (((List (Int×Int))×Bool×List (Int×Int))×Int×Unit) :=
 af (cO x0) fun (t:List (Int×Int)×Int×PUnit)=>bif decide (t.2.1=0) then some ((t.1,false,[]),0,PUnit.unit) else bif decide (t.2.1=(22 : Int)) then af (bV x0) fun (t:List (Int×Int)×Int×PUnit)=>bif !decide (t.2.1=0) then some (([],false,[]),t.2.1,PUnit.unit) else some (([], true,t.1),0,PUnit.unit) else some (([],false,[]),t.2.1,PUnit.unit)
def aV (x0:(List (ByteArray×Int))×List (ByteArray×(List (ByteArray×Int×Int×Int))×Bool)):Option (((List (Int×Int))×Bool×List (Int×Int))×Int×Unit):=nh lpK jnK cO bV x0
abbrev t13:=((List (ByteArray×Int))×List (ByteArray×(List (ByteArray×Int×Int×Int))×Bool))->Option (((List (Int×Int))×Bool×List (Int×Int))×Int×Unit)
def k13 (aV:t13):Ctr:=⟨[T25],[],[],.tup [T30,i64],fun x _ _=>aV x.1⟩
def c13:Ctr:=k13 aV
theorem e13 (lp:Lp) (jn:Jn) (cO:t20) (bV:t21):∀(x:TsS c13.as) (F:TsF c13.fs) (y:TsS c13.cs),nh lp jn cO bV x.1=bf lp jn (cx [(21,k21 bV),(20,k20 cO)] [(32,r32),(92,r92),(112,aU)]) aj 4 13 f13 c13 x F y:=fun x F y=>by kernel_rfl
theorem PP:c13.ok prog 13:=Ctr.of_den (an (aa (aa (q32) (by kernel_rfl) Qf) (by kernel_rfl) Ql)) ax (hl:=aj) (d:=4) func13 rfl (by decide) (e13 lpK jnK cO bV)
def gR (lp:Lp) (_:Jn) (x0:List (Int×Int)) (x1:List (Int×Int)):Option Bool :=
 bif !decide ((↑x0.length:Int)=(↑x1.length:Int)) then some false else lp (Int×PUnit) Bool (fun (again:Int×PUnit->Option Bool) (x:Int×PUnit)=>bif decide (x.1<(↑x0.length:Int)) then bif inB x.1 x0.length then bif inB x.1 x1.length then bif !(decide ((x0.getD x.1.toNat (0,(0 : Int))).1=(x1.getD x.1.toNat (0,0)).1)&&(decide ((x0.getD x.1.toNat (0,0)).2=(x1.getD x.1.toNat ((0 : Int),0)).2)&&true)) then some false else again (IntKind.wrap .i64 (x.1+1),PUnit.unit) else none else none else some true) (0,PUnit.unit)
def bL (x0:List (Int×Int)) (x1:List (Int×Int)):Option Bool:=gR lpK jnK x0 x1
abbrev t36:=(List (Int×Int))->(List (Int×Int))->Option (Bool)
def k36 (bL:t36):Ctr:=⟨[(.sl T47),(.sl T47)],[],[],.one .bool,fun x _ _=>bL x.1 x.2.1⟩
def c36:Ctr:=k36 bL
theorem e36 (lp:Lp) (jn:Jn):∀(x:TsS c36.as) (F:TsF c36.fs) (y:TsS c36.cs),gR lp jn x.1 x.2.1=bf lp jn (cx [] [(32,r32),(92,r92),(112,aU)]) aj 4 36 f36 c36 x F y:=fun x F y=>by kernel_rfl
theorem QE:c36.ok prog 36:=Ctr.of_den (an (q32)) ax (hl:=aj) (d:=4) func36 rfl (by decide) (e36 lpK jnK)
def kp (_:Lp) (_:Jn) (bL:t36) (x0:(List (Int×Int))×Bool×List (Int×Int)) (x1:(List (Int×Int))×Bool×List (Int×Int)):Option Bool :=
 
 let v4:Bool:=decide (x0.2.1=x1.2.1);
 let v5:Bool:=!v4||v4;bif v5 then bif v5 then bif v5&&v5 then af (bif v4 then bL x0.1 x1.1 else some false) fun (t:Bool) =>
 let v7:Bool:=bif v4 then t else false;
 let v8:Bool:=!v7||v7;bif v5 then bif v8 then bif v8 then bif v8&&v8 then af (bif v7 then bL x0.2.2 x1.2.2 else some false) fun (t:Bool)=>bif v8 then some (bif v7 then t else false) else none else none else none else none else none else none else none else none
def aL (x0:(List (Int×Int))×Bool×List (Int×Int)) (x1:(List (Int×Int))×Bool×List (Int×Int)):Option Bool:=kp lpK jnK bL x0 x1
abbrev t15:=((List (Int×Int))×Bool×List (Int×Int))->((List (Int×Int))×Bool×List (Int×Int))->Option (Bool)
def k15 (aL:t15):Ctr:=⟨[T30,T30],[],[],.one .bool,fun x _ _=>aL x.1 x.2.1⟩
def c15:Ctr:=k15 aL
theorem e15 (lp:Lp) (jn:Jn) (bL:t36):∀(x:TsS c15.as) (F:TsF c15.fs) (y:TsS c15.cs),kp lp jn bL x.1 x.2.1=bf lp jn (cx [(36,k36 bL)] [(32,r32),(92,r92),(112,aU)]) aj 4 15 f15 c15 x F y:=fun x F y=>by kernel_rfl
theorem Om:c15.ok prog 15:=Ctr.of_den (an (aa (q32) (by kernel_rfl) QE)) ax (hl:=aj) (d:=4) func15 rfl (by decide) (e15 lpK jnK bL)
def fG (lp:Lp) (_:Jn) (x0:List (Int×Int)) (f0:(((Int×Int)×Unit)->Option Bool)):Option Int :=
 lp (Int×PUnit) Int (fun (again:Int×PUnit->Option Int) (x:Int×PUnit)=>bif decide (x.1<(↑x0.length:Int)) then bif inB x.1 x0.length then af (f0 (x0.getD x.1.toNat (0,0),PUnit.unit)) fun (t:Bool)=>bif t then some x.1 else again (IntKind.wrap .i64 (x.1+1),PUnit.unit) else none else some (-1)) (0,PUnit.unit)
def bi (x0:List (Int×Int)) (f0:(((Int×Int)×Unit)->Option Bool)):Option Int:=fG lpK jnK x0 f0
abbrev t75:=(List (Int×Int))->((((Int×Int)×Unit)->Option Bool))->Option (Int)
def k75 (bi:t75):Ctr:=⟨[(.sl T47)],[([T47],.bool)],[],.one i64,fun x F _=>bi x.1 F.1⟩
def c75:Ctr:=k75 bi
theorem e75 (lp:Lp) (jn:Jn):∀(x:TsS c75.as) (F:TsF c75.fs) (y:TsS c75.cs),fG lp jn x.1 F.1=bf lp jn (cx [] [(32,r32),(92,r92),(112,aU)]) aj 4 75 f75 c75 x F y:=fun x F y=>by kernel_rfl
theorem Pm:c75.ok prog 75:=Ctr.of_den (an (q32)) ax (hl:=aj) (d:=4) func75 rfl (by decide) (e75 lpK jnK)
def fh (_:Lp) (_:Jn) (bi:t75) (x0:List (Int×Int)) (f0:(((Int×Int)×Unit)->Option Bool)):Option Bool :=
 af (bi x0 f0) fun (t:Int)=>some (decide (t>=0))
def ah (x0:List (Int×Int)) (f0:(((Int×Int)×Unit)->Option Bool)):Option Bool:=fh lpK jnK bi x0 f0
abbrev t34:=(List (Int×Int))->((((Int×Int)×Unit)->Option Bool))->Option (Bool)
def k34 (ah:t34):Ctr:=⟨[(.sl T47)],[([T47],.bool)],[],.one .bool,fun x F _=>ah x.1 F.1⟩
def c34:Ctr:=k34 ah
theorem e34 (lp:Lp) (jn:Jn) (bi:t75):∀(x:TsS c34.as) (F:TsF c34.fs) (y:TsS c34.cs),fh lp jn bi x.1 F.1=bf lp jn (cx [(75,k75 bi)] [(32,r32),(92,r92),(112,aU)]) aj 4 34 f34 c34 x F y:=fun x F y=>by kernel_rfl
theorem Gu:c34.ok prog 34:=Ctr.of_den (an (aa (q32) (by kernel_rfl) Pm)) ax (hl:=aj) (d:=4) func34 rfl (by decide) (e34 lpK jnK bi)
def jl (_:Lp) (_:Jn) (x0:(List (Int×Int))×Bool×List (Int×Int)):Option ((List (Int×Int))×(List (Int×Int))×Unit) :=
 bif x0.2.1 then some (x0.2.2,x0.1,PUnit.unit) else some (x0.1,x0.2.2,PUnit.unit)
def bo (x0:(List (Int×Int))×Bool×List (Int×Int)):Option ((List (Int×Int))×(List (Int×Int))×Unit):=jl lpK jnK x0
abbrev t49:=((List (Int×Int))×Bool×List (Int×Int))->Option ((List (Int×Int))×(List (Int×Int))×Unit)
def k49 (bo:t49):Ctr:=⟨[T30],[],[],.tup [(.sl T47),(.sl T47)],fun x _ _=>bo x.1⟩
def c49:Ctr:=k49 bo
theorem e49 (lp:Lp) (jn:Jn):∀(x:TsS c49.as) (F:TsF c49.fs) (y:TsS c49.cs),jl lp jn x.1=bf lp jn (cx [] [(32,r32),(92,r92),(112,aU)]) aj 4 49 f49 c49 x F y:=fun x F y=>by kernel_rfl
theorem ME:c49.ok prog 49:=Ctr.of_den (an (q32)) ax (hl:=aj) (d:=4) func49 rfl (by decide) (e49 lpK jnK)
def ii (_:Lp) (_:Jn) (al:t58) (x0:Int×Int):Option Bool :=
 af (al x0) fun (t:Bool)=>some !t
def cW (x0:Int×Int):Option Bool:=ii lpK jnK al x0
abbrev t93:=(Int×Int)->Option (Bool)
def c93:Ctr:=⟨[T47],[],[],.one .bool,fun x _ _=>cW x.1⟩
theorem e93 (lp:Lp) (jn:Jn) (al:t58):∀(x:TsS c93.as) (F:TsF c93.fs) (y:TsS c93.cs),ii lp jn al x.1=bf lp jn (cx [(58,k58 al)] [(32,r32),(92,r92),(112,aU)]) aj 4 93 f93 c93 x F y:=fun x F y=>by kernel_rfl
theorem O5:c93.ok prog 93:=Ctr.of_den (an (aa (q32) (by kernel_rfl) xN)) ax (hl:=aj) (d:=4) func93 rfl (by decide) (e93 lpK jnK al)
def jp (_:Lp) (_:Jn) (ah:t34) (cW:t93) (cj:t92) (x0:(List (Int×Int))×Bool×List (Int×Int)):Option Bool :=
 af (cj [x0.1,x0.2.2]) fun (t:List (Int×Int))=>af (ah t fun (x:(Int×Int)×PUnit)=>cW x.1) fun (t:Bool)=>some !t
def bn (x0:(List (Int×Int))×Bool×List (Int×Int)):Option Bool:=jp lpK jnK ah cW cj x0
abbrev t51:=((List (Int×Int))×Bool×List (Int×Int))->Option (Bool)
def k51 (bn:t51):Ctr:=⟨[T30],[],[],.one .bool,fun x _ _=>bn x.1⟩
def c51:Ctr:=k51 bn
theorem e51 (lp:Lp) (jn:Jn) (ah:t34) (cW:t93) (cj:t92):∀(x:TsS c51.as) (F:TsF c51.fs) (y:TsS c51.cs),jp lp jn ah cW cj x.1=bf lp jn (cx [(93,⟨[T47],[],[],.one .bool,fun x _ _=>cW x.1⟩),(34,k34 ah)] [(32,r32),(92,⟨[(.sl (.sl T47))],47,T47,fun x=>cj x.1⟩),(112,aU)]) aj 4 51 f51 c51 x F y:=fun x F y=>by kernel_rfl
theorem OA:c51.ok prog 51:=Ctr.of_den (an (aa (aa (q32) (by kernel_rfl) Gu) (by kernel_rfl) O5)) ax (hl:=aj) (d:=4) func51 rfl (by decide) (e51 lpK jnK ah cW cj)
def kG (_:Lp) (_:Jn) (al:t58) (x0:Int×Int):Option Bool :=
 af (al x0) fun (t:Bool)=>some !t
def dE (x0:Int×Int):Option Bool:=kG lpK jnK al x0
abbrev NJ:=(Int×Int)->Option (Bool)
def HA:Ctr:=⟨[T47],[],[],.one .bool,fun x _ _=>dE x.1⟩
theorem PW (lp:Lp) (jn:Jn) (al:t58):∀(x:TsS HA.as) (F:TsF HA.fs) (y:TsS HA.cs),kG lp jn al x.1=bf lp jn (cx [(58,k58 al)] [(32,r32),(92,r92),(112,aU)]) aj 4 168 f168 HA x F y:=fun x F y=>by kernel_rfl
theorem Nq:HA.ok prog 168:=Ctr.of_den (an (aa (q32) (by kernel_rfl) xN)) ax (hl:=aj) (d:=4) func168 rfl (by decide) (PW lpK jnK al)
def mX (_:Lp) (_:Jn) (ah:t34) (dE:NJ) (x0:List (Int×Int)):Option Bool :=
 af (ah x0 fun (x:(Int×Int)×PUnit)=>dE x.1) fun (t:Bool)=>some !t
def eD (x0:List (Int×Int)):Option Bool:=mX lpK jnK ah dE x0
abbrev Ny:=(List (Int×Int))->Option (Bool)
def Hf:Ctr:=⟨[(.sl T47)],[],[],.one .bool,fun x _ _=>eD x.1⟩
theorem O9 (lp:Lp) (jn:Jn) (ah:t34) (dE:NJ):∀(x:TsS Hf.as) (F:TsF Hf.fs) (y:TsS Hf.cs),mX lp jn ah dE x.1=bf lp jn (cx [(168,⟨[T47],[],[],.one .bool,fun x _ _=>dE x.1⟩),(34,k34 ah)] [(32,r32),(92,r92),(112,aU)]) aj 4 130 f130 Hf x F y:=fun x F y=>by kernel_rfl
theorem Od:Hf.ok prog 130:=Ctr.of_den (an (aa (aa (q32) (by kernel_rfl) Gu) (by kernel_rfl) Nq)) ax (hl:=aj) (d:=4) func130 rfl (by decide) (O9 lpK jnK ah dE)
def mY (_:Lp) (_:Jn) (bD:BN) (x0:Int) (x1:Int):Option (Int×Int) :=
 af (bD x0 x1) fun (t:Int×Int×PUnit)=>some (t.1,t.2.1)
def aH (x0:Int) (x1:Int):Option (Int×Int):=mY lpK jnK bD x0 x1
abbrev t61:=(Int)->(Int)->Option (Int×Int)
def k61 (aH:t61):Ctr:=⟨[(.int .u64),(.int .u64)],[],[],.one kY,fun x _ _=>aH x.1 x.2.1⟩
def c61:Ctr:=k61 aH
theorem e61 (lp:Lp) (jn:Jn) (bD:BN):∀(x:TsS c61.as) (F:TsF c61.fs) (y:TsS c61.cs),mY lp jn bD x.1 x.2.1=bf lp jn (cx [(107,JI bD)] [(32,r32),(92,r92),(112,aU)]) aj 4 61 f61 c61 x F y:=fun x F y=>by kernel_rfl
theorem LO:c61.ok prog 61:=Ctr.of_den (an (aa (q32) (by kernel_rfl) H3)) ax (hl:=aj) (d:=4) func61 rfl (by decide) (e61 lpK jnK bD)
def sQ (_:Lp) (_:Jn) (aY:t59) (aw:t60) (al:t58) (ba:t62) (aH:t61) (x0:Int×Int) (x1:Int×Int):Option ((Int×Int)×Int×Unit) :=
 
 let v4:Int:=IntKind.wrap .u64 x1.2;
 let v5:Int:=IntKind.wrap .u64 x0.2;af (al x0) fun (t:Bool) =>
 let v7:Bool:=!t;
 let v8:Bool:=!v7;
 let v9:Bool:=!v8||v8;bif v9 then af (bif v8 then al x1 else some false) fun (t:Bool)=>bif v9 then bif v7||v8 then bif bif v7 then true else !t then some (((0 : Int),0),1,PUnit.unit) else af (aw x0.1) fun (t:Int)=>af (aY t v4) fun (t:Int) =>
 let v13:Bool:=nzB t;af (aw x1.1) fun (t_1:Int)=>af (aY t_1 v5) fun (t_2:Int) =>
 let v16:Bool:=nzB t_2;af (aw x0.1) fun (t_3:Int)=>bif v13 then af (aw x1.1) fun (t_4:Int)=>bif v16 then af (aH (IntKind.wrap IntKind.u64 (Int.tdiv t_3 t)) (IntKind.wrap .u64 (Int.tdiv t_4 t_2))) fun (t_5:Int×Int) =>
 let v20:Bool:=decide (t_5.1>0);
 let v21:Bool:=decide (t_5.2>0);
 let v22:Bool:=!v20;
 let v23:Bool:=!v21||v21;
 let v24:Bool:=!v22||v22;bif v16 then bif v13 then af (aH (IntKind.wrap .u64 (Int.tdiv v5 t_2)) (IntKind.wrap .u64 (Int.tdiv v4 t))) fun (t:Int×Int) =>bif v24 then bif v24 then bif v20||v22 then bif bif v20 then true else decide (t.1>0) then some ((0,0),5,PUnit.unit) else bif v23 then bif v23 then bif v23 then bif v23 then bif v23&&v23 then bif v23 then af (ba (bif v21 then !decide (decide (x0.1<0)=decide (x1.1<0)) else false) t_5.2 t.2) fun (t:(Int×Int)×Int×PUnit)=>some (t.1,t.2.1,PUnit.unit) else none else none else none else none else none else none else none else none else none else none else none else none else none else none else none else none
def bZ (x0:Int×Int) (x1:Int×Int):Option ((Int×Int)×Int×Unit):=sQ lpK jnK aY aw al ba aH x0 x1
abbrev t23:=(Int×Int)->(Int×Int)->Option ((Int×Int)×Int×Unit)
def k23 (bZ:t23):Ctr:=⟨[T47,T47],[],[],.tup [T47,i64],fun x _ _=>bZ x.1 x.2.1⟩
def c23:Ctr:=k23 bZ
theorem e23 (lp:Lp) (jn:Jn) (aY:t59) (aw:t60) (al:t58) (ba:t62) (aH:t61):∀(x:TsS c23.as) (F:TsF c23.fs) (y:TsS c23.cs),sQ lp jn aY aw al ba aH x.1 x.2.1=bf lp jn (cx [(61,k61 aH),(62,k62 ba),(58,k58 al),(60,k60 aw),(59,k59 aY)] [(32,r32),(92,r92),(112,aU)]) aj 4 23 f23 c23 x F y:=fun x F y=>by kernel_rfl
theorem NP:c23.ok prog 23:=Ctr.of_den (an (aa (aa (aa (aa (aa (q32) (by kernel_rfl) Io) (by kernel_rfl) EK) (by kernel_rfl) xN) (by kernel_rfl) LF) (by kernel_rfl) LO)) ax (hl:=aj) (d:=4) func23 rfl (by decide) (e23 lpK jnK aY aw al ba aH)
def qM (_:Lp) (_:Jn) (x0:Int×Int) (x1:Int×Int):Option (Int×Int) :=
 bif decide ((0:Int)<=0)&&decide ((0:Int)<=1) then bif decide (0<=xM x0.2 x1.2 0)&&decide (xM x0.2 x1.2 0<=1) then some (BV x0.1 x1.1 (xM x0.2 x1.2 0),BV x0.2 x1.2 0) else none else none
def fS (x0:Int×Int) (x1:Int×Int):Option (Int×Int):=qM lpK jnK x0 x1
abbrev N2:=(Int×Int)->(Int×Int)->Option (Int×Int)
def EL:Ctr:=⟨[kY,kY],[],[],.one kY,fun x _ _=>fS x.1 x.2.1⟩
theorem PQ (lp:Lp) (jn:Jn):∀(x:TsS EL.as) (F:TsF EL.fs) (y:TsS EL.cs),qM lp jn x.1 x.2.1=bf lp jn (cx [] [(32,r32),(92,r92),(112,aU)]) aj 4 188 f188 EL x F y:=fun x F y=>by kernel_rfl
theorem OI:EL.ok prog 188:=Ctr.of_den (an (q32)) ax (hl:=aj) (d:=4) func188 rfl (by decide) (PQ lpK jnK)
def qO (_:Lp) (_:Jn) (x0:Int×Int) (x1:Int×Int):Option Bool :=
 
 let v4:Bool:=decide (x0.1=x1.1);
 let v5:Bool:=decide (x0.1<x1.1);
 let v6:Bool:=!v5;
 let v7:Bool:=!v6;
 let v8:Bool:=v6&&v4;
 let v9:Bool:=v7||v6;
 let v10:Bool:=!v8||v8;bif v9 then bif v9 then bif v9&&v9 then bif v9 then bif v10 then bif v10 then bif v10&&v10 then bif (v7||v9)&&(v7||(!v4||(v7||v8))) then bif v5 || v6 then some (bif v5 then true else bif v4 then decide (x0.2<x1.2) else false) else none else none else none else none else none else none else none else none else none
def cu (x0:Int×Int) (x1:Int×Int):Option Bool:=qO lpK jnK x0 x1
abbrev GU:=(Int×Int)->(Int×Int)->Option (Bool)
def K7 (cu:GU):Ctr:=⟨[kY,kY],[],[],.one .bool,fun x _ _=>cu x.1 x.2.1⟩
def Ej:Ctr:=K7 cu
theorem QW (lp:Lp) (jn:Jn):∀(x:TsS Ej.as) (F:TsF Ej.fs) (y:TsS Ej.cs),qO lp jn x.1 x.2.1=bf lp jn (cx [] [(32,r32),(92,r92),(112,aU)]) aj 4 189 f189 Ej x F y:=fun x F y=>by kernel_rfl
theorem KR:Ej.ok prog 189:=Ctr.of_den (an (q32)) ax (hl:=aj) (d:=4) func189 rfl (by decide) (QW lpK jnK)
def pq (_:Lp) (_:Jn) (x0:Int×Int) (x1:Int×Int):Option (Int×Int) :=
 bif decide ((0:Int)<=0)&&decide ((0:Int)<=1) then bif decide (0<=uU x0.2 x1.2 0)&&decide (uU x0.2 x1.2 0<=1) then some (vC x0.1 x1.1 (uU x0.2 x1.2 0),vC x0.2 x1.2 0) else none else none
def fe (x0:Int×Int) (x1:Int×Int):Option (Int×Int):=pq lpK jnK x0 x1
abbrev Oy:=(Int×Int)->(Int×Int)->Option (Int×Int)
def GE:Ctr:=⟨[kY,kY],[],[],.one kY,fun x _ _=>fe x.1 x.2.1⟩
theorem QN (lp:Lp) (jn:Jn):∀(x:TsS GE.as) (F:TsF GE.fs) (y:TsS GE.cs),pq lp jn x.1 x.2.1=bf lp jn (cx [] [(32,r32),(92,r92),(112,aU)]) aj 4 190 f190 GE x F y:=fun x F y=>by kernel_rfl
theorem OE:GE.ok prog 190:=Ctr.of_den (an (q32)) ax (hl:=aj) (d:=4) func190 rfl (by decide) (QN lpK jnK)
def rC (_:Lp) (_:Jn) (cC:Ek) (x0:Int×Int) (x1:Int):Option ((Int×Int)×Int×Unit) :=
 
 let v4:Bool:=nzB x1;bif v4 then af (cC (Int.tmod x0.1 x1) x0.2 x1) fun (t:Int×Int×PUnit)=>bif v4 then some ((IntKind.wrap .u64 (Int.tdiv x0.1 x1), t.1),t.2.1,PUnit.unit) else none else none
def eI (x0:Int×Int) (x1:Int):Option ((Int×Int)×Int×Unit):=rC lpK jnK cC x0 x1
abbrev LK:=(Int×Int)->(Int)->Option ((Int×Int)×Int×Unit)
def Nb (eI:LK):Ctr:=⟨[kY,(.int .u64)],[],[],.tup [kY,(.int .u64)],fun x _ _=>eI x.1 x.2.1⟩
def EJ:Ctr:=Nb eI
theorem OW (lp:Lp) (jn:Jn) (cC:Ek):∀(x:TsS EJ.as) (F:TsF EJ.fs) (y:TsS EJ.cs),rC lp jn cC x.1 x.2.1=bf lp jn (cx [(185,LH cC)] [(32,r32),(92,r92),(112,aU)]) aj 4 191 f191 EJ x F y:=fun x F y=>by kernel_rfl
theorem Ou:EJ.ok prog 191:=Ctr.of_den (an (aa (q32) (by kernel_rfl) KS)) ax (hl:=aj) (d:=4) func191 rfl (by decide) (OW lpK jnK cC)
def sS (_:Lp) (jn:Jn) (aY:t59) (aw:t60) (al:t58) (ba:t62) (aH:t61) (fS:N2) (cu:GU) (fe:Oy) (eI:LK) (x0:Int×Int) (x1:Int×Int):Option ((Int×Int)×Int×Unit) :=
 
 let v4:Int:=IntKind.wrap .u64 x0.2;
 let v5:Int:=IntKind.wrap .u64 x1.2;
 let v6:Bool:=decide (x0.1<0);af (al x0) fun (t:Bool) =>
 let v8:Bool:=!t;
 let v9:Bool:=!v8;
 let v10:Bool:=!v9||v9;bif v10 then af (bif v9 then al x1 else some false) fun (t:Bool)=>bif v10 then bif v8||v9 then bif bif v8 then true else !t then some (((0 : Int),0),1,PUnit.unit) else af (aY v4 v5) fun (t:Int) =>
 let v13:Bool:=nzB t;
 let v14:Int:=IntKind.wrap .u64 (Int.tdiv v4 t);af (aw x0.1) fun (t_1:Int)=>bif v13 then af (aH t_1 (IntKind.wrap .u64 (Int.tdiv v5 t))) fun (t_2:Int×Int)=>af (aw x1.1) fun (t_3:Int)=>bif v13 then af (aH t_3 v14) fun (t_4:Int×Int)=>jn (Bool×(Int×Int)×PUnit) ((Int×Int) × Int×PUnit) (fun (x:Bool×(Int×Int)×PUnit)=>bif decide (x.2.1.1=0)&&(decide (x.2.1.2=0)&&true) then some ((0,1),(0 : Int),PUnit.unit) else af (eI x.2.1 t) fun (t_5:(Int×Int)×Int×PUnit)=>af (aY t t_5.2.1) fun (t:Int)=>af (eI x.2.1 t) fun (t_6 : (Int×Int)×Int×PUnit) =>
 let v23:Bool:=decide (t_6.1.1>0);
 let v24:Bool:=!v23;
 let v25:Bool:=!v24||v24;bif v13 then bif nzB t then af (aH v14 (IntKind.wrap .u64 (Int.tdiv v5 t))) fun (t:Int×Int)=>bif v25 then bif v25 then bif v23 || v24 then bif bif v23 then true else decide (t.1>0) then some ((0,0),5,PUnit.unit) else af (ba x.1 t_6.1.2 t.2) fun (t:(Int × Int)×Int×PUnit)=>some (t.1,t.2.1,PUnit.unit) else none else none else none else none else none) fun (j:Bool×(Int×Int)×PUnit->Option ((Int×Int)×Int×PUnit)) =>bif decide (v6=decide (x1.1<0)) then af (fS t_2 t_4) fun (t:Int×Int)=>j (v6,t,PUnit.unit) else af (cu t_2 t_4) fun (t:Bool)=>jn (Bool × (Int×Int)×PUnit) ((Int×Int)×Int×PUnit) (fun (x:Bool×(Int×Int)×PUnit)=>j (x.1,x.2.1,PUnit.unit)) fun (j:Bool×(Int×Int)×PUnit->Option ((Int×Int) × Int×PUnit))=>bif t then af (fe t_4 t_2) fun (t:Int×Int)=>j (!v6,t,PUnit.unit) else af (fe t_2 t_4) fun (t:Int×Int)=>j (v6,t,PUnit.unit) else none else none else none else none else none
def bR (x0:Int×Int) (x1:Int×Int):Option ((Int×Int)×Int×Unit):=sS lpK jnK aY aw al ba aH fS cu fe eI x0 x1
abbrev Bo:=(Int×Int)->(Int×Int)->Option ((Int×Int)×Int×Unit)
def II (bR:Bo):Ctr:=⟨[T47,T47],[],[],.tup [T47,i64],fun x _ _=>bR x.1 x.2.1⟩
def Fc:Ctr:=II bR
theorem OZ (lp:Lp) (jn:Jn) (aY:t59) (aw:t60) (al:t58) (ba:t62) (aH:t61) (fS:N2) (cu:GU) (fe:Oy) (eI:LK):∀(x:TsS Fc.as) (F:TsF Fc.fs) (y:TsS Fc.cs),sS lp jn aY aw al ba aH fS cu fe eI x.1 x.2.1=bf lp jn (cx [(191,Nb eI),(190,⟨[kY,kY],[],[],.one kY,fun x _ _=>fe x.1 x.2.1⟩),(189,K7 cu),(188,⟨[kY,kY],[],[],.one kY,fun x _ _=>fS x.1 x.2.1⟩),(61,k61 aH),(62,k62 ba),(58,k58 al),(60,k60 aw),(59,k59 aY)] [(32,r32),(92,r92),(112,aU)]) aj 4 171 f171 Fc x F y:=fun x F y=>by kernel_rfl
theorem HT:Fc.ok prog 171:=Ctr.of_den (an (aa (aa (aa (aa (aa (aa (aa (aa (aa (q32) (by kernel_rfl) Io) (by kernel_rfl) EK) (by kernel_rfl) xN) (by kernel_rfl) LF) (by kernel_rfl) LO) (by kernel_rfl) OI) (by kernel_rfl) KR) (by kernel_rfl) OE) (by kernel_rfl) Ou)) ax (hl:=aj) (d:=4) func171 rfl (by decide) (OZ lpK jnK aY aw al ba aH fS cu fe eI)
def kB (lp:Lp) (jn:Jn) (bZ:t23) (bR:Bo) (x0:Int) (x1:List Int) (x2:List (Int×Int)):Option (Int×(Int×Int)) :=
 lp (Int×Int×(Int×Int)×(Int×Int)×PUnit) (Int×Int×Int) (fun (again:Int×Int×(Int×Int)×(Int×Int)×PUnit->Option (Int×Int×Int)) (x:Int×Int×(Int×Int) × (Int×Int)×PUnit)=>bif decide (x.1<(↑x1.length:Int)) then bif inB x.1 x1.length then bif inB x.1 x2.length then af (bZ (x1.getD x.1.toNat 0,1) (x2.getD x.1.toNat (0,0))) fun (t:(Int×Int)×Int×PUnit)=>jn (Int×(Int×Int)×PUnit) (Int×Int×Int) (fun (x_1:Int×(Int×Int)×PUnit)=>bif !decide (x_1.1=0) then some (x_1.1,0,1) else again (IntKind.wrap .i64 (x.1+1), x.2.1,x.2.2.1,x_1.2.1,PUnit.unit)) fun (j:Int×(Int×Int)×PUnit->Option (Int×Int×Int))=>bif decide (t.2.1=0) then af (bR x.2.2.2.1 t.1) fun (t:(Int×Int)×Int×PUnit)=>j (t.2.1,t.1,PUnit.unit) else j (t.2.1,t.1,PUnit.unit) else none else none else some (x.2.1, x.2.2.2.1)) (0,x0,(0,0),(0,1),PUnit.unit)
def ci (x0:Int) (x1:List Int) (x2:List (Int×Int)):Option (Int×(Int×Int)):=kB lpK jnK bZ bR x0 x1 x2
abbrev L6:=(Int)->(List Int)->(List (Int×Int))->Option (Int×(Int×Int))
def No (ci:L6):MCtr:=⟨LY,[(.sl i64),(.sl T47)],.one T47,fun x y=>ci x y.1 y.2.1⟩
def J1:MCtr:=No ci
theorem Pq (lp:Lp) (jn:Jn) (bZ:t23) (bR:Bo):∀(x:J1.s.T) (y:TsS J1.as),kB lp jn bZ bR x y.1 y.2.1=Lb lp jn (cx [(171,II bR),(23,k23 bZ)] [(32,r32),(92,r92),(112,aU)]) aj 4 133 f133 J1 x y:=fun x y=>by kernel_rfl
theorem OJ:J1.ok prog 133:=MCtr.of_den (an (aa (aa (q32) (by kernel_rfl) NP) (by kernel_rfl) HT)) ax (hl:=aj) (d:=4) func133 rfl (by decide) rfl (Pq lpK jnK bZ bR)
def so (_:Lp) (jn:Jn) (aw:t60) (al:t58) (aH:t61) (cu:GU) (x0:Int×Int) (x1:Int×Int):Option (Int×Int×Unit) :=
 
 let v4:Bool:=decide (x0.1<0);af (al x0) fun (t:Bool) =>
 let v6:Bool:=!t;
 let v7:Bool:=!v6;
 let v8:Bool:=!v7||v7;bif v8 then af (bif v7 then al x1 else some false) fun (t:Bool)=>bif v8 then bif v6||v7 then bif bif v6 then true else !t then some ((0 : Int),1,PUnit.unit) else af (aw x0.1) fun (t:Int)=>af (aH t (IntKind.wrap .u64 x1.2)) fun (t:Int×Int)=>af (aw x1.1) fun (t_1:Int)=>af (aH t_1 (IntKind.wrap .u64 x0.2)) fun (t_2:Int×Int)=>bif !decide (v4=decide (x1.1<0)) then bif v4 then some ((-1), 0,PUnit.unit) else some (1,0,PUnit.unit) else jn ((Int×Int)×(Int×Int)×PUnit) (Int×Int×PUnit) (fun (x:(Int×Int)×(Int×Int)×PUnit)=>af (cu x.1 x.2.1) fun (t:Bool)=>bif t then some ((-1),0,PUnit.unit) else af (cu x.2.1 x.1) fun (t:Bool)=>bif t then some (1, 0,PUnit.unit) else some (0,0,PUnit.unit)) fun (j:(Int×Int)×(Int×Int)×PUnit->Option (Int×Int×PUnit))=>bif v4 then j (t_2,t,PUnit.unit) else j (t,t_2,PUnit.unit) else none else none else none
def gG (x0:Int×Int) (x1:Int×Int):Option (Int×Int×Unit):=so lpK jnK aw al aH cu x0 x1
abbrev OH:=(Int×Int)->(Int×Int)->Option (Int×Int×Unit)
def E7:Ctr:=⟨[T47,T47],[],[],.tup [i64,i64],fun x _ _=>gG x.1 x.2.1⟩
theorem Qj (lp:Lp) (jn:Jn) (aw:t60) (al:t58) (aH:t61) (cu:GU):∀(x:TsS E7.as) (F:TsF E7.fs) (y:TsS E7.cs),so lp jn aw al aH cu x.1 x.2.1=bf lp jn (cx [(189,K7 cu),(61,k61 aH),(58,k58 al),(60,k60 aw)] [(32,r32),(92,r92),(112,aU)]) aj 4 187 f187 E7 x F y:=fun x F y=>by kernel_rfl
theorem M9:E7.ok prog 187:=Ctr.of_den (an (aa (aa (aa (aa (q32) (by kernel_rfl) EK) (by kernel_rfl) xN) (by kernel_rfl) LO) (by kernel_rfl) KR)) ax (hl:=aj) (d:=4) func187 rfl (by decide) (Qj lpK jnK aw al aH cu)
def px (_:Lp) (_:Jn) (gG:OH) (x0:Int×Int) (x1:Int):Option Int :=
 af (gG x0 (x1,1)) fun (t:Int×Int×PUnit)=>some t.1
def fo (x0:Int×Int) (x1:Int):Option Int:=px lpK jnK gG x0 x1
abbrev MY:=(Int×Int)->(Int)->Option (Int)
def Gf:Ctr:=⟨[T47,i64],[],[],.one i64,fun x _ _=>fo x.1 x.2.1⟩
theorem QK (lp:Lp) (jn:Jn) (gG:OH):∀(x:TsS Gf.as) (F:TsF Gf.fs) (y:TsS Gf.cs),px lp jn gG x.1 x.2.1=bf lp jn (cx [(187,⟨[T47,T47],[],[],.tup [i64,i64],fun x _ _=>gG x.1 x.2.1⟩)] [(32,r32),(92,r92),(112,aU)]) aj 4 169 f169 Gf x F y:=fun x F y=>by kernel_rfl
theorem M4:Gf.ok prog 169:=Ctr.of_den (an (aa (q32) (by kernel_rfl) M9)) ax (hl:=aj) (d:=4) func169 rfl (by decide) (QK lpK jnK gG)
def lO (lp:Lp) (_:Jn) (x0:(List Int)×List ((List Int)×Int×Int)) (x1:Int):Option (List Int) :=
 lp (List Int×Int×PUnit) (List Int) (fun (again:List Int×Int×PUnit->Option (List Int)) (x:List Int×Int×PUnit)=>bif decide (x.2.1<(↑x0.2.length:Int)) then bif inB x.2.1 x0.2.length then bif inB x1 (List.length (x0.2.getD x.2.1.toNat ([],0,0)).1) then bif dK (List.length x.1+(1 : Nat)) 8 then again (x.1++[List.getD (x0.2.getD x.2.1.toNat ([],0,0)).1 x1.toNat 0],IntKind.wrap .i64 (x.2.1 + 1),PUnit.unit) else none else none else none else some x.1) ([],0,PUnit.unit)
def dX (x0:(List Int)×List ((List Int)×Int×Int)) (x1:Int):Option (List Int):=lO lpK jnK x0 x1
abbrev MU:=((List Int)×List ((List Int)×Int×Int))->(Int)->Option (List Int)
def E6:Ctr:=⟨[T82,i64],[],[],.one (.sl i64),fun x _ _=>dX x.1 x.2.1⟩
theorem Qh (lp:Lp) (jn:Jn):∀(x:TsS E6.as) (F:TsF E6.fs) (y:TsS E6.cs),lO lp jn x.1 x.2.1=bf lp jn (cx [] [(32,r32),(92,r92),(112,aU)]) aj 4 170 f170 E6 x F y:=fun x F y=>by kernel_rfl
theorem M5:E6.ok prog 170:=Ctr.of_den (an (q32)) ax (hl:=aj) (d:=4) func170 rfl (by decide) (Qh lpK jnK)
def jx (_:Lp) (_:Jn) (_:Int):Option Int :=
 some 0
def cR (x0:Int):Option Int:=jx lpK jnK x0
abbrev Nc:=(Int)->Option (Int)
def Hr:Ctr:=⟨[i64],[],[],.one i64,fun x _ _=>cR x.1⟩
theorem QT (lp:Lp) (jn:Jn):∀(x:TsS Hr.as) (F:TsF Hr.fs) (y:TsS Hr.cs),jx lp jn x.1=bf lp jn (cx [] [(32,r32),(92,r92),(112,aU)]) aj 4 132 f132 Hr x F y:=fun x F y=>by kernel_rfl
theorem Oi:Hr.ok prog 132:=Ctr.of_den (an (q32)) ax (hl:=aj) (d:=4) func132 rfl (by decide) (QT lpK jnK)
def lP (lp:Lp) (_:Jn) (x0:(List Int)×List ((List Int)×Int×Int)):Option (List Int) :=
 lp (List Int×Int×PUnit) (List Int) (fun (again:List Int×Int×PUnit->Option (List Int)) (x:List Int×Int×PUnit)=>bif decide (x.2.1<(↑x0.2.length:Int)) then bif inB x.2.1 x0.2.length then bif dK (List.length x.1+1) 8 then again (x.1++[(x0.2.getD x.2.1.toNat ([],0,(0 : Int))).2.2],IntKind.wrap .i64 (x.2.1+1),PUnit.unit) else none else none else some x.1) ([],0,PUnit.unit)
def dR (x0:(List Int)×List ((List Int)×Int×Int)):Option (List Int):=lP lpK jnK x0
abbrev MJ:=((List Int)×List ((List Int)×Int×Int))->Option (List Int)
def Gm:Ctr:=⟨[T82],[],[],.one (.sl i64),fun x _ _=>dR x.1⟩
theorem QS (lp:Lp) (jn:Jn):∀(x:TsS Gm.as) (F:TsF Gm.fs) (y:TsS Gm.cs),lP lp jn x.1=bf lp jn (cx [] [(32,r32),(92,r92),(112,aU)]) aj 4 134 f134 Gm x F y:=fun x F y=>by kernel_rfl
theorem Oa:Gm.ok prog 134:=Ctr.of_den (an (q32)) ax (hl:=aj) (d:=4) func134 rfl (by decide) (QS lpK jnK)
def ls (lp:Lp) (_:Jn) (x0:(List Int)×List ((List Int)×Int×Int)) (x1:List (Int×Int)):Option Bool :=
 lp (Int×PUnit) Bool (fun (again:Int×PUnit->Option Bool) (x:Int×PUnit) =>
 let v6:Bool:=inB x.1 x1.length;
 let v7:Bool:=decide ((x0.2.getD x.1.toNat ([],0,0)).2.1=1);
 let v8:Bool:=decide ((x0.2.getD x.1.toNat ([],0,0)).2.1=2);
 let v9:Bool:=!v7;
 let v10:Bool:=bif v7 then decide ((x1.getD x.1.toNat (0,0)).1>0) else false;
 let v11:Bool:=!v10;
 let v12:Bool:=!v11;
 let v13:Bool:=v9||v7;
 let v14:Bool:=v11&&v8;
 let v15:Bool:=!v14;
 let v16:Bool:=v12||v11;
 let v17:Bool:=v15||v14;bif decide (x.1<(↑x0.2.length:Int)) then bif inB x.1 x0.2.length then bif v13&&(v13&&(v9||v6)) then bif v13 then bif v13 then bif v13 then bif v13 then bif v16 then bif v16 then bif v16 then bif v17&&(v17&&(v15||v6)) then bif v17 then bif v17 then bif v17 then bif (v12||v16)&&(v12||(!v8||(v12 || v14))) then bif v10||v11 then bif bif v10 then true else bif v8 then decide ((x1.getD x.1.toNat (0,0)).1<0) else false then some false else again (IntKind.wrap .i64 (x.1+1),PUnit.unit) else none else none else none else none else none else none else none else none else none else none else none else none else none else none else none else some true) (0,PUnit.unit)
def dU (x0:(List Int)×List ((List Int)×Int×Int)) (x1:List (Int×Int)):Option Bool:=ls lpK jnK x0 x1
abbrev M1:=((List Int)×List ((List Int)×Int×Int))->(List (Int×Int))->Option (Bool)
def Ey:Ctr:=⟨[T82,(.sl T47)],[],[],.one .bool,fun x _ _=>dU x.1 x.2.1⟩
theorem QV (lp:Lp) (jn:Jn):∀(x:TsS Ey.as) (F:TsF Ey.fs) (y:TsS Ey.cs),ls lp jn x.1 x.2.1=bf lp jn (cx [] [(32,r32),(92,r92),(112,aU)]) aj 4 135 f135 Ey x F y:=fun x F y=>by kernel_rfl
theorem NS:Ey.ok prog 135:=Ctr.of_den (an (q32)) ax (hl:=aj) (d:=4) func135 rfl (by decide) (QV lpK jnK)
def kK (lp:Lp) (_:Jn) (aP:t99) (eD:Ny) (fo:MY) (dX:MU) (cR:Nc) (dR:MJ) (dU:M1) (ci:L6) (x0:(List Int)×List ((List Int)×Int×Int)) (x1:List (Int×Int)):Option (Bool×Int×Unit) :=
 af (aP x0) fun (t:Bool) =>
 let v5:Bool:=!t;
 let v6:Bool:=!v5;
 let v7:Bool:=!v6||v6;bif v7 then af (bif v6 then eD x1 else some false) fun (t:Bool)=>bif v7 then bif v5||v6 then bif bif v5 then true else !t then some (false, 1,PUnit.unit) else bif !decide ((↑x1.length:Int)=(↑x0.2.length:Int)) then some (false,3,PUnit.unit) else lp (Bool×Int×Int×PUnit) (Bool × Int×PUnit) (fun (again:Bool×Int×Int×PUnit->Option (Bool×Int×PUnit)) (x:Bool×Int×Int×PUnit)=>bif decide (x.2.1<(↑x0.1.length:Int)) then af (dX x0 x.2.1) fun (t:List Int)=>af (ci x.2.2.1 t x1) fun (t:Int×Int×Int)=>af (cR x.2.1) fun (t_1:Int)=>af (fo t.2 t_1) fun (t_2:Int) =>
 let v15:Bool:=decide (t_2<=0);bif !v15||v15 then again (bif v15 then x.1 else false,IntKind.wrap .i64 (x.2.1+1),t.1,PUnit.unit) else none else af (dR x0) fun (t:List Int)=>af (ci x.2.2.1 t x1) fun (t:Int×Int×Int) =>
 let v13:Bool:=decide (t.2.1>0);
 let v14:Bool:=!v13||v13;bif v14&&v14 then af (bif v13 then dU x0 x1 else some false) fun (t_1:Bool) =>
 let v16:Bool:=bif v13 then t_1 else false;
 let v17:Bool:=bif v16 then x.1 else false;
 let v18:Bool:=!v17||v17;bif v14 then bif !v16||v16 then bif v18 then bif v18 then bif v18 then some (bif v17 then decide (t.1=0) else false,t.1,PUnit.unit) else none else none else none else none else none else none) (true,0,0,PUnit.unit) else none else none else none
def cH (x0:(List Int)×List ((List Int)×Int×Int)) (x1:List (Int×Int)):Option (Bool×Int×Unit):=kK lpK jnK aP eD fo dX cR dR dU ci x0 x1
abbrev t94:=((List Int)×List ((List Int)×Int×Int))->(List (Int×Int))->Option (Bool×Int×Unit)
def k94 (cH:t94):Ctr:=⟨[T82,(.sl T47)],[],[],.tup [.bool,i64],fun x _ _=>cH x.1 x.2.1⟩
def c94:Ctr:=k94 cH
theorem e94 (lp:Lp) (jn:Jn) (aP:t99) (eD:Ny) (fo:MY) (dX:MU) (cR:Nc) (dR:MJ) (dU:M1) (ci:L6):∀(x:TsS c94.as) (F:TsF c94.fs) (y:TsS c94.cs),kK lp jn aP eD fo dX cR dR dU ci x.1 x.2.1=bf lp jn (tj vv uo (BH [] [(133,No ci)] (gl prog shs pf its [(135,⟨[T82,(.sl T47)],[],[],.one .bool,fun x _ _=>dU x.1 x.2.1⟩),(134,⟨[T82],[],[],.one (.sl i64),fun x _ _=>dR x.1⟩),(132,⟨[i64],[],[],.one i64,fun x _ _=>cR x.1⟩),(170,⟨[T82,i64],[],[],.one (.sl i64),fun x _ _=>dX x.1 x.2.1⟩),(169,⟨[T47,i64],[],[],.one i64,fun x _ _=>fo x.1 x.2.1⟩),(130,⟨[(.sl T47)],[],[],.one .bool,fun x _ _=>eD x.1⟩),(99,k99 aP)] [(32,r32),(92,r92),(112,aU)]))) aj 4 94 f94 c94 x F y:=fun x F y=>by kernel_rfl
theorem P6:c94.ok prog 94:=Ctr.of_den (an (oO (aa (aa (aa (aa (aa (aa (aa (q32) (by kernel_rfl) Md) (by kernel_rfl) Od) (by kernel_rfl) M4) (by kernel_rfl) M5) (by kernel_rfl) Oi) (by kernel_rfl) Oa) (by kernel_rfl) NS) (lV) (CN (by kernel_rfl) OJ (lH)))) ax (hl:=aj) (d:=4) func94 rfl (by decide) (e94 lpK jnK aP eD fo dX cR dR dU ci)
def oh (_:Lp) (_:Jn) (aO:t55) (cH:t94) (x0:(List (ByteArray×Int))×List (ByteArray×(List (ByteArray×Int×Int×Int))×Bool)) (x1:List (Int×Int)):Option (Bool×Int×Unit) :=
 af (aO x0) fun (t:(List Int×List (List Int×Int×Int))×Int×PUnit)=>bif !decide (t.2.1=0) then some (false,t.2.1,PUnit.unit) else af (cH t.1 x1) fun (t:Bool×Int×PUnit)=>some (t.1,t.2.1,PUnit.unit)
def dL (x0:(List (ByteArray×Int))×List (ByteArray×(List (ByteArray×Int×Int×Int))×Bool)) (x1:List (Int×Int)):Option (Bool×Int×Unit):=oh lpK jnK aO cH x0 x1
abbrev t52:=((List (ByteArray×Int))×List (ByteArray×(List (ByteArray×Int×Int×Int))×Bool))->(List (Int×Int))->Option (Bool×Int×Unit)
def k52 (dL:t52):Ctr:=⟨[T25,(.sl T47)],[],[],.tup [.bool,i64],fun x _ _=>dL x.1 x.2.1⟩
def c52:Ctr:=k52 dL
theorem e52 (lp:Lp) (jn:Jn) (aO:t55) (cH:t94):∀(x:TsS c52.as) (F:TsF c52.fs) (y:TsS c52.cs),oh lp jn aO cH x.1 x.2.1=bf lp jn (cx [(94,k94 cH),(55,k55 aO)] [(32,r32),(92,r92),(112,aU)]) aj 4 52 f52 c52 x F y:=fun x F y=>by kernel_rfl
theorem Qs:c52.ok prog 52:=Ctr.of_den (an (aa (aa (q32) (by kernel_rfl) LV) (by kernel_rfl) P6)) ax (hl:=aj) (d:=4) func52 rfl (by decide) (e52 lpK jnK aO cH)
def kD (_:Lp) (_:Jn) (al:t58) (x0:Int×Int):Option Bool :=
 af (al x0) fun (t:Bool)=>some !t
def dx (x0:Int×Int):Option Bool:=kD lpK jnK al x0
abbrev NX:=(Int×Int)->Option (Bool)
def GH:Ctr:=⟨[T47],[],[],.one .bool,fun x _ _=>dx x.1⟩
theorem Pk (lp:Lp) (jn:Jn) (al:t58):∀(x:TsS GH.as) (F:TsF GH.fs) (y:TsS GH.cs),kD lp jn al x.1=bf lp jn (cx [(58,k58 al)] [(32,r32),(92,r92),(112,aU)]) aj 4 172 f172 GH x F y:=fun x F y=>by kernel_rfl
theorem MZ:GH.ok prog 172:=Ctr.of_den (an (aa (q32) (by kernel_rfl) xN)) ax (hl:=aj) (d:=4) func172 rfl (by decide) (Pk lpK jnK al)
def ng (_:Lp) (_:Jn) (bq:t72) (ah:t34) (dx:NX) (x0:(List (ByteArray×Int))×List (ByteArray×(List (ByteArray×Int×Int×Int))×Bool)) (x1:List (Int×Int)):Option ((List (List Int))×Int×Unit) :=
 af (bq x0) fun (t:List (List Int)×Int×PUnit)=>bif !decide (t.2.1=0) then some ([],t.2.1,PUnit.unit) else af (ah x1 fun (x : (Int×Int)×PUnit)=>dx x.1) fun (t_1:Bool)=>bif t_1 then some ([],1,PUnit.unit) else bif !decide ((↑x1.length:Int)=(↑x0.2.length : Int)) then some ([],3,PUnit.unit) else some (t.1,0,PUnit.unit)
def di (x0:(List (ByteArray×Int))×List (ByteArray×(List (ByteArray×Int×Int×Int))×Bool)) (x1:List (Int×Int)):Option ((List (List Int))×Int×Unit):=ng lpK jnK bq ah dx x0 x1
abbrev Ma:=((List (ByteArray×Int))×List (ByteArray×(List (ByteArray×Int×Int×Int))×Bool))->(List (Int×Int))->Option ((List (List Int))×Int×Unit)
def M0 (di:Ma):Ctr:=⟨[T25,(.sl T47)],[],[],.tup [(.sl (.sl i64)),i64],fun x _ _=>di x.1 x.2.1⟩
def F3:Ctr:=M0 di
theorem PF (lp:Lp) (jn:Jn) (bq:t72) (ah:t34) (dx:NX):∀(x:TsS F3.as) (F:TsF F3.fs) (y:TsS F3.cs),ng lp jn bq ah dx x.1 x.2.1=bf lp jn (cx [(172,⟨[T47],[],[],.one .bool,fun x _ _=>dx x.1⟩),(34,k34 ah),(72,k72 bq)] [(32,r32),(92,r92),(112,aU)]) aj 4 136 f136 F3 x F y:=fun x F y=>by kernel_rfl
theorem NN:F3.ok prog 136:=Ctr.of_den (an (aa (aa (aa (q32) (by kernel_rfl) MF) (by kernel_rfl) Gu) (by kernel_rfl) MZ)) ax (hl:=aj) (d:=4) func136 rfl (by decide) (PF lpK jnK bq ah dx)
def qP (_:Lp) (_:Jn) (x0:Int):Option (Int×Int) :=
 some (x0,1)
def ct (x0:Int):Option (Int×Int):=qP lpK jnK x0
abbrev Ee:=(Int)->Option (Int×Int)
def KX (ct:Ee):Ctr:=⟨[i64],[],[],.one T47,fun x _ _=>ct x.1⟩
def Ge:Ctr:=KX ct
theorem QF (lp:Lp) (jn:Jn):∀(x:TsS Ge.as) (F:TsF Ge.fs) (y:TsS Ge.cs),qP lp jn x.1=bf lp jn (cx [] [(32,r32),(92,r92),(112,aU)]) aj 4 137 f137 Ge x F y:=fun x F y=>by kernel_rfl
theorem KC:Ge.ok prog 137:=Ctr.of_den (an (q32)) ax (hl:=aj) (d:=4) func137 rfl (by decide) (QF lpK jnK)
def ov (_:Lp) (_:Jn) (bZ:t23) (bR:Bo) (ct:Ee) (x0:Int×Int) (x1:Int) (x2:Int×Int):Option ((Int×Int)×Int×Unit) :=
 af (ct x1) fun (t:Int×Int)=>af (bZ t x2) fun (t:(Int×Int)×Int×PUnit)=>bif !decide (t.2.1=0) then some ((0,0),t.2.1, PUnit.unit) else af (bR x0 t.1) fun (t:(Int×Int)×Int×PUnit)=>some (t.1,t.2.1,PUnit.unit)
def dP (x0:Int×Int) (x1:Int) (x2:Int×Int):Option ((Int×Int)×Int×Unit):=ov lpK jnK bZ bR ct x0 x1 x2
abbrev L0:=(Int×Int)->(Int)->(Int×Int)->Option ((Int×Int)×Int×Unit)
def M6 (dP:L0):Ctr:=⟨[T47,i64,T47],[],[],.tup [T47,i64],fun x _ _=>dP x.1 x.2.1 x.2.2.1⟩
def Gv:Ctr:=M6 dP
theorem PN (lp:Lp) (jn:Jn) (bZ:t23) (bR:Bo) (ct:Ee):∀(x:TsS Gv.as) (F:TsF Gv.fs) (y:TsS Gv.cs),ov lp jn bZ bR ct x.1 x.2.1 x.2.2.1=bf lp jn (cx [(137,KX ct),(171,II bR),(23,k23 bZ)] [(32,r32),(92,r92),(112,aU)]) aj 4 138 f138 Gv x F y:=fun x F y=>by kernel_rfl
theorem Nv:Gv.ok prog 138:=Ctr.of_den (an (aa (aa (aa (q32) (by kernel_rfl) NP) (by kernel_rfl) HT) (by kernel_rfl) KC)) ax (hl:=aj) (d:=4) func138 rfl (by decide) (PN lpK jnK bZ bR ct)
def sH (_:Lp) (_:Jn) (al:t58) (bR:Bo) (x0:Int×Int) (x1:Int×Int):Option ((Int×Int)×Int×Unit) :=
 af (al x0) fun (t:Bool) =>
 let v5:Bool:=!t;
 let v6:Bool:=!v5;
 let v7:Bool:=!v6||v6;bif v7 then af (bif v6 then al x1 else some false) fun (t:Bool)=>bif v7 then bif v5||v6 then bif bif v5 then true else !t then some (((0 : Int),0),1,PUnit.unit) else af (bR x0 (IntKind.wrap .i64 (0 - x1.1),x1.2)) fun (t:(Int×Int)×Int×PUnit)=>some (t.1,t.2.1, PUnit.unit) else none else none else none
def gI (x0:Int×Int) (x1:Int×Int):Option ((Int×Int)×Int×Unit):=sH lpK jnK al bR x0 x1
abbrev NT:=(Int×Int)->(Int×Int)->Option ((Int×Int)×Int×Unit)
def Hg:Ctr:=⟨[T47,T47],[],[],.tup [T47,i64],fun x _ _=>gI x.1 x.2.1⟩
theorem PM (lp:Lp) (jn:Jn) (al:t58) (bR:Bo):∀(x:TsS Hg.as) (F:TsF Hg.fs) (y:TsS Hg.cs),sH lp jn al bR x.1 x.2.1=bf lp jn (cx [(171,II bR),(58,k58 al)] [(32,r32),(92,r92),(112,aU)]) aj 4 139 f139 Hg x F y:=fun x F y=>by kernel_rfl
theorem OP:Hg.ok prog 139:=Ctr.of_den (an (aa (aa (q32) (by kernel_rfl) xN) (by kernel_rfl) HT)) ax (hl:=aj) (d:=4) func139 rfl (by decide) (PM lpK jnK al bR)
def js (lp:Lp) (_:Jn) (di:Ma) (ct:Ee) (dP:L0) (gI:NT) (x0:(List (ByteArray×Int))×List (ByteArray×(List (ByteArray×Int×Int×Int))×Bool)) (x1:List (Int×Int)):Option ((List (Int×Int))×Int×Unit) :=
 af (di x0 x1) fun (t:List (List Int)×Int×PUnit)=>bif !decide (t.2.1=0) then some ([],t.2.1,PUnit.unit) else lp (List (Int×Int)×Int×Int × PUnit) (List (Int×Int)×Int×PUnit) (fun (again:List (Int×Int)×Int×Int×PUnit->Option (List (Int×Int)×Int×PUnit)) (x:List (Int×Int)×Int×Int×PUnit) =>
 let v7:List Int:=t.1.getD x.2.2.1.toNat [];bif decide (x.2.2.1<(↑t.1.length:Int)) then af (ct 0) fun (t_1:Int×Int)=>lp (Int×(Int×Int)×PUnit) (List (Int×Int)×Int×PUnit) (fun (again_1:Int×(Int×Int)×PUnit->Option (List (Int×Int)×Int×PUnit)) (x_1:Int×(Int×Int)×PUnit) => bif decide (x_1.1<(↑x1.length:Int)) then bif inB x.2.2.1 t.1.length then bif inB x_1.1 v7.length then bif inB x_1.1 x1.length then af (dP x_1.2.1 (v7.getD x_1.1.toNat 0) (x1.getD x_1.1.toNat (0,0))) fun (t:(Int×Int)×Int×PUnit) =>
 let v12:Bool:=!decide (t.2.1=0);bif v12 then bif v12 then some ([],t.2.1,PUnit.unit) else some (x.1,0,PUnit.unit) else again_1 (IntKind.wrap IntKind.i64 (x_1.1+1),t.1,PUnit.unit) else none else none else none else bif inB x.2.2.1 x0.1.length then af (ct (x0.1.getD x.2.2.1.toNat ({ data:={ toList:=[] } },0)).2) fun (t:Int×Int)=>af (gI t x_1.2.1) fun (t:(Int×Int)×Int×PUnit) =>
 let v13:Bool:=!decide (t.2.1=0);bif v13 then bif v13 then some ([],t.2.1,PUnit.unit) else some (x.1,0,PUnit.unit) else bif dK (List.length x.1 + 1) 16 then again (x.1++[t.1],t.2.1,IntKind.wrap .i64 (x.2.2.1+1),PUnit.unit) else none else none) (0,t_1,PUnit.unit) else bif !decide (x.2.1=0) then some ([],x.2.1,PUnit.unit) else some (x.1,0,PUnit.unit)) ([],0,0,PUnit.unit)
def cb (x0:(List (ByteArray×Int))×List (ByteArray×(List (ByteArray×Int×Int×Int))×Bool)) (x1:List (Int×Int)):Option ((List (Int×Int))×Int×Unit):=js lpK jnK di ct dP gI x0 x1
abbrev t95:=((List (ByteArray×Int))×List (ByteArray×(List (ByteArray×Int×Int×Int))×Bool))->(List (Int×Int))->Option ((List (Int×Int))×Int×Unit)
def k95 (cb:t95):Ctr:=⟨[T25,(.sl T47)],[],[],.tup [(.sl T47),i64],fun x _ _=>cb x.1 x.2.1⟩
def c95:Ctr:=k95 cb
theorem e95 (lp:Lp) (jn:Jn) (di:Ma) (ct:Ee) (dP:L0) (gI:NT):∀(x:TsS c95.as) (F:TsF c95.fs) (y:TsS c95.cs),js lp jn di ct dP gI x.1 x.2.1=bf lp jn (cx [(139,⟨[T47,T47],[],[],.tup [T47,i64],fun x _ _=>gI x.1 x.2.1⟩),(138,M6 dP),(137,KX ct),(136,M0 di)] [(32,r32),(92,r92),(112,aU)]) aj 4 95 f95 c95 x F y:=fun x F y=>by kernel_rfl
theorem QD:c95.ok prog 95:=Ctr.of_den (an (aa (aa (aa (aa (q32) (by kernel_rfl) NN) (by kernel_rfl) KC) (by kernel_rfl) Nv) (by kernel_rfl) OP)) ax (hl:=aj) (d:=4) func95 rfl (by decide) (e95 lpK jnK di ct dP gI)
def kQ (_:Lp) (_:Jn) (x0:Int×Int):Option Bool :=
 some !decide (x0.1=0)
def dz (x0:Int×Int):Option Bool:=kQ lpK jnK x0
abbrev t96:=(Int×Int)->Option (Bool)
def c96:Ctr:=⟨[T47],[],[],.one .bool,fun x _ _=>dz x.1⟩
theorem e96 (lp:Lp) (jn:Jn):∀(x:TsS c96.as) (F:TsF c96.fs) (y:TsS c96.cs),kQ lp jn x.1=bf lp jn (cx [] [(32,r32),(92,r92),(112,aU)]) aj 4 96 f96 c96 x F y:=fun x F y=>by kernel_rfl
theorem QX:c96.ok prog 96:=Ctr.of_den (an (q32)) ax (hl:=aj) (d:=4) func96 rfl (by decide) (e96 lpK jnK)
def mW (_:Lp) (_:Jn) (ah:t34) (cb:t95) (dz:t96) (x0:(List (ByteArray×Int))×List (ByteArray×(List (ByteArray×Int×Int×Int))×Bool)) (x1:List (Int×Int)):Option (Bool×Int×Unit) :=
 af (cb x0 x1) fun (t:List (Int×Int)×Int×PUnit)=>bif !decide (t.2.1=0) then some (false,t.2.1,PUnit.unit) else af (ah t.1 fun (x:(Int×Int)×PUnit)=>dz x.1) fun (t:Bool)=>some (!t,0,PUnit.unit)
def dk (x0:(List (ByteArray×Int))×List (ByteArray×(List (ByteArray×Int×Int×Int))×Bool)) (x1:List (Int×Int)):Option (Bool×Int×Unit):=mW lpK jnK ah cb dz x0 x1
abbrev t53:=((List (ByteArray×Int))×List (ByteArray×(List (ByteArray×Int×Int×Int))×Bool))->(List (Int×Int))->Option (Bool×Int×Unit)
def k53 (dk:t53):Ctr:=⟨[T25,(.sl T47)],[],[],.tup [.bool,i64],fun x _ _=>dk x.1 x.2.1⟩
def c53:Ctr:=k53 dk
theorem e53 (lp:Lp) (jn:Jn) (ah:t34) (cb:t95) (dz:t96):∀(x:TsS c53.as) (F:TsF c53.fs) (y:TsS c53.cs),mW lp jn ah cb dz x.1 x.2.1=bf lp jn (cx [(96,⟨[T47],[],[],.one .bool,fun x _ _=>dz x.1⟩),(95,k95 cb),(34,k34 ah)] [(32,r32),(92,r92),(112,aU)]) aj 4 53 f53 c53 x F y:=fun x F y=>by kernel_rfl
theorem O7:c53.ok prog 53:=Ctr.of_den (an (aa (aa (aa (q32) (by kernel_rfl) Gu) (by kernel_rfl) QD) (by kernel_rfl) QX)) ax (hl:=aj) (d:=4) func53 rfl (by decide) (e53 lpK jnK ah cb dz)
def kC (_:Lp) (_:Jn) (x0:Int×Int):Option Bool :=
 some (decide (x0.1<0))
def dD (x0:Int×Int):Option Bool:=kC lpK jnK x0
abbrev t54:=(Int×Int)->Option (Bool)
def c54:Ctr:=⟨[T47],[],[],.one .bool,fun x _ _=>dD x.1⟩
theorem e54 (lp:Lp) (jn:Jn):∀(x:TsS c54.as) (F:TsF c54.fs) (y:TsS c54.cs),kC lp jn x.1=bf lp jn (cx [] [(32,r32),(92,r92),(112,aU)]) aj 4 54 f54 c54 x F y:=fun x F y=>by kernel_rfl
theorem Pb:c54.ok prog 54:=Ctr.of_den (an (q32)) ax (hl:=aj) (d:=4) func54 rfl (by decide) (e54 lpK jnK)
def mZ (_:Lp) (jn:Jn) (aN:t50) (ah:t34) (bo:t49) (bn:t51) (dL:t52) (dk:t53) (dD:t54) (x0:(List (ByteArray×Int))×List (ByteArray×(List (ByteArray×Int×Int×Int))×Bool)) (x1:(List (Int×Int))×Bool×List (Int×Int)):Option (Bool×Int×Unit) :=
 af (bo x1) fun (t:List (Int×Int)×List (Int×Int)×PUnit)=>jn (Int×PUnit) (Bool×Int×PUnit) (fun (x:Int×PUnit)=>af (aN x0) fun (t_1:Bool) =>
 let v7:Bool:=!t_1;
 let v8:Bool:=!v7;
 let v9:Bool:=!v8||v8;bif v9 then af (bif v8 then bn x1 else some false) fun (t_2:Bool)=>bif v9 then bif v7||v8 then bif bif v7 then true else !t_2 then some (false,1,PUnit.unit) else bif decide ((↑t.2.1.length:Int)>0) then some (false,19,PUnit.unit) else bif !decide ((↑t.1.length:Int) = x.1) then some (false,3,PUnit.unit) else bif x1.2.1 then af (dL x0 t.1) fun (t:Bool×Int×PUnit)=>some (t.1,t.2.1,PUnit.unit) else af (dk x0 t.1) fun (t_3:Bool×Int×PUnit) =>
 let v12:Bool:=decide (t_3.2.1=0);
 let v13:Bool:=bif v12 then t_3.1 else false;
 let v14:Bool:=!v13||v13;bif !v12||v12 then bif v14 then af (bif v13 then ah t.1 fun (x:(Int×Int)×PUnit)=>dD x.1 else some false) fun (t:Bool)=>bif v14 then bif v14 then some (bif v13 then !t else false,t_3.2.1,PUnit.unit) else none else none else none else none else none else none else none) fun (j : Int×PUnit->Option (Bool×Int×PUnit))=>bif x1.2.1 then j ((↑x0.1.length:Int),PUnit.unit) else j ((↑x0.2.length:Int),PUnit.unit)
def aA (x0:(List (ByteArray×Int))×List (ByteArray×(List (ByteArray×Int×Int×Int))×Bool)) (x1:(List (Int×Int))×Bool×List (Int×Int)):Option (Bool×Int×Unit):=mZ lpK jnK aN ah bo bn dL dk dD x0 x1
abbrev t19:=((List (ByteArray×Int))×List (ByteArray×(List (ByteArray×Int×Int×Int))×Bool))->((List (Int×Int))×Bool×List (Int×Int))->Option (Bool×Int×Unit)
def k19 (aA:t19):Ctr:=⟨[T25,T30],[],[],.tup [.bool,i64],fun x _ _=>aA x.1 x.2.1⟩
def c19:Ctr:=k19 aA
theorem e19 (lp:Lp) (jn:Jn) (aN:t50) (ah:t34) (bo:t49) (bn:t51) (dL:t52) (dk:t53) (dD:t54):∀(x:TsS c19.as) (F:TsF c19.fs) (y:TsS c19.cs),mZ lp jn aN ah bo bn dL dk dD x.1 x.2.1=bf lp jn (cx [(54,⟨[T47],[],[],.one .bool,fun x _ _=>dD x.1⟩),(53,k53 dk),(52,k52 dL),(51,k51 bn),(49,k49 bo),(34,k34 ah),(50,k50 aN)] [(32,r32),(92,r92),(112,aU)]) aj 4 19 f19 c19 x F y:=fun x F y=>by kernel_rfl
theorem Qd:c19.ok prog 19:=Ctr.of_den (an (aa (aa (aa (aa (aa (aa (aa (q32) (by kernel_rfl) Mf) (by kernel_rfl) Gu) (by kernel_rfl) ME) (by kernel_rfl) OA) (by kernel_rfl) Qs) (by kernel_rfl) O7) (by kernel_rfl) Pb)) ax (hl:=aj) (d:=4) func19 rfl (by decide) (e19 lpK jnK aN ah bo bn dL dk dD)
def vl (_:Lp) (_:Jn) (x0:Int):Option (Int×Int) :=
 some (x0,1)
def aM (x0:Int):Option (Int×Int):=vl lpK jnK x0
abbrev t24:=(Int)->Option (Int×Int)
def k24 (aM:t24):Ctr:=⟨[i64],[],[],.one T47,fun x _ _=>aM x.1⟩
def c24:Ctr:=k24 aM
theorem e24 (lp:Lp) (jn:Jn):∀(x:TsS c24.as) (F:TsF c24.fs) (y:TsS c24.cs),vl lp jn x.1=bf lp jn (cx [] [(32,r32),(92,r92),(112,aU)]) aj 4 24 f24 c24 x F y:=fun x F y=>by kernel_rfl
theorem NU:c24.ok prog 24:=Ctr.of_den (an (q32)) ax (hl:=aj) (d:=4) func24 rfl (by decide) (e24 lpK jnK)
def lq (lp:Lp) (_:Jn) (x0:List Int) (x1:Int) (x2:Int):Option (List Int) :=
 lp (List Int×Int×PUnit) (List Int) (fun (again:List Int×Int×PUnit->Option (List Int)) (x:List Int×Int×PUnit)=>bif decide (x.2.1>=0) then bif decide ((0 : Int)<=IntKind.wrap .i64 (8*x.2.1)) then bif dK (List.length x.1+1) 1 then again (x.1++[IntKind.wrap IntKind.u8 (Int.fdiv x1 (2 ^ min (Int.toNat (IntKind.wrap .i64 (8*x.2.1))) 64))],IntKind.wrap .i64 (x.2.1 - 1),PUnit.unit) else none else none else bif Nat.ble (1 : Nat) x.1.length then some x.1 else none) (x0,IntKind.wrap .i64 (x2 - 1),PUnit.unit)
def bO (x0:List Int) (x1:Int) (x2:Int):Option (List Int):=lq lpK jnK x0 x1 x2
def a63:ACtr:=⟨[i64,i64],5,(.int .u8),fun l x=>bO l x.1 x.2.1⟩
theorem e63 (lp:Lp) (jn:Jn):∀(l:List a63.e.T) (x:TsS a63.as),lq lp jn l x.1 x.2.1=IX lp jn (cx [] [(32,r32),(92,r92),(112,aU)]) aj 4 63 f63 a63 l x:=fun l x=>by kernel_rfl
theorem Pt:a63.ok prog 63:=ACtr.of_den (an (q32)) ax (hl:=aj) (d:=4) func63 rfl (by decide) (e63 lpK jnK)
def kX (lp:Lp) (_:Jn) (x0:List Int):Option Int :=
 lp (Int×Int×PUnit) Int (fun (again:Int×Int×PUnit->Option Int) (x:Int×Int×PUnit)=>bif decide (x.2.1<(↑x0.length:Int)) then bif inB x.2.1 x0.length then again (IntKind.wrap IntKind.u32 (IntKind.wrap IntKind.u32 (IntKind.wrap IntKind.u32 (31*x.1)+IntKind.wrap IntKind.u32 (x0.getD x.2.1.toNat (0 : Int)))+1),IntKind.wrap .i64 (x.2.1+1),PUnit.unit) else none else some (IntKind.wrap .i64 x.1)) (0,0,PUnit.unit)
def bP (x0:List Int):Option Int:=kX lpK jnK x0
abbrev t64:=(List Int)->Option (Int)
def k64 (bP:t64):Ctr:=⟨[(.sl (.int .u8))],[],[],.one i64,fun x _ _=>bP x.1⟩
def c64:Ctr:=k64 bP
theorem e64 (lp:Lp) (jn:Jn):∀(x:TsS c64.as) (F:TsF c64.fs) (y:TsS c64.cs),kX lp jn x.1=bf lp jn (cx [] [(32,r32),(92,r92),(112,aU)]) aj 4 64 f64 c64 x F y:=fun x F y=>by kernel_rfl
theorem N0:c64.ok prog 64:=Ctr.of_den (an (q32)) ax (hl:=aj) (d:=4) func64 rfl (by decide) (e64 lpK jnK)
def iH (lp:Lp) (jn:Jn) (bo:t49) (bn:t51) (bP:t64) (bO:(List Int)->(Int)->(Int)->Option (List Int)) (x0:(List (Int×Int))×Bool×List (Int×Int)):Option ((List Int)×Int×Unit) :=
 af (bo x0) fun (t:List (Int×Int)×List (Int×Int)×PUnit) =>
 let v4:List Int:=[IntKind.wrap IntKind.u8 (↑t.1.length:Int)];af (bn x0) fun (t_1:Bool)=>bif !t_1 then some ([],1,PUnit.unit) else bif decide ((↑t.2.1.length:Int)>0) then some ([],19,PUnit.unit) else bif decide ((↑t.1.length:Int)>20) then some ([],4,PUnit.unit) else jn (List Int×PUnit) (List Int×Int×PUnit) (fun (x:List Int×PUnit)=>lp (List Int×Int×PUnit) (List Int×Int×PUnit) (fun (again:List Int×Int×PUnit->Option (List Int×Int×PUnit)) (x:List Int×Int×PUnit) =>
 let v9:Int×Int:=t.1.getD x.2.1.toNat (0,0);bif decide (x.2.1<(↑t.1.length:Int)) then bif inB x.2.1 t.1.length then af (bO x.1 v9.1 8) fun (t:List Int)=>af (bO t v9.2 8) fun (t:List Int)=>again (t,IntKind.wrap .i64 (x.2.1+1), PUnit.unit) else none else af (bP x.1) fun (t:Int)=>af (bO x.1 t 4) fun (t:List Int)=>some (t,0,PUnit.unit)) (x.1,0, PUnit.unit)) fun (j:List Int×PUnit->Option (List Int×Int×PUnit))=>bif x0.2.1 then j (84 ::67 ::1 ::v4,PUnit.unit) else j (84 ::(67 : Int) ::0 ::v4,PUnit.unit)
def bc (x0:(List (Int×Int))×Bool×List (Int×Int)):Option ((List Int)×Int×Unit):=iH lpK jnK bo bn bP bO x0
abbrev t25:=((List (Int×Int))×Bool×List (Int×Int))->Option ((List Int)×Int×Unit)
def k25 (bc:t25):Ctr:=⟨[T30],[],[],.tup [(.sl (.int .u8)),i64],fun x _ _=>bc x.1⟩
def c25:Ctr:=k25 bc
theorem e25 (lp:Lp) (jn:Jn) (bo:t49) (bn:t51) (bP:t64) (bO:(List Int)->(Int)->(Int)->Option (List Int)):∀(x:TsS c25.as) (F:TsF c25.fs) (y:TsS c25.cs),iH lp jn bo bn bP bO x.1=bf lp jn (tj vv uo (L2 [(63,⟨[i64,i64],5,(.int .u8),fun l x=>bO l x.1 x.2.1⟩)] (gl prog shs pf its [(64,k64 bP),(51,k51 bn),(49,k49 bo)] [(32,r32),(92,r92),(112,aU)]))) aj 4 25 f25 c25 x F y:=fun x F y=>by kernel_rfl
theorem MQ:c25.ok prog 25:=Ctr.of_den (an (CH (aa (aa (aa (q32) (by kernel_rfl) ME) (by kernel_rfl) OA) (by kernel_rfl) N0) (vT (by kernel_rfl) Pt (Ah)))) ax (hl:=aj) (d:=4) func25 rfl (by decide) (e25 lpK jnK bo bn bP bO)
def np (_:Lp) (_:Jn) (aM:t24) (x0:Int):Option ((List (ByteArray×Int))×List (ByteArray×(List (ByteArray×Int×Int×Int))×Bool)) :=
 af (aM 1) fun (t:Int×Int) =>
 let v4:ByteArray×Int×Int×Int:=({ data:=#[] },0,t);some ([({ data:=#[(98:UInt8)] },300)],[({ data:=#[(114:UInt8)] },[v4,({ data:=#[(98 : UInt8)] },x0,t),v4],true)])
def dj (x0:Int):Option ((List (ByteArray×Int))×List (ByteArray×(List (ByteArray×Int×Int×Int))×Bool)):=np lpK jnK aM x0
abbrev t37:=(Int)->Option ((List (ByteArray×Int))×List (ByteArray×(List (ByteArray×Int×Int×Int))×Bool))
def c37:Ctr:=⟨[i64],[],[],.one T25,fun x _ _=>dj x.1⟩
theorem e37 (lp:Lp) (jn:Jn) (aM:t24):∀(x:TsS c37.as) (F:TsF c37.fs) (y:TsS c37.cs),np lp jn aM x.1=bf lp jn (cx [(24,k24 aM)] [(32,r32),(92,r92),(112,aU)]) aj 4 37 f37 c37 x F y:=fun x F y=>by kernel_rfl
theorem Pu:c37.ok prog 37:=Ctr.of_den (an (aa (q32) (by kernel_rfl) NU)) ax (hl:=aj) (d:=4) func37 rfl (by decide) (e37 lpK jnK aM)
def uq (_:Lp) (_:Jn) (x0:Bool) (x1:List (Int×Int)):Option ((List (Int×Int))×Bool×List (Int×Int)) :=
 bif x0 then some ([],true,x1) else some (x1,false,[])
def fU (x0:Bool) (x1:List (Int×Int)):Option ((List (Int×Int))×Bool×List (Int×Int)):=uq lpK jnK x0 x1
abbrev t38:=(Bool)->(List (Int×Int))->Option ((List (Int×Int))×Bool×List (Int×Int))
def k38 (fU:t38):Ctr:=⟨[.bool,(.sl T47)],[],[],.one T30,fun x _ _=>fU x.1 x.2.1⟩
def c38:Ctr:=k38 fU
theorem e38 (lp:Lp) (jn:Jn):∀(x:TsS c38.as) (F:TsF c38.fs) (y:TsS c38.cs),uq lp jn x.1 x.2.1=bf lp jn (cx [] [(32,r32),(92,r92),(112,aU)]) aj 4 38 f38 c38 x F y:=fun x F y=>by kernel_rfl
theorem Pp:c38.ok prog 38:=Ctr.of_den (an (q32)) ax (hl:=aj) (d:=4) func38 rfl (by decide) (e38 lpK jnK)
def pD (_:Lp) (_:Jn) (aV:t13) (aL:t15) (aA:t19) (aM:t24) (bc:t25) (dj:t37) (fU:t38):Option Bool :=
 af (dj 2) fun (t:List (ByteArray×Int)×List (ByteArray×List (ByteArray×Int×Int×Int)×Bool))=>af (aV t) fun (t:(List (Int×Int)×Bool × List (Int×Int))×Int×PUnit) =>
 let v4:Bool:=decide (t.2.1=0);
 let v5:Bool:=!v4||v4;af (dj (-2)) fun (t_1:List (ByteArray×Int)×List (ByteArray×List (ByteArray×Int×Int×Int)×Bool))=>af (aV t_1) fun (t_2:(List (Int×Int)×Bool×List (Int×Int))×Int×PUnit)=>af (dj (-2)) fun (t_3:List (ByteArray×Int)×List (ByteArray×List (ByteArray×Int × Int×Int)×Bool))=>af (aM 1) fun (t_4:Int×Int)=>af (fU true [t_4]) fun (t_5:List (Int×Int)×Bool×List (Int×Int))=>af (aA t_3 t_5) fun (t_6:Bool×Int×PUnit)=>af (bc ([],false,[])) fun (t_7:List Int×Int×PUnit)=>af (bif v4 then aM 150 else some (0,(0 : Int))) fun (t_8:Int×Int)=>bif v5 then bif v5 then af (bif v4 then fU false [t_8] else some ([],false,[])) fun (t_9:List (Int×Int)×Bool×List (Int×Int))=>bif v5&&v5 then af (bif v4 then aL t.1 t_9 else some false) fun (t:Bool) =>
 let v16:Bool:=bif v4 then t else false;
 let v17:Bool:=!v16||v16;
 let v18:Bool:=bif v16 then decide (t_2.2.1=0) else false;
 let v19:Bool:=bif v18 then t_2.1.2.1 else false;
 let v20:Bool:=!v18||v18;
 let v21:Bool:=bif v19 then decide ((↑t_2.1.2.2.length:Int)=1) else false;
 let v22:Bool:=!v19||v19;
 let v23:Bool:=bif v21 then decide (t_6.2.1=0) else false;
 let v24:Bool:=bif v23 then t_6.1 else false;
 let v25:Bool:=bif v24 then decide (t_7.2.1=0) else false;
 let v26:Bool:=!v21||v21;
 let v27:Bool:=!v24||v24;
 let v28:Bool:=!v25||v25;bif v5 then bif v17 then bif v17 then bif v20 then bif v20 then bif v22 then bif v22 then bif v22 then bif v22 then bif v26 then bif v26 then bif !v23 || v23 then bif v27 then bif v27 then bif v28 then bif v28 then bif v28 then some (bif v25 then decide ((↑t_7.1.length:Int)=8) else false) else none else none else none else none else none else none else none else none else none else none else none else none else none else none else none else none else none else none else none else none
def aB:Option Bool:=pD lpK jnK aV aL aA aM bc dj fU
abbrev t11:=Option (Bool)
def k11 (aB:t11):Ctr:=⟨[],[],[],.one .bool,fun _ _ _=>aB⟩
def c11:Ctr:=k11 aB
theorem e11 (lp:Lp) (jn:Jn) (aV:t13) (aL:t15) (aA:t19) (aM:t24) (bc:t25) (dj:t37) (fU:t38):∀(x:TsS c11.as) (F:TsF c11.fs) (y:TsS c11.cs),pD lp jn aV aL aA aM bc dj fU=bf lp jn (cx [(38,k38 fU),(37,⟨[i64],[],[],.one T25,fun x _ _=>dj x.1⟩),(25,k25 bc),(24,k24 aM),(19,k19 aA),(15,k15 aL),(13,k13 aV)] [(32,r32),(92,r92),(112,aU)]) aj 4 11 f11 c11 x F y:=fun x F y=>by kernel_rfl
theorem Qu:c11.ok prog 11:=Ctr.of_den (an (aa (aa (aa (aa (aa (aa (aa (q32) (by kernel_rfl) PP) (by kernel_rfl) Om) (by kernel_rfl) Qd) (by kernel_rfl) NU) (by kernel_rfl) MQ) (by kernel_rfl) Pu) (by kernel_rfl) Pp)) ax (hl:=aj) (d:=4) func11 rfl (by decide) (e11 lpK jnK aV aL aA aM bc dj fU)
def vL (lp:Lp) (_:Jn) (x0:(List (ByteArray×Int))×List (ByteArray×(List (ByteArray×Int×Int×Int))×Bool)):Option Bool :=
 
 let v3:Bool:=decide ((↑x0.1.length:Int)>9);
 let v4:Bool:=!v3;
 let v5:Bool:=!v4||v4;bif v5 then bif v5 then bif v5 then bif v3||v4 then bif bif v3 then true else decide ((↑x0.2.length:Int)>9) then some false else lp (Int × PUnit) Bool (fun (again:Int×PUnit->Option Bool) (x:Int×PUnit)=>bif decide (x.1<(↑x0.1.length:Int)) then bif inB x.1 x0.1.length then bif decide ((↑(ByteArray.size (x0.1.getD x.1.toNat ({ data:={ toList:=[] } },0)).1):Int)>60) then some false else again (IntKind.wrap .i64 (x.1 + 1),PUnit.unit) else none else lp (Int×PUnit) Bool (fun (again:Int×PUnit->Option Bool) (x:Int×PUnit) =>
 let v10:Bool:=inB x.1 x0.2.length;
 let v11:Bool:=decide ((↑(ByteArray.size (x0.2.getD x.1.toNat ({ data:={ toList:=[] } },[],false)).1):Int)>60);
 let v12:Bool:=!v11;
 let v13:Bool:=!v12;
 let v14:Bool:=v13||v12;bif decide (x.1<(↑x0.2.length:Int)) then bif v10 then bif v14 then bif v14&&(v14&&(v13||v10)) then bif v14 then bif v14 then bif v14 then bif v14 then bif v11||v12 then bif bif v11 then true else decide ((↑(List.length (x0.2.getD x.1.toNat ({ data:={ toList:=[] } },[],false)).2.1):Int) > 13) then some false else lp (Int×PUnit) Bool (fun (again_1:Int×PUnit->Option Bool) (x_1:Int×PUnit)=>bif v10 then bif decide (x_1.1<(↑(List.length (x0.2.getD x.1.toNat ({ data:={ toList:=[] } },[],false)).2.1):Int)) then bif v10 then bif inB x_1.1 (List.length (x0.2.getD x.1.toNat ({ data:={ toList:=[] } },[],false)).2.1) then bif decide ((↑(ByteArray.size (List.getD (x0.2.getD x.1.toNat ({ data:={ toList:=[] } },[],false)).2.1 x_1.1.toNat ({ data:={ toList:=[] } },0,0,0)).1):Int)>60) then some false else again_1 (IntKind.wrap .i64 (x_1.1+1), PUnit.unit) else none else none else again (IntKind.wrap .i64 (x.1+1),PUnit.unit) else none) (0,PUnit.unit) else none else none else none else none else none else none else none else none else some true) (0,PUnit.unit)) (0,PUnit.unit) else none else none else none else none
def bb (x0:(List (ByteArray×Int))×List (ByteArray×(List (ByteArray×Int×Int×Int))×Bool)):Option Bool:=vL lpK jnK x0
abbrev t12:=((List (ByteArray×Int))×List (ByteArray×(List (ByteArray×Int×Int×Int))×Bool))->Option (Bool)
def k12 (bb:t12):Ctr:=⟨[T25],[],[],.one .bool,fun x _ _=>bb x.1⟩
def uu (_:Lp) (_:Jn) (x0:Int):Option Bool :=
 
 let v3:Bool:=decide (x0>=97);
 let v4:Bool:=decide (x0>=65);
 let v5:Bool:=!v3||v3;
 let v6:Bool:=bif v3 then decide (x0<=122) else false;
 let v7:Bool:=!v6;
 let v8:Bool:=!v7;
 let v9:Bool:=v7&&v4;
 let v10:Bool:=v8||v7;bif v5 then bif v5 then bif v10 then bif v10 then bif !v9||v9 then bif (v8||v10)&&(v8||(!v4||(v8||v9))) then bif v6||v7 then some (bif v6 then true else bif v4 then decide (x0<=90) else false) else none else none else none else none else none else none else none
def gb (x0:Int):Option Bool:=uu lpK jnK x0
abbrev t76:=(Int)->Option (Bool)
def vD (_:Lp) (_:Jn) (x0:Int):Option Bool :=
 
 let v3:Bool:=decide (x0>=48);
 let v4:Bool:=!v3||v3;bif v4 then bif v4 then some (bif v3 then decide (x0<=57) else false) else none else none
def om (x0:Int):Option Bool:=vD lpK jnK x0
abbrev PE:=(Int)->Option (Bool)
def xE (lp:Lp) (_:Jn) (gb:t76) (om:PE) (x0:ByteArray) (x1:Int):Option Int :=
 lp (Int×PUnit) Int (fun (again:Int×PUnit->Option Int) (x:Int×PUnit) =>
 let v6:Bool:=inB x.1 (ByteArray.size x0);
 let v7:Int:=kr x0 x.1.toNat;
 let v8:Bool:=decide (x.1<(↑(ByteArray.size x0):Int));
 let v9:Bool:=!v8;
 let v10:Bool:=v9||v8;
 let v11:Bool:=v9||v10;bif v10&&(v10&&(v9||v6)) then bif v10 then af (bif v8 then gb v7 else some false) fun (t:Bool) =>
 let v13:Bool:=v8&&!t;
 let v14:Bool:=!v13;
 let v15:Bool:=v14||v13;bif v10 then bif v15&&(v15&&(v14||v6)) then bif v15 then af (bif v13 then om v7 else some false) fun (t_1:Bool) =>
 let v17:Bool:=bif t then true else t_1;
 let v18:Bool:=v8&&!v17;
 let v19:Bool:=!v18;
 let v20:Bool:=v19||v18;bif v11&&(v9||(t||(v9||v13))) then bif v10 then bif v20&&(v20&&(v19||v6)) then bif v20 then bif v11&&(v9||(v17||(v9||v18))) then bif v10 then bif bif v8 then bif v17 then true else decide (v7=95) else false then again (IntKind.wrap .i64 (x.1+1),PUnit.unit) else some x.1 else none else none else none else none else none else none else none else none else none else none else none) (x1,PUnit.unit)
def ql (x0:ByteArray) (x1:Int):Option Int:=xE lpK jnK gb om x0 x1
abbrev t77:=(ByteArray)->(Int)->Option (Int)
def uC (_:Lp) (_:Jn) (gb:t76) (ql:t77) (x0:ByteArray):Option Bool :=
 
 let v3:Bool:=decide ((↑(ByteArray.size x0):Int)=0);
 let v4:Bool:=!v3;
 let v5:Bool:=!v4||v4;
 let v6:Bool:=bif v3 then true else decide ((↑(ByteArray.size x0):Int)>20);
 let v7:Bool:=!v6;
 let v8:Bool:=!v7;
 let v9:Bool:=v8||v7;bif v5 then bif v5 then bif v3||v4 then bif v9&&(v8||inB 0 (ByteArray.size x0)) then bif v9 then af (bif v7 then gb (kr x0 (0 : Nat)) else some false) fun (t:Bool)=>bif v9 then bif v6||v7 then bif bif v6 then true else !t then some false else af (ql x0 0) fun (t:Int)=>some (decide (t = (↑(ByteArray.size x0):Int))) else none else none else none else none else none else none else none
def jF (x0:ByteArray):Option Bool:=uC lpK jnK gb ql x0
abbrev t39:=(ByteArray)->Option (Bool)
def qB (lp:Lp) (_:Jn) (x0:(List (ByteArray×Int))×List (ByteArray×(List (ByteArray×Int×Int×Int))×Bool)) (x1:ByteArray):Option Int :=
 lp (Int×PUnit) Int (fun (again:Int×PUnit->Option Int) (x:Int×PUnit)=>bif decide (x.1<(↑x0.1.length:Int)) then bif inB x.1 x0.1.length then bif List.beq (ByteArray.toList (x0.1.getD x.1.toNat ({ data:={ toList:=[] } },0)).1) (ByteArray.toList x1) then some x.1 else again (IntKind.wrap .i64 (x.1+1),PUnit.unit) else none else some (-1)) (0,PUnit.unit)
def er (x0:(List (ByteArray×Int))×List (ByteArray×(List (ByteArray×Int×Int×Int))×Bool)) (x1:ByteArray):Option Int:=qB lpK jnK x0 x1
abbrev t40:=((List (ByteArray×Int))×List (ByteArray×(List (ByteArray×Int×Int×Int))×Bool))->(ByteArray)->Option (Int)
def rK (lp:Lp) (_:Jn) (x0:(List (ByteArray×Int))×List (ByteArray×(List (ByteArray×Int×Int×Int))×Bool)) (x1:ByteArray):Option Int :=
 lp (Int×PUnit) Int (fun (again:Int×PUnit->Option Int) (x:Int×PUnit)=>bif decide (x.1<(↑x0.2.length:Int)) then bif inB x.1 x0.2.length then bif List.beq (ByteArray.toList (x0.2.getD x.1.toNat ({ data:={ toList:=[] } },[],false)).1) (ByteArray.toList x1) then some x.1 else again (IntKind.wrap .i64 (x.1+1),PUnit.unit) else none else some (-1)) (0,PUnit.unit)
def kn (x0:(List (ByteArray×Int))×List (ByteArray×(List (ByteArray×Int×Int×Int))×Bool)) (x1:ByteArray):Option Int:=rK lpK jnK x0 x1
abbrev t41:=((List (ByteArray×Int))×List (ByteArray×(List (ByteArray×Int×Int×Int))×Bool))->(ByteArray)->Option (Int)
def mg (_:Lp) (_:Jn) (x0:Int×Int) (x1:Int×Int):Option Bool :=
 
 let v4:Bool:=decide (x0.1=x1.1);
 let v5:Bool:=decide (x0.1<x1.1);
 let v6:Bool:=!v5;
 let v7:Bool:=!v6;
 let v8:Bool:=v6&&v4;
 let v9:Bool:=v7||v6;
 let v10:Bool:=!v8||v8;bif v9 then bif v9 then bif v9&&v9 then bif v9 then bif v10 then bif v10 then bif v10&&v10 then bif (v7||v9)&&(v7||(!v4||(v7||v8))) then bif v5 || v6 then some (bif v5 then true else bif v4 then decide (x0.2<x1.2) else false) else none else none else none else none else none else none else none else none else none
def bQ (x0:Int×Int) (x1:Int×Int):Option Bool:=mg lpK jnK x0 x1
abbrev DF:=(Int×Int)->(Int×Int)->Option (Bool)
def OL (bQ:DF):Ctr:=⟨[jo,jo],[],[],.one .bool,fun x _ _=>bQ x.1 x.2.1⟩
def H0:Ctr:=OL bQ
theorem PX (lp:Lp) (jn:Jn):∀(x:TsS H0.as) (F:TsF H0.fs) (y:TsS H0.cs),mg lp jn x.1 x.2.1=bf lp jn (cx [] [(32,r32),(92,r92),(112,aU)]) aj 4 161 f161 H0 x F y:=fun x F y=>by kernel_rfl
theorem MG:H0.ok prog 161:=Ctr.of_den (an (q32)) ax (hl:=aj) (d:=4) func161 rfl (by decide) (PX lpK jnK)
def mJ (_:Lp) (_:Jn) (x0:Int×Int) (x1:Int×Int):Option (Int×Int) :=
 
 let v4:Int:=IntKind.wrap .u64 (x0.1+x1.1);
 let v5:Int:=IntKind.wrap .u64 (x0.2+x1.2);bif decide (v5<x0.2) then some (IntKind.wrap .u64 (v4+1),v5) else some (v4,v5)
def db (x0:Int×Int) (x1:Int×Int):Option (Int×Int):=mJ lpK jnK x0 x1
abbrev JO:=(Int×Int)->(Int×Int)->Option (Int×Int)
def M2 (db:JO):Ctr:=⟨[jo,jo],[],[],.one jo,fun x _ _=>db x.1 x.2.1⟩
def GJ:Ctr:=M2 db
theorem QU (lp:Lp) (jn:Jn):∀(x:TsS GJ.as) (F:TsF GJ.fs) (y:TsS GJ.cs),mJ lp jn x.1 x.2.1=bf lp jn (cx [] [(32,r32),(92,r92),(112,aU)]) aj 4 163 f163 GJ x F y:=fun x F y=>by kernel_rfl
theorem MI:GJ.ok prog 163:=Ctr.of_den (an (q32)) ax (hl:=aj) (d:=4) func163 rfl (by decide) (QU lpK jnK)
def lj (_:Lp) (_:Jn) (x0:Int×Int) (x1:Int×Int):Option (Int×Int) :=
 
 let v4:Int:=IntKind.wrap .u64 (x0.1 - x1.1);
 let v5:Int:=IntKind.wrap .u64 (x0.2 - x1.2);bif decide (x0.2<x1.2) then some (IntKind.wrap .u64 (v4 - 1),v5) else some (v4,v5)
def bJ (x0:Int×Int) (x1:Int×Int):Option (Int×Int):=lj lpK jnK x0 x1
abbrev H7:=(Int×Int)->(Int×Int)->Option (Int×Int)
def NA (bJ:H7):Ctr:=⟨[jo,jo],[],[],.one jo,fun x _ _=>bJ x.1 x.2.1⟩
def GV:Ctr:=NA bJ
theorem O4 (lp:Lp) (jn:Jn):∀(x:TsS GV.as) (F:TsF GV.fs) (y:TsS GV.cs),lj lp jn x.1 x.2.1=bf lp jn (cx [] [(32,r32),(92,r92),(112,aU)]) aj 4 164 f164 GV x F y:=fun x F y=>by kernel_rfl
theorem Oh:GV.ok prog 164:=Ctr.of_den (an (q32)) ax (hl:=aj) (d:=4) func164 rfl (by decide) (O4 lpK jnK)
def mn (_:Lp) (_:Jn) (x0:Int×Int):Option (Int×Int) :=
 
 let v3:Int:=2 ^ 1;
 let v4:Bool:=decide ((0:Int)<=1);bif v4 then bif v4 then bif decide ((0:Int)<=63) then some (Int.fdiv x0.1 v3,IntKind.wrap .u64 (Int.fdiv x0.2 v3 + IntKind.wrap .u64 (x0.1*2 ^ 63))) else none else none else none
def dH (x0:Int×Int):Option (Int×Int):=mn lpK jnK x0
abbrev Oc:=(Int×Int)->Option (Int×Int)
def H9:Ctr:=⟨[jo],[],[],.one jo,fun x _ _=>dH x.1⟩
theorem Qg (lp:Lp) (jn:Jn):∀(x:TsS H9.as) (F:TsF H9.fs) (y:TsS H9.cs),mn lp jn x.1=bf lp jn (cx [] [(32,r32),(92,r92),(112,aU)]) aj 4 180 f180 H9 x F y:=fun x F y=>by kernel_rfl
theorem Ms:H9.ok prog 180:=Ctr.of_den (an (q32)) ax (hl:=aj) (d:=4) func180 rfl (by decide) (Qg lpK jnK)
def nK (lp:Lp) (_:Jn) (bQ:DF) (db:JO) (bJ:H7) (dH:Oc) (x0:Int×Int) (x1:Int×Int):Option (Int×Int) :=
 bif decide (x0.1=0)&&(decide (x0.2=0)&&true) then some x1 else lp (Int×(Int×Int)×(Int×Int)×PUnit) (Int×Int) (fun (again:Int×(Int×Int)×(Int × Int)×PUnit->Option (Int×Int)) (x:Int×(Int×Int)×(Int×Int)×PUnit) =>
 let v6:Bool:=decide (IntKind.wrap .u64 (↑(Nat.land (Int.toNat (x.2.1.2 % Int.ofNat 18446744073709551616)) (Int.toNat (1 % Int.ofNat (18446744073709551616 : Nat)))):Int)=0);
 let v7:Bool:=!v6||v6;bif v7 then bif v7 then bif v7 then bif v7 then bif bif v6 then decide (IntKind.wrap .u64 (↑(Nat.land (Int.toNat (x.2.2.1.2 % Int.ofNat 18446744073709551616)) (Int.toNat (1 % Int.ofNat 18446744073709551616))):Int)=0) else false then af (dH x.2.1) fun (t:Int×Int) => af (dH x.2.2.1) fun (t_1:Int×Int)=>again (IntKind.wrap .i64 (x.1+1),t,t_1,PUnit.unit) else lp ((Int×Int)×(Int×Int)×PUnit) (Int × Int) (fun (again:(Int×Int)×(Int×Int)×PUnit->Option (Int×Int)) (x_1:(Int×Int)×(Int×Int)×PUnit) =>
 let v10:(Int×Int)×PUnit:=(x_1.2.1,PUnit.unit);bif !(decide (x_1.1.1=0)&&(decide (x_1.1.2=0)&&true)) then lp ((Int×Int)×PUnit) (Int×Int) (fun (again_1:(Int×Int)×PUnit->Option (Int×Int)) (x:(Int×Int)×PUnit)=>bif decide (IntKind.wrap .u64 (↑(Nat.land (Int.toNat (x.1.2 % Int.ofNat 18446744073709551616)) (Int.toNat (1 % Int.ofNat 18446744073709551616))):Int)=0) then af (dH x.1) fun (t:Int×Int)=>again_1 (t, PUnit.unit) else lp ((Int×Int)×PUnit) (Int×Int) (fun (again_2:(Int×Int)×PUnit->Option (Int×Int)) (x_2:(Int×Int)×PUnit)=>bif decide (IntKind.wrap .u64 (↑(Nat.land (Int.toNat (x_2.1.2 % Int.ofNat 18446744073709551616)) (Int.toNat (1 % Int.ofNat 18446744073709551616))):Int)=0) then af (dH x_2.1) fun (t:Int×Int)=>again_2 (t,PUnit.unit) else af (bQ x.1 x_2.1) fun (t:Bool)=>bif t then af (bJ x_2.1 x.1) fun (t:Int × Int)=>again (t,x.1,PUnit.unit) else af (bJ x.1 x_2.1) fun (t:Int×Int)=>again (t,x_2.1,PUnit.unit)) v10) (x_1.1,PUnit.unit) else lp (Int×(Int×Int) × PUnit) (Int×Int) (fun (again:Int×(Int×Int)×PUnit->Option (Int×Int)) (x:Int×(Int×Int)×PUnit)=>bif decide (x.1>0) then af (db x.2.1 x.2.1) fun (t:Int×Int)=>again (IntKind.wrap .i64 (x.1 - 1),t,PUnit.unit) else some x.2.1) (x.1,v10)) (x.2.1,x.2.2.1,PUnit.unit) else none else none else none else none) (0,x0,x1,PUnit.unit)
def dI (x0:Int×Int) (x1:Int×Int):Option (Int×Int):=nK lpK jnK bQ db bJ dH x0 x1
abbrev IZ:=(Int×Int)->(Int×Int)->Option (Int×Int)
def OC (dI:IZ):Ctr:=⟨[jo,jo],[],[],.one jo,fun x _ _=>dI x.1 x.2.1⟩
def Gb:Ctr:=OC dI
theorem Pe (lp:Lp) (jn:Jn) (bQ:DF) (db:JO) (bJ:H7) (dH:Oc):∀(x:TsS Gb.as) (F:TsF Gb.fs) (y:TsS Gb.cs),nK lp jn bQ db bJ dH x.1 x.2.1=bf lp jn (cx [(180,⟨[jo],[],[],.one jo,fun x _ _=>dH x.1⟩),(164,NA bJ),(163,M2 db),(161,OL bQ)] [(32,r32),(92,r92),(112,aU)]) aj 4 152 f152 Gb x F y:=fun x F y=>by kernel_rfl
theorem OM:Gb.ok prog 152:=Ctr.of_den (an (aa (aa (aa (aa (q32) (by kernel_rfl) MG) (by kernel_rfl) MI) (by kernel_rfl) Oh) (by kernel_rfl) Ms)) ax (hl:=aj) (d:=4) func152 rfl (by decide) (Pe lpK jnK bQ db bJ dH)
def my (_:Lp) (_:Jn) (x0:Int):Option Int :=
 
 let v3:Int:=IntKind.wrap .u64 x0;bif decide (x0<0) then some (IntKind.wrap .u64 (0 - v3)) else some v3
def aR (x0:Int):Option Int:=my lpK jnK x0
abbrev CW:=(Int)->Option (Int)
def My (aR:CW):Ctr:=⟨[i64],[],[],.one (.int .u64),fun x _ _=>aR x.1⟩
def GA:Ctr:=My aR
theorem P0 (lp:Lp) (jn:Jn):∀(x:TsS GA.as) (F:TsF GA.fs) (y:TsS GA.cs),my lp jn x.1=bf lp jn (cx [] [(32,r32),(92,r92),(112,aU)]) aj 4 153 f153 GA x F y:=fun x F y=>by kernel_rfl
theorem MC:GA.ok prog 153:=Ctr.of_den (an (q32)) ax (hl:=aj) (d:=4) func153 rfl (by decide) (P0 lpK jnK)
def lh (_:Lp) (_:Jn) (dI:IZ) (aR:CW) (x0:Int×Int):Option Bool :=
 
 let v3:Bool:=decide (x0.2<1);
 let v4:Bool:=!v3;
 let v5:Bool:=bif v3 then true else decide (x0.2>1152921504606846976);
 let v6:Bool:=!v4||v4;
 let v7:Bool:=!v5;
 let v8:Bool:=bif v5 then true else decide (x0.1<(-1152921504606846976));
 let v9:Bool:=!v8;
 let v10:Bool:=!v7||v7;
 let v11:Bool:=!v9||v9;bif v6 then bif v6 then bif v3||v4 then bif v10 then bif v10 then bif v5||v7 then bif v11 then bif v11 then bif v8||v9 then bif bif v8 then true else decide (x0.1>1152921504606846976) then some false else af (aR x0.1) fun (t:Int)=>af (aR x0.2) fun (t_1:Int)=>af (dI (0, t) (0,t_1)) fun (t:Int×Int)=>some (decide (t.1=0)&&(decide (t.2=1)&&true)) else none else none else none else none else none else none else none else none else none
def cA (x0:Int×Int):Option Bool:=lh lpK jnK dI aR x0
abbrev JX:=(Int×Int)->Option (Bool)
def NQ (cA:JX):Ctr:=⟨[T47],[],[],.one .bool,fun x _ _=>cA x.1⟩
def Fz:Ctr:=NQ cA
theorem P1 (lp:Lp) (jn:Jn) (dI:IZ) (aR:CW):∀(x:TsS Fz.as) (F:TsF Fz.fs) (y:TsS Fz.cs),lh lp jn dI aR x.1=bf lp jn (cx [(153,My aR),(152,OC dI)] [(32,r32),(92,r92),(112,aU)]) aj 4 108 f108 Fz x F y:=fun x F y=>by kernel_rfl
theorem NH:Fz.ok prog 108:=Ctr.of_den (an (aa (aa (q32) (by kernel_rfl) OM) (by kernel_rfl) MC)) ax (hl:=aj) (d:=4) func108 rfl (by decide) (P1 lpK jnK dI aR)
def qT (_:Lp) (_:Jn) (cA:JX) (x0:Int×Int):Option Bool :=
 af (cA x0) fun (t:Bool) =>
 let v4:Bool:=!t||t;
 let v5:Bool:=bif t then decide (x0.1>=x0.2) else false;
 let v6:Bool:=!v5||v5;bif v4 then bif v4 then bif v4&&v4 then bif v4 then bif v6 then bif v6 then bif v6 then some (bif v5 then decide (x0.1<=100) else false) else none else none else none else none else none else none else none
def jr (x0:Int×Int):Option Bool:=qT lpK jnK cA x0
abbrev PD:=(Int×Int)->Option (Bool)
def xA (_:Lp) (_:Jn) (aM:t24) (er:t40) (jr:PD) (x0:(List (ByteArray×Int))×List (ByteArray×(List (ByteArray×Int×Int×Int))×Bool)) (x1:ByteArray×Int×Int×Int) (x2:Bool):Option Bool :=
 
 let v5:Bool:=!x2||x2;
 let v6:Bool:=decide (x1.2.1=0);
 let v7:Bool:=decide (x1.2.1=1);
 let v8:Bool:=decide (x1.2.1=2);
 let v9:Bool:=!v7;
 let v10:Bool:=!v8;
 let v11:Bool:=bif v8 then true else v6;
 let v12:Bool:=!v9||v9;
 let v13:Bool:=!v10||v10;
 let v14:Bool:=!v11;
 let v15:Bool:=!v14||v14;bif v5 then af (bif x2 then aM 1 else some (0,0)) fun (t:Int×Int) =>
 let v17:Bool:=bif x2 then !(decide (x1.2.2.1=t.1)&&(decide (x1.2.2.2=t.2)&&true)) else false;
 let v18:Bool:=!v17;
 let v19:Bool:=!v18||v18;bif v5&&v5 then bif v5 then bif v19 then bif v19 then af (bif v18 then jr x1.2.2 else some false) fun (t:Bool)=>bif v19 then bif v17||v18 then bif bif v17 then true else !t then some false else bif List.beq (ByteArray.toList x1.1) (ByteArray.toList { data:=#[] }) then some v6 else af (er x0 x1.1) fun (t:Int)=>bif decide (t<0) then some false else bif x2 then bif v12 then bif v12 then bif v7||v9 then some (bif v7 then true else decide (x1.2.1=(-1 : Int))) else none else none else none else bif v13 then bif v13 then bif v8||v10 then bif v15 then bif v15 then bif v11||v14 then some (bif v11 then true else decide (x1.2.1 = (-2))) else none else none else none else none else none else none else none else none else none else none else none else none else none
def pU (x0:(List (ByteArray×Int))×List (ByteArray×(List (ByteArray×Int×Int×Int))×Bool)) (x1:ByteArray×Int×Int×Int) (x2:Bool):Option Bool:=xA lpK jnK aM er jr x0 x1 x2
abbrev t78:=((List (ByteArray×Int))×List (ByteArray×(List (ByteArray×Int×Int×Int))×Bool))->(ByteArray×Int×Int×Int)->(Bool)->Option (Bool)
def xn (lp:Lp) (_:Jn) (pU:t78) (x0:(List (ByteArray×Int))×List (ByteArray×(List (ByteArray×Int×Int×Int))×Bool)) (x1:ByteArray×(List (ByteArray×Int×Int×Int))×Bool):Option Bool :=
 
 let v4:Bool:=!x1.2.2;
 let v5:Bool:=!v4;
 let v6:Bool:=!v5;
 let v7:Int:=IntKind.wrap .i64 ((↑x1.2.1.length:Int) - 1);
 let v8:Bool:=v6||v5;
 let v9:Bool:=decide ((↑x1.2.1.length:Int)<2);
 let v10:Bool:=!v9;
 let v11:Bool:=!v10||v10;bif v11 then bif v11 then bif v11 then bif v9||v10 then bif bif v9 then true else decide ((↑x1.2.1.length:Int)>10) then some false else lp (Int×PUnit) Bool (fun (again:Int×PUnit->Option Bool) (x:Int×PUnit) =>
 let v14:Bool:=decide (x.1=0);
 let v15:Bool:=!v14;
 let v16:Bool:=!v15||v15;bif decide (x.1<(↑x1.2.1.length:Int)) then bif inB x.1 x1.2.1.length then bif v16 then bif v16 then bif v16 then bif v16 && v16 then bif v14||v15 then af (pU x0 (x1.2.1.getD x.1.toNat ({ data:={ toList:=[] } },0,0,0)) (bif v14 then true else decide (x.1=v7))) fun (t:Bool)=>bif !t then some false else again (IntKind.wrap .i64 (x.1+1),PUnit.unit) else none else none else none else none else none else none else bif v8 then bif v8 then bif v8 then bif v8 then bif v8&&(v8&&(v6||inB v7 x1.2.1.length)) then bif v8 then bif v8 then bif v8 then bif v4||v5 then some (bif v4 then true else List.beq (ByteArray.toList (x1.2.1.getD v7.toNat ({ data:={ toList:=[] } },0,0,0)).1) (ByteArray.toList { data:=#[] })) else none else none else none else none else none else none else none else none else none) (0,PUnit.unit) else none else none else none else none
def pV (x0:(List (ByteArray×Int))×List (ByteArray×(List (ByteArray×Int×Int×Int))×Bool)) (x1:ByteArray×(List (ByteArray×Int×Int×Int))×Bool):Option Bool:=xn lpK jnK pU x0 x1
abbrev t42:=((List (ByteArray×Int))×List (ByteArray×(List (ByteArray×Int×Int×Int))×Bool))->(ByteArray×(List (ByteArray×Int×Int×Int))×Bool)->Option (Bool)
def vz (lp:Lp) (_:Jn) (jF:t39) (er:t40) (kn:t41) (pV:t42) (x0:(List (ByteArray×Int))×List (ByteArray×(List (ByteArray×Int×Int×Int))×Bool)):Option Bool :=
 
 let v3:Bool:=decide ((↑x0.1.length:Int)<1);
 let v4:Bool:=!v3;
 let v5:Bool:=bif v3 then true else decide ((↑x0.1.length:Int)>6);
 let v6:Bool:=!v4||v4;
 let v7:Bool:=!v5;
 let v8:Bool:=bif v5 then true else decide ((↑x0.2.length:Int)<1);
 let v9:Bool:=!v8;
 let v10:Bool:=!v7||v7;
 let v11:Bool:=!v9||v9;bif v6 then bif v6 then bif v6 then bif v3||v4 then bif v10 then bif v10 then bif v10 then bif v5||v7 then bif v11 then bif v11 then bif v11 then bif v8 || v9 then bif bif v8 then true else decide ((↑x0.2.length:Int)>6) then some false else lp (Int×PUnit) Bool (fun (again:Int×PUnit->Option Bool) (x:Int × PUnit)=>bif decide (x.1<(↑x0.1.length:Int)) then bif inB x.1 x0.1.length then af (jF (x0.1.getD x.1.toNat ({ data:={ toList := [] } },0)).1) fun (t:Bool) =>
 let v15:Bool:=!t;
 let v16:Bool:=!v15;
 let v17:Bool:=!v16||v16;
 let v18:Bool:=v17&&v17;bif v17 then bif v18 then af (bif v16 then er x0 (x0.1.getD x.1.toNat ({ data:={ toList:=[] } },0)).1 else some 0) fun (t:Int) =>
 let v20:Bool:=bif v15 then true else !decide (t=x.1);
 let v21:Bool:=!v20;
 let v22:Bool:=!v21||v21;
 let v23:Bool:=bif v20 then true else decide ((x0.1.getD x.1.toNat ({ data:={ toList:=[] } },0)).2<0);
 let v24:Bool:=!v23;
 let v25:Bool:=!v24||v24;bif v18 then bif v15||v16 then bif v22 then bif v22 then bif v20||v21 then bif v25 then bif v25 then bif v23||v24 then bif bif v23 then true else decide ((x0.1.getD x.1.toNat ({ data:={ toList:=[] } },0)).2>16777216) then some false else again (IntKind.wrap .i64 (x.1+1), PUnit.unit) else none else none else none else none else none else none else none else none else none else none else none else lp (Int×Int×PUnit) Bool (fun (again:Int×Int × PUnit->Option Bool) (x:Int×Int×PUnit) =>
 let v16:Int×PUnit:=(IntKind.wrap .i64 (x.2.1+1),PUnit.unit);
 let v17:ByteArray×List (ByteArray×Int×Int×Int)×Bool:=x0.2.getD x.2.1.toNat ({ data:={ toList:=[] } },[],false);bif decide (x.2.1<(↑x0.2.length:Int)) then bif inB x.2.1 x0.2.length then af (jF v17.1) fun (t:Bool) =>
 let v19:Bool:=!t;
 let v20:Bool:=!v19;
 let v21:Bool:=!v20||v20;
 let v22:Bool:=v21&&v21;bif v21 then bif v22 then af (bif v20 then kn x0 v17.1 else some 0) fun (t:Int) =>
 let v24:Bool:=bif v19 then true else !decide (t=x.2.1);
 let v25:Bool:=!v24;
 let v26:Bool:=!v25||v25;bif v22 then bif v19||v20 then bif v26 then bif v26&&v26 then af (bif v25 then er x0 v17.1 else some 0) fun (t:Int) =>
 let v28:Bool:=bif v24 then true else decide (t>=0);
 let v29:Bool:=!v28;
 let v30:Bool:=!v29||v29;bif v26 then bif v24||v25 then bif v30&&v30 then af (bif v29 then pV x0 v17 else some false) fun (t:Bool)=>bif v30 then bif v28||v29 then bif bif v28 then true else !t then some false else bif v17.2.2 then again (IntKind.wrap .i64 (x.1+1),v16) else again (x.1,v16) else none else none else none else none else none else none else none else none else none else none else none else none else some (decide (x.1<=1))) (0,0,PUnit.unit)) (0, PUnit.unit) else none else none else none else none else none else none else none else none else none else none else none else none
def aX (x0:(List (ByteArray×Int))×List (ByteArray×(List (ByteArray×Int×Int×Int))×Bool)):Option Bool:=vz lpK jnK jF er kn pV x0
abbrev t14:=((List (ByteArray×Int))×List (ByteArray×(List (ByteArray×Int×Int×Int))×Bool))->Option (Bool)
def k14 (aX:t14):Ctr:=⟨[T25],[],[],.one .bool,fun x _ _=>aX x.1⟩
def xi (_:Lp) (_:Jn) (x0:Int):Option Int :=
 some (if IntKind.wrap .i64 (0 - x0)>x0 then IntKind.wrap .i64 (0 - x0) else x0)
def ko (x0:Int):Option Int:=xi lpK jnK x0
abbrev Pz:=(Int)->Option (Int)
def tq (lp:Lp) (_:Jn) (ko:Pz) (x0:(List Int)×List ((List Int)×Int×Int)):Option (List Int) :=
 lp (Int×Int×PUnit) (List Int) (fun (again:Int×Int×PUnit->Option (List Int)) (x:Int×Int×PUnit)=>bif decide (x.2.1<(↑x0.1.length:Int)) then bif inB x.2.1 x0.1.length then af (ko (x0.1.getD x.2.1.toNat 0)) fun (t:Int)=>again (IntKind.wrap .i64 (x.1+t),IntKind.wrap IntKind.i64 (x.2.1+1),PUnit.unit) else none else lp (List Int×Int×PUnit) (List Int) (fun (again:List Int×Int×PUnit->Option (List Int)) (x:List Int×Int × PUnit) =>
 let v7:Bool:=inB x.2.1 x0.2.length;
 let v8:List Int×Int×Int:=x0.2.getD x.2.1.toNat ([],0,0);bif decide (x.2.1<(↑x0.2.length:Int)) then bif v7 then af (ko v8.2.2) fun (t:Int)=>lp (Int×Int×PUnit) (List Int) (fun (again_1:Int×Int×PUnit->Option (List Int)) (x_1:Int×Int×PUnit)=>bif decide (x_1.2.1 < (↑x0.1.length:Int)) then bif v7 then bif inB x_1.2.1 v8.1.length then af (ko (v8.1.getD x_1.2.1.toNat 0)) fun (t:Int) => again_1 (IntKind.wrap .i64 (x_1.1+t),IntKind.wrap .i64 (x_1.2.1+1),PUnit.unit) else none else none else bif dK (List.length x.1+1) (8 : Nat) then again (x.1++[x_1.1],IntKind.wrap .i64 (x.2.1+1),PUnit.unit) else none) (IntKind.wrap .i64 (1+t),0,PUnit.unit) else none else some x.1) ([x.1],0,PUnit.unit)) (1,0,PUnit.unit)
def kV (x0:(List Int)×List ((List Int)×Int×Int)):Option (List Int):=tq lpK jnK ko x0
abbrev t79:=((List Int)×List ((List Int)×Int×Int))->Option (List Int)
end
end Go.Proofs.YtegbncajloeepaaGreat
