/- r50: the shapes of its types, and the places of its loops. r50: what its functions answer (printed by a program), and that they do. r50: what its functions answer (printed by a program), and that they do; part 2. r50: what its functions answer (printed by a program), and that they do; part 3. r50: what its functions answer (printed by a program), and that they do; part 4. -/
import Derived.Test.YtegbncajloeepaaGreatProg
import Derived.KernelRfl
import Derived.Test.YtegbncajloeepaaGreatMgL

namespace Go.Proofs.YtegbncajloeepaaGreat
open Tryz Dn Dn.Sh
abbrev i64:Sh:=.int .i64
abbrev T45:Sh:=.agg (.pair .str i64)
abbrev T47:Sh:=.agg (.pair i64 i64)
abbrev T74:Sh:=.agg (.pair .str (.pair i64 T47))
abbrev T72:Sh:=.agg (.pair .str (.pair (.sl T74) .bool))
abbrev T25:Sh:=.agg (.pair (.sl T45) (.sl T72))
abbrev T30:Sh:=.agg (.pair (.sl T47) (.pair .bool (.sl T47)))
abbrev zc:Sh:=.agg (.pair (.sl i64) (.pair i64 i64))
abbrev T82:Sh:=.agg (.pair (.sl i64) (.sl zc))
abbrev T94:Sh:=.agg (.pair T47 (.pair (.sl T47) (.sl T47)))
abbrev kN:Sh:=.agg (.pair (.int .u64) (.int .u64))
abbrev CW:Sh:=.agg (.pair (.sl (.sl i64)) (.pair i64 (.pair (.sl i64) (.pair (.sl i64) (.pair (.sl i64) (.pair i64 i64))))))
abbrev KX:Sh:=.agg i64
abbrev iZ:Sh:=.agg (.pair (.int .u64) (.int .u64))
abbrev qW:Sh:=.agg (.pair .bool (.pair (.int .u64) (.int .u64)))
def shs:TypeId->Option Sh
 | 3=>some i64
 | 4=>some .bool
 | 5=>some (.int .u8)
 | 9=>some .str
 | 28=>some (.sl T47)
 | 45=>some T45
 | 47=>some T47
 | 72=>some T72
 | 74=>some T74
 | 79=>some (.sl i64)
 | 124=>some zc
 | _=>none
def Ik:Nat->Option Hd
 | 3=>some ⟨[(3,false,[.d i64]),(11,false,[.d i64])],[],[]⟩
 | 11=>some ⟨[(6,false,[.row 47 T47]),(27,false,[.d i64])],[],[]⟩
 | _=>none
def FA:Nat->Option Hd
 | 2=>some ⟨[(3,false,[.d i64])],[],[]⟩
 | _=>none
def FZ:Nat->Option Hd
 | 2=>some ⟨[(8,false,[.d i64])],[],[]⟩
 | _=>none
def JH:Nat->Option Hd
 | 1=>some ⟨[(0,false,[.d (.int .u64)]),(1,false,[.d (.int .u64)])],[],[]⟩
 | _=>none
def Iz:Nat->Option Hd
 | 5=>some ⟨[(17,false,[.d i64])],[],[]⟩
 | _=>none
def It:Nat->Option Hd
 | 6=>some ⟨[(27,false,[.d i64])],[],[(3,some 0,.x (.map 133 .str .bool))]⟩
 | 13=>some ⟨[(7,false,[.d i64]),(46,false,[.d i64])],[],[(3,some 0,.x (.map 133 .str .bool))]⟩
 | _=>none
def HK:Nat->Option Hd
 | 5=>some ⟨[(20,false,[.d i64])],[],[(4,none,.x (.tab 79 .ref 3 i64))]⟩
 | 10=>some ⟨[(34,false,[.d i64])],[],[(4,none,.x (.tab 79 .ref 3 i64))]⟩
 | 13=>some ⟨[(42,false,[.d i64])],[],[(4,none,.x (.tab 79 .ref 3 i64))]⟩
 | _=>none
def Jq:Nat->Option Hd
 | 5=>some ⟨[(4,false,[.row 3 i64]),(13,false,[.d i64])],[],[]⟩
 | _=>none
def IK:Nat->Option Hd
 | 9=>some ⟨[(34,false,[.d i64])],[(9,[.d (.sl i64),.row 124 zc])],[]⟩
 | _=>none
def Ii:Nat->Option Hd
 | 8=>some ⟨[(8,false,[.d i64])],[],[(7,none,.row 3 i64)]⟩
 | _=>none
def Jb:Nat->Option Hd
 | 1000002=>some ⟨[],[],[]⟩
 | 1000005=>some ⟨[],[],[]⟩
 | _=>none
def Ek:Nat->Option Hd
 | 2=>some ⟨[(8,false,[.d i64])],[],[]⟩
 | _=>none
def Gm:Nat->Option Hd
 | 2=>some ⟨[(8,false,[.d i64])],[],[]⟩
 | _=>none
def Dz:Nat->Option Hd
 | 3=>some ⟨[(5,false,[.d i64]),(14,false,[.d i64])],[],[]⟩
 | _=>none
def GB:Nat->Option Hd
 | 5=>some ⟨[(3,false,[.d i64]),(4,false,[.d i64])],[],[]⟩
 | _=>none
def Hk:Nat->Option Hd
 | 1000002=>some ⟨[],[],[]⟩
 | _=>none
def Ef:Nat->Option Hd
 | 4=>some ⟨[(4,false,[.row 3 i64]),(18,false,[.d i64])],[],[]⟩
 | 10=>some ⟨[(7,false,[.d i64]),(34,false,[.d i64])],[],[]⟩
 | _=>none
def GJ:Nat->Option Hd
 | 4=>some ⟨[(5,false,[.d i64]),(24,false,[.d i64])],[],[]⟩
 | 12=>some ⟨[(9,false,[.d i64]),(51,false,[.d i64])],[(46,[.x (.tab 79 .ref 3 i64),.d i64,.row 3 i64,.row 3 i64,.row 3 i64,.d i64,.d i64])],[]⟩
 | 28=>some ⟨[(95,false,[.d i64])],[],[(12,none,.row 3 i64)]⟩
 | _=>none
def Gb:Nat->Option Hd
 | 1000019=>some ⟨[(9,false,[.d i64])],[],[(12,none,.row 3 i64)]⟩
 | 1000022=>some ⟨[(9,false,[.d i64])],[],[(12,none,.row 3 i64)]⟩
 | 1000026=>some ⟨[(13,false,[.d i64])],[],[(12,none,.row 3 i64)]⟩
 | _=>none
def F9:Nat->Option Hd
 | 3=>some ⟨[(5,false,[.d i64]),(13,false,[.d i64])],[],[]⟩
 | _=>none
def DY:Nat->Option Hd
 | 1000008=>some ⟨[(10,false,[.d .bool])],[(2,[.d qW]),(3,[.d qW])],[]⟩
 | _=>none
def FSs:Nat->Option Hd
 | 1000002=>some ⟨[(0,false,[.d (.int .u64)]),(2,false,[.d i64])],[],[]⟩
 | 1000005=>some ⟨[(0,false,[.d (.int .u64)]),(2,false,[.d i64])],[],[]⟩
 | _=>none
def En:Nat->Option Hd
 | 17=>some ⟨[(15,false,[.d (.int .u64)]),(16,false,[.d (.int .u64)])],[],[]⟩
 | 24=>some ⟨[(16,false,[.d (.int .u64)]),(18,false,[.d (.int .u64)])],[],[]⟩
 | _=>none
def FU:Nat->Option Hd
 | 0=>some ⟨[(15,false,[.d (.int .u64)])],[],[]⟩
 | 2=>some ⟨[(18,false,[.d (.int .u64)])],[],[]⟩
 | 1000002=>some ⟨[],[],[]⟩
 | 1000004=>some ⟨[],[],[]⟩
 | _=>none
def Ft:Nat->Option Hd
 | 2=>some ⟨[(29,false,[.d i64])],[],[(0,some 0,.x (.tab 79 .ref 3 i64))]⟩
 | 7=>some ⟨[(43,false,[.d i64])],[],[(0,some 0,.x (.tab 79 .ref 3 i64))]⟩
 | 17=>some ⟨[(98,false,[.d i64])],[],[(0,some 0,.x (.tab 79 .ref 3 i64))]⟩
 | 20=>some ⟨[(104,false,[.d i64])],[],[(0,some 0,.x (.tab 79 .ref 3 i64))]⟩
 | _=>none
def Em:Nat->Option Hd
 | 3=>some ⟨[(5,false,[.d i64]),(14,false,[.d i64])],[],[]⟩
 | _=>none
def Gl:Nat->Option Hd
 | 1=>some ⟨[],[(0,[.x (.tab 79 .ref 3 i64),.d i64,.row 3 i64,.row 3 i64,.row 3 i64,.d i64,.d i64])],[]⟩
 | 3=>some ⟨[(3,false,[.d i64]),(4,false,[.d i64])],[],[]⟩
 | 12=>some ⟨[(44,false,[.d i64])],[(0,[.x (.tab 79 .ref 3 i64),.d i64,.row 3 i64,.row 3 i64,.row 3 i64,.d i64,.d i64])],[]⟩
 | 15=>some ⟨[(6,false,[.d i64])],[(0,[.x (.tab 79 .ref 3 i64),.d i64,.row 3 i64,.row 3 i64,.row 3 i64,.d i64,.d i64])],[]⟩
 | _=>none
def HE:Nat->Option Hd
 | 3=>some ⟨[(5,false,[.d i64]),(21,false,[.d i64])],[],[]⟩
 | _=>none
def D2:Nat->Option Hd
 | 1=>some ⟨[],[(0,[.x (.tab 79 .ref 3 i64),.d i64,.row 3 i64,.row 3 i64,.row 3 i64,.d i64,.d i64])],[]⟩
 | 3=>some ⟨[(3,false,[.d i64]),(4,false,[.d i64])],[],[]⟩
 | _=>none
def I9:Nat->Option Hd
 | 14=>some ⟨[(6,false,[.d i64]),(43,false,[.d i64])],[],[(7,none,.row 3 i64)]⟩
 | 22=>some ⟨[(94,false,[.d i64])],[(5,[.d T47,.row 47 T47,.row 47 T47])],[]⟩
 | 27=>some ⟨[(110,false,[.d i64])],[(5,[.d T47,.row 47 T47,.row 47 T47])],[]⟩
 | 31=>some ⟨[(13,false,[.d i64]),(118,false,[.d i64])],[],[]⟩
 | _=>none
def H6:Nat->Option Hd
 | 10=>some ⟨[(5,false,[.row 47 T47]),(20,false,[.d i64])],[],[]⟩
 | _=>none
def HO:Nat->Option Hd
 | 4=>some ⟨[(13,false,[.d i64])],[],[]⟩
 | _=>none
def Ib:Nat->Option Hd
 | 2=>some ⟨[(8,false,[.d i64])],[],[]⟩
 | _=>none
def FJ:Nat->Option Hd
 | 1000002=>some ⟨[],[],[]⟩
 | _=>none
def Fc:Nat->Option Hd
 | 1000008=>some ⟨[(9,false,[.d .bool])],[(10,[.d kN])],[]⟩
 | 1000010=>some ⟨[(9,false,[.d .bool])],[(10,[.d kN])],[]⟩
 | _=>none
def GG:Nat->Option Hd
 | 3=>some ⟨[(15,false,[.d i64])],[(0,[.d KX]),(6,[.d T47]),(7,[.d T47])],[]⟩
 | _=>none
def DK:Nat->Option Hd
 | 1000007=>some ⟨[(11,false,[.d i64])],[(10,[.d T47])],[]⟩
 | _=>none
def Fa:Nat->Option Hd
 | 1000009=>some ⟨[],[(6,[.d kN]),(7,[.d kN])],[]⟩
 | _=>none
def Gh:Nat->Option Hd
 | 3=>some ⟨[(5,false,[.row 3 i64]),(11,false,[.d i64])],[],[]⟩
 | _=>none
def Hf:Nat->Option Hd
 | 3=>some ⟨[(9,false,[.d .bool]),(14,false,[.d i64])],[(0,[.d KX])],[]⟩
 | _=>none
def Gv:Nat->Option Hd
 | 3=>some ⟨[(3,false,[.row 3 i64]),(9,false,[.d i64])],[],[]⟩
 | _=>none
def Ew:Nat->Option Hd
 | 2=>some ⟨[(10,false,[.d i64])],[],[]⟩
 | _=>none
def Je:Nat->Option Hd
 | 7=>some ⟨[(8,false,[.row 47 T47]),(9,false,[.d i64]),(25,false,[.d i64])],[],[]⟩
 | 11=>some ⟨[(31,false,[.d i64])],[(11,[.d T47])],[]⟩
 | _=>none
def HX:Nat->Option Hd
 | 1000004=>some ⟨[(8,false,[.d i64])],[],[]⟩
 | _=>none
def Ji:Nat->Option Hd
 | 2=>some ⟨[(0,false,[.row 5 (.int .u8)]),(7,false,[.d i64])],[],[]⟩
 | _=>none
def IX:Nat->Option Hd
 | 3=>some ⟨[(3,false,[.d (.int .u32)]),(8,false,[.d i64])],[],[]⟩
 | _=>none
def HL:Nat->Option Hd
 | 12=>some ⟨[(6,false,[.row 5 (.int .u8)]),(36,false,[.d i64])],[],[]⟩
 | _=>none
def Im:Nat->Option Hd
 | 1000010=>some ⟨[],[],[(6,none,.row 5 (.int .u8))]⟩
 | _=>none
def Iq:Nat->Option Hd
 | 4=>some ⟨[(3,false,[.d i64])],[],[]⟩
 | 9=>some ⟨[(4,false,[.d i64])],[],[]⟩
 | 14=>some ⟨[(5,false,[.d i64])],[],[]⟩
 | _=>none
def HV:Nat->Option Hd
 | 1=>some ⟨[(1,false,[.d i64])],[],[]⟩
 | _=>none
def Jw:Nat->Option Hd
 | 2=>some ⟨[(5,false,[.d i64])],[],[]⟩
 | _=>none
def HY:Nat->Option Hd
 | 2=>some ⟨[(5,false,[.d i64])],[],[]⟩
 | _=>none
def Er:Nat->Option Hd
 | 4=>some ⟨[(5,false,[.d i64])],[(2,[.d iZ]),(3,[.d iZ])],[]⟩
 | 6=>some ⟨[],[(2,[.d iZ]),(3,[.d iZ])],[]⟩
 | 7=>some ⟨[],[(2,[.d iZ])],[]⟩
 | 9=>some ⟨[],[(3,[.d iZ])],[]⟩
 | 14=>some ⟨[(5,false,[.d i64])],[(3,[.d iZ])],[]⟩
 | _=>none
def JC:Nat->Option Hd
 | 4=>some ⟨[(5,false,[.d i64])],[],[]⟩
 | _=>none
def Jz:Nat->Option Hd
 | 4=>some ⟨[(3,false,[.d i64])],[],[]⟩
 | 11=>some ⟨[(5,false,[.d i64]),(6,false,[.d i64])],[],[]⟩
 | _=>none
def Jp:Nat->Option Hd
 | 3=>some ⟨[(3,false,[.d i64]),(4,false,[.d i64])],[],[]⟩
 | 8=>some ⟨[(5,false,[.row 3 i64]),(6,false,[.d i64])],[],[]⟩
 | 12=>some ⟨[(7,false,[.d i64]),(8,false,[.d i64])],[],[]⟩
 | _=>none
def JJ:Nat->Option Hd
 | 3=>some ⟨[(6,false,[.d i64]),(7,false,[.d i64])],[],[]⟩
 | _=>none
def Ir:Nat->Option Hd
 | 5=>some ⟨[(6,false,[.d i64]),(7,false,[.d i64])],[],[]⟩
 | _=>none
def FP:Nat->Option Hd
 | 3=>some ⟨[(5,false,[.d i64]),(6,false,[.d i64])],[],[]⟩
 | _=>none
def Jv:Nat->Option Hd
 | 3=>some ⟨[(3,false,[.x (.tab 79 .ref 3 i64)]),(4,false,[.d i64])],[],[]⟩
 | 7=>some ⟨[(5,false,[.row 3 i64]),(6,false,[.d i64])],[],[]⟩
 | _=>none
def Jl:Nat->Option Hd
 | 4=>some ⟨[(7,false,[.d i64])],[(5,[.d (.sl i64),.row 124 zc])],[]⟩
 | _=>none
def I8:Nat->Option Hd
 | 3=>some ⟨[(3,false,[.row 3 i64]),(4,false,[.d i64])],[],[]⟩
 | _=>none
def IH:Nat->Option Hd
 | 2=>some ⟨[(3,false,[.d i64])],[],[]⟩
 | _=>none
def FT:Nat->Option Hd
 | 5=>some ⟨[(8,false,[.d i64])],[(2,[.d iZ]),(6,[.d iZ]),(7,[.d iZ])],[]⟩
 | _=>none
def IV:Nat->Option Hd
 | 3=>some ⟨[(7,false,[.d i64])],[(4,[.d T47]),(6,[.d T47])],[]⟩
 | _=>none
def EC:Nat->Option Hd
 | 3=>some ⟨[(5,false,[.row 3 i64]),(6,false,[.d i64])],[],[]⟩
 | _=>none
def Jr:Nat->Option Hd
 | 3=>some ⟨[(8,false,[.d .bool]),(9,false,[.d i64])],[],[]⟩
 | _=>none
def I7:Nat->Option Hd
 | 3=>some ⟨[(3,false,[.row 3 i64]),(4,false,[.d i64])],[],[]⟩
 | _=>none
def HZ:Nat->Option Hd
 | 2=>some ⟨[(5,false,[.d i64])],[],[]⟩
 | _=>none
def HH:Nat->Option Hd
 | 3=>some ⟨[(7,false,[.d i64])],[(4,[.d T47]),(6,[.d T47])],[]⟩
 | _=>none
def Jj:Nat->Option Hd
 | 7=>some ⟨[(8,false,[.row 47 T47]),(9,false,[.d i64])],[],[]⟩
 | _=>none
def Ig:Nat->Option Hd
 | 5=>some ⟨[(8,false,[.d i64])],[],[]⟩
 | _=>none
def HT:Nat->Option Hd
 | 18=>some ⟨[(9,false,[.d .bool]),(10,false,[.d i64])],[],[]⟩
 | _=>none
def Jc:Nat->Option Hd
 | 1000009=>some ⟨[(8,false,[.d i64])],[],[]⟩
 | _=>none
def Iv:Nat->Option Hd
 | 3=>some ⟨[(4,false,[.d i64])],[(3,[.row 45 T45,.row 72 T72])],[]⟩
 | _=>none
def K3:Nat->Option Hd
 | 10=>some ⟨[(45,false,[.d i64])],[],[(7,some 0,.row 45 T45)]⟩
 | 20=>some ⟨[(69,false,[.d i64])],[(9,[.row 47 T47,.d .bool,.d (.sl T47)])],[]⟩
 | _=>none
def KN:Nat->Option Hd
 | 1000018=>some ⟨[],[(9,[.row 47 T47,.d .bool,.d (.sl T47)])],[]⟩
 | _=>none
def IM:Nat->Option Hd
 | 2=>some ⟨[(0,false,[.row 5 (.int .u8)]),(7,false,[.d i64])],[],[]⟩
 | _=>none
def Jy:Nat->Option Hd
 | 3=>some ⟨[(3,false,[.d i64]),(4,false,[.d i64])],[],[]⟩
 | _=>none
def HJ:Nat->Option Hd
 | 11=>some ⟨[(6,false,[.row 5 (.int .u8)]),(7,false,[.d i64])],[],[]⟩
 | _=>none
def IT:Nat->Option Hd
 | 1000009=>some ⟨[],[],[(6,none,.row 5 (.int .u8))]⟩
 | _=>none
def H5:Nat->Option Hd
 | 4=>some ⟨[(13,false,[.d i64])],[],[]⟩
 | _=>none
def Js:Nat->Option Hd
 | 4=>some ⟨[(5,false,[.d i64])],[],[]⟩
 | _=>none
def H4:Nat->Option Hd
 | 3=>some ⟨[(3,false,[.d i64]),(8,false,[.d i64])],[],[]⟩
 | _=>none
def IR:Nat->Option Hd
 | 12=>some ⟨[(5,false,[.row 47 T47]),(6,false,[.d i64])],[(2,[.d T30])],[]⟩
 | _=>none
def Iy:Nat->Option Hd
 | 3=>some ⟨[(3,false,[.d i64]),(4,false,[.d i64])],[],[]⟩
 | _=>none
def H8:Nat->Option Hd
 | 12=>some ⟨[(5,false,[.row 47 T47]),(6,false,[.d i64])],[],[]⟩
 | _=>none
def Gz:Nat->Option Hd
 | 2=>some ⟨[(8,false,[.d i64])],[],[]⟩
 | _=>none
def EH:Nat->Option Hd
 | 1000007=>some ⟨[(12,false,[.d (.int .u64)]),(13,false,[.d (.int .u64)]),(18,false,[.d .bool])],[],[]⟩
 | 1000008=>some ⟨[(12,false,[.d (.int .u64)]),(13,false,[.d (.int .u64)]),(14,false,[.d (.int .u64)]),(15,false,[.d (.int .u64)]),(18,false,[.d .bool])],[],[]⟩
 | _=>none
def FY:Nat->Option Hd
 | 3=>some ⟨[(20,false,[.d i64])],[(5,[.x (.tab 79 .ref 3 i64),.d i64,.row 3 i64,.row 3 i64,.d .bool])],[]⟩
 | 9=>some ⟨[(40,false,[.d i64])],[(5,[.x (.tab 79 .ref 3 i64),.d i64,.row 3 i64,.row 3 i64,.d .bool])],[]⟩
 | 14=>some ⟨[(10,false,[.d i64]),(11,false,[.d i64])],[],[]⟩
 | 19=>some ⟨[(10,false,[.d i64])],[(5,[.x (.tab 79 .ref 3 i64),.d i64,.row 3 i64,.row 3 i64,.d .bool])],[]⟩
 | 26=>some ⟨[(130,false,[.d i64])],[],[(5,some 0,.x (.tab 79 .ref 3 i64))]⟩
 | 31=>some ⟨[(144,false,[.d i64])],[],[(5,some 0,.x (.tab 79 .ref 3 i64))]⟩
 | _=>none
def JF:Nat->Option Hd
 | 10=>some ⟨[(7,false,[.x (.tab 79 .ref 3 i64)]),(37,false,[.d i64])],[],[]⟩
 | 16=>some ⟨[(64,false,[.d i64])],[],[]⟩
 | 25=>some ⟨[(13,false,[.row 47 T47]),(80,false,[.d i64])],[],[]⟩
 | _=>none
def Li:Nat->List Nat
 | 2000014=>[7]
 | _=>[]
def aj:FuncId->Hint
 | 92=>{loop:=Ik}
 | 127=>{loop:=FA}
 | 154=>{loop:=FZ}
 | 59=>{loop:=JH}
 | 91=>{loop:=Iz}
 | 50=>{loop:=It}
 | 72=>{loop:=HK}
 | 73=>{loop:=Jq}
 | 97=>{loop:=IK}
 | 98=>{loop:=Ii,join:=Jb}
 | 174=>{loop:=Ek}
 | 175=>{loop:=Gm}
 | 146=>{loop:=Dz}
 | 148=>{loop:=GB,join:=Hk}
 | 100=>{loop:=Ef}
 | 101=>{loop:=GJ,join:=Gb}
 | 106=>{loop:=F9}
 | 177=>{join:=DY}
 | 194=>{join:=FSs}
 | 185=>{loop:=En,join:=FU}
 | 149=>{loop:=Ft}
 | 150=>{loop:=Em}
 | 102=>{loop:=Gl}
 | 151=>{loop:=HE}
 | 103=>{loop:=D2}
 | 56=>{loop:=I9}
 | 57=>{loop:=H6}
 | 36=>{loop:=HO}
 | 75=>{loop:=Ib}
 | 129=>{join:=FJ}
 | 171=>{join:=Fc}
 | 133=>{loop:=GG,join:=DK}
 | 187=>{join:=Fa}
 | 170=>{loop:=Gh}
 | 131=>{loop:=Hf}
 | 134=>{loop:=Gv}
 | 135=>{loop:=Ew}
 | 95=>{loop:=Je}
 | 19=>{join:=HX}
 | 63=>{loop:=Ji}
 | 64=>{loop:=IX}
 | 25=>{loop:=HL,join:=Im}
 | 12=>{loop:=Iq}
 | 77=>{loop:=HV}
 | 40=>{loop:=Jw}
 | 41=>{loop:=HY}
 | 152=>{loop:=Er}
 | 42=>{loop:=JC}
 | 14=>{loop:=Jz}
 | 79=>{loop:=Jp}
 | 80=>{loop:=JJ}
 | 43=>{loop:=Ir}
 | 118=>{loop:=FP}
 | 81=>{loop:=Jv}
 | 44=>{loop:=Jl}
 | 45=>{loop:=I8}
 | 70=>{loop:=IH}
 | 186=>{loop:=FT}
 | 83=>{loop:=IV}
 | 119=>{loop:=EC}
 | 82=>{loop:=Jr}
 | 84=>{loop:=I7}
 | 86=>{loop:=HZ}
 | 124=>{loop:=HH}
 | 87=>{loop:=Jj}
 | 48=>{loop:=Ig}
 | 18=>{loop:=HT,join:=Jc}
 | 22=>{loop:=Iv}
 | 6=>{loop:=K3,join:=KN,thaw:=Li}
 | 65=>{loop:=IM}
 | 66=>{loop:=Jy}
 | 26=>{loop:=HJ,join:=IT}
 | 27=>{loop:=H5}
 | 67=>{loop:=Js}
 | 68=>{loop:=H4}
 | 29=>{loop:=IR}
 | 69=>{loop:=Iy}
 | 30=>{loop:=H8}
 | 181=>{loop:=Gz}
 | 159=>{join:=EH}
 | 113=>{loop:=FY}
 | 74=>{loop:=JF}
 | _=>{}
def uX (p : String) : Bool := p == "program.go:104" || p == "ref.go:45" || p == "tension.go:104" || p == "ref.go:107"
def va:TypeId->Option XP
 | 108=>some (.tab 79 .ref 3 i64)
 | 109=>some (.tab 79 .ref 3 i64)
 | _=>none
def pF:List Nat:=[89,175,144,145,101,149,102,103,129,131]
def its:List (Nat×ICtr):=[]
theorem Nl:Dq prog its:=Di
end Go.Proofs.YtegbncajloeepaaGreat

namespace Go.Proofs.YtegbncajloeepaaGreat
noncomputable section
open Tryz Dn Dn.Sh
set_option maxRecDepth 100000
theorem aw:prog.follows .mixedOrders=true:=by kernel_rfl
theorem Lx:yB prog pF=true:=by kernel_rfl
theorem q0:(gg prog shs pF its [] []).ok:=Cw Lx Nl
abbrev cx (l) (r):=uk va uX (gg prog shs pF its l r)
def jG (_:Lp) (_:Jn) (x0:List Int):Option (List Int) :=
 bif dU (0+List.length x0) 8 then some x0 else none
def aY (x0:List Int):Option (List Int):=jG lpK jnK x0
abbrev DW:=(List Int)->Option (List Int)
def KZ (aY:DW):RCtr:=⟨[(.sl i64)],3,i64,fun x=>aY x.1⟩
def aU:RCtr:=KZ aY
theorem Om (lp:Lp) (jn:Jn):∀x:TsS aU.as,jG lp jn x.1=ye lp jn (cx [] []) aj 4 112 f112 aU.t aU.e (vY aU.as x true):=fun x=>by kernel_rfl
theorem K1:aU.ok prog 112:=RCtr.of_den_nil (c:=aU) (an (q0)) aw (hl:=aj) (d:=4) rfl func112 rfl (by decide) (Om lpK jnK) fun x h=>by
 obtain ⟨l,u⟩:=x
 simp only at h
 subst h
 kernel_rfl
theorem LG:(gg prog shs pF its [] [(112,aU)]).ok:=rL q0 (by kernel_rfl) K1
def jN (lp:Lp) (jn:Jn) (x0:List (List (Int×Int))):Option (List (Int×Int)) :=
 lp (Int×Int×PUnit) (List (Int×Int)) (fun (again:Int×Int×PUnit->Option (List (Int×Int))) (x:Int×Int×PUnit)=>bif decide (x.2.1<(↑x0.length:Int)) then bif inB x.2.1 x0.length then bif decide (IntKind.wrap .i64 (x.1+(↑(List.length (x0.getD x.2.1.toNat [])):Int))<0) then none else again (IntKind.wrap .i64 (x.1+(↑(List.length (x0.getD x.2.1.toNat [])):Int)),IntKind.wrap .i64 (x.2.1+1),PUnit.unit) else none else jn PUnit (List (Int×Int)) (fun (_:PUnit)=>bif decide (IntKind.wrap .i64 (x.1 - IntKind.wrap .i64 ((↑0:Int) - (↑0:Int)))>0) then bif slB (0 : Int) (↑0:Int) 0 then bif decide (0<IntKind.wrap .i64 (x.1 - IntKind.wrap .i64 ((↑0:Int) - (↑0:Int))))&&dU (Int.toNat (IntKind.wrap .i64 (x.1 - IntKind.wrap .i64 ((↑0:Int) - (↑0:Int))))) 16 then bif slB 0 (↑0:Int) (Int.toNat (IntKind.wrap IntKind.i64 (x.1 - IntKind.wrap .i64 ((↑0:Int) - (↑0:Int)))))&&decide (0<Int.toNat (IntKind.wrap .i64 (x.1 - IntKind.wrap .i64 ((↑0:Int) - (↑0:Int))))) then lp (List (Int×Int)×Int×PUnit) (List (Int×Int)) (fun (again:List (Int×Int)×Int×PUnit->Option (List (Int×Int))) (x : List (Int×Int)×Int×PUnit) =>
 let v8:List (Int×Int):=x0.getD x.2.1.toNat [];bif decide (x.2.1<(↑x0.length:Int)) then bif inB x.2.1 x0.length then bif dU (List.length x.1+List.length v8) 16 then again (x.1++v8,IntKind.wrap .i64 (x.2.1+1),PUnit.unit) else none else none else some x.1) (List.take (Int.toNat (↑(0 : Nat):Int)) (List.replicate (Int.toNat (IntKind.wrap .i64 (x.1 - IntKind.wrap .i64 ((↑0:Int) - (↑0:Int))))) (0,0)),0, PUnit.unit) else none else none else none else lp (List (Int×Int)×Int×PUnit) (List (Int×Int)) (fun (again:List (Int×Int)×Int×PUnit->Option (List (Int×Int))) (x:List (Int×Int)×Int×PUnit) =>
 let v8:List (Int×Int):=x0.getD x.2.1.toNat [];bif decide (x.2.1<(↑x0.length:Int)) then bif inB x.2.1 x0.length then bif dU (List.length x.1+List.length v8) 16 then again (x.1++v8,IntKind.wrap .i64 (x.2.1+1),PUnit.unit) else none else none else some x.1) ([],0, PUnit.unit)) fun (j:PUnit->Option (List (Int×Int)))=>bif decide (x.1<0) then none else j PUnit.unit) (0,0,PUnit.unit)
def cX (x0:List (List (Int×Int))):Option (List (Int×Int)):=jN lpK jnK x0
abbrev t92:=(List (List (Int×Int)))->Option (List (Int×Int))
def r92:RCtr:=⟨[(.sl (.sl T47))],47,T47,fun x=>cX x.1⟩
theorem e92 (lp:Lp) (jn:Jn):∀x:TsS r92.as,jN lp jn x.1=ye lp jn (cx [] [(112,aU)]) aj 4 92 f92 r92.t r92.e (gU r92.as x 0):=fun x=>by kernel_rfl
theorem LR:r92.ok prog 92:=RCtr.of_den (c:=r92) (an (LG)) aw (hl:=aj) (d:=4) func92 rfl (by decide) (e92 lpK jnK)
theorem q92:(gg prog shs pF its [] [(92,r92),(112,aU)]).ok:=rL LG (by kernel_rfl) LR
def kr (_:Lp) (_:Jn) (x0:List Int):Option (List Int) :=
 bif dU (0+List.length x0) 1 then some x0 else none
def sS (x0:List Int):Option (List Int):=kr lpK jnK x0
def r32:RCtr:=⟨[(.sl (.int .u8))],5,(.int .u8),fun x=>sS x.1⟩
theorem e32 (lp:Lp) (jn:Jn):∀x:TsS r32.as,kr lp jn x.1=ye lp jn (cx [] [(92,r92),(112,aU)]) aj 4 32 f32 r32.t r32.e (vY r32.as x true):=fun x=>by kernel_rfl
theorem LV:r32.ok prog 32:=RCtr.of_den_nil (c:=r32) (an (q92)) aw (hl:=aj) (d:=4) rfl func32 rfl (by decide) (e32 lpK jnK) fun x h=>by
 obtain ⟨l,u⟩:=x
 simp only at h
 subst h
 kernel_rfl
theorem q32:(gg prog shs pF its [] [(32,r32),(92,r92),(112,aU)]).ok:=rL q92 (by kernel_rfl) LV
def lM (_:Lp) (_:Jn) (x0:Int) (x1:Int) (x2:Int):Option Bool :=
 
 let v5:Bool:=decide (x0>=x1);
 let v6:Bool:=!v5||v5;bif v6&&v6 then bif v6 then some (bif v5 then decide (x0<=x2) else false) else none else none
def bb (x0:Int) (x1:Int) (x2:Int):Option Bool:=lM lpK jnK x0 x1 x2
abbrev t88:=(Int)->(Int)->(Int)->Option (Bool)
def k88 (bb:t88):Ctr:=⟨[i64,i64,i64],[],[],.one .bool,fun x _ _=>bb x.1 x.2.1 x.2.2.1⟩
def c88:Ctr:=k88 bb
theorem e88 (lp:Lp) (jn:Jn):∀(x:TsS c88.as) (F:TsF c88.fs) (y:TsS c88.cs),lM lp jn x.1 x.2.1 x.2.2.1=bg lp jn (cx [] [(32,r32),(92,r92),(112,aU)]) aj 4 88 f88 c88 x F y:=fun x F y=>by kernel_rfl
theorem Na:c88.ok prog 88:=Ctr.of_den (an (q32)) aw (hl:=aj) (d:=4) func88 rfl (by decide) (e88 lpK jnK)
def lz (_:Lp) (_:Jn) (x0:Int):Option Bool :=
 
 let v3:Bool:=decide (x0>=97);
 let v4:Bool:=decide (x0>=65);
 let v5:Bool:=!v3||v3;
 let v6:Bool:=bif v3 then decide (x0<=122) else false;
 let v7:Bool:=!v6;
 let v8:Bool:=!v7;
 let v9:Bool:=v7&&v4;
 let v10:Bool:=v8||v7;bif v5 then bif v5 then bif v10 then bif v10 then bif !v9||v9 then bif (v8||v10)&&(v8||(!v4||(v8||v9))) then bif v6||v7 then some (bif v6 then true else bif v4 then decide (x0<=90) else false) else none else none else none else none else none else none else none
def bh (x0:Int):Option Bool:=lz lpK jnK x0
abbrev Hc:=(Int)->Option (Bool)
def KO (bh:Hc):Ctr:=⟨[(.int .u8)],[],[],.one .bool,fun x _ _=>bh x.1⟩
def F7:Ctr:=KO bh
theorem OT (lp:Lp) (jn:Jn):∀(x:TsS F7.as) (F:TsF F7.fs) (y:TsS F7.cs),lz lp jn x.1=bg lp jn (cx [] [(32,r32),(92,r92),(112,aU)]) aj 4 126 f126 F7 x F y:=fun x F y=>by kernel_rfl
theorem J6:F7.ok prog 126:=Ctr.of_den (an (q32)) aw (hl:=aj) (d:=4) func126 rfl (by decide) (OT lpK jnK)
def mN (_:Lp) (_:Jn) (x0:Int):Option Bool :=
 
 let v3:Bool:=decide (x0>=48);
 let v4:Bool:=!v3||v3;bif v4 then bif v4 then some (bif v3 then decide (x0<=57) else false) else none else none
def eA (x0:Int):Option Bool:=mN lpK jnK x0
abbrev LZ:=(Int)->Option (Bool)
def F5:Ctr:=⟨[(.int .u8)],[],[],.one .bool,fun x _ _=>eA x.1⟩
theorem P8 (lp:Lp) (jn:Jn):∀(x:TsS F5.as) (F:TsF F5.fs) (y:TsS F5.cs),mN lp jn x.1=bg lp jn (cx [] [(32,r32),(92,r92),(112,aU)]) aj 4 166 f166 F5 x F y:=fun x F y=>by kernel_rfl
theorem Ml:F5.ok prog 166:=Ctr.of_den (an (q32)) aw (hl:=aj) (d:=4) func166 rfl (by decide) (P8 lpK jnK)
def nU (lp:Lp) (_:Jn) (bh:Hc) (eA:LZ) (x0:ByteArray):Option Int :=
 lp (Int×PUnit) Int (fun (again:Int×PUnit->Option Int) (x:Int×PUnit) =>
 let v5:Bool:=inB x.1 (ByteArray.size x0);
 let v6:Int:=jO x0 x.1.toNat;
 let v7:Bool:=decide (x.1<(↑(ByteArray.size x0):Int));
 let v8:Bool:=!v7;
 let v9:Bool:=v8||v7;
 let v10:Bool:=v8||v9;bif v9&&(v9&&(v8||v5)) then bif v9 then af (bif v7 then bh v6 else some false) fun (t:Bool) =>
 let v12:Bool:=v7&&!t;
 let v13:Bool:=!v12;
 let v14:Bool:=v13||v12;bif v9 then bif v14&&(v14&&(v13||v5)) then bif v14 then af (bif v12 then eA v6 else some false) fun (t_1:Bool) =>
 let v16:Bool:=bif t then true else t_1;
 let v17:Bool:=v7&&!v16;
 let v18:Bool:=!v17;
 let v19:Bool:=v18||v17;bif v10&&(v8||(t||(v8||v12))) then bif v9 then bif v19&&(v19&&(v18||v5)) then bif v19 then bif v10&&(v8||(v16||(v8||v17))) then bif v9 then bif bif v7 then bif v16 then true else decide (v6=95) else false then again (IntKind.wrap .i64 (x.1+1),PUnit.unit) else some x.1 else none else none else none else none else none else none else none else none else none else none else none) (0,PUnit.unit)
def eO (x0:ByteArray):Option Int:=nU lpK jnK bh eA x0
abbrev LK:=(ByteArray)->Option (Int)
def E7:Ctr:=⟨[.str],[],[],.one i64,fun x _ _=>eO x.1⟩
theorem OP (lp:Lp) (jn:Jn) (bh:Hc) (eA:LZ):∀(x:TsS E7.as) (F:TsF E7.fs) (y:TsS E7.cs),nU lp jn bh eA x.1=bg lp jn (cx [(166,⟨[(.int .u8)],[],[],.one .bool,fun x _ _=>eA x.1⟩),(126,KO bh)] [(32,r32),(92,r92),(112,aU)]) aj 4 127 f127 E7 x F y:=fun x F y=>by kernel_rfl
theorem Mi:E7.ok prog 127:=Ctr.of_den (an (aa (aa (q32) (by kernel_rfl) J6) (by kernel_rfl) Ml)) aw (hl:=aj) (d:=4) func127 rfl (by decide) (OP lpK jnK bh eA)
def kX (_:Lp) (_:Jn) (bh:Hc) (eO:LK) (x0:ByteArray):Option Bool :=
 
 let v3:Bool:=!List.beq (ByteArray.toList x0) (ByteArray.toList { data:=#[] });
 let v4:Bool:=!v3||v3;
 let v5:Bool:=bif v3 then decide ((↑(ByteArray.size x0):Int)<=20) else false;
 let v6:Bool:=!v5;
 let v7:Bool:=v6||v5;bif v4 then bif v4 then bif v4 then bif v7&&(v6||inB 0 (ByteArray.size x0)) then bif v7 then af (bif v5 then bh (jO x0 0) else some false) fun (t:Bool) =>
 let v9:Bool:=bif v5 then t else false;
 let v10:Bool:=!v9||v9;bif v7 then bif v10 then af (bif v9 then eO x0 else some 0) fun (t:Int)=>bif v10 then bif v10&&v10 then bif v10 then some (bif v9 then decide (t=(↑(ByteArray.size x0):Int)) else false) else none else none else none else none else none else none else none else none else none else none
def di (x0:ByteArray):Option Bool:=kX lpK jnK bh eO x0
abbrev t90:=(ByteArray)->Option (Bool)
def c90:Ctr:=⟨[.str],[],[],.one .bool,fun x _ _=>di x.1⟩
theorem e90 (lp:Lp) (jn:Jn) (bh:Hc) (eO:LK):∀(x:TsS c90.as) (F:TsF c90.fs) (y:TsS c90.cs),kX lp jn bh eO x.1=bg lp jn (cx [(127,⟨[.str],[],[],.one i64,fun x _ _=>eO x.1⟩),(126,KO bh)] [(32,r32),(92,r92),(112,aU)]) aj 4 90 f90 c90 x F y:=fun x F y=>by kernel_rfl
theorem OZ:c90.ok prog 90:=Ctr.of_den (an (aa (aa (q32) (by kernel_rfl) J6) (by kernel_rfl) Mi)) aw (hl:=aj) (d:=4) func90 rfl (by decide) (e90 lpK jnK bh eO)
def gS (lp:Lp) (_:Jn) (x0:List (ByteArray×Int)) (f0:(((ByteArray×Int)×Unit)->Option Bool)):Option Int :=
 lp (Int×PUnit) Int (fun (again:Int×PUnit->Option Int) (x:Int×PUnit)=>bif decide (x.1<(↑x0.length:Int)) then bif inB x.1 x0.length then af (f0 (x0.getD x.1.toNat ({ data:={ toList:=[] } },0),PUnit.unit)) fun (t:Bool)=>bif t then some x.1 else again (IntKind.wrap .i64 (x.1+1), PUnit.unit) else none else some (-1)) (0,PUnit.unit)
def bB (x0:List (ByteArray×Int)) (f0:(((ByteArray×Int)×Unit)->Option Bool)):Option Int:=gS lpK jnK x0 f0
abbrev Kr:=(List (ByteArray×Int))->((((ByteArray×Int)×Unit)->Option Bool))->Option (Int)
def Nk (bB:Kr):Ctr:=⟨[(.sl T45)],[([T45],.bool)],[],.one i64,fun x F _=>bB x.1 F.1⟩
def FF:Ctr:=Nk bB
theorem PO (lp:Lp) (jn:Jn):∀(x:TsS FF.as) (F:TsF FF.fs) (y:TsS FF.cs),gS lp jn x.1 F.1=bg lp jn (cx [] [(32,r32),(92,r92),(112,aU)]) aj 4 154 f154 FF x F y:=fun x F y=>by kernel_rfl
theorem Nv:FF.ok prog 154:=Ctr.of_den (an (q32)) aw (hl:=aj) (d:=4) func154 rfl (by decide) (PO lpK jnK)
def lB (_:Lp) (_:Jn) (x0:ByteArray×Int) (y0:ByteArray):Option Bool :=
 some (List.beq (ByteArray.toList x0.1) (ByteArray.toList y0))
def dL (x0:ByteArray×Int) (y0:ByteArray):Option Bool:=lB lpK jnK x0 y0
abbrev Mb:=(ByteArray×Int)->(ByteArray)->Option (Bool)
def G0:Ctr:=⟨[T45],[],[.str],.one .bool,fun x _ y=>dL x.1 y.1⟩
theorem Oe (lp:Lp) (jn:Jn):∀(x:TsS G0.as) (F:TsF G0.fs) (y:TsS G0.cs),lB lp jn x.1 y.1=bg lp jn (cx [] [(32,r32),(92,r92),(112,aU)]) aj 4 155 f155 G0 x F y:=fun x F y=>by kernel_rfl
theorem Nu:G0.ok prog 155:=Ctr.of_den (an (q32)) aw (hl:=aj) (d:=4) func155 rfl (by decide) (Oe lpK jnK)
def nh (_:Lp) (_:Jn) (bB:Kr) (dL:Mb) (x0:(List (ByteArray×Int))×List (ByteArray×(List (ByteArray×Int×Int×Int))×Bool)) (x1:ByteArray):Option Int :=
 af (bB x0.1 fun (x:(ByteArray×Int)×PUnit)=>dL x.1 x1) fun (t:Int)=>some t
def bM (x0:(List (ByteArray×Int))×List (ByteArray×(List (ByteArray×Int×Int×Int))×Bool)) (x1:ByteArray):Option Int:=nh lpK jnK bB dL x0 x1
abbrev G4:=((List (ByteArray×Int))×List (ByteArray×(List (ByteArray×Int×Int×Int))×Bool))->(ByteArray)->Option (Int)
def KU (bM:G4):Ctr:=⟨[T25,.str],[],[],.one i64,fun x _ _=>bM x.1 x.2.1⟩
def EV:Ctr:=KU bM
theorem PF (lp:Lp) (jn:Jn) (bB:Kr) (dL:Mb):∀(x:TsS EV.as) (F:TsF EV.fs) (y:TsS EV.cs),nh lp jn bB dL x.1 x.2.1=bg lp jn (cx [(155,⟨[T45],[],[.str],.one .bool,fun x _ y=>dL x.1 y.1⟩),(154,Nk bB)] [(32,r32),(92,r92),(112,aU)]) aj 4 109 f109 EV x F y:=fun x F y=>by kernel_rfl
theorem Kc:EV.ok prog 109:=Ctr.of_den (an (aa (aa (q32) (by kernel_rfl) Nv) (by kernel_rfl) Nu)) aw (hl:=aj) (d:=4) func109 rfl (by decide) (PF lpK jnK bB dL)
def nk (lp:Lp) (_:Jn) (x0:Int) (x1:Int):Option Int :=
 lp (Int×Int×PUnit) Int (fun (again:Int×Int×PUnit->Option Int) (x:Int×Int×PUnit)=>bif !decide (x.2.1=0) then bif nzB x.2.1 then again (x.2.1, Int.tmod x.1 x.2.1,PUnit.unit) else none else some x.1) (x0,x1,PUnit.unit)
def aW (x0:Int) (x1:Int):Option Int:=nk lpK jnK x0 x1
abbrev t59:=(Int)->(Int)->Option (Int)
def k59 (aW:t59):Ctr:=⟨[(.int .u64),(.int .u64)],[],[],.one (.int .u64),fun x _ _=>aW x.1 x.2.1⟩
def c59:Ctr:=k59 aW
theorem e59 (lp:Lp) (jn:Jn):∀(x:TsS c59.as) (F:TsF c59.fs) (y:TsS c59.cs),nk lp jn x.1 x.2.1=bg lp jn (cx [] [(32,r32),(92,r92),(112,aU)]) aj 4 59 f59 c59 x F y:=fun x F y=>by kernel_rfl
theorem IG:c59.ok prog 59:=Ctr.of_den (an (q32)) aw (hl:=aj) (d:=4) func59 rfl (by decide) (e59 lpK jnK)
def lU (_:Lp) (_:Jn) (x0:Int):Option Int :=
 
 let v3:Int:=IntKind.wrap .u64 x0;bif decide (x0<0) then some (IntKind.wrap .u64 (0 - v3)) else some v3
def av (x0:Int):Option Int:=lU lpK jnK x0
abbrev t60:=(Int)->Option (Int)
def k60 (av:t60):Ctr:=⟨[i64],[],[],.one (.int .u64),fun x _ _=>av x.1⟩
def c60:Ctr:=k60 av
theorem e60 (lp:Lp) (jn:Jn):∀(x:TsS c60.as) (F:TsF c60.fs) (y:TsS c60.cs),lU lp jn x.1=bg lp jn (cx [] [(32,r32),(92,r92),(112,aU)]) aj 4 60 f60 c60 x F y:=fun x F y=>by kernel_rfl
theorem Ev:c60.ok prog 60:=Ctr.of_den (an (q32)) aw (hl:=aj) (d:=4) func60 rfl (by decide) (e60 lpK jnK)
def kR (_:Lp) (_:Jn) (aW:t59) (av:t60) (x0:Int×Int):Option Bool :=
 
 let v3:Bool:=decide (x0.2>=1);
 let v4:Bool:=!v3||v3;
 let v5:Bool:=bif v3 then decide (x0.2<=1152921504606846976) else false;
 let v6:Bool:=bif v5 then decide (x0.1>=(-1152921504606846976)) else false;
 let v7:Bool:=!v5||v5;
 let v8:Bool:=bif v6 then decide (x0.1<=1152921504606846976) else false;
 let v9:Bool:=!v6||v6;
 let v10:Bool:=!v8||v8;bif v4 then bif v4 then bif v4 then bif v7 then bif v7 then bif v7 then bif v9 then bif v9 then bif v9 then bif v10 then bif v10 then af (bif v8 then av x0.1 else some 0) fun (t:Int)=>bif v10 then bif v10 then bif v10&&v10 then af (bif v8 then aW t (IntKind.wrap .u64 x0.2) else some (0 : Int)) fun (t:Int)=>bif v10 then bif v10 then some (bif v8 then decide (t=1) else false) else none else none else none else none else none else none else none else none else none else none else none else none else none else none else none else none
def al (x0:Int×Int):Option Bool:=kR lpK jnK aW av x0
abbrev t58:=(Int×Int)->Option (Bool)
def k58 (al:t58):Ctr:=⟨[T47],[],[],.one .bool,fun x _ _=>al x.1⟩
def c58:Ctr:=k58 al
theorem e58 (lp:Lp) (jn:Jn) (aW:t59) (av:t60):∀(x:TsS c58.as) (F:TsF c58.fs) (y:TsS c58.cs),kR lp jn aW av x.1=bg lp jn (cx [(60,k60 av),(59,k59 aW)] [(32,r32),(92,r92),(112,aU)]) aj 4 58 f58 c58 x F y:=fun x F y=>by kernel_rfl
theorem xA:c58.ok prog 58:=Ctr.of_den (an (aa (aa (q32) (by kernel_rfl) IG) (by kernel_rfl) Ev)) aw (hl:=aj) (d:=4) func58 rfl (by decide) (e58 lpK jnK aW av)
def mP (_:Lp) (_:Jn) (al:t58) (x0:Int×Int):Option Bool :=
 af (al x0) fun (t:Bool) =>
 let v4:Bool:=!t||t;
 let v5:Bool:=bif t then decide (x0.1>=x0.2) else false;
 let v6:Bool:=!v5||v5;bif v4 then bif v4 then bif v4&&v4 then bif v4 then bif v6 then bif v6 then bif v6 then some (bif v5 then decide (x0.1<=100) else false) else none else none else none else none else none else none else none
def ey (x0:Int×Int):Option Bool:=mP lpK jnK al x0
abbrev LJ:=(Int×Int)->Option (Bool)
def Ha:Ctr:=⟨[T47],[],[],.one .bool,fun x _ _=>ey x.1⟩
theorem Qa (lp:Lp) (jn:Jn) (al:t58):∀(x:TsS Ha.as) (F:TsF Ha.fs) (y:TsS Ha.cs),mP lp jn al x.1=bg lp jn (cx [(58,k58 al)] [(32,r32),(92,r92),(112,aU)]) aj 4 167 f167 Ha x F y:=fun x F y=>by kernel_rfl
theorem LY:Ha.ok prog 167:=Ctr.of_den (an (aa (q32) (by kernel_rfl) xA)) aw (hl:=aj) (d:=4) func167 rfl (by decide) (Qa lpK jnK al)
def oc (_:Lp) (_:Jn) (bM:G4) (ey:LJ) (x0:(List (ByteArray×Int))×List (ByteArray×(List (ByteArray×Int×Int×Int))×Bool)) (x1:ByteArray×Int×Int×Int) (x2:Bool):Option Bool :=
 
 let v5:Bool:=!x2;
 let v6:Bool:=v5||x2;
 let v7:Bool:=decide (x1.2.1=0);
 let v8:Bool:=decide (x1.2.1=1);
 let v9:Bool:=decide (x1.2.1=2);
 let v10:Bool:=!v8;
 let v11:Bool:=!v9;
 let v12:Bool:=bif v9 then true else v7;
 let v13:Bool:=!v10||v10;
 let v14:Bool:=!v11||v11;
 let v15:Bool:=!v12;
 let v16:Bool:=bif x2 then !(decide (x1.2.2.1=1)&&(decide (x1.2.2.2=1)&&true)) else false;
 let v17:Bool:=!v16;
 let v18:Bool:=!v17;
 let v19:Bool:=v17&&v5;
 let v20:Bool:=!v15||v15;
 let v21:Bool:=v18||v17;
 let v22:Bool:=!v19||v19;bif v6 then bif v6&&v6 then bif v6 then bif v21 then bif v21 then bif v22 then bif v22 then af (bif v19 then ey x1.2.2 else some false) fun (t:Bool)=>bif v22 then bif (v18||v21)&&(v18||(!v5||(v18||v19))) then bif v16||v17 then bif bif v16 then true else bif v5 then !t else false then some false else bif List.beq (ByteArray.toList x1.1) (ByteArray.toList { data:=#[] }) then some v7 else af (bM x0 x1.1) fun (t:Int)=>bif decide (t<0) then some false else bif x2 then bif v13 then bif v13 then bif v8||v10 then some (bif v8 then true else decide (x1.2.1=(-1))) else none else none else none else bif v14 then bif v14 then bif v9||v11 then bif v20 then bif v20 then bif v12||v15 then some (bif v12 then true else decide (x1.2.1=(-2))) else none else none else none else none else none else none else none else none else none else none else none else none else none else none else none else none
def dI (x0:(List (ByteArray×Int))×List (ByteArray×(List (ByteArray×Int×Int×Int))×Bool)) (x1:ByteArray×Int×Int×Int) (x2:Bool):Option Bool:=oc lpK jnK bM ey x0 x1 x2
abbrev KI:=((List (ByteArray×Int))×List (ByteArray×(List (ByteArray×Int×Int×Int))×Bool))->(ByteArray×Int×Int×Int)->(Bool)->Option (Bool)
def NC (dI:KI):Ctr:=⟨[T25,T74,.bool],[],[],.one .bool,fun x _ _=>dI x.1 x.2.1 x.2.2.1⟩
def Fj:Ctr:=NC dI
theorem O4 (lp:Lp) (jn:Jn) (bM:G4) (ey:LJ):∀(x:TsS Fj.as) (F:TsF Fj.fs) (y:TsS Fj.cs),oc lp jn bM ey x.1 x.2.1 x.2.2.1=bg lp jn (cx [(167,⟨[T47],[],[],.one .bool,fun x _ _=>ey x.1⟩),(109,KU bM)] [(32,r32),(92,r92),(112,aU)]) aj 4 128 f128 Fj x F y:=fun x F y=>by kernel_rfl
theorem Mr:Fj.ok prog 128:=Ctr.of_den (an (aa (aa (q32) (by kernel_rfl) Kc) (by kernel_rfl) LY)) aw (hl:=aj) (d:=4) func128 rfl (by decide) (O4 lpK jnK bM ey)
def nt (lp:Lp) (_:Jn) (bb:t88) (dI:KI) (x0:(List (ByteArray×Int))×List (ByteArray×(List (ByteArray×Int×Int×Int))×Bool)) (x1:ByteArray×(List (ByteArray×Int×Int×Int))×Bool):Option Bool :=
 
 let v4:Bool:=!x1.2.2;
 let v5:Bool:=!v4;
 let v6:Bool:=!v5;
 let v7:Int:=IntKind.wrap .i64 ((↑x1.2.1.length:Int) - 1);
 let v8:Bool:=v6||v5;af (bb (↑x1.2.1.length:Int) 2 10) fun (t:Bool)=>bif !t then some false else lp (Int×PUnit) Bool (fun (again : Int×PUnit->Option Bool) (x:Int×PUnit) =>
 let v12:Bool:=decide (x.1=0);
 let v13:Bool:=!v12;
 let v14:Bool:=!v13||v13;bif decide (x.1<(↑x1.2.1.length:Int)) then bif inB x.1 x1.2.1.length then bif v14 then bif v14&&v14 then bif v12||v13 then af (dI x0 (x1.2.1.getD x.1.toNat ({ data:={ toList:=[] } },0,0,0)) (bif v12 then true else decide (x.1=v7))) fun (t : Bool)=>bif !t then some false else again (IntKind.wrap .i64 (x.1+1),PUnit.unit) else none else none else none else none else bif v8 then bif v8 then bif v8&&(v8 && (v6||inB v7 x1.2.1.length)) then bif v8 then bif v8 then bif v8 then bif v4||v5 then some (bif v4 then true else List.beq (ByteArray.toList (x1.2.1.getD v7.toNat ({ data:={ toList:=[] } },0,0,0)).1) (ByteArray.toList { data:=#[] })) else none else none else none else none else none else none else none) (0,PUnit.unit)
def eQ (x0:(List (ByteArray×Int))×List (ByteArray×(List (ByteArray×Int×Int×Int))×Bool)) (x1:ByteArray×(List (ByteArray×Int×Int×Int))×Bool):Option Bool:=nt lpK jnK bb dI x0 x1
abbrev t91:=((List (ByteArray×Int))×List (ByteArray×(List (ByteArray×Int×Int×Int))×Bool))->(ByteArray×(List (ByteArray×Int×Int×Int))×Bool)->Option (Bool)
def c91:Ctr:=⟨[T25,T72],[],[],.one .bool,fun x _ _=>eQ x.1 x.2.1⟩
theorem e91 (lp:Lp) (jn:Jn) (bb:t88) (dI:KI):∀(x:TsS c91.as) (F:TsF c91.fs) (y:TsS c91.cs),nt lp jn bb dI x.1 x.2.1=bg lp jn (cx [(128,NC dI),(88,k88 bb)] [(32,r32),(92,r92),(112,aU)]) aj 4 91 f91 c91 x F y:=fun x F y=>by kernel_rfl
theorem PY:c91.ok prog 91:=Ctr.of_den (an (aa (aa (q32) (by kernel_rfl) Na) (by kernel_rfl) Mr)) aw (hl:=aj) (d:=4) func91 rfl (by decide) (e91 lpK jnK bb dI)
def mI (lp:Lp) (_:Jn) (bb:t88) (di:t90) (eQ:t91) (x0:(List (ByteArray×Int))×List (ByteArray×(List (ByteArray×Int×Int×Int))×Bool)):Option Bool :=
 af (bb (↑x0.1.length:Int) 1 6) fun (t:Bool) =>
 let v4:Bool:=!t;
 let v5:Bool:=!v4;
 let v6:Bool:=!v5||v5;bif v6 then bif v6 then bif v6 then af (bif v5 then bb (↑x0.2.length:Int) 1 6 else some false) fun (t:Bool)=>bif v6 then bif v4||v5 then bif bif v4 then true else !t then some false else lp (Int×List (ByteArray×Bool)×PUnit) Bool (fun (again:Int×List (ByteArray×Bool)×PUnit->Option Bool) (x:Int×List (ByteArray×Bool)×PUnit) =>
 let v10:ByteArray×Int:=x0.1.getD x.1.toNat ({ data:={ toList:=[] } },0);bif decide (x.1<(↑x0.1.length:Int)) then bif inB x.1 x0.1.length then af (di v10.1) fun (t:Bool) =>
 let v12:Bool:=!t||t;bif v12&&v12 then bif v12 then bif v12 then bif (!!!bif t then !iI str Sh.bool v10.1 false x.2.1 else false)||!!bif t then !iI str Sh.bool v10.1 false x.2.1 else false then bif (!!!bif t then !iI str Sh.bool v10.1 false x.2.1 else false)||!!bif t then !iI str Sh.bool v10.1 false x.2.1 else false then af (bif !!bif t then !iI str Sh.bool v10.1 false x.2.1 else false then bb v10.2 0 16777216 else some false) fun (t_1:Bool)=>bif (!!!bif t then !iI str Sh.bool v10.1 false x.2.1 else false)||!!bif t then !iI str Sh.bool v10.1 false x.2.1 else false then bif (!bif t then !iI str Sh.bool v10.1 false x.2.1 else false)||!!bif t then !iI str Sh.bool v10.1 false x.2.1 else false then bif bif !bif t then !iI str Sh.bool v10.1 false x.2.1 else false then true else !t_1 then some false else again (IntKind.wrap .i64 (x.1+1),uV str Sh.bool v10.1 true x.2.1,PUnit.unit) else none else none else none else none else none else none else none else none else lp (Int×Int×List (ByteArray×Bool)×PUnit) Bool (fun (again:Int×Int×List (ByteArray×Bool)×PUnit->Option Bool) (x:Int×Int×List (ByteArray×Bool)×PUnit) =>
 let v13:ByteArray×List (ByteArray×Int×Int×Int)×Bool:=x0.2.getD x.2.1.toNat ({ data:={ toList:=[] } },[],false);bif decide (x.2.1<(↑x0.2.length:Int)) then bif inB x.2.1 x0.2.length then af (di v13.1) fun (t:Bool) =>
 let v15:Bool:=!t||t;bif v15&&v15 then bif v15 then bif v15 then bif ((!!!bif t then !iI str Sh.bool v13.1 false x.2.2.1 else false)||!!bif t then !iI str Sh.bool v13.1 false x.2.2.1 else false)&&((!!!bif t then !iI str Sh.bool v13.1 false x.2.2.1 else false)||!!bif t then !iI str Sh.bool v13.1 false x.2.2.1 else false) then af (bif !!bif t then !iI str Sh.bool v13.1 false x.2.2.1 else false then eQ x0 v13 else some false) fun (t_1:Bool)=>bif (!!!bif t then !iI str Sh.bool v13.1 false x.2.2.1 else false)||!!bif t then !iI str Sh.bool v13.1 false x.2.2.1 else false then bif (!bif t then !iI str Sh.bool v13.1 false x.2.2.1 else false)||!!bif t then !iI str Sh.bool v13.1 false x.2.2.1 else false then bif bif !bif t then !iI str Sh.bool v13.1 false x.2.2.1 else false then true else !t_1 then some false else bif v13.2.2 then again (IntKind.wrap .i64 (x.1+1),IntKind.wrap .i64 (x.2.1+1),uV str Sh.bool v13.1 true x.2.2.1,PUnit.unit) else again (x.1,IntKind.wrap .i64 (x.2.1+1),uV str Sh.bool v13.1 true x.2.2.1,PUnit.unit) else none else none else none else none else none else none else none else some (decide (x.1<=1))) (0,0,x.2.1,PUnit.unit)) (0,[],PUnit.unit) else none else none else none else none else none
def aO (x0:(List (ByteArray×Int))×List (ByteArray×(List (ByteArray×Int×Int×Int))×Bool)):Option Bool:=mI lpK jnK bb di eQ x0
abbrev t50:=((List (ByteArray×Int))×List (ByteArray×(List (ByteArray×Int×Int×Int))×Bool))->Option (Bool)
def k50 (aO:t50):Ctr:=⟨[T25],[],[],.one .bool,fun x _ _=>aO x.1⟩
def c50:Ctr:=k50 aO
theorem e50 (lp:Lp) (jn:Jn) (bb:t88) (di:t90) (eQ:t91):∀(x:TsS c50.as) (F:TsF c50.fs) (y:TsS c50.cs),mI lp jn bb di eQ x.1=bg lp jn (cx [(91,⟨[T25,T72],[],[],.one .bool,fun x _ _=>eQ x.1 x.2.1⟩),(90,⟨[.str],[],[],.one .bool,fun x _ _=>di x.1⟩),(88,k88 bb)] [(32,r32),(92,r92),(112,aU)]) aj 4 50 f50 c50 x F y:=fun x F y=>by kernel_rfl
theorem Ks:c50.ok prog 50:=Ctr.of_den (an (aa (aa (aa (q32) (by kernel_rfl) Na) (by kernel_rfl) OZ) (by kernel_rfl) PY)) aw (hl:=aj) (d:=4) func50 rfl (by decide) (e50 lpK jnK bb di eQ)
def kY (lp:Lp) (_:Jn) (bM:G4) (aO:t50) (x0:(List (ByteArray×Int))×List (ByteArray×(List (ByteArray×Int×Int×Int))×Bool)):Option ((List (List Int))×Int×Unit) :=
 af (aO x0) fun (t:Bool)=>bif !t then some ([],1,PUnit.unit) else bif decide (0<=(↑x0.1.length:Int))&&dU (Int.toNat (↑x0.1.length : Int)) 24 then lp (Int×(List Nat×List (Option (List Int)))×PUnit) (List (List Int)×Int×PUnit) (fun (again:Int×(List Nat×List (Option (List Int)))×PUnit -> Option (List (List Int)×Int×PUnit)) (x:Int×(List Nat×List (Option (List Int)))×PUnit)=>bif decide (x.1<(↑(List.length (Nat.brecOn (motive:=fun (x:Nat)=>Nat->List Nat) (Int.toNat (↑x0.1.length:Int)) (fun (x:Nat) (f:Nat.below (motive:=fun (x:Nat)=>Nat->List (T ref)) x) (x_1:Nat)=>(match (motive:=(x:Nat)->Nat->Nat.below (motive:=fun (x:Nat)=>Nat->List (T ref)) x->List Nat) x,x_1 with | 0,x=>fun (_:PUnit)=>[] | Nat.succ n,k=>fun (x:(Nat->List Nat) ×' Nat.rec PUnit (fun (n:Nat) (n_ih:Type)=>(fun (x:Nat)=>Nat->List (T ref)) n ×' n_ih) n)=>(k+0) ::x.1 (k+1)) f) 0)):Int)) then bif decide (0 <= (↑x0.2.length:Int))&&dU (Int.toNat (↑x0.2.length:Int)) 8 then bif inB x.1 x.2.1.1.length then bif Nat.ble (Nat.succ x.1.toNat) x.2.1.1.length then again (IntKind.wrap .i64 (x.1+1),(x.2.1.1.set x.1.toNat x.2.1.2.length,x.2.1.2++[some (List.replicate (Int.toNat (↑x0.2.length:Int)) 0)]),PUnit.unit) else none else none else none else lp (Int×(List Nat×List (Option (List Int)))×PUnit) (List (List Int)×Int×PUnit) (fun (again:Int×(List Nat×List (Option (List Int)))×PUnit->Option (List (List Int)×Int×PUnit)) (x:Int×(List Nat×List (Option (List Int))) × PUnit)=>bif decide (x.1<(↑x0.2.length:Int)) then bif inB x.1 x0.2.length then lp (Int×(List Nat×List (Option (List Int)))×PUnit) (List (List Int)×Int × PUnit) (fun (again_1:Int×(List Nat×List (Option (List Int)))×PUnit->Option (List (List Int)×Int×PUnit)) (x_1:Int×(List Nat×List (Option (List Int)))×PUnit) =>
 let v10:Int:=IntKind.wrap .i64 (x_1.1+1);
 let v11:(List Nat×List (Option (List Int)))×PUnit:=(x_1.2.1,PUnit.unit);
 let v12:ByteArray×Int×Int×Int:=List.getD (x0.2.getD x.1.toNat ({ data:={ toList:=[] } },[],false)).2.1 x_1.1.toNat ({ data:={ toList:=[] } },0,0,0);bif decide (x_1.1<(↑(List.length (x0.2.getD x.1.toNat ({ data:={ toList:=[] } },[],false)).2.1):Int)) then bif inB x_1.1 (List.length (x0.2.getD x.1.toNat ({ data:={ toList:=[] } },[],false)).2.1) then af (bM x0 v12.1) fun (t:Int)=>bif decide (t>=(0 : Int)) then bif inB t x_1.2.1.1.length then bif Nat.ble (Nat.succ t.toNat) x_1.2.1.1.length then bif inB x.1 (List.length (br x_1.2.1.2 (x_1.2.1.1.getD t.toNat 0))) then bif Nat.ble (Nat.succ x.1.toNat) (List.length (br x_1.2.1.2 (x_1.2.1.1.getD t.toNat (0 : Nat)))) then bif inB x.1 (List.length (br x_1.2.1.2 (x_1.2.1.1.getD t.toNat 0))) then bif Nat.ble (Nat.succ x.1.toNat) (List.length (br x_1.2.1.2 (x_1.2.1.1.getD t.toNat 0))) then again_1 (v10,(x_1.2.1.1,x_1.2.1.2.set (x_1.2.1.1.getD t.toNat 0) (some (List.set (br x_1.2.1.2 (x_1.2.1.1.getD t.toNat 0)) x.1.toNat (IntKind.wrap .i64 (List.getD (br x_1.2.1.2 (x_1.2.1.1.getD t.toNat 0)) x.1.toNat 0+v12.2.1))))),PUnit.unit) else none else none else none else none else none else none else again_1 (v10,v11) else none else again (IntKind.wrap .i64 (x.1+1),v11)) (0,x.2.1,PUnit.unit) else none else bif List.all x.2.1.1 fun (x_1:Nat)=>fB x.2.1.2 x_1 then some (List.map (fun (x_1:Nat)=>br x.2.1.2 x_1) x.2.1.1,0,PUnit.unit) else none) (0,x.2.1,PUnit.unit)) (0, (Nat.brecOn (motive:=fun (x:Nat)=>Nat->List Nat) (Int.toNat (↑x0.1.length:Int)) (fun (x:Nat) (f:Nat.below (motive:=fun (x:Nat)=>Nat->List (T ref)) x) (x_1:Nat)=>(match (motive:=(x:Nat)->Nat->Nat.below (motive:=fun (x:Nat)=>Nat->List (T ref)) x->List Nat) x,x_1 with | 0,x=>fun (_:PUnit)=>[] | Nat.succ n,k=>fun (x:(Nat->List Nat) ×' Nat.rec PUnit (fun (n:Nat) (n_ih:Type)=>(fun (x:Nat)=>Nat->List (T ref)) n ×' n_ih) n)=>(k+0) ::x.1 (k+1)) f) 0,List.replicate (Int.toNat (↑x0.1.length:Int)) (some [])),PUnit.unit) else none
def bi (x0:(List (ByteArray×Int))×List (ByteArray×(List (ByteArray×Int×Int×Int))×Bool)):Option ((List (List Int))×Int×Unit):=kY lpK jnK bM aO x0
abbrev t72:=((List (ByteArray×Int))×List (ByteArray×(List (ByteArray×Int×Int×Int))×Bool))->Option ((List (List Int))×Int×Unit)
def k72 (bi:t72):Ctr:=⟨[T25],[],[],.tup [(.sl (.sl i64)),i64],fun x _ _=>bi x.1⟩
def c72:Ctr:=k72 bi
theorem e72 (lp:Lp) (jn:Jn) (bM:G4) (aO:t50):∀(x:TsS c72.as) (F:TsF c72.fs) (y:TsS c72.cs),kY lp jn bM aO x.1=bg lp jn (cx [(50,k50 aO),(109,KU bM)] [(32,r32),(92,r92),(112,aU)]) aj 4 72 f72 c72 x F y:=fun x F y=>by kernel_rfl
theorem M5:c72.ok prog 72:=Ctr.of_den (an (aa (aa (q32) (by kernel_rfl) Kc) (by kernel_rfl) Ks)) aw (hl:=aj) (d:=4) func72 rfl (by decide) (e72 lpK jnK bM aO)
def kz (lp:Lp) (_:Jn) (aO:t50) (x0:(List (ByteArray×Int))×List (ByteArray×(List (ByteArray×Int×Int×Int))×Bool)):Option ((List Int)×Int×Unit) :=
 af (aO x0) fun (t:Bool)=>bif !t then some ([],1,PUnit.unit) else lp (List Int×Int×PUnit) (List Int×Int×PUnit) (fun (again:List Int×Int×PUnit -> Option (List Int×Int×PUnit)) (x:List Int×Int×PUnit)=>bif decide (x.2.1<(↑x0.1.length:Int)) then bif inB x.2.1 x0.1.length then bif dU (List.length x.1+1) 8 then again (x.1++[(x0.1.getD x.2.1.toNat ({ data:={ toList:=[] } },0)).2],IntKind.wrap .i64 (x.2.1+1),PUnit.unit) else none else none else some (x.1,0,PUnit.unit)) ([],0,PUnit.unit)
def cB (x0:(List (ByteArray×Int))×List (ByteArray×(List (ByteArray×Int×Int×Int))×Bool)):Option ((List Int)×Int×Unit):=kz lpK jnK aO x0
abbrev t73:=((List (ByteArray×Int))×List (ByteArray×(List (ByteArray×Int×Int×Int))×Bool))->Option ((List Int)×Int×Unit)
def k73 (cB:t73):Ctr:=⟨[T25],[],[],.tup [(.sl i64),i64],fun x _ _=>cB x.1⟩
def c73:Ctr:=k73 cB
theorem e73 (lp:Lp) (jn:Jn) (aO:t50):∀(x:TsS c73.as) (F:TsF c73.fs) (y:TsS c73.cs),kz lp jn aO x.1=bg lp jn (cx [(50,k50 aO)] [(32,r32),(92,r92),(112,aU)]) aj 4 73 f73 c73 x F y:=fun x F y=>by kernel_rfl
theorem PM:c73.ok prog 73:=Ctr.of_den (an (aa (q32) (by kernel_rfl) Ks)) aw (hl:=aj) (d:=4) func73 rfl (by decide) (e73 lpK jnK aO)
def qO (lp:Lp) (_:Jn) (bi:t72) (cB:t73) (x0:(List (ByteArray×Int))×List (ByteArray×(List (ByteArray×Int×Int×Int))×Bool)) (x1:List Int):Option (((List Int)×List ((List Int)×Int×Int))×Int×Unit) :=
 af (bi x0) fun (t:List (List Int)×Int×PUnit)=>bif !decide (t.2.1=0) then some (([],[]),t.2.1,PUnit.unit) else af (cB x0) fun (t_1 : List Int×Int×PUnit)=>bif !decide (t_1.2.1=0) then some (([],[]),t_1.2.1,PUnit.unit) else lp (Int×List Int×List (List Int×Int×Int)×PUnit) ((List Int×List (List Int×Int×Int))×Int×PUnit) (fun (again:Int×List Int×List (List Int×Int×Int)×PUnit->Option ((List Int×List (List Int×Int×Int))×Int×PUnit)) (x:Int×List Int×List (List Int×Int×Int)×PUnit)=>bif decide (x.1<(↑t.1.length:Int)) then bif inB x.1 t.1.length then bif inB x.1 t_1.1.length then bif dU (List.length x.2.2.1+1) 40 then again (IntKind.wrap .i64 (x.1+1),x.2.1,x.2.2.1++[(t.1.getD x.1.toNat [],3,t_1.1.getD x.1.toNat 0)],PUnit.unit) else none else none else none else some ((x.2.1,x.2.2.1),0, PUnit.unit)) (0,x1,[],PUnit.unit)
def fG (x0:(List (ByteArray×Int))×List (ByteArray×(List (ByteArray×Int×Int×Int))×Bool)) (x1:List Int):Option (((List Int)×List ((List Int)×Int×Int))×Int×Unit):=qO lpK jnK bi cB x0 x1
abbrev t97:=((List (ByteArray×Int))×List (ByteArray×(List (ByteArray×Int×Int×Int))×Bool))->(List Int)->Option (((List Int)×List ((List Int)×Int×Int))×Int×Unit)
def c97:Ctr:=⟨[T25,(.sl i64)],[],[],.tup [T82,i64],fun x _ _=>fG x.1 x.2.1⟩
theorem e97 (lp:Lp) (jn:Jn) (bi:t72) (cB:t73):∀(x:TsS c97.as) (F:TsF c97.fs) (y:TsS c97.cs),qO lp jn bi cB x.1 x.2.1=bg lp jn (cx [(73,k73 cB),(72,k72 bi)] [(32,r32),(92,r92),(112,aU)]) aj 4 97 f97 c97 x F y:=fun x F y=>by kernel_rfl
theorem Py:c97.ok prog 97:=Ctr.of_den (an (aa (aa (q32) (by kernel_rfl) M5) (by kernel_rfl) PM)) aw (hl:=aj) (d:=4) func97 rfl (by decide) (e97 lpK jnK bi cB)
def qL (_:Lp) (_:Jn) (x0:Int) (x1:Int):Option (Int×Int×Unit) :=
 
 let v4:Int:=2 ^ 32;
 let v5:Int:=Int.fdiv x0 v4;
 let v6:Int:=Int.fdiv x1 v4;
 let v7:Bool:=decide ((0:Int)<=32);
 let v8:Int:=IntKind.wrap .u64 (↑(Nat.land (Int.toNat (x1 % Int.ofNat 18446744073709551616)) (Int.toNat (4294967295 % Int.ofNat 18446744073709551616))) : Int);
 let v9:Int:=IntKind.wrap .u64 (↑(Nat.land (Int.toNat (x0 % Int.ofNat 18446744073709551616)) (Int.toNat (4294967295 % Int.ofNat 18446744073709551616))) : Int);
 let v10:Int:=IntKind.wrap .u64 (IntKind.wrap .u64 (v5*v8)+Int.fdiv (IntKind.wrap .u64 (v9*v8)) v4);bif v7 then bif v7 then bif v7 then bif v7 then bif v7 then some (IntKind.wrap .u64 (IntKind.wrap .u64 (IntKind.wrap .u64 (v5*v6)+Int.fdiv v10 v4)+Int.fdiv (IntKind.wrap .u64 (IntKind.wrap .u64 (↑(Nat.land (Int.toNat (v10 % Int.ofNat 18446744073709551616)) (Int.toNat (4294967295 % Int.ofNat 18446744073709551616))):Int)+IntKind.wrap .u64 (v9 * v6))) v4),IntKind.wrap .u64 (x0*x1),PUnit.unit) else none else none else none else none else none
def bv (x0:Int) (x1:Int):Option (Int×Int×Unit):=qL lpK jnK x0 x1
abbrev Ap:=(Int)->(Int)->Option (Int×Int×Unit)
def Il (bv:Ap):Ctr:=⟨[(.int .u64),(.int .u64)],[],[],.tup [(.int .u64),(.int .u64)],fun x _ _=>bv x.1 x.2.1⟩
def Fi:Ctr:=Il bv
theorem Oq (lp:Lp) (jn:Jn):∀(x:TsS Fi.as) (F:TsF Fi.fs) (y:TsS Fi.cs),qL lp jn x.1 x.2.1=bg lp jn (cx [] [(32,r32),(92,r92),(112,aU)]) aj 4 107 f107 Fi x F y:=fun x F y=>by kernel_rfl
theorem G5:Fi.ok prog 107:=Ctr.of_den (an (q32)) aw (hl:=aj) (d:=4) func107 rfl (by decide) (Oq lpK jnK)
def qU (_:Lp) (_:Jn) (x0:Int) (x1:Int):Option (Int×Int×Unit) :=
 
 let v4:Int:=IntKind.wrap .u64 (IntKind.wrap .u64 x0*IntKind.wrap .u64 x1);bif decide ((0:Int)<=32) then some (IntKind.wrap IntKind.u32 (Int.fdiv v4 (2 ^ 32)),IntKind.wrap IntKind.u32 v4,PUnit.unit) else none
def fP (x0:Int) (x1:Int):Option (Int×Int×Unit):=qU lpK jnK x0 x1
def L0 (fP:(Int)->(Int)->Option (Int×Int×Unit)):Ctr:=⟨[(.int .u32),(.int .u32)],[],[],.tup [(.int .u32),(.int .u32)],fun x _ _=>fP x.1 x.2.1⟩
def Hl:Ctr:=L0 fP
theorem Ps (lp:Lp) (jn:Jn):∀(x:TsS Hl.as) (F:TsF Hl.fs) (y:TsS Hl.cs),qU lp jn x.1 x.2.1=bg lp jn (cx [] [(32,r32),(92,r92),(112,aU)]) aj 4 173 f173 Hl x F y:=fun x F y=>by kernel_rfl
theorem LQ:Hl.ok prog 173:=Ctr.of_den (an (q32)) aw (hl:=aj) (d:=4) func173 rfl (by decide) (Ps lpK jnK)
def uA (_:Lp) (_:Jn) (bv:Ap) (_:(Int)->(Int)->Option (Int×Int×Unit)) (x0:Int) (x1:Int):Option (Int×Int×Unit) :=
 af (bv x0 x1) fun (t:Int×Int×PUnit)=>some (t.1,t.2.1,PUnit.unit)
def gq (x0:Int) (x1:Int):Option (Int×Int×Unit):=uA lpK jnK bv fP x0 x1
abbrev Kv:=(Int)->(Int)->Option (Int×Int×Unit)
def MX (gq:Kv):Ctr:=⟨[(.int .u64),(.int .u64)],[],[],.tup [(.int .u64),(.int .u64)],fun x _ _=>gq x.1 x.2.1⟩
def GU:Ctr:=MX gq
theorem Pa (lp:Lp) (jn:Jn) (bv:Ap) (fP:(Int)->(Int)->Option (Int×Int×Unit)):∀(x:TsS GU.as) (F:TsF GU.fs) (y:TsS GU.cs),uA lp jn bv fP x.1 x.2.1=bg lp jn (cx [(173,L0 fP),(107,Il bv)] [(32,r32),(92,r92),(112,aU)]) aj 4 140 f140 GU x F y:=fun x F y=>by kernel_rfl
theorem Mc:GU.ok prog 140:=Ctr.of_den (an (aa (aa (q32) (by kernel_rfl) G5) (by kernel_rfl) LQ)) aw (hl:=aj) (d:=4) func140 rfl (by decide) (Pa lpK jnK bv fP)
def jY (lp:Lp) (jn:Jn) (gq:Kv) (x0:List Int) (x1:Int):Option (List Int) :=
 jn PUnit (List Int) (fun (_:PUnit)=>af (gq (IntKind.wrap .u64 (↑x0.length:Int)) (IntKind.wrap .u64 x1)) fun (t:Int×Int×PUnit) =>
 let v6:List Int:=List.take (Int.toNat (IntKind.wrap .i64 t.2.1)) x0;
 let v7:List Int:=List.replicate (Int.toNat (IntKind.wrap .i64 t.2.1)) 0;
 let v8:Bool:=decide (t.1>0);
 let v9:Bool:=!v8;bif !v9||v9 then bif v8||v9 then jn PUnit (List Int) (fun (_:PUnit)=>bif decide (0<=IntKind.wrap .i64 t.2.1)&&dU (Int.toNat (IntKind.wrap .i64 t.2.1)) 8 then lp (Int×List Int×PUnit) (List Int) (fun (again:Int×List Int×PUnit->Option (List Int)) (x:Int×List Int×PUnit) =>
 let v13:List Int:=List.take x.1.toNat x.2.1;
 let v14:List Int:=List.take (Int.toNat (↑x.2.1.length:Int) - Int.toNat x.1) (List.drop 0 v13);bif decide (x.1<(↑x.2.1.length:Int)) then bif slB x.1 (↑x.2.1.length:Int) x.2.1.length then bif slB 0 x.1 x.2.1.length then bif Nat.ble x.1.toNat (Int.toNat (↑x.2.1.length:Int))&&(Nat.ble (Int.toNat (↑x.2.1.length:Int)) x.2.1.length&&Nat.ble x.1.toNat x.2.1.length) then again (IntKind.wrap IntKind.i64 (x.1+(↑v14.length:Int)),v13++v14++List.drop (Int.toNat x.1+List.length v14) x.2.1,PUnit.unit) else none else none else none else some x.2.1) ((↑v6.length:Int),List.take 0 v7++v6++List.drop (0+List.length v6) v7,PUnit.unit) else none) fun (j:PUnit->Option (List Int))=>bif bif v8 then true else decide (t.2.1>9223372036854775807) then none else j PUnit.unit else none else none) fun (j:PUnit->Option (List Int))=>bif decide (x1<0) then none else j PUnit.unit
def ce (x0:List Int) (x1:Int):Option (List Int):=jY lpK jnK gq x0 x1
abbrev t98:=(List Int)->(Int)->Option (List Int)
def k98 (ce:t98):Ctr:=⟨[(.sl i64),i64],[],[],.one (.sl i64),fun x _ _=>ce x.1 x.2.1⟩
def c98:Ctr:=k98 ce
theorem e98 (lp:Lp) (jn:Jn) (gq:Kv):∀(x:TsS c98.as) (F:TsF c98.fs) (y:TsS c98.cs),jY lp jn gq x.1 x.2.1=bg lp jn (cx [(140,MX gq)] [(32,r32),(92,r92),(112,aU)]) aj 4 98 f98 c98 x F y:=fun x F y=>by kernel_rfl
theorem N0:c98.ok prog 98:=Ctr.of_den (an (aa (q32) (by kernel_rfl) Mc)) aw (hl:=aj) (d:=4) func98 rfl (by decide) (e98 lpK jnK gq)
def mX (_:Lp) (_:Jn) (fG:t97) (ce:t98) (x0:(List (ByteArray×Int))×List (ByteArray×(List (ByteArray×Int×Int×Int))×Bool)):Option (((List Int)×List ((List Int)×Int×Int))×Int×Unit) :=
 af (ce [1] (↑x0.2.length:Int)) fun (t:List Int)=>af (fG x0 t) fun (t:(List Int×List (List Int×Int×Int))×Int×PUnit)=>some (t.1,t.2.1,PUnit.unit)
def aN (x0:(List (ByteArray×Int))×List (ByteArray×(List (ByteArray×Int×Int×Int))×Bool)):Option (((List Int)×List ((List Int)×Int×Int))×Int×Unit):=mX lpK jnK fG ce x0
abbrev t55:=((List (ByteArray×Int))×List (ByteArray×(List (ByteArray×Int×Int×Int))×Bool))->Option (((List Int)×List ((List Int)×Int×Int))×Int×Unit)
def k55 (aN:t55):Ctr:=⟨[T25],[],[],.tup [T82,i64],fun x _ _=>aN x.1⟩
def c55:Ctr:=k55 aN
theorem e55 (lp:Lp) (jn:Jn) (fG:t97) (ce:t98):∀(x:TsS c55.as) (F:TsF c55.fs) (y:TsS c55.cs),mX lp jn fG ce x.1=bg lp jn (cx [(98,k98 ce),(97,⟨[T25,(.sl i64)],[],[],.tup [T82,i64],fun x _ _=>fG x.1 x.2.1⟩)] [(32,r32),(92,r92),(112,aU)]) aj 4 55 f55 c55 x F y:=fun x F y=>by kernel_rfl
theorem K2:c55.ok prog 55:=Ctr.of_den (an (aa (aa (q32) (by kernel_rfl) Py) (by kernel_rfl) N0)) aw (hl:=aj) (d:=4) func55 rfl (by decide) (e55 lpK jnK fG ce)
def jc (_:Lp) (_:Jn) (x0:Int) (y0:Int):Option Bool :=
 
 let v4:Bool:=decide (x0<IntKind.wrap .i64 (0 - y0));
 let v5:Bool:=!v4;
 let v6:Bool:=!v5||v5;bif v6&&v6 then bif v4||v5 then some (bif v4 then true else decide (x0>y0)) else none else none
def cK (x0:Int) (y0:Int):Option Bool:=jc lpK jnK x0 y0
abbrev NI:=(Int)->(Int)->Option (Bool)
def Gy:Ctr:=⟨[i64],[],[i64],.one .bool,fun x _ y=>cK x.1 y.1⟩
theorem Od (lp:Lp) (jn:Jn):∀(x:TsS Gy.as) (F:TsF Gy.fs) (y:TsS Gy.cs),jc lp jn x.1 y.1=bg lp jn (cx [] [(32,r32),(92,r92),(112,aU)]) aj 4 142 f142 Gy x F y:=fun x F y=>by kernel_rfl
theorem Nc:Gy.ok prog 142:=Ctr.of_den (an (q32)) aw (hl:=aj) (d:=4) func142 rfl (by decide) (Od lpK jnK)
def kp (_:Lp) (_:Jn) (cK:NI) (x0:Int):Option ((Int×Unit)->Option Bool) :=
 some fun (x:Int×PUnit)=>cK x.1 x0
def cz (x0:Int):Option ((Int×Unit)->Option Bool):=kp lpK jnK cK x0
abbrev M1:=(Int)->Option ((Int×Unit)->Option Bool)
def Lw:FCtr:=⟨[i64],[i64],.bool,fun x=>cz x.1⟩
theorem Oy (lp:Lp) (jn:Jn) (cK:NI):∀x:TsS Lw.as,kp lp jn cK x.1=Ki lp jn (cx [(142,⟨[i64],[],[i64],.one .bool,fun x _ y=>cK x.1 y.1⟩)] [(32,r32),(92,r92),(112,aU)]) aj 4 141 f141 Lw x:=fun x=>by kernel_rfl
theorem KG:Lw.ok prog 141:=FCtr.of_den (an (aa (q32) (by kernel_rfl) Nc)) aw (hl:=aj) (d:=4) func141 rfl (by decide) (Oy lpK jnK cK)
def gL (lp:Lp) (_:Jn) (x0:List Int) (f0:((Int×Unit)->Option Bool)):Option Int :=
 lp (Int×PUnit) Int (fun (again:Int×PUnit->Option Int) (x:Int×PUnit)=>bif decide (x.1<(↑x0.length:Int)) then bif inB x.1 x0.length then af (f0 (x0.getD x.1.toNat 0,PUnit.unit)) fun (t:Bool)=>bif t then some x.1 else again (IntKind.wrap .i64 (x.1+1),PUnit.unit) else none else some (-1)) (0,PUnit.unit)
def bD (x0:List Int) (f0:((Int×Unit)->Option Bool)):Option Int:=gL lpK jnK x0 f0
abbrev Kt:=(List Int)->(((Int×Unit)->Option Bool))->Option (Int)
def NJ (bD:Kt):Ctr:=⟨[(.sl i64)],[([i64],.bool)],[],.one i64,fun x F _=>bD x.1 F.1⟩
def FK:Ctr:=NJ bD
theorem P9 (lp:Lp) (jn:Jn):∀(x:TsS FK.as) (F:TsF FK.fs) (y:TsS FK.cs),gL lp jn x.1 F.1=bg lp jn (cx [] [(32,r32),(92,r92),(112,aU)]) aj 4 174 f174 FK x F y:=fun x F y=>by kernel_rfl
theorem MP:FK.ok prog 174:=Ctr.of_den (an (q32)) aw (hl:=aj) (d:=4) func174 rfl (by decide) (P9 lpK jnK)
def gb (_:Lp) (_:Jn) (bD:Kt) (x0:List Int) (f0:((Int×Unit)->Option Bool)):Option Bool :=
 af (bD x0 f0) fun (t:Int)=>some (decide (t>=0))
def aV (x0:List Int) (f0:((Int×Unit)->Option Bool)):Option Bool:=gb lpK jnK bD x0 f0
abbrev KR:=(List Int)->(((Int×Unit)->Option Bool))->Option (Bool)
def LM (aV:KR):Ctr:=⟨[(.sl i64)],[([i64],.bool)],[],.one .bool,fun x F _=>aV x.1 F.1⟩
def Ge:Ctr:=LM aV
theorem O6 (lp:Lp) (jn:Jn) (bD:Kt):∀(x:TsS Ge.as) (F:TsF Ge.fs) (y:TsS Ge.cs),gb lp jn bD x.1 F.1=bg lp jn (cx [(174,NJ bD)] [(32,r32),(92,r92),(112,aU)]) aj 4 143 f143 Ge x F y:=fun x F y=>by kernel_rfl
theorem Mp:Ge.ok prog 143:=Ctr.of_den (an (aa (q32) (by kernel_rfl) MP)) aw (hl:=aj) (d:=4) func143 rfl (by decide) (O6 lpK jnK bD)
def gX (lp:Lp) (_:Jn) (x0:List ((List Int)×Int×Int)) (f0:((((List Int)×Int×Int)×Unit)->Option Bool)):Option Int :=
 lp (Int×PUnit) Int (fun (again:Int×PUnit->Option Int) (x:Int×PUnit)=>bif decide (x.1<(↑x0.length:Int)) then bif inB x.1 x0.length then af (f0 (x0.getD x.1.toNat ([],0,0),PUnit.unit)) fun (t:Bool)=>bif t then some x.1 else again (IntKind.wrap .i64 (x.1+1),PUnit.unit) else none else some (-1)) (0,PUnit.unit)
def bA (x0:List ((List Int)×Int×Int)) (f0:((((List Int)×Int×Int)×Unit)->Option Bool)):Option Int:=gX lpK jnK x0 f0
abbrev K4:=(List ((List Int)×Int×Int))->(((((List Int)×Int×Int)×Unit)->Option Bool))->Option (Int)
def NG (bA:K4):Ctr:=⟨[(.sl zc)],[([zc],.bool)],[],.one i64,fun x F _=>bA x.1 F.1⟩
def GQ:Ctr:=NG bA
theorem Pp (lp:Lp) (jn:Jn):∀(x:TsS GQ.as) (F:TsF GQ.fs) (y:TsS GQ.cs),gX lp jn x.1 F.1=bg lp jn (cx [] [(32,r32),(92,r92),(112,aU)]) aj 4 175 f175 GQ x F y:=fun x F y=>by kernel_rfl
theorem LF:GQ.ok prog 175:=Ctr.of_den (an (q32)) aw (hl:=aj) (d:=4) func175 rfl (by decide) (Pp lpK jnK)
def fZ (_:Lp) (_:Jn) (bA:K4) (x0:List ((List Int)×Int×Int)) (f0:((((List Int)×Int×Int)×Unit)->Option Bool)):Option Bool :=
 af (bA x0 f0) fun (t:Int)=>some (decide (t>=0))
def bF (x0:List ((List Int)×Int×Int)) (f0:((((List Int)×Int×Int)×Unit)->Option Bool)):Option Bool:=fZ lpK jnK bA x0 f0
def NN (bF:(List ((List Int)×Int×Int))->(((((List Int)×Int×Int)×Unit)->Option Bool))->Option (Bool)):Ctr:=⟨[(.sl zc)],[([zc],.bool)],[],.one .bool,fun x F _=>bF x.1 F.1⟩
def Fw:Ctr:=NN bF
theorem Qc (lp:Lp) (jn:Jn) (bA:K4):∀(x:TsS Fw.as) (F:TsF Fw.fs) (y:TsS Fw.cs),fZ lp jn bA x.1 F.1=bg lp jn (cx [(175,NG bA)] [(32,r32),(92,r92),(112,aU)]) aj 4 144 f144 Fw x F y:=fun x F y=>by kernel_rfl
theorem MB:Fw.ok prog 144:=Ctr.of_den (an (aa (q32) (by kernel_rfl) LF)) aw (hl:=aj) (d:=4) func144 rfl (by decide) (Qc lpK jnK bA)
def mJ (lp:Lp) (_:Jn) (aV:KR) (_:(List ((List Int)×Int×Int))->(((((List Int)×Int×Int)×Unit)->Option Bool))->Option (Bool)) (cz:M1) (x0:(List Int)×List ((List Int)×Int×Int)):Option Bool :=
 
 let v3:Bool:=decide ((↑x0.1.length:Int)<1);
 let v4:Bool:=!v3;
 let v5:Bool:=bif v3 then true else decide ((↑x0.1.length:Int)>12);
 let v6:Bool:=!v4||v4;
 let v7:Bool:=!v5;
 let v8:Bool:=bif v5 then true else decide ((↑x0.2.length:Int)>6);
 let v9:Bool:=!v8;
 let v10:Bool:=!v7||v7;
 let v11:Bool:=!v9||v9;bif v6 then bif v6 then bif v6 then bif v3||v4 then bif v10 then bif v10 then bif v10 then bif v5||v7 then bif v11 then bif v11 then af (bif v9 then cz 1048576 else some fun (_:Int×PUnit)=>none) fun (t:Int×PUnit->Option Bool)=>bif v11&&v11 then af (bif v9 then aV x0.1 t else some false) fun (t:Bool)=>bif v8||v9 then bif bif v8 then true else t then some false else lp (Int×PUnit) Bool (fun (again:Int×PUnit->Option Bool) (x:Int×PUnit) =>
 let v16:List Int×Int×Int:=x0.2.getD x.1.toNat ([],0,0);
 let v17:Bool:=decide (v16.2.1<1);
 let v18:Bool:=decide (v16.2.1>3);
 let v19:Bool:=!decide ((↑v16.1.length:Int)=(↑x0.1.length:Int));
 let v20:Bool:=!v19;
 let v21:Bool:=!v20||v20;bif decide (x.1<(↑x0.2.length:Int)) then bif inB x.1 x0.2.length then bif v21 then bif v21 then af (bif v20 then cz 1048576 else some fun (_:Int×PUnit)=>none) fun (t:Int×PUnit->Option Bool)=>bif v21&&v21 then af (bif v20 then aV v16.1 t else some false) fun (t:Bool) =>
 let v24:Bool:=bif v19 then true else t;
 let v25:Bool:=!v24;
 let v26:Bool:=bif v24 then true else v17;
 let v27:Bool:=!v26;
 let v28:Bool:=bif v26 then true else v18;
 let v29:Bool:=!v25||v25;
 let v30:Bool:=!v28;
 let v31:Bool:=!v27||v27;
 let v32:Bool:=!v30||v30;bif v19||v20 then bif v29 then bif v29 then bif v24||v25 then bif v31 then bif v31 then bif v26||v27 then bif v32 then af (bif v30 then cz 1073741824 else some fun (_:Int×PUnit)=>none) fun (t:Int×PUnit->Option Bool)=>bif v32 then bif v32&&v32 then af (bif v30 then t (v16.2.2, PUnit.unit) else some false) fun (t:Bool)=>bif v28||v30 then bif bif v28 then true else t then some !decide (x.1>=0) else again (IntKind.wrap .i64 (x.1+(1 : Int)),PUnit.unit) else none else none else none else none else none else none else none else none else none else none else none else none else none else none else none else some !decide ((-1:Int)>=0)) (0,PUnit.unit) else none else none else none else none else none else none else none else none else none else none else none else none
def aM (x0:(List Int)×List ((List Int)×Int×Int)):Option Bool:=mJ lpK jnK aV bF cz x0
abbrev t99:=((List Int)×List ((List Int)×Int×Int))->Option (Bool)
def k99 (aM:t99):Ctr:=⟨[T82],[],[],.one .bool,fun x _ _=>aM x.1⟩
def c99:Ctr:=k99 aM
theorem e99 (lp:Lp) (jn:Jn) (aV:KR) (bF:(List ((List Int)×Int×Int))->(((((List Int)×Int×Int)×Unit)->Option Bool))->Option (Bool)) (cz:M1):∀(x:TsS c99.as) (F:TsF c99.fs) (y:TsS c99.cs),mJ lp jn aV bF cz x.1=bg lp jn (uk va uX (Ns [(141,⟨[i64],[i64],.bool,fun x=>cz x.1⟩)] (gg prog shs pF its [(144,NN bF),(143,LM aV)] [(32,r32),(92,r92),(112,aU)]))) aj 4 99 f99 c99 x F y:=fun x F y=>by kernel_rfl
theorem KL:c99.ok prog 99:=Ctr.of_den (an (Jf (aa (aa (q32) (by kernel_rfl) Mp) (by kernel_rfl) MB) (Da (by kernel_rfl) KG (D4)))) aw (hl:=aj) (d:=4) func99 rfl (by decide) (e99 lpK jnK aV bF cz)
def nP (_:Lp) (_:Jn) (x0:Int):Option Int :=
 
 let v3:Int:=IntKind.wrap .u64 x0;bif decide (x0<0) then some (IntKind.wrap .u64 (0 - v3)) else some v3
def bw (x0:Int):Option Int:=nP lpK jnK x0
abbrev Gf:=(Int)->Option (Int)
def Lc (bw:Gf):Ctr:=⟨[i64],[],[],.one (.int .u64),fun x _ _=>bw x.1⟩
def D5:Ctr:=Lc bw
theorem O7 (lp:Lp) (jn:Jn):∀(x:TsS D5.as) (F:TsF D5.fs) (y:TsS D5.cs),nP lp jn x.1=bg lp jn (cx [] [(32,r32),(92,r92),(112,aU)]) aj 4 147 f147 D5 x F y:=fun x F y=>by kernel_rfl
theorem J2:D5.ok prog 147:=Ctr.of_den (an (q32)) aw (hl:=aj) (d:=4) func147 rfl (by decide) (O7 lpK jnK)
def lu (lp:Lp) (_:Jn) (bw:Gf) (x0:List Int) (x1:Int):Option Int :=
 af (bw x1) fun (t:Int)=>lp (Int×Int×PUnit) Int (fun (again:Int×Int×PUnit->Option Int) (x:Int×Int×PUnit)=>bif decide (x.2.1<(↑x0.length : Int)) then bif inB x.2.1 x0.length then af (bw (x0.getD x.2.1.toNat 0)) fun (t:Int)=>again (IntKind.wrap .i64 (x.1 + IntKind.wrap .i64 t),IntKind.wrap .i64 (x.2.1+1),PUnit.unit) else none else some x.1) (IntKind.wrap .i64 (1+IntKind.wrap .i64 t), 0,PUnit.unit)
def dh (x0:List Int) (x1:Int):Option Int:=lu lpK jnK bw x0 x1
abbrev NF:=(List Int)->(Int)->Option (Int)
def EJ:Ctr:=⟨[(.sl i64),i64],[],[],.one i64,fun x _ _=>dh x.1 x.2.1⟩
theorem OW (lp:Lp) (jn:Jn) (bw:Gf):∀(x:TsS EJ.as) (F:TsF EJ.fs) (y:TsS EJ.cs),lu lp jn bw x.1 x.2.1=bg lp jn (cx [(147,Lc bw)] [(32,r32),(92,r92),(112,aU)]) aj 4 146 f146 EJ x F y:=fun x F y=>by kernel_rfl
theorem Ni:EJ.ok prog 146:=Ctr.of_den (an (aa (q32) (by kernel_rfl) J2)) aw (hl:=aj) (d:=4) func146 rfl (by decide) (OW lpK jnK bw)
def lJ (lp:Lp) (jn:Jn) (x0:List Int):Option Int :=
 jn PUnit Int (fun (_:PUnit)=>bif inB 0 x0.length then lp (Int×Int×PUnit) Int (fun (again:Int×Int×PUnit->Option Int) (x:Int×Int×PUnit)=>bif decide (x.2.1<(↑x0.length:Int)) then bif inB x.2.1 x0.length then again (if x0.getD x.2.1.toNat 0>x.1 then x0.getD x.2.1.toNat 0 else x.1,IntKind.wrap .i64 (x.2.1+1),PUnit.unit) else none else some x.1) (x0.getD 0 0,1,PUnit.unit) else none) fun (j:PUnit->Option Int)=>bif decide ((↑x0.length:Int)<1) then none else j PUnit.unit
def dQ (x0:List Int):Option Int:=lJ lpK jnK x0
abbrev MY:=(List Int)->Option (Int)
def Gq:Ctr:=⟨[(.sl i64)],[],[],.one i64,fun x _ _=>dQ x.1⟩
theorem PG (lp:Lp) (jn:Jn):∀(x:TsS Gq.as) (F:TsF Gq.fs) (y:TsS Gq.cs),lJ lp jn x.1=bg lp jn (cx [] [(32,r32),(92,r92),(112,aU)]) aj 4 148 f148 Gq x F y:=fun x F y=>by kernel_rfl
theorem Mw:Gq.ok prog 148:=Ctr.of_den (an (q32)) aw (hl:=aj) (d:=4) func148 rfl (by decide) (PG lpK jnK)
def nF (lp:Lp) (_:Jn) (dh:NF) (dQ:MY) (x0:(List Int)×List ((List Int)×Int×Int)):Option Bool :=
 af (dh x0.1 0) fun (t:Int)=>lp (List Int×Int×PUnit) Bool (fun (again:List Int×Int×PUnit->Option Bool) (x:List Int×Int×PUnit) =>
 let v6:List Int×Int×Int:=x0.2.getD x.2.1.toNat ([],0,0);bif decide (x.2.1<(↑x0.2.length:Int)) then bif inB x.2.1 x0.2.length then af (dh v6.1 v6.2.2) fun (t:Int)=>bif dU (List.length x.1+1) 8 then again (x.1++[t],IntKind.wrap .i64 (x.2.1+1),PUnit.unit) else none else none else lp (Int×Int×PUnit) Bool (fun (again:Int×Int×PUnit->Option Bool) (x_1:Int×Int×PUnit) =>
 let v9:Int:=x.1.getD x_1.2.1.toNat 0;bif decide (x_1.2.1<(↑x.1.length:Int)) then bif inB x_1.2.1 x.1.length then bif Nat.ble (Nat.succ x_1.2.1.toNat) x.1.length then bif nzB v9 then bif decide (x_1.1>IntKind.wrap .i64 (Int.tdiv 17592186044416 v9)) then some false else again (IntKind.wrap .i64 (x_1.1*v9),IntKind.wrap .i64 (x_1.2.1+1),PUnit.unit) else none else none else none else af (dQ x.1) fun (t : Int)=>bif nzB t then some (decide (x_1.1<=IntKind.wrap .i64 (Int.tdiv 144115188075855872 t))) else none) (1,0,PUnit.unit)) ([t],0, PUnit.unit)
def bK (x0:(List Int)×List ((List Int)×Int×Int)):Option Bool:=nF lpK jnK dh dQ x0
abbrev Gp:=((List Int)×List ((List Int)×Int×Int))->Option (Bool)
def Kf (bK:Gp):Ctr:=⟨[T82],[],[],.one .bool,fun x _ _=>bK x.1⟩
def G1:Ctr:=Kf bK
theorem Ou (lp:Lp) (jn:Jn) (dh:NF) (dQ:MY):∀(x:TsS G1.as) (F:TsF G1.fs) (y:TsS G1.cs),nF lp jn dh dQ x.1=bg lp jn (cx [(148,⟨[(.sl i64)],[],[],.one i64,fun x _ _=>dQ x.1⟩),(146,⟨[(.sl i64),i64],[],[],.one i64,fun x _ _=>dh x.1 x.2.1⟩)] [(32,r32),(92,r92),(112,aU)]) aj 4 100 f100 G1 x F y:=fun x F y=>by kernel_rfl
theorem JW:G1.ok prog 100:=Ctr.of_den (an (aa (aa (q32) (by kernel_rfl) Ni) (by kernel_rfl) Mw)) aw (hl:=aj) (d:=4) func100 rfl (by decide) (Ou lpK jnK dh dQ)
def fH (lp:Lp) (_:Jn) (x0:(List (List Int))×Int×(List Int)×(List Int)×(List Int)×Int×Int) (x1:Int):Option Int :=
 lp (Int×Int×PUnit) Int (fun (again:Int×Int×PUnit->Option Int) (x:Int×Int×PUnit) =>
 let v6:Int×PUnit:=(IntKind.wrap .i64 (x.2.1+1),PUnit.unit);
 let v7:List Int:=x0.1.getD x.2.1.toNat [];bif decide (x.2.1<(↑x0.1.length:Int)) then bif inB x.2.1 x0.1.length then bif inB x.2.1 x0.2.2.1.length then bif decide (x0.2.2.1.getD x.2.1.toNat 0>=x0.2.2.2.2.2.1) then bif inB x1 v7.length then again (IntKind.wrap .i64 (x.1+v7.getD x1.toNat 0),v6) else none else again (x.1,v6) else none else none else some x.1) (0,0,PUnit.unit)
def ao (x0:(List (List Int))×Int×(List Int)×(List Int)×(List Int)×Int×Int) (x1:Int):Option Int:=fH lpK jnK x0 x1
abbrev F6:=((List (List Int))×Int×(List Int)×(List Int)×(List Int)×Int×Int)->(Int)->Option (Int)
def KB (ao:F6):PCtr:=⟨CW,[i64],.one i64,fun x y=>ao x y.1⟩
def Ip:PCtr:=KB ao
theorem Oz (lp:Lp) (jn:Jn):∀(x:Ip.s.T) (y:TsS Ip.as),fH lp jn x y.1=AI lp jn (cx [] [(32,r32),(92,r92),(112,aU)]) aj 4 106 f106 Ip x y:=fun x y=>by kernel_rfl
theorem J4:Ip.ok prog 106:=PCtr.of_den (an (q32)) aw (hl:=aj) (d:=4) func106 rfl (by decide) (Oz lpK jnK)
def mW (_:Lp) (_:Jn) (bv:Ap) (bw:Gf) (x0:Int) (x1:Int):Option (Bool×Int×Int) :=
 
 let v4:Bool:=!decide (decide (x0<0)=decide (x1<0));
 let v5:Bool:=!v4;
 let v6:Bool:=v5||v4;af (bw x0) fun (t:Int)=>af (bw x1) fun (t_1:Int)=>af (bv t t_1) fun (t:Int×Int×PUnit) =>
 let v10:Bool:=!decide (t.1=0);
 let v11:Bool:=v4&&!v10;bif v6 then bif v6 then bif !v11||v11 then bif (v5||v6)&&(v5||(v10||(v5||v11))) then bif v6 then some (bif v4 then bif v10 then true else !decide (t.2.1=0) else false,t.1,t.2.1) else none else none else none else none else none
def bf (x0:Int) (x1:Int):Option (Bool×Int×Int):=mW lpK jnK bv bw x0 x1
abbrev FN:=(Int)->(Int)->Option (Bool×Int×Int)
def Kw (bf:FN):Ctr:=⟨[i64,i64],[],[],.one qW,fun x _ _=>bf x.1 x.2.1⟩
def DT:Ctr:=Kw bf
theorem Ow (lp:Lp) (jn:Jn) (bv:Ap) (bw:Gf):∀(x:TsS DT.as) (F:TsF DT.fs) (y:TsS DT.cs),mW lp jn bv bw x.1 x.2.1=bg lp jn (cx [(147,Lc bw),(107,Il bv)] [(32,r32),(92,r92),(112,aU)]) aj 4 176 f176 DT x F y:=fun x F y=>by kernel_rfl
theorem Kd:DT.ok prog 176:=Ctr.of_den (an (aa (aa (q32) (by kernel_rfl) G5) (by kernel_rfl) J2)) aw (hl:=aj) (d:=4) func176 rfl (by decide) (Ow lpK jnK bv bw)
def gd (_:Lp) (_:Jn) (x0:Bool×Int×Int) (x1:Bool×Int×Int):Option Int :=
 
 let v4:Bool:=decide (x0.2.1=x1.2.1);
 let v5:Bool:=!v4;
 let v6:Bool:=v5||v4;
 let v7:Bool:=!v5||v5;
 let v8:Bool:=bif v5 then decide (x0.2.1<x1.2.1) else false;
 let v9:Bool:=!v8;
 let v10:Bool:=!v9;
 let v11:Bool:=v9&&v4;
 let v12:Bool:=v10||v9;
 let v13:Bool:=!v11||v11;bif v7 then bif v7 then bif v7&&v7 then bif v7 then bif v12 then bif v12 then bif v12&&v12 then bif v12 then bif v13 then bif v13 then bif v13&&v13 then bif (v10||v12)&&(v10||(v5||(v10||v11))) then bif v8||v9 then bif bif v8 then true else bif v4 then decide (x0.2.2<x1.2.2) else false then some (-1) else bif v6 then bif v6 then bif v6&&v6 then bif v6 then bif bif v4 then decide (x0.2.2=x1.2.2) else false then some 0 else some 1 else none else none else none else none else none else none else none else none else none else none else none else none else none else none else none else none else none
def ap (x0:Bool×Int×Int) (x1:Bool×Int×Int):Option Int:=gd lpK jnK x0 x1
abbrev G2:=(Bool×Int×Int)->(Bool×Int×Int)->Option (Int)
def Lf (ap:G2):Ctr:=⟨[qW,qW],[],[],.one i64,fun x _ _=>ap x.1 x.2.1⟩
def F4:Ctr:=Lf ap
theorem Pd (lp:Lp) (jn:Jn):∀(x:TsS F4.as) (F:TsF F4.fs) (y:TsS F4.cs),gd lp jn x.1 x.2.1=bg lp jn (cx [] [(32,r32),(92,r92),(112,aU)]) aj 4 192 f192 F4 x F y:=fun x F y=>by kernel_rfl
theorem J9:F4.ok prog 192:=Ctr.of_den (an (q32)) aw (hl:=aj) (d:=4) func192 rfl (by decide) (Pd lpK jnK)
def gE (_:Lp) (jn:Jn) (ap:G2) (x0:Bool×Int×Int) (x1:Bool×Int×Int):Option (Bool×Int×Int) :=
 
 let v4:Bool:=!x0.1;
 let v5:Bool:=!x1.1;
 let v6:Bool:=!v4;
 let v7:Bool:=v4&&v5;
 let v8:Bool:=v6||v4;
 let v9:Bool:=!v7;
 let v10:Bool:=v9||v7;
 let v11:Bool:=!decide (x1.2.1=0);
 let v12:Bool:=v7&&!v11;
 let v13:Bool:=decide ((0:Int)<=0)&&decide ((0:Int)<=1);
 let v14:Bool:=!v12||v12;bif !decide (x0.1=x1.1) then bif v13 then bif decide (0<=xM x0.2.2 x1.2.2 0)&&decide (xM x0.2.2 x1.2.2 (0 : Int)<=1) then bif v8 then bif v8 then bif v8 then bif v10 then bif v10 then bif v10 then bif v14 then bif v14 then bif (v9||v10)&&(v9||(v11||(v9||v12))) then bif (v6 || v8)&&(v6||(!v5||(v6||v7))) then bif x0.1||v4 then some (bif x0.1 then true else bif v5 then bif v11 then true else !decide (x1.2.2=0) else false,Ar x0.2.1 x1.2.1 (xM x0.2.2 x1.2.2 0),Ar x0.2.2 x1.2.2 0) else none else none else none else none else none else none else none else none else none else none else none else none else none else af (ap x0 x1) fun (t:Int)=>jn (Bool×(Bool×Int×Int)×(Bool×Int×Int)×PUnit) (Bool×Int×Int) (fun (x:Bool×(Bool×Int×Int)×(Bool×Int×Int)×PUnit) =>
 let v17:Bool:=!x.1;
 let v18:Bool:=v17||x.1;
 let v19:Bool:=!decide (uY x.2.1.2.1 x.2.2.1.2.1 (tI x.2.1.2.2 x.2.2.1.2.2 0)=0);
 let v20:Bool:=x.1&&!v19;bif v13 then bif decide (0<=tI x.2.1.2.2 x.2.2.1.2.2 0)&&decide (tI x.2.1.2.2 x.2.2.1.2.2 (0 : Int)<=1) then bif v18 then bif v18 then bif !v20||v20 then bif (v17||v18)&&(v17||(v19||(v17||v20))) then bif v18 then some (bif x.1 then bif v19 then true else !decide (uY x.2.1.2.2 x.2.2.1.2.2 0=0) else false,uY x.2.1.2.1 x.2.2.1.2.1 (tI x.2.1.2.2 x.2.2.1.2.2 (0 : Int)),uY x.2.1.2.2 x.2.2.1.2.2 0) else none else none else none else none else none else none else none) fun (j:Bool×(Bool×Int×Int)×(Bool×Int × Int)×PUnit->Option (Bool×Int×Int))=>bif decide (t<0) then j (v4,x1,x0,PUnit.unit) else j (x0.1,x0,x1,PUnit.unit)
def bo (x0:Bool×Int×Int) (x1:Bool×Int×Int):Option (Bool×Int×Int):=gE lpK jnK ap x0 x1
abbrev KE:=(Bool×Int×Int)->(Bool×Int×Int)->Option (Bool×Int×Int)
def MU (bo:KE):Ctr:=⟨[qW,qW],[],[],.one qW,fun x _ _=>bo x.1 x.2.1⟩
def Ff:Ctr:=MU bo
theorem Pf (lp:Lp) (jn:Jn) (ap:G2):∀(x:TsS Ff.as) (F:TsF Ff.fs) (y:TsS Ff.cs),gE lp jn ap x.1 x.2.1=bg lp jn (cx [(192,Lf ap)] [(32,r32),(92,r92),(112,aU)]) aj 4 177 f177 Ff x F y:=fun x F y=>by kernel_rfl
theorem LO:Ff.ok prog 177:=Ctr.of_den (an (aa (q32) (by kernel_rfl) J9)) aw (hl:=aj) (d:=4) func177 rfl (by decide) (Pf lpK jnK ap)
def qn (_:Lp) (jn:Jn) (x0:Int):Option Int :=
 jn (Int×Int×PUnit) Int (fun (x:Int×Int×PUnit)=>jn (Int×Int×PUnit) Int (fun (x:Int×Int×PUnit) =>
 let v5:Int:=IntKind.wrap IntKind.u8 x.1;
 let v6:Int:=IntKind.wrap IntKind.u8 (Int.fdiv x.1 (2 ^ 8));bif decide (x.1>=256) then bif decide ((0:Int)<=8) then bif inB v6 256 then some (IntKind.wrap .i64 (IntKind.wrap .i64 (x.2.1+8)+IntKind.wrap .i64 (jO { data:=List.toArray (List.append (List.append [(0:UInt8),(1 : UInt8),(2:UInt8),(2:UInt8),(3:UInt8),(3:UInt8),(3:UInt8),(3:UInt8),(4:UInt8),(4:UInt8),(4:UInt8),(4:UInt8),(4:UInt8),(4:UInt8),(4:UInt8),(4 : UInt8),(5:UInt8),(5:UInt8),(5:UInt8),(5:UInt8),(5:UInt8),(5:UInt8),(5:UInt8),(5:UInt8),(5:UInt8),(5:UInt8),(5:UInt8),(5:UInt8),(5:UInt8),(5 : UInt8),(5:UInt8),(5:UInt8),(6:UInt8),(6:UInt8),(6:UInt8),(6:UInt8),(6:UInt8),(6:UInt8),(6:UInt8),(6:UInt8),(6:UInt8),(6:UInt8),(6:UInt8),(6 : UInt8),(6:UInt8),(6:UInt8),(6:UInt8),(6:UInt8),(6:UInt8),(6:UInt8),(6:UInt8),(6:UInt8),(6:UInt8),(6:UInt8),(6:UInt8),(6:UInt8),(6:UInt8),(6 : UInt8),(6:UInt8),(6:UInt8),(6:UInt8),(6:UInt8),(6:UInt8),(6:UInt8)] [(7:UInt8),(7:UInt8),(7:UInt8),(7:UInt8),(7:UInt8),(7:UInt8),(7:UInt8),(7 : UInt8),(7:UInt8),(7:UInt8),(7:UInt8),(7:UInt8),(7:UInt8),(7:UInt8),(7:UInt8),(7:UInt8),(7:UInt8),(7:UInt8),(7:UInt8),(7:UInt8),(7:UInt8),(7 : UInt8),(7:UInt8),(7:UInt8),(7:UInt8),(7:UInt8),(7:UInt8),(7:UInt8),(7:UInt8),(7:UInt8),(7:UInt8),(7:UInt8),(7:UInt8),(7:UInt8),(7:UInt8),(7 : UInt8),(7:UInt8),(7:UInt8),(7:UInt8),(7:UInt8),(7:UInt8),(7:UInt8),(7:UInt8),(7:UInt8),(7:UInt8),(7:UInt8),(7:UInt8),(7:UInt8),(7:UInt8),(7 : UInt8),(7:UInt8),(7:UInt8),(7:UInt8),(7:UInt8),(7:UInt8),(7:UInt8),(7:UInt8),(7:UInt8),(7:UInt8),(7:UInt8),(7:UInt8),(7:UInt8),(7:UInt8),(7 : UInt8)]) (List.append [(8:UInt8),(8:UInt8),(8:UInt8),(8:UInt8),(8:UInt8),(8:UInt8),(8:UInt8),(8:UInt8),(8:UInt8),(8:UInt8),(8:UInt8),(8:UInt8),(8 : UInt8),(8:UInt8),(8:UInt8),(8:UInt8),(8:UInt8),(8:UInt8),(8:UInt8),(8:UInt8),(8:UInt8),(8:UInt8),(8:UInt8),(8:UInt8),(8:UInt8),(8:UInt8),(8 : UInt8),(8:UInt8),(8:UInt8),(8:UInt8),(8:UInt8),(8:UInt8),(8:UInt8),(8:UInt8),(8:UInt8),(8:UInt8),(8:UInt8),(8:UInt8),(8:UInt8),(8:UInt8),(8 : UInt8),(8:UInt8),(8:UInt8),(8:UInt8),(8:UInt8),(8:UInt8),(8:UInt8),(8:UInt8),(8:UInt8),(8:UInt8),(8:UInt8),(8:UInt8),(8:UInt8),(8:UInt8),(8 : UInt8),(8:UInt8),(8:UInt8),(8:UInt8),(8:UInt8),(8:UInt8),(8:UInt8),(8:UInt8),(8:UInt8),(8:UInt8)] [(8:UInt8),(8:UInt8),(8:UInt8),(8:UInt8),(8 : UInt8),(8:UInt8),(8:UInt8),(8:UInt8),(8:UInt8),(8:UInt8),(8:UInt8),(8:UInt8),(8:UInt8),(8:UInt8),(8:UInt8),(8:UInt8),(8:UInt8),(8:UInt8),(8 : UInt8),(8:UInt8),(8:UInt8),(8:UInt8),(8:UInt8),(8:UInt8),(8:UInt8),(8:UInt8),(8:UInt8),(8:UInt8),(8:UInt8),(8:UInt8),(8:UInt8),(8:UInt8),(8 : UInt8),(8:UInt8),(8:UInt8),(8:UInt8),(8:UInt8),(8:UInt8),(8:UInt8),(8:UInt8),(8:UInt8),(8:UInt8),(8:UInt8),(8:UInt8),(8:UInt8),(8:UInt8),(8 : UInt8),(8:UInt8),(8:UInt8),(8:UInt8),(8:UInt8),(8:UInt8),(8:UInt8),(8:UInt8),(8:UInt8),(8:UInt8),(8:UInt8),(8:UInt8),(8:UInt8),(8:UInt8),(8 : UInt8),(8:UInt8),(8:UInt8),(8:UInt8)])) } v6.toNat))) else none else none else bif inB v5 256 then some (IntKind.wrap .i64 (x.2.1+IntKind.wrap IntKind.i64 (jO { data:=List.toArray (List.append (List.append [(0:UInt8),(1:UInt8),(2:UInt8),(2:UInt8),(3:UInt8),(3:UInt8),(3:UInt8),(3:UInt8),(4 : UInt8),(4:UInt8),(4:UInt8),(4:UInt8),(4:UInt8),(4:UInt8),(4:UInt8),(4:UInt8),(5:UInt8),(5:UInt8),(5:UInt8),(5:UInt8),(5:UInt8),(5:UInt8),(5 : UInt8),(5:UInt8),(5:UInt8),(5:UInt8),(5:UInt8),(5:UInt8),(5:UInt8),(5:UInt8),(5:UInt8),(5:UInt8),(6:UInt8),(6:UInt8),(6:UInt8),(6:UInt8),(6 : UInt8),(6:UInt8),(6:UInt8),(6:UInt8),(6:UInt8),(6:UInt8),(6:UInt8),(6:UInt8),(6:UInt8),(6:UInt8),(6:UInt8),(6:UInt8),(6:UInt8),(6:UInt8),(6 : UInt8),(6:UInt8),(6:UInt8),(6:UInt8),(6:UInt8),(6:UInt8),(6:UInt8),(6:UInt8),(6:UInt8),(6:UInt8),(6:UInt8),(6:UInt8),(6:UInt8),(6:UInt8)] [(7 : UInt8),(7:UInt8),(7:UInt8),(7:UInt8),(7:UInt8),(7:UInt8),(7:UInt8),(7:UInt8),(7:UInt8),(7:UInt8),(7:UInt8),(7:UInt8),(7:UInt8),(7:UInt8),(7 : UInt8),(7:UInt8),(7:UInt8),(7:UInt8),(7:UInt8),(7:UInt8),(7:UInt8),(7:UInt8),(7:UInt8),(7:UInt8),(7:UInt8),(7:UInt8),(7:UInt8),(7:UInt8),(7 : UInt8),(7:UInt8),(7:UInt8),(7:UInt8),(7:UInt8),(7:UInt8),(7:UInt8),(7:UInt8),(7:UInt8),(7:UInt8),(7:UInt8),(7:UInt8),(7:UInt8),(7:UInt8),(7 : UInt8),(7:UInt8),(7:UInt8),(7:UInt8),(7:UInt8),(7:UInt8),(7:UInt8),(7:UInt8),(7:UInt8),(7:UInt8),(7:UInt8),(7:UInt8),(7:UInt8),(7:UInt8),(7 : UInt8),(7:UInt8),(7:UInt8),(7:UInt8),(7:UInt8),(7:UInt8),(7:UInt8),(7:UInt8)]) (List.append [(8:UInt8),(8:UInt8),(8:UInt8),(8:UInt8),(8:UInt8),(8 : UInt8),(8:UInt8),(8:UInt8),(8:UInt8),(8:UInt8),(8:UInt8),(8:UInt8),(8:UInt8),(8:UInt8),(8:UInt8),(8:UInt8),(8:UInt8),(8:UInt8),(8:UInt8),(8 : UInt8),(8:UInt8),(8:UInt8),(8:UInt8),(8:UInt8),(8:UInt8),(8:UInt8),(8:UInt8),(8:UInt8),(8:UInt8),(8:UInt8),(8:UInt8),(8:UInt8),(8:UInt8),(8 : UInt8),(8:UInt8),(8:UInt8),(8:UInt8),(8:UInt8),(8:UInt8),(8:UInt8),(8:UInt8),(8:UInt8),(8:UInt8),(8:UInt8),(8:UInt8),(8:UInt8),(8:UInt8),(8 : UInt8),(8:UInt8),(8:UInt8),(8:UInt8),(8:UInt8),(8:UInt8),(8:UInt8),(8:UInt8),(8:UInt8),(8:UInt8),(8:UInt8),(8:UInt8),(8:UInt8),(8:UInt8),(8 : UInt8),(8:UInt8),(8:UInt8)] [(8:UInt8),(8:UInt8),(8:UInt8),(8:UInt8),(8:UInt8),(8:UInt8),(8:UInt8),(8:UInt8),(8:UInt8),(8:UInt8),(8:UInt8),(8 : UInt8),(8:UInt8),(8:UInt8),(8:UInt8),(8:UInt8),(8:UInt8),(8:UInt8),(8:UInt8),(8:UInt8),(8:UInt8),(8:UInt8),(8:UInt8),(8:UInt8),(8:UInt8),(8 : UInt8),(8:UInt8),(8:UInt8),(8:UInt8),(8:UInt8),(8:UInt8),(8:UInt8),(8:UInt8),(8:UInt8),(8:UInt8),(8:UInt8),(8:UInt8),(8:UInt8),(8:UInt8),(8 : UInt8),(8:UInt8),(8:UInt8),(8:UInt8),(8:UInt8),(8:UInt8),(8:UInt8),(8:UInt8),(8:UInt8),(8:UInt8),(8:UInt8),(8:UInt8),(8:UInt8),(8:UInt8),(8 : UInt8),(8:UInt8),(8:UInt8),(8:UInt8),(8:UInt8),(8:UInt8),(8:UInt8),(8:UInt8),(8:UInt8),(8:UInt8),(8:UInt8)])) } v5.toNat))) else none) fun (j:Int × Int×PUnit->Option Int)=>bif decide (x.1>=65536) then bif decide ((0:Int)<=16) then j (Int.fdiv x.1 (2 ^ 16),IntKind.wrap .i64 (x.2.1+16),PUnit.unit) else none else j (x.1,x.2.1,PUnit.unit)) fun (j:Int×Int×PUnit->Option Int)=>bif decide (x0>=4294967296) then bif decide (0<=32) then j (Int.fdiv x0 (2 ^ 32),32,PUnit.unit) else none else j (x0,0,PUnit.unit)
def fI (x0:Int):Option Int:=qn lpK jnK x0
abbrev Ms:=(Int)->Option (Int)
def Fg:Ctr:=⟨[(.int .u64)],[],[],.one i64,fun x _ _=>fI x.1⟩
theorem Pv (lp:Lp) (jn:Jn):∀(x:TsS Fg.as) (F:TsF Fg.fs) (y:TsS Fg.cs),qn lp jn x.1=bg lp jn (cx [] [(32,r32),(92,r92),(112,aU)]) aj 4 194 f194 Fg x F y:=fun x F y=>by kernel_rfl
theorem NS:Fg.ok prog 194:=Ctr.of_den (an (q32)) aw (hl:=aj) (d:=4) func194 rfl (by decide) (Pv lpK jnK)
def hH (_:Lp) (_:Jn) (fI:Ms) (x0:Int):Option Int :=
 af (fI x0) fun (t:Int)=>some (IntKind.wrap .i64 (64 - t))
def cg (x0:Int):Option Int:=hH lpK jnK fI x0
abbrev Nq:=(Int)->Option (Int)
def EZ:Ctr:=⟨[(.int .u64)],[],[],.one i64,fun x _ _=>cg x.1⟩
theorem Pu (lp:Lp) (jn:Jn) (fI:Ms):∀(x:TsS EZ.as) (F:TsF EZ.fs) (y:TsS EZ.cs),hH lp jn fI x.1=bg lp jn (cx [(194,⟨[(.int .u64)],[],[],.one i64,fun x _ _=>fI x.1⟩)] [(32,r32),(92,r92),(112,aU)]) aj 4 193 f193 EZ x F y:=fun x F y=>by kernel_rfl
theorem Mz:EZ.ok prog 193:=Ctr.of_den (an (aa (q32) (by kernel_rfl) NS)) aw (hl:=aj) (d:=4) func193 rfl (by decide) (Pu lpK jnK fI)
def qm (lp:Lp) (jn:Jn) (cg:Nq) (x0:Int) (x1:Int) (x2:Int):Option (Int×Int×Unit) :=
 
 let v5:Bool:=nzB x2;
 let v6:Int:=2 ^ 32;
 let v7:Bool:=decide ((0:Int)<=32);jn PUnit (Int×Int×PUnit) (fun (_:PUnit)=>jn PUnit (Int×Int×PUnit) (fun (_:PUnit)=>bif decide (x0=0) then bif v5 then bif v5 then some (IntKind.wrap .u64 (Int.tdiv x1 x2),Int.tmod x1 x2,PUnit.unit) else none else none else af (cg x2) fun (t:Int) =>
 let v11:Int:=IntKind.wrap .u64 t;
 let v12:Bool:=decide (0<=v11);
 let v13:Int:=2 ^ min v11.toNat 64;
 let v14:Int:=IntKind.wrap .u64 (x2*v13);
 let v15:Int:=IntKind.wrap .u64 (x1*v13);
 let v16:Int:=Int.fdiv v14 v6;
 let v17:Int:=Int.fdiv v15 v6;
 let v18:Bool:=nzB v16;
 let v19:Int:=IntKind.wrap .u64 (↑(Nat.land (Int.toNat (v15 % Int.ofNat 18446744073709551616)) (Int.toNat (4294967295 % Int.ofNat 18446744073709551616))) : Int);
 let v20:Int:=IntKind.wrap .u64 (↑(Nat.land (Int.toNat (v14 % Int.ofNat 18446744073709551616)) (Int.toNat (4294967295 % Int.ofNat 18446744073709551616))) : Int);
 let v21:Int:=IntKind.wrap .u64 (↑(Nat.lor (Int.toNat (IntKind.wrap .u64 (x0*v13) % Int.ofNat 18446744073709551616)) (Int.toNat (Int.fdiv x1 (2 ^ min (Int.toNat (IntKind.wrap .u64 (64 - v11))) 64) % Int.ofNat 18446744073709551616))):Int);
 let v22:Int:=IntKind.wrap .u64 (Int.tdiv v21 v16);bif v12 then bif v7 then bif v12 then bif decide (0<=IntKind.wrap .u64 (64 - v11)) then bif v12 then bif v7 then bif v18 then jn (Int×PUnit) (Int×Int×PUnit) (fun (x:Int×PUnit) =>
 let v24:Int:=IntKind.wrap .u64 (IntKind.wrap .u64 (IntKind.wrap .u64 (v21*4294967296)+v17) - IntKind.wrap .u64 (x.1*v14));
 let v25:Int:=IntKind.wrap .u64 (Int.tdiv v24 v16);bif v18 then jn (Int×PUnit) (Int×Int×PUnit) (fun (x_1:Int×PUnit)=>bif v12 then some (IntKind.wrap .u64 (IntKind.wrap .u64 (x.1*4294967296)+x_1.1),Int.fdiv (IntKind.wrap .u64 (IntKind.wrap .u64 (IntKind.wrap .u64 (v24*4294967296) + v19) - IntKind.wrap .u64 (x_1.1*v14))) v13,PUnit.unit) else none) fun (j:Int×PUnit->Option (Int×Int×PUnit))=>lp (Int×Int×PUnit) (Int×Int×PUnit) (fun (again:Int×Int×PUnit->Option (Int×Int×PUnit)) (x:Int×Int×PUnit) =>
 let v29:Int×PUnit:=(IntKind.wrap .u64 (x.2.1 - 1),PUnit.unit);
 let v30:Bool:=decide (x.2.1>=4294967296);
 let v31:Bool:=!v30;
 let v32:Bool:=!v31||v31;
 let v33:Bool:=v32&&v32;bif v33 then bif v32 then bif v33 then bif v33 then bif v30||v31 then bif bif v30 then true else decide (IntKind.wrap .u64 (x.2.1*v20) > IntKind.wrap .u64 (IntKind.wrap .u64 (4294967296*x.1)+v19)) then bif decide (IntKind.wrap .u64 (x.1+v16)>=4294967296) then j v29 else again (IntKind.wrap .u64 (x.1+v16),v29) else j (x.2.1,PUnit.unit) else none else none else none else none else none) (IntKind.wrap .u64 (v24 - IntKind.wrap IntKind.u64 (v25*v16)),v25,PUnit.unit) else none) fun (j:Int×PUnit->Option (Int×Int×PUnit))=>lp (Int×Int×PUnit) (Int×Int×PUnit) (fun (again:Int×Int×PUnit -> Option (Int×Int×PUnit)) (x:Int×Int×PUnit) =>
 let v26:Int:=IntKind.wrap .u64 (x.1 - 1);
 let v27:Bool:=decide (x.1>=4294967296);
 let v28:Bool:=!v27;
 let v29:Bool:=!v28||v28;
 let v30:Bool:=v29&&v29;bif v30 then bif v29 then bif v30 then bif v30 then bif v27||v28 then bif bif v27 then true else decide (IntKind.wrap .u64 (x.1*v20) > IntKind.wrap .u64 (IntKind.wrap .u64 (4294967296*x.2.1)+v17)) then bif decide (IntKind.wrap .u64 (x.2.1+v16)>=4294967296) then j (v26,PUnit.unit) else again (v26,IntKind.wrap .u64 (x.2.1+v16),PUnit.unit) else j (x.1,PUnit.unit) else none else none else none else none else none) (v22, IntKind.wrap .u64 (v21 - IntKind.wrap .u64 (v22*v16)),PUnit.unit) else none else none else none else none else none else none else none) fun (j:PUnit->Option (Int × Int×PUnit))=>bif decide (x2<=x0) then none else j PUnit.unit) fun (j:PUnit->Option (Int×Int×PUnit))=>bif decide (x2=0) then none else j PUnit.unit
def cv (x0:Int) (x1:Int) (x2:Int):Option (Int×Int×Unit):=qm lpK jnK cg x0 x1 x2
abbrev Fu:=(Int)->(Int)->(Int)->Option (Int×Int×Unit)
def Kg (cv:Fu):Ctr:=⟨[(.int .u64),(.int .u64),(.int .u64)],[],[],.tup [(.int .u64),(.int .u64)],fun x _ _=>cv x.1 x.2.1 x.2.2.1⟩
def Gi:Ctr:=Kg cv
theorem P7 (lp:Lp) (jn:Jn) (cg:Nq):∀(x:TsS Gi.as) (F:TsF Gi.fs) (y:TsS Gi.cs),qm lp jn cg x.1 x.2.1 x.2.2.1=bg lp jn (cx [(193,⟨[(.int .u64)],[],[],.one i64,fun x _ _=>cg x.1⟩)] [(32,r32),(92,r92),(112,aU)]) aj 4 185 f185 Gi x F y:=fun x F y=>by kernel_rfl
theorem JN:Gi.ok prog 185:=Ctr.of_den (an (aa (q32) (by kernel_rfl) Mz)) aw (hl:=aj) (d:=4) func185 rfl (by decide) (P7 lpK jnK cg)
def gI (_:Lp) (_:Jn) (cv:Fu) (x0:Bool×Int×Int) (x1:Int):Option Int :=
 af (cv x0.2.1 x0.2.2 (IntKind.wrap .u64 x1)) fun (t:Int×Int×PUnit) =>
 let v5:Int:=IntKind.wrap .i64 t.1;bif x0.1 then some (IntKind.wrap .i64 (0 - v5)) else some v5
def bZ (x0:Bool×Int×Int) (x1:Int):Option Int:=gI lpK jnK cv x0 x1
abbrev M7:=(Bool×Int×Int)->(Int)->Option (Int)
def HF:Ctr:=⟨[qW,i64],[],[],.one i64,fun x _ _=>bZ x.1 x.2.1⟩
theorem PE (lp:Lp) (jn:Jn) (cv:Fu):∀(x:TsS HF.as) (F:TsF HF.fs) (y:TsS HF.cs),gI lp jn cv x.1 x.2.1=bg lp jn (cx [(185,Kg cv)] [(32,r32),(92,r92),(112,aU)]) aj 4 178 f178 HF x F y:=fun x F y=>by kernel_rfl
theorem L2:HF.ok prog 178:=Ctr.of_den (an (aa (q32) (by kernel_rfl) JN)) aw (hl:=aj) (d:=4) func178 rfl (by decide) (PE lpK jnK cv)
def hY (lp:Lp) (_:Jn) (bf:FN) (bo:KE) (bZ:M7) (x0:List Nat×List (Option (List Int))) (x1:Int) (x2:List Int) (x3:List Int) (x4:List Int) (x5:Int) (x6:Int) (x7:Int) (x8:Int):Option ((List Nat×List (Option (List Int)))×Int×(List Int)×(List Int)×(List Int)×Int×Int×Unit) :=
 
 let v11:List Int×List Int×List Int×Int×Int×PUnit:=(x2.set x7.toNat x8,x3,x4,x5,x6,PUnit.unit);bif inB x7 x0.1.length then bif Nat.ble (Nat.succ x7.toNat) x0.1.length then bif inB x8 (List.length (br x0.2 (x0.1.getD x7.toNat 0))) then bif Nat.ble (Nat.succ x8.toNat) (List.length (br x0.2 (x0.1.getD x7.toNat 0))) then lp (Int×(List Nat×List (Option (List Int)))×PUnit) ((List Nat×List (Option (List Int)))×Int×List Int×List Int×List Int×Int×Int×PUnit) (fun (again:Int×(List Nat×List (Option (List Int)))×PUnit->Option ((List Nat×List (Option (List Int)))×Int×List Int×List Int×List Int×Int×Int×PUnit)) (x:Int×(List Nat×List (Option (List Int)))×PUnit) =>
 let v14:Int:=IntKind.wrap .i64 (x.1+1);
 let v15:(List Nat×List (Option (List Int)))×PUnit:=(x.2.1,PUnit.unit);
 let v16:Int×(List Nat×List (Option (List Int)))×PUnit:=(0,v15);bif decide (x.1<(↑x0.1.length:Int)) then bif inB x.1 x.2.1.1.length then bif Nat.ble (Nat.succ x.1.toNat) x.2.1.1.length then bif decide (x.1=x7) then again (v14,v15) else bif inB x8 (List.length (br x.2.1.2 (x.2.1.1.getD x.1.toNat 0))) then bif Nat.ble (Nat.succ x8.toNat) (List.length (br x.2.1.2 (x.2.1.1.getD x.1.toNat 0))) then bif fB x.2.1.2 (x.2.1.1.getD x.1.toNat 0) then lp (Int×(List Nat×List (Option (List Int)))×PUnit) ((List Nat×List (Option (List Int)))×Int × List Int×List Int×List Int×Int×Int×PUnit) (fun (again_1:Int×(List Nat×List (Option (List Int)))×PUnit->Option ((List Nat×List (Option (List Int)))×Int×List Int × List Int×List Int×Int×Int×PUnit)) (x_1:Int×(List Nat×List (Option (List Int)))×PUnit)=>bif decide (x_1.1<(↑(List.length (br x.2.1.2 (x.2.1.1.getD x.1.toNat 0))):Int)) then bif inB x_1.1 (List.length (br x_1.2.1.2 (x.2.1.1.getD x.1.toNat 0))) then bif Nat.ble (Nat.succ x_1.1.toNat) (List.length (br x_1.2.1.2 (x.2.1.1.getD x.1.toNat 0))) then af (bf (List.getD (br x_1.2.1.2 (x.2.1.1.getD x.1.toNat 0)) x_1.1.toNat 0) (List.getD (br x0.2 (x0.1.getD x7.toNat 0)) x8.toNat 0)) fun (t:Bool×Int×Int)=>bif inB x7 x_1.2.1.1.length then bif Nat.ble (Nat.succ x7.toNat) x_1.2.1.1.length then bif inB x_1.1 (List.length (br x_1.2.1.2 (x_1.2.1.1.getD x7.toNat 0))) then bif Nat.ble (Nat.succ x_1.1.toNat) (List.length (br x_1.2.1.2 (x_1.2.1.1.getD x7.toNat 0))) then af (bf (List.getD (br x.2.1.2 (x.2.1.1.getD x.1.toNat 0)) x8.toNat 0) (List.getD (br x_1.2.1.2 (x_1.2.1.1.getD x7.toNat 0)) x_1.1.toNat 0)) fun (t_1:Bool×Int×Int)=>af (bo t t_1) fun (t:Bool × Int×Int)=>af (bZ t x1) fun (t:Int)=>bif inB x_1.1 (List.length (br x_1.2.1.2 (x.2.1.1.getD x.1.toNat 0))) then bif Nat.ble (Nat.succ x_1.1.toNat) (List.length (br x_1.2.1.2 (x.2.1.1.getD x.1.toNat 0))) then again_1 (IntKind.wrap .i64 (x_1.1+(1 : Int)),(x_1.2.1.1,x_1.2.1.2.set (x.2.1.1.getD x.1.toNat 0) (some (List.set (br x_1.2.1.2 (x.2.1.1.getD x.1.toNat 0)) x_1.1.toNat t))),PUnit.unit) else none else none else none else none else none else none else none else none else again (v14,x_1.2.1,PUnit.unit)) v16 else none else none else none else none else none else bif inB x7 x2.length then bif Nat.ble (Nat.succ x7.toNat) x2.length then bif decide (List.getD (br x0.2 (x0.1.getD x7.toNat 0)) x8.toNat 0<0) then lp (Int×(List Nat×List (Option (List Int)))×PUnit) ((List Nat×List (Option (List Int))) × Int×List Int×List Int×List Int×Int×Int×PUnit) (fun (again:Int×(List Nat×List (Option (List Int)))×PUnit->Option ((List Nat×List (Option (List Int)))×Int×List Int×List Int×List Int×Int×Int×PUnit)) (x_1:Int×(List Nat×List (Option (List Int)))×PUnit)=>bif decide (x_1.1<(↑x.2.1.1.length:Int)) then bif inB x_1.1 x_1.2.1.1.length then bif Nat.ble (Nat.succ x_1.1.toNat) x_1.2.1.1.length then bif fB x_1.2.1.2 (x_1.2.1.1.getD x_1.1.toNat 0) then lp (Int×(List Nat×List (Option (List Int)))×PUnit) ((List Nat×List (Option (List Int)))×Int×List Int×List Int×List Int×Int×Int×PUnit) (fun (again_1:Int×(List Nat×List (Option (List Int)))×PUnit->Option ((List Nat×List (Option (List Int)))×Int×List Int×List Int×List Int×Int×Int×PUnit)) (x:Int × (List Nat×List (Option (List Int)))×PUnit)=>bif decide (x.1<(↑(List.length (br x_1.2.1.2 (x_1.2.1.1.getD x_1.1.toNat 0))):Int)) then bif inB x.1 (List.length (br x.2.1.2 (x_1.2.1.1.getD x_1.1.toNat 0))) then bif Nat.ble (Nat.succ x.1.toNat) (List.length (br x.2.1.2 (x_1.2.1.1.getD x_1.1.toNat 0))) then bif inB x.1 (List.length (br x.2.1.2 (x_1.2.1.1.getD x_1.1.toNat 0))) then bif Nat.ble (Nat.succ x.1.toNat) (List.length (br x.2.1.2 (x_1.2.1.1.getD x_1.1.toNat 0))) then again_1 (IntKind.wrap .i64 (x.1+(1 : Int)),(x.2.1.1,x.2.1.2.set (x_1.2.1.1.getD x_1.1.toNat 0) (some (List.set (br x.2.1.2 (x_1.2.1.1.getD x_1.1.toNat 0)) x.1.toNat (IntKind.wrap .i64 (0 - List.getD (br x.2.1.2 (x_1.2.1.1.getD x_1.1.toNat 0)) x.1.toNat 0))))),PUnit.unit) else none else none else none else none else again (IntKind.wrap .i64 (x_1.1+1),x.2.1,PUnit.unit)) (0,x_1.2.1, PUnit.unit) else none else none else none else some (x_1.2.1,IntKind.wrap .i64 (0 - List.getD (br x0.2 (x0.1.getD x7.toNat 0)) x8.toNat 0),v11)) v16 else some (x.2.1,List.getD (br x0.2 (x0.1.getD x7.toNat 0)) x8.toNat 0,v11) else none else none) (0,x0, PUnit.unit) else none else none else none else none
def aB (x0:List Nat×List (Option (List Int))) (x1:Int) (x2:List Int) (x3:List Int) (x4:List Int) (x5:Int) (x6:Int) (x7:Int) (x8:Int):Option ((List Nat×List (Option (List Int)))×Int×(List Int)×(List Int)×(List Int)×Int×Int×Unit):=hY lpK jnK bf bo bZ x0 x1 x2 x3 x4 x5 x6 x7 x8
abbrev Et:=(List Nat×List (Option (List Int)))->(Int)->(List Int)->(List Int)->(List Int)->(Int)->(Int)->(Int)->(Int)->Option ((List Nat×List (Option (List Int)))×Int×(List Int)×(List Int)×(List Int)×Int×Int×Unit)
def Ko (aB:Et):SCtr:=⟨[.b [.x (.tab 79 .ref 3 i64),.d i64,.row 3 i64,.row 3 i64,.row 3 i64,.d i64,.d i64],.d i64,.d i64],[],fun x=>aB x.1 x.2.1 x.2.2.1 x.2.2.2.1 x.2.2.2.2.1 x.2.2.2.2.2.1 x.2.2.2.2.2.2.1 x.2.2.2.2.2.2.2.1 x.2.2.2.2.2.2.2.2.1⟩
def LC:SCtr:=Ko aB
theorem P1 (lp:Lp) (jn:Jn) (bf:FN) (bo:KE) (bZ:M7):∀x:TsR (rhI 0 LC.ks),hY lp jn bf bo bZ x.1 x.2.1 x.2.2.1 x.2.2.2.1 x.2.2.2.2.1 x.2.2.2.2.2.1 x.2.2.2.2.2.2.1 x.2.2.2.2.2.2.2.1 x.2.2.2.2.2.2.2.2.1=D7 lp jn (Dn.look []) (cx [(178,⟨[qW,i64],[],[],.one i64,fun x _ _=>bZ x.1 x.2.1⟩),(177,MU bo),(176,Kw bf)] [(32,r32),(92,r92),(112,aU)]) aj 4 149 f149 LC x:=fun x=>by kernel_rfl
theorem JV:LC.ok prog 149:=SCtr.of_den (an (aa (aa (aa (q32) (by kernel_rfl) Kd) (by kernel_rfl) LO) (by kernel_rfl) L2)) aw (nD) (hl:=aj) (d:=4) func149 rfl (by decide) (P1 lpK jnK bf bo bZ)
def hO (_:Lp) (_:Jn) (ap:G2) (x0:Bool×Int×Int) (x1:Bool×Int×Int):Option Int :=
 
 let v4:Bool:=!decide (x0.1=x1.1);
 let v5:Bool:=!v4||v4;bif v5 then bif v5 then bif bif v4 then x0.1 else false then some (-1) else bif v4 then some 1 else bif x0.1 then af (ap x1 x0) fun (t:Int)=>some t else af (ap x0 x1) fun (t:Int)=>some t else none else none
def cf (x0:Bool×Int×Int) (x1:Bool×Int×Int):Option Int:=hO lpK jnK ap x0 x1
abbrev NA:=(Bool×Int×Int)->(Bool×Int×Int)->Option (Int)
def Gr:Ctr:=⟨[qW,qW],[],[],.one i64,fun x _ _=>cf x.1 x.2.1⟩
theorem P5 (lp:Lp) (jn:Jn) (ap:G2):∀(x:TsS Gr.as) (F:TsF Gr.fs) (y:TsS Gr.cs),hO lp jn ap x.1 x.2.1=bg lp jn (cx [(192,Lf ap)] [(32,r32),(92,r92),(112,aU)]) aj 4 179 f179 Gr x F y:=fun x F y=>by kernel_rfl
theorem LU:Gr.ok prog 179:=Ctr.of_den (an (aa (q32) (by kernel_rfl) J9)) aw (hl:=aj) (d:=4) func179 rfl (by decide) (P5 lpK jnK ap)
def gv (lp:Lp) (_:Jn) (bf:FN) (cf:NA) (x0:(List (List Int))×Int×(List Int)×(List Int)×(List Int)×Int×Int) (x1:Int):Option Int :=
 lp (Int×Int×PUnit) Int (fun (again:Int×Int×PUnit->Option Int) (x:Int×Int×PUnit) =>
 let v6:Int×PUnit:=(IntKind.wrap .i64 (x.2.1+1),PUnit.unit);
 let v7:Bool:=inB x.1 x0.1.length;
 let v8:List Int:=x0.1.getD x.1.toNat [];
 let v9:List Int:=x0.1.getD x.2.1.toNat [];
 let v10:Bool:=inB x1 v9.length;bif decide (x.2.1<(↑x0.1.length:Int)) then bif inB x.2.1 x0.1.length then bif v10 then bif decide (v9.getD x1.toNat 0<=0) then again (x.1,v6) else bif decide (x.1<0) then again (x.2.1,v6) else bif inB x0.2.2.2.2.2.2 v9.length then bif v7 then bif inB x1 v8.length then af (bf (v9.getD x0.2.2.2.2.2.2.toNat 0) (v8.getD x1.toNat 0)) fun (t:Bool × Int×Int)=>bif v7 then bif inB x0.2.2.2.2.2.2 v8.length then bif v10 then af (bf (v8.getD x0.2.2.2.2.2.2.toNat 0) (v9.getD x1.toNat 0)) fun (t_1:Bool×Int×Int)=>af (cf t t_1) fun (t:Int) =>
 let v14:Bool:=decide (t=0);
 let v15:Bool:=decide (t<0);
 let v16:Bool:=!v15;
 let v17:Bool:=!v16;
 let v18:Bool:=v16&&v14;
 let v19:Bool:=!v18;
 let v20:Bool:=v17||v16;
 let v21:Bool:=v19||v18;bif v20 then bif v20 then bif v21 then bif v21 then bif v21 then bif v21&&(v21&&(v19||inB x.2.1 x0.2.2.1.length)) then bif v21 then bif v21 then bif v21 then bif v21 then bif v21&&(v21&&(v19||inB x.1 x0.2.2.1.length)) then bif v21 then bif v21&&v21 then bif (v17||v20)&&(v17||(!v14 || (v17||v18))) then bif v15||v16 then bif bif v15 then true else bif v14 then decide (x0.2.2.1.getD x.2.1.toNat 0<x0.2.2.1.getD x.1.toNat 0) else false then again (x.2.1,v6) else again (x.1,v6) else none else none else none else none else none else none else none else none else none else none else none else none else none else none else none else none else none else none else none else none else none else none else none else some x.1) ((-1),0,PUnit.unit)
def ax (x0:(List (List Int))×Int×(List Int)×(List Int)×(List Int)×Int×Int) (x1:Int):Option Int:=gv lpK jnK bf cf x0 x1
abbrev EA:=((List (List Int))×Int×(List Int)×(List Int)×(List Int)×Int×Int)->(Int)->Option (Int)
def K6 (ax:EA):PCtr:=⟨CW,[i64],.one i64,fun x y=>ax x y.1⟩
def I0:PCtr:=K6 ax
theorem OL (lp:Lp) (jn:Jn) (bf:FN) (cf:NA):∀(x:I0.s.T) (y:TsS I0.as),gv lp jn bf cf x y.1=AI lp jn (cx [(179,⟨[qW,qW],[],[],.one i64,fun x _ _=>cf x.1 x.2.1⟩),(176,Kw bf)] [(32,r32),(92,r92),(112,aU)]) aj 4 150 f150 I0 x y:=fun x y=>by kernel_rfl
theorem JQ:I0.ok prog 150:=PCtr.of_den (an (aa (aa (q32) (by kernel_rfl) Kd) (by kernel_rfl) LU)) aw (hl:=aj) (d:=4) func150 rfl (by decide) (OL lpK jnK bf cf)
def gZ (lp:Lp) (_:Jn) (aB:Et) (ao:F6) (ax:EA) (x0:List Nat×List (Option (List Int))) (x1:Int) (x2:List Int) (x3:List Int) (x4:List Int) (x5:Int) (x6:Int):Option ((List Nat×List (Option (List Int)))×Int×(List Int)×(List Int)×(List Int)×Int×Int×Bool×Unit) :=
 lp ((List Nat×List (Option (List Int)))×Int×List Int×List Int×List Int×Int×Int×PUnit) ((List Nat×List (Option (List Int)))×Int×List Int×List Int×List Int×Int × Int×Bool×PUnit) (fun (again:(List Nat×List (Option (List Int)))×Int×List Int×List Int×List Int×Int×Int×PUnit->Option ((List Nat×List (Option (List Int)))×Int × List Int×List Int×List Int×Int×Int×Bool×PUnit)) (x:(List Nat×List (Option (List Int)))×Int×List Int×List Int×List Int×Int×Int×PUnit)=>lp (Int×Int × PUnit) ((List Nat×List (Option (List Int)))×Int×List Int×List Int×List Int×Int×Int×Bool×PUnit) (fun (again_1:Int×Int×PUnit->Option ((List Nat×List (Option (List Int)))×Int×List Int×List Int×List Int×Int×Int×Bool×PUnit)) (x_1:Int×Int×PUnit) =>
 let v13:Bool:=decide (x_1.1<0);
 let v14:Int×PUnit:=(IntKind.wrap .i64 (x_1.2.1+1),PUnit.unit);
 let v15:Bool:=decide (x_1.2.1<x.2.2.2.2.2.1);
 let v16:Bool:=!v15||v15;bif v16 then bif v16 then bif bif v15 then v13 else false then af (bif List.all x.1.1 fun (x_2:Nat)=>fB x.1.2 x_2 then ao (List.map (fun (x_2:Nat)=>br x.1.2 x_2) x.1.1,x.2.1,x.2.2.1,x.2.2.2.1,x.2.2.2.2.1,x.2.2.2.2.2.1, x.2.2.2.2.2.2.1) x_1.2.1 else none) fun (t:Int)=>bif decide (t>0) then again_1 (x_1.2.1,v14) else again_1 (x_1.1,v14) else bif v13 then af (bif List.all x.1.1 fun (x_2:Nat)=>fB x.1.2 x_2 then ao (List.map (fun (x_2:Nat)=>br x.1.2 x_2) x.1.1,x.2.1,x.2.2.1, x.2.2.2.1,x.2.2.2.2.1,x.2.2.2.2.2.1,x.2.2.2.2.2.2.1) x.2.2.2.2.2.2.1 else none) fun (t:Int)=>bif decide (t>0) then some (x.1,x.2.1,x.2.2.1,x.2.2.2.1,x.2.2.2.2.1,x.2.2.2.2.2.1,x.2.2.2.2.2.2.1,false,PUnit.unit) else lp (Int×(List Nat×List (Option (List Int)))×Int×List Int×List Int×List Int×Int×Int×PUnit) ((List Nat×List (Option (List Int)))×Int×List Int×List Int×List Int×Int×Int × Bool×PUnit) (fun (again:Int×(List Nat×List (Option (List Int)))×Int×List Int×List Int×List Int×Int×Int×PUnit->Option ((List Nat×List (Option (List Int)))×Int × List Int×List Int×List Int×Int×Int×Bool×PUnit)) (x_2:Int×(List Nat×List (Option (List Int)))×Int×List Int×List Int×List Int×Int×Int×PUnit)=>bif decide (x_2.1<(↑x.1.1.length:Int)) then lp (Int×(List Nat×List (Option (List Int)))×Int×List Int×List Int×List Int×Int×Int×PUnit) ((List Nat×List (Option (List Int)))×Int×List Int×List Int×List Int×Int×Int×Bool×PUnit) (fun (again_2:Int×(List Nat×List (Option (List Int)))×Int×List Int×List Int×List Int×Int×Int×PUnit->Option ((List Nat×List (Option (List Int)))×Int×List Int×List Int×List Int×Int×Int×Bool×PUnit)) (x:Int×(List Nat×List (Option (List Int)))×Int×List Int×List Int×List Int×Int×Int×PUnit) =>
 let v22:Int:=IntKind.wrap .i64 (x.1+1);
 let v23:Bool:=decide (x.1<x.2.2.2.2.2.2.1);
 let v24:Bool:=!v23;
 let v25:Bool:=v24||v23;
 let v26:(List Nat×List (Option (List Int)))×Int×List Int×List Int×List Int×Int×Int×PUnit:=(x.2.1,x.2.2.1,x.2.2.2.1,x.2.2.2.2.1, x.2.2.2.2.2.1,x.2.2.2.2.2.2.1,x.2.2.2.2.2.2.2.1,PUnit.unit);bif v25 then bif v25 then bif v25 then bif v25&&(v25&&(v24||inB x_2.1 x.2.2.2.1.length)) then bif v25&&(v24||Nat.ble (Nat.succ x_2.1.toNat) x.2.2.2.1.length) then bif v25 then bif v25 then bif v25 then bif v25 && v25 then bif v25 then bif bif v23 then decide (x.2.2.2.1.getD x_2.1.toNat 0>=x.2.2.2.2.2.2.1) else false then bif inB x_2.1 x.2.1.1.length then bif Nat.ble (Nat.succ x_2.1.toNat) x.2.1.1.length then bif inB x.1 (List.length (br x.2.1.2 (x.2.1.1.getD x_2.1.toNat 0))) then bif Nat.ble (Nat.succ x.1.toNat) (List.length (br x.2.1.2 (x.2.1.1.getD x_2.1.toNat 0))) then bif !decide (List.getD (br x.2.1.2 (x.2.1.1.getD x_2.1.toNat 0)) x.1.toNat 0=0) then af (aB x.2.1 x.2.2.1 x.2.2.2.1 x.2.2.2.2.1 x.2.2.2.2.2.1 x.2.2.2.2.2.2.1 x.2.2.2.2.2.2.2.1 x_2.1 x.1) fun (y:(List Nat×List (Option (List Int)))×Int×List Int×List Int×List Int×Int×Int×PUnit)=>again_2 (v22,y.1,y.2.1,y.2.2.1,y.2.2.2.1,y.2.2.2.2.1,y.2.2.2.2.2.1, y.2.2.2.2.2.2.1,PUnit.unit) else again_2 (v22,v26) else none else none else none else none else again (IntKind.wrap .i64 (x_2.1+1),v26) else none else none else none else none else none else none else none else none else none else none) (0,x_2.2.1,x_2.2.2.1,x_2.2.2.2.1,x_2.2.2.2.2.1, x_2.2.2.2.2.2.1,x_2.2.2.2.2.2.2.1,x_2.2.2.2.2.2.2.2.1,PUnit.unit) else some (x_2.2.1,x_2.2.2.1,x_2.2.2.2.1, x_2.2.2.2.2.1,x_2.2.2.2.2.2.1,x_2.2.2.2.2.2.2.1,x_2.2.2.2.2.2.2.2.1,true,PUnit.unit)) (0,x.1,x.2.1, x.2.2.1,x.2.2.2.1,x.2.2.2.2.1,x.2.2.2.2.2.1,x.2.2.2.2.2.2.1,PUnit.unit) else af (bif List.all x.1.1 fun (x_2:Nat) => fB x.1.2 x_2 then ax (List.map (fun (x_2:Nat)=>br x.1.2 x_2) x.1.1,x.2.1,x.2.2.1,x.2.2.2.1,x.2.2.2.2.1, x.2.2.2.2.2.1,x.2.2.2.2.2.2.1) x_1.1 else none) fun (t:Int)=>af (aB x.1 x.2.1 x.2.2.1 x.2.2.2.1 x.2.2.2.2.1 x.2.2.2.2.2.1 x.2.2.2.2.2.2.1 t x_1.1) fun (y:(List Nat×List (Option (List Int)))×Int×List Int×List Int×List Int×Int × Int×PUnit)=>again (y.1,y.2.1,y.2.2.1,y.2.2.2.1,y.2.2.2.2.1,y.2.2.2.2.2.1,y.2.2.2.2.2.2.1,PUnit.unit) else none else none) ((-1),0,PUnit.unit)) (x0,x1,x2,x3,x4,x5,x6,PUnit.unit)
def aI (x0:List Nat×List (Option (List Int))) (x1:Int) (x2:List Int) (x3:List Int) (x4:List Int) (x5:Int) (x6:Int):Option ((List Nat×List (Option (List Int)))×Int×(List Int)×(List Int)×(List Int)×Int×Int×Bool×Unit):=gZ lpK jnK aB ao ax x0 x1 x2 x3 x4 x5 x6
abbrev Hn:=(List Nat×List (Option (List Int)))->(Int)->(List Int)->(List Int)->(List Int)->(Int)->(Int)->Option ((List Nat×List (Option (List Int)))×Int×(List Int)×(List Int)×(List Int)×Int×Int×Bool×Unit)
def KV (aI:Hn):SCtr:=⟨[.b [.x (.tab 79 .ref 3 i64),.d i64,.row 3 i64,.row 3 i64,.row 3 i64,.d i64,.d i64]],[(false,[.d .bool])],fun x=>aI x.1 x.2.1 x.2.2.1 x.2.2.2.1 x.2.2.2.2.1 x.2.2.2.2.2.1 x.2.2.2.2.2.2.1⟩
def Lv:SCtr:=KV aI
theorem PU (lp:Lp) (jn:Jn) (aB:Et) (ao:F6) (ax:EA):∀x:TsR (rhI 0 Lv.ks),gZ lp jn aB ao ax x.1 x.2.1 x.2.2.1 x.2.2.2.1 x.2.2.2.2.1 x.2.2.2.2.2.1 x.2.2.2.2.2.2.1=D7 lp jn (Dn.look [(149,Ko aB)]) (uk va uX (Ao [(150,K6 ax),(106,KB ao)] [] (gg prog shs pF its [] [(32,r32),(92,r92),(112,aU)]))) aj 4 102 f102 Lv x:=fun x=>by kernel_rfl
theorem JM:Lv.ok prog 102:=SCtr.of_den (an (oD (q32) (fR (by kernel_rfl) JQ (fR (by kernel_rfl) J4 (li))) (kV))) aw (ll JV (nD)) (hl:=aj) (d:=4) func102 rfl (by decide) (PU lpK jnK aB ao ax)
def iG (_:Lp) (_:Jn) (x0:(List (List Int))×Int×(List Int)×(List Int)×(List Int)×Int×Int) (x1:Int):Option Int :=
 bif decide (x1<(↑x0.2.2.2.2.1.length:Int)) then bif inB x1 x0.2.2.2.2.1.length then some (x0.2.2.2.2.1.getD x1.toNat 0) else none else some 0
def aF (x0:(List (List Int))×Int×(List Int)×(List Int)×(List Int)×Int×Int) (x1:Int):Option Int:=iG lpK jnK x0 x1
abbrev G8:=((List (List Int))×Int×(List Int)×(List Int)×(List Int)×Int×Int)->(Int)->Option (Int)
def K7 (aF:G8):PCtr:=⟨CW,[i64],.one i64,fun x y=>aF x y.1⟩
def JA:PCtr:=K7 aF
theorem O0 (lp:Lp) (jn:Jn):∀(x:JA.s.T) (y:TsS JA.as),iG lp jn x y.1=AI lp jn (cx [] [(32,r32),(92,r92),(112,aU)]) aj 4 104 f104 JA x y:=fun x y=>by kernel_rfl
theorem J0:JA.ok prog 104:=PCtr.of_den (an (q32)) aw (hl:=aj) (d:=4) func104 rfl (by decide) (O0 lpK jnK)
def gx (lp:Lp) (_:Jn) (aF:G8) (x0:(List (List Int))×Int×(List Int)×(List Int)×(List Int)×Int×Int) (x1:Int):Option Int :=
 af (aF x0 x1) fun (t:Int)=>lp (Int×Int×PUnit) Int (fun (again:Int×Int×PUnit->Option Int) (x:Int×Int×PUnit) =>
 let v7:List Int:=x0.1.getD x.2.1.toNat [];bif decide (x.2.1<(↑x0.1.length:Int)) then bif inB x.2.1 x0.1.length then bif inB x.2.1 x0.2.2.1.length then af (aF x0 (x0.2.2.1.getD x.2.1.toNat 0)) fun (t:Int)=>bif inB x1 v7.length then again (IntKind.wrap .i64 (x.1 - IntKind.wrap .i64 (t*v7.getD x1.toNat 0)),IntKind.wrap .i64 (x.2.1+1),PUnit.unit) else none else none else none else some x.1) (IntKind.wrap .i64 (t*x0.2.1),0,PUnit.unit)
def bQ (x0:(List (List Int))×Int×(List Int)×(List Int)×(List Int)×Int×Int) (x1:Int):Option Int:=gx lpK jnK aF x0 x1
abbrev Nz:=((List (List Int))×Int×(List Int)×(List Int)×(List Int)×Int×Int)->(Int)->Option (Int)
def Ic:PCtr:=⟨CW,[i64],.one i64,fun x y=>bQ x y.1⟩
theorem Pq (lp:Lp) (jn:Jn) (aF:G8):∀(x:Ic.s.T) (y:TsS Ic.as),gx lp jn aF x y.1=AI lp jn (uk va uX (Ao [(104,K7 aF)] [] (gg prog shs pF its [] [(32,r32),(92,r92),(112,aU)]))) aj 4 151 f151 Ic x y:=fun x y=>by kernel_rfl
theorem NP:Ic.ok prog 151:=PCtr.of_den (an (oD (q32) (fR (by kernel_rfl) J0 (li)) (kV))) aw (hl:=aj) (d:=4) func151 rfl (by decide) (Pq lpK jnK aF)
def gA (lp:Lp) (_:Jn) (aB:Et) (ax:EA) (bQ:Nz) (x0:List Nat×List (Option (List Int))) (x1:Int) (x2:List Int) (x3:List Int) (x4:List Int) (x5:Int) (x6:Int):Option ((List Nat×List (Option (List Int)))×Int×(List Int)×(List Int)×(List Int)×Int×Int×Bool×Unit) :=
 lp ((List Nat×List (Option (List Int)))×Int×List Int×List Int×List Int×Int×Int×PUnit) ((List Nat×List (Option (List Int)))×Int×List Int×List Int×List Int×Int × Int×Bool×PUnit) (fun (again:(List Nat×List (Option (List Int)))×Int×List Int×List Int×List Int×Int×Int×PUnit->Option ((List Nat×List (Option (List Int)))×Int × List Int×List Int×List Int×Int×Int×Bool×PUnit)) (x:(List Nat×List (Option (List Int)))×Int×List Int×List Int×List Int×Int×Int×PUnit)=>lp (Int×Int × PUnit) ((List Nat×List (Option (List Int)))×Int×List Int×List Int×List Int×Int×Int×Bool×PUnit) (fun (again_1:Int×Int×PUnit->Option ((List Nat×List (Option (List Int)))×Int×List Int×List Int×List Int×Int×Int×Bool×PUnit)) (x_1:Int×Int×PUnit) =>
 let v13:Bool:=decide (x_1.1<0);
 let v14:Int×PUnit:=(IntKind.wrap .i64 (x_1.2.1+1),PUnit.unit);
 let v15:Bool:=decide (x_1.2.1<x.2.2.2.2.2.1);
 let v16:Bool:=!v15||v15;bif v16 then bif v16 then bif bif v15 then v13 else false then af (bif List.all x.1.1 fun (x_2:Nat)=>fB x.1.2 x_2 then bQ (List.map (fun (x_2:Nat)=>br x.1.2 x_2) x.1.1,x.2.1,x.2.2.1,x.2.2.2.1,x.2.2.2.2.1,x.2.2.2.2.2.1, x.2.2.2.2.2.2.1) x_1.2.1 else none) fun (t:Int)=>bif decide (t<0) then again_1 (x_1.2.1,v14) else again_1 (x_1.1,v14) else bif v13 then some (x.1,x.2.1,x.2.2.1,x.2.2.2.1,x.2.2.2.2.1,x.2.2.2.2.2.1,x.2.2.2.2.2.2.1,true,PUnit.unit) else af (bif List.all x.1.1 fun (x_2:Nat)=>fB x.1.2 x_2 then ax (List.map (fun (x_2:Nat)=>br x.1.2 x_2) x.1.1,x.2.1,x.2.2.1,x.2.2.2.1, x.2.2.2.2.1,x.2.2.2.2.2.1,x.2.2.2.2.2.2.1) x_1.1 else none) fun (t:Int)=>bif decide (t<0) then some (x.1,x.2.1, x.2.2.1,x.2.2.2.1,x.2.2.2.2.1,x.2.2.2.2.2.1,x.2.2.2.2.2.2.1,false,PUnit.unit) else af (aB x.1 x.2.1 x.2.2.1 x.2.2.2.1 x.2.2.2.2.1 x.2.2.2.2.2.1 x.2.2.2.2.2.2.1 t x_1.1) fun (y:(List Nat×List (Option (List Int)))×Int×List Int × List Int×List Int×Int×Int×PUnit)=>again (y.1,y.2.1,y.2.2.1,y.2.2.2.1,y.2.2.2.2.1,y.2.2.2.2.2.1,y.2.2.2.2.2.2.1, PUnit.unit) else none else none) ((-1),0,PUnit.unit)) (x0,x1,x2,x3,x4,x5,x6,PUnit.unit)
def bn (x0:List Nat×List (Option (List Int))) (x1:Int) (x2:List Int) (x3:List Int) (x4:List Int) (x5:Int) (x6:Int):Option ((List Nat×List (Option (List Int)))×Int×(List Int)×(List Int)×(List Int)×Int×Int×Bool×Unit):=gA lpK jnK aB ax bQ x0 x1 x2 x3 x4 x5 x6
abbrev Lo:=(List Nat×List (Option (List Int)))->(Int)->(List Int)->(List Int)->(List Int)->(Int)->(Int)->Option ((List Nat×List (Option (List Int)))×Int×(List Int)×(List Int)×(List Int)×Int×Int×Bool×Unit)
def L4 (bn:Lo):SCtr:=⟨[.b [.x (.tab 79 .ref 3 i64),.d i64,.row 3 i64,.row 3 i64,.row 3 i64,.d i64,.d i64]],[(false,[.d .bool])],fun x=>bn x.1 x.2.1 x.2.2.1 x.2.2.2.1 x.2.2.2.2.1 x.2.2.2.2.2.1 x.2.2.2.2.2.2.1⟩
def Kp:SCtr:=L4 bn
theorem NV (lp:Lp) (jn:Jn) (aB:Et) (ax:EA) (bQ:Nz):∀x:TsR (rhI 0 Kp.ks),gA lp jn aB ax bQ x.1 x.2.1 x.2.2.1 x.2.2.2.1 x.2.2.2.2.1 x.2.2.2.2.2.1 x.2.2.2.2.2.2.1=D7 lp jn (Dn.look [(149,Ko aB)]) (uk va uX (Ao [(151,⟨CW,[i64],.one i64,fun x y=>bQ x y.1⟩),(150,K6 ax)] [] (gg prog shs pF its [] [(32,r32),(92,r92),(112,aU)]))) aj 4 103 f103 Kp x:=fun x=>by kernel_rfl
theorem M0:Kp.ok prog 103:=SCtr.of_den (an (oD (q32) (fR (by kernel_rfl) NP (fR (by kernel_rfl) JQ (li))) (kV))) aw (ll JV (nD)) (hl:=aj) (d:=4) func103 rfl (by decide) (NV lpK jnK aB ax bQ)
def nI (_:Lp) (_:Jn) (x0:Bool) (x1:Int) (x2:Int):Option ((Int×Int)×Int×Unit) :=
 
 let v5:Int:=IntKind.wrap .i64 x1;
 let v6:Int:=IntKind.wrap .i64 x2;
 let v7:Bool:=decide (x1>1152921504606846976);
 let v8:Bool:=!v7;bif !v8||v8 then bif v7||v8 then bif bif v7 then true else decide (x2>1152921504606846976) then some ((0,0),5,PUnit.unit) else bif x0 then some ((IntKind.wrap .i64 (0 - v5),v6),0,PUnit.unit) else some ((v5,v6),0,PUnit.unit) else none else none
def aZ (x0:Bool) (x1:Int) (x2:Int):Option ((Int×Int)×Int×Unit):=nI lpK jnK x0 x1 x2
abbrev t62:=(Bool)->(Int)->(Int)->Option ((Int×Int)×Int×Unit)
def k62 (aZ:t62):Ctr:=⟨[.bool,(.int .u64),(.int .u64)],[],[],.tup [T47,i64],fun x _ _=>aZ x.1 x.2.1 x.2.2.1⟩
def c62:Ctr:=k62 aZ
theorem e62 (lp:Lp) (jn:Jn):∀(x:TsS c62.as) (F:TsF c62.fs) (y:TsS c62.cs),nI lp jn x.1 x.2.1 x.2.2.1=bg lp jn (cx [] [(32,r32),(92,r92),(112,aU)]) aj 4 62 f62 c62 x F y:=fun x F y=>by kernel_rfl
theorem Lq:c62.ok prog 62:=Ctr.of_den (an (q32)) aw (hl:=aj) (d:=4) func62 rfl (by decide) (e62 lpK jnK)
def qe (_:Lp) (_:Jn) (aW:t59) (av:t60) (aZ:t62) (x0:Int) (x1:Int):Option ((Int×Int)×Int×Unit) :=
 
 let v4:Bool:=!decide (x0=0);
 let v5:Bool:=!v4||v4;bif decide (x1=0) then some ((0,0),16,PUnit.unit) else af (av x0) fun (t:Int)=>af (av x1) fun (t_1:Int)=>af (aW t t_1) fun (t_2:Int) =>
 let v9:Bool:=nzB t_2;bif v5 then bif v5 then bif v5&&v5 then bif v5 then bif v9 then bif v9 then af (aZ (bif v4 then !decide (decide (x0<0)=decide (x1<(0 : Int))) else false) (IntKind.wrap .u64 (Int.tdiv t t_2)) (IntKind.wrap .u64 (Int.tdiv t_1 t_2))) fun (t:(Int×Int)×Int×PUnit)=>some (t.1,t.2.1, PUnit.unit) else none else none else none else none else none else none
def fa (x0:Int) (x1:Int):Option ((Int×Int)×Int×Unit):=qe lpK jnK aW av aZ x0 x1
abbrev KS:=(Int)->(Int)->Option ((Int×Int)×Int×Unit)
def Md (fa:KS):Ctr:=⟨[i64,i64],[],[],.tup [T47,i64],fun x _ _=>fa x.1 x.2.1⟩
def Fs:Ctr:=Md fa
theorem Pn (lp:Lp) (jn:Jn) (aW:t59) (av:t60) (aZ:t62):∀(x:TsS Fs.as) (F:TsF Fs.fs) (y:TsS Fs.cs),qe lp jn aW av aZ x.1 x.2.1=bg lp jn (cx [(62,k62 aZ),(60,k60 av),(59,k59 aW)] [(32,r32),(92,r92),(112,aU)]) aj 4 114 f114 Fs x F y:=fun x F y=>by kernel_rfl
theorem L9:Fs.ok prog 114:=Ctr.of_den (an (aa (aa (aa (q32) (by kernel_rfl) IG) (by kernel_rfl) Ev) (by kernel_rfl) Lq)) aw (hl:=aj) (d:=4) func114 rfl (by decide) (Pn lpK jnK aW av aZ)
def iU (_:Lp) (_:Jn) (fa:KS) (x0:(List (List Int))×Int×(List Int)×(List Int)×(List Int)×Int×Int) (x1:Int):Option (Int×Int) :=
 af (fa x1 x0.2.1) fun (t:(Int×Int)×Int×PUnit)=>some t.1
def aE (x0:(List (List Int))×Int×(List Int)×(List Int)×(List Int)×Int×Int) (x1:Int):Option (Int×Int):=iU lpK jnK fa x0 x1
abbrev HG:=((List (List Int))×Int×(List Int)×(List Int)×(List Int)×Int×Int)->(Int)->Option (Int×Int)
def Ku (aE:HG):PCtr:=⟨CW,[i64],.one T47,fun x y=>aE x y.1⟩
def HU:PCtr:=Ku aE
theorem PX (lp:Lp) (jn:Jn) (fa:KS):∀(x:HU.s.T) (y:TsS HU.as),iU lp jn fa x y.1=AI lp jn (cx [(114,Md fa)] [(32,r32),(92,r92),(112,aU)]) aj 4 105 f105 HU x y:=fun x y=>by kernel_rfl
theorem Kb:HU.ok prog 105:=PCtr.of_den (an (aa (q32) (by kernel_rfl) L9)) aw (hl:=aj) (d:=4) func105 rfl (by decide) (PX lpK jnK fa)
def mS (lp:Lp) (jn:Jn) (aM:t99) (bK:Gp) (aY:DW) (aI:Hn) (bn:Lo) (aF:G8) (aE:HG) (x0:(List Int)×List ((List Int)×Int×Int)):Option (((Int×Int)×(List (Int×Int))×List (Int×Int))×Int×Unit) :=
 af (aM x0) fun (t:Bool)=>bif !t then some (((0,0),[],[]),1,PUnit.unit) else af (bK x0) fun (t:Bool)=>bif !t then some ((((0 : Int),0),[],[]),5,PUnit.unit) else lp (Int×Int×PUnit) (((Int×Int)×List (Int×Int)×List (Int×Int))×Int×PUnit) (fun (again:Int×Int×PUnit -> Option (((Int×Int)×List (Int×Int)×List (Int×Int))×Int×PUnit)) (x:Int×Int×PUnit) =>
 let v7:Int×PUnit:=(IntKind.wrap .i64 (x.2.1+1),PUnit.unit);
 let v8:Int:=IntKind.wrap .i64 ((↑x0.1.length:Int)+x.1);bif decide (x.2.1<(↑x0.2.length:Int)) then bif inB x.2.1 x0.2.length then bif !decide ((x0.2.getD x.2.1.toNat ([],0,0)).2.1=3) then again (IntKind.wrap .i64 (x.1+1),v7) else again (x.1, v7) else none else af (aY x0.1) fun (t:List Int)=>lp (Int×Int×(List Nat×List (Option (List Int)))×Int×List Int×List Int×List Int×Int×Int × PUnit) (((Int×Int)×List (Int×Int)×List (Int×Int))×Int×PUnit) (fun (again:Int×Int×(List Nat×List (Option (List Int)))×Int×List Int×List Int×List Int×Int × Int×PUnit->Option (((Int×Int)×List (Int×Int)×List (Int×Int))×Int×PUnit)) (x:Int×Int×(List Nat×List (Option (List Int)))×Int×List Int×List Int×List Int × Int×Int×PUnit) =>
 let v12:Int:=IntKind.wrap .i64 (x.1+1);
 let v13:List Int×Int×Int:=x0.2.getD x.2.1.toNat ([],0,0);
 let v14:List Int:=List.replicate (Int.toNat (IntKind.wrap .i64 (x.2.2.2.2.2.2.2.2.1+1))) 0;
 let v15:Bool:=inB x.1 (Int.toNat (IntKind.wrap .i64 (x.2.2.2.2.2.2.2.2.1+1)));
 let v16:Bool:=Nat.ble (Nat.succ x.1.toNat) (Int.toNat (IntKind.wrap .i64 (x.2.2.2.2.2.2.2.2.1+1)));
 let v17:Int:=IntKind.wrap .i64 (x.2.2.2.2.2.2.2.1+x.2.1);
 let v18:List Int:=List.take (Int.toNat (IntKind.wrap .i64 (x.2.2.2.2.2.2.2.2.1+1))) v13.1;
 let v19:List Int:=List.set (List.take 0 v14++v18++List.drop (0+List.length v18) v14) x.2.2.2.2.2.2.2.2.1.toNat v13.2.2;bif decide (x.2.1<(↑x0.2.length:Int)) then bif inB x.2.1 x0.2.length then bif decide (0<=IntKind.wrap .i64 (x.2.2.2.2.2.2.2.2.1+(1 : Int)))&&dU (Int.toNat (IntKind.wrap .i64 (x.2.2.2.2.2.2.2.2.1+1))) 8 then bif inB x.2.2.2.2.2.2.2.2.1 (Int.toNat (IntKind.wrap .i64 (x.2.2.2.2.2.2.2.2.1+1))) then bif Nat.ble (Nat.succ x.2.2.2.2.2.2.2.2.1.toNat) (Int.toNat (IntKind.wrap IntKind.i64 (x.2.2.2.2.2.2.2.2.1+1))) then jn (Int×List Int×PUnit) (((Int×Int)×List (Int×Int)×List (Int×Int))×Int×PUnit) (fun (x_1:Int × List Int×PUnit) =>
 let v21:List Int×PUnit:=(x_1.2.1,PUnit.unit);jn (Int×List Int×PUnit) (((Int×Int)×List (Int×Int)×List (Int×Int))×Int×PUnit) (fun (x_2:Int×List Int × PUnit)=>bif inB v17 x_2.2.1.length then bif Nat.ble (Nat.succ v17.toNat) x_2.2.1.length then bif dU (List.length x.2.2.1.1+1) (24 : Nat) then bif dU (List.length x.2.2.2.2.2.1+1) 8 then bif dU (List.length x.2.2.2.2.1+1) 8 then again (x_1.1, IntKind.wrap .i64 (x.2.1+1),(x.2.2.1.1++[List.length x.2.2.1.2+0],x.2.2.1.2++[some (x_2.2.1.set v17.toNat (1 : Int))]),x.2.2.2.1,x.2.2.2.2.1++[v17],x.2.2.2.2.2.1++[x_2.1],x.2.2.2.2.2.2.1,x.2.2.2.2.2.2.2.1, x.2.2.2.2.2.2.2.2.1,PUnit.unit) else none else none else none else none else none) fun (j:Int×List Int×PUnit->Option (((Int×Int)×List (Int×Int)×List (Int×Int))×Int×PUnit))=>bif decide (v13.2.2<0) then lp (Int×List Int×PUnit) (((Int×Int)×List (Int×Int)×List (Int×Int))×Int×PUnit) (fun (again : Int×List Int×PUnit->Option (((Int×Int)×List (Int×Int)×List (Int×Int))×Int×PUnit)) (x:Int×List Int×PUnit) =>
 let v25:Bool:=inB x.1 x.2.1.length;
 let v26:Bool:=Nat.ble (Nat.succ x.1.toNat) x.2.1.length;bif decide (x.1<(↑x_1.2.1.length:Int)) then bif v25 then bif v26 then bif v25 then bif v26 then again (IntKind.wrap .i64 (x.1+1),x.2.1.set x.1.toNat (IntKind.wrap .i64 (0 - x.2.1.getD x.1.toNat 0)), PUnit.unit) else none else none else none else none else j ((-1),x.2.1,PUnit.unit)) (0,v21) else j (1,v21)) fun (j:Int×List Int×PUnit->Option (((Int × Int)×List (Int×Int)×List (Int×Int))×Int×PUnit))=>bif decide (v13.2.1=1) then bif v15 then bif v16 then j (v12,v19.set x.1.toNat 1, PUnit.unit) else none else none else jn (Int×List Int×PUnit) (((Int×Int)×List (Int×Int)×List (Int×Int))×Int×PUnit) (fun (x:Int×List Int×PUnit)=>j (x.1, x.2.1,PUnit.unit)) fun (j:Int×List Int×PUnit->Option (((Int×Int)×List (Int×Int)×List (Int×Int))×Int×PUnit))=>bif decide (v13.2.1=2) then bif v15 then bif v16 then j (v12,v19.set x.1.toNat (-1),PUnit.unit) else none else none else j (x.1,v19,PUnit.unit) else none else none else none else none else af (aI x.2.2.1 x.2.2.2.1 x.2.2.2.2.1 x.2.2.2.2.2.1 x.2.2.2.2.2.2.1 x.2.2.2.2.2.2.2.1 x.2.2.2.2.2.2.2.2.1) fun (y:(List Nat×List (Option (List Int)))×Int×List Int×List Int×List Int×Int×Int×Bool×PUnit)=>bif !y.2.2.2.2.2.2.2.1 then some (((0,0),[],[]),22,PUnit.unit) else af (bn y.1 y.2.1 y.2.2.1 y.2.2.2.1 y.2.2.2.2.1 y.2.2.2.2.2.1 y.2.2.2.2.2.2.1) fun (y:(List Nat×List (Option (List Int)))×Int×List Int×List Int×List Int×Int×Int×Bool × PUnit)=>bif !y.2.2.2.2.2.2.2.1 then some (((0,0),[],[]),21,PUnit.unit) else bif decide (0<=(↑x0.1.length:Int))&&dU (Int.toNat (↑x0.1.length:Int)) 8 then lp (Int×Int×List Int×PUnit) (((Int×Int)×List (Int×Int)×List (Int×Int))×Int×PUnit) (fun (again:Int×Int × List Int×PUnit->Option (((Int×Int)×List (Int×Int)×List (Int×Int))×Int×PUnit)) (x:Int×Int×List Int×PUnit) =>
 let v24:Int:=IntKind.wrap .i64 (x.2.1+1);
 let v25:Bool:=inB x.2.1 y.1.1.length;
 let v26:Bool:=Nat.ble (Nat.succ x.2.1.toNat) y.1.1.length;
 let v27:Int:=y.2.2.1.getD x.2.1.toNat 0;bif decide (x.2.1<(↑y.2.2.1.length:Int)) then bif inB x.2.1 y.2.2.1.length then bif Nat.ble (Nat.succ x.2.1.toNat) y.2.2.1.length then af (bif List.all y.1.1 fun (x:Nat)=>fB y.1.2 x then aF (List.map (fun (x:Nat)=>br y.1.2 x) y.1.1,y.2.1,y.2.2.1,y.2.2.2.1,y.2.2.2.2.1,y.2.2.2.2.2.1,y.2.2.2.2.2.2.1) v27 else none) fun (t:Int)=>bif v25 then bif v26 then bif inB y.2.2.2.2.2.2.1 (List.length (br y.1.2 (y.1.1.getD x.2.1.toNat 0))) then bif Nat.ble (Nat.succ y.2.2.2.2.2.2.1.toNat) (List.length (br y.1.2 (y.1.1.getD x.2.1.toNat 0))) then bif decide (v27<(↑x.2.2.1.length:Int)) then bif v25 then bif v26 then bif inB y.2.2.2.2.2.2.1 (List.length (br y.1.2 (y.1.1.getD x.2.1.toNat 0))) then bif Nat.ble (Nat.succ y.2.2.2.2.2.2.1.toNat) (List.length (br y.1.2 (y.1.1.getD x.2.1.toNat 0))) then bif inB v27 x.2.2.1.length then bif Nat.ble (Nat.succ v27.toNat) x.2.2.1.length then again (IntKind.wrap .i64 (x.1+IntKind.wrap .i64 (t*List.getD (br y.1.2 (y.1.1.getD x.2.1.toNat 0)) y.2.2.2.2.2.2.1.toNat 0)),v24,x.2.2.1.set v27.toNat (List.getD (br y.1.2 (y.1.1.getD x.2.1.toNat 0)) y.2.2.2.2.2.2.1.toNat 0),PUnit.unit) else none else none else none else none else none else none else again (IntKind.wrap .i64 (x.1+IntKind.wrap .i64 (t*List.getD (br y.1.2 (y.1.1.getD x.2.1.toNat 0)) y.2.2.2.2.2.2.1.toNat 0)),v24,x.2.2.1,PUnit.unit) else none else none else none else none else none else none else af (bif List.all y.1.1 fun (x:Nat) =>fB y.1.2 x then aE (List.map (fun (x:Nat)=>br y.1.2 x) y.1.1,y.2.1,y.2.2.1,y.2.2.2.1,y.2.2.2.2.1, y.2.2.2.2.2.1,y.2.2.2.2.2.2.1) x.1 else none) fun (t:Int×Int)=>lp (Int×(Int×Int)×List (Int×Int)×List (Int×Int)×PUnit) (((Int×Int) × List (Int×Int)×List (Int×Int))×Int×PUnit) (fun (again:Int×(Int×Int)×List (Int×Int)×List (Int×Int)×PUnit->Option (((Int×Int)×List (Int×Int)×List (Int × Int))×Int×PUnit)) (x_1:Int×(Int×Int)×List (Int×Int)×List (Int×Int)×PUnit) =>
 let v31:List (Int×Int)×PUnit:=(x_1.2.2.2.1,PUnit.unit);bif decide (x_1.1<(↑x.2.2.1.length:Int)) then bif inB x_1.1 x.2.2.1.length then bif Nat.ble (Nat.succ x_1.1.toNat) x.2.2.1.length then af (bif List.all y.1.1 fun (x:Nat)=>fB y.1.2 x then aE (List.map (fun (x : Nat)=>br y.1.2 x) y.1.1,y.2.1,y.2.2.1,y.2.2.2.1,y.2.2.2.2.1,y.2.2.2.2.2.1,y.2.2.2.2.2.2.1) (x.2.2.1.getD x_1.1.toNat 0) else none) fun (t:Int×Int)=>bif dU (List.length x_1.2.2.1+1) 16 then again (IntKind.wrap .i64 (x_1.1+1),x_1.2.1,x_1.2.2.1++[t],v31) else none else none else none else lp (Int×(Int×Int)×List (Int×Int)×List (Int×Int)×PUnit) (((Int×Int) × List (Int×Int)×List (Int×Int))×Int×PUnit) (fun (again:Int×(Int×Int)×List (Int×Int)×List (Int×Int)×PUnit->Option (((Int×Int)×List (Int×Int)×List (Int × Int))×Int×PUnit)) (x:Int×(Int×Int)×List (Int×Int)×List (Int×Int)×PUnit) =>
 let v34:Int:=IntKind.wrap .i64 (y.2.2.2.2.2.1+x.1);bif decide (x.1<(↑x0.2.length:Int)) then lp (Int×Int×PUnit) (((Int×Int)×List (Int × Int)×List (Int×Int))×Int×PUnit) (fun (again_1:Int×Int×PUnit->Option (((Int×Int)×List (Int×Int)×List (Int×Int))×Int×PUnit)) (x_2:Int×Int×PUnit)=>bif decide (x_2.2.1<(↑y.2.2.1.length:Int)) then bif inB x_2.2.1 y.2.2.1.length then bif Nat.ble (Nat.succ x_2.2.1.toNat) y.2.2.1.length then af (bif List.all y.1.1 fun (x:Nat)=>fB y.1.2 x then aF (List.map (fun (x:Nat)=>br y.1.2 x) y.1.1,y.2.1, y.2.2.1,y.2.2.2.1,y.2.2.2.2.1,y.2.2.2.2.2.1,y.2.2.2.2.2.2.1) (y.2.2.1.getD x_2.2.1.toNat 0) else none) fun (t:Int)=>bif inB x_2.2.1 y.1.1.length then bif Nat.ble (Nat.succ x_2.2.1.toNat) y.1.1.length then bif inB v34 (List.length (br y.1.2 (y.1.1.getD x_2.2.1.toNat 0))) then bif Nat.ble (Nat.succ v34.toNat) (List.length (br y.1.2 (y.1.1.getD x_2.2.1.toNat (0 : Nat)))) then again_1 (IntKind.wrap .i64 (x_2.1+IntKind.wrap .i64 (t*List.getD (br y.1.2 (y.1.1.getD x_2.2.1.toNat 0)) v34.toNat 0)),IntKind.wrap .i64 (x_2.2.1+1),PUnit.unit) else none else none else none else none else none else none else bif inB x.1 y.2.2.2.1.length then bif Nat.ble (Nat.succ x.1.toNat) y.2.2.2.1.length then af (bif List.all y.1.1 fun (x:Nat)=>fB y.1.2 x then aE (List.map (fun (x:Nat)=>br y.1.2 x) y.1.1,y.2.1,y.2.2.1,y.2.2.2.1,y.2.2.2.2.1,y.2.2.2.2.2.1, y.2.2.2.2.2.2.1) (IntKind.wrap .i64 (y.2.2.2.1.getD x.1.toNat 0*x_2.1)) else none) fun (t:Int×Int)=>bif dU (List.length x.2.2.2.1+1) 16 then again (IntKind.wrap .i64 (x.1+1),x.2.1,x.2.2.1,x.2.2.2.1++[t],PUnit.unit) else none else none else none) (0,0,PUnit.unit) else some ((x.2.1,x.2.2.1,x.2.2.2.1),0,PUnit.unit)) (0,x_1.2.1,x_1.2.2.1,v31)) ((0 : Int),t,[],[],PUnit.unit)) (0,0,List.replicate (Int.toNat (↑x0.1.length:Int)) 0,PUnit.unit) else none) ((↑x0.1.length:Int),(0 : Int),([],[]),1,[],[],t,v8,IntKind.wrap .i64 (v8+(↑x0.2.length:Int)),PUnit.unit)) (0,0,PUnit.unit)
def eu (x0:(List Int)×List ((List Int)×Int×Int)):Option (((Int×Int)×(List (Int×Int))×List (Int×Int))×Int×Unit):=mS lpK jnK aM bK aY aI bn aF aE x0
abbrev t56:=((List Int)×List ((List Int)×Int×Int))->Option (((Int×Int)×(List (Int×Int))×List (Int×Int))×Int×Unit)
def c56:Ctr:=⟨[T82],[],[],.tup [T94,i64],fun x _ _=>eu x.1⟩
theorem e56 (lp:Lp) (jn:Jn) (aM:t99) (bK:Gp) (aY:DW) (aI:Hn) (bn:Lo) (aF:G8) (aE:HG):∀(x:TsS c56.as) (F:TsF c56.fs) (y:TsS c56.cs),mS lp jn aM bK aY aI bn aF aE x.1=GZ lp jn (Dn.look [(103,L4 bn),(102,KV aI)]) (uk va uX (Ao [(105,Ku aE),(104,K7 aF)] [] (gg prog shs pF its [(100,Kf bK),(99,k99 aM)] [(32,r32),(92,r92),(112,KZ aY)]))) aj 4 56 f56 c56 x F y:=fun x F y=>by kernel_rfl
theorem O2:c56.ok prog 56:=Ctr.of_denS (an (oD (aa (aa (q32) (by kernel_rfl) KL) (by kernel_rfl) JW) (fR (by kernel_rfl) Kb (fR (by kernel_rfl) J0 (li))) (kV))) aw (ll M0 (ll JM (nD))) (hl:=aj) (d:=4) func56 rfl (by decide) (e56 lpK jnK aM bK aY aI bn aF aE)
set_option maxRecDepth 100000
def qw (_:Lp) (_:Jn) (aN:t55) (eu:t56) (x0:(List (ByteArray×Int))×List (ByteArray×(List (ByteArray×Int×Int×Int))×Bool)):Option ((List (Int×Int))×Int×Unit) :=
 af (aN x0) fun (t:(List Int×List (List Int×Int×Int))×Int×PUnit)=>bif !decide (t.2.1=0) then some ([],t.2.1,PUnit.unit) else af (eu t.1) fun (t:((Int×Int)×List (Int×Int)×List (Int×Int))×Int×PUnit)=>bif !decide (t.2.1=0) then some ([],t.2.1,PUnit.unit) else some (t.1.2.1,0,PUnit.unit)
def cI (x0:(List (ByteArray×Int))×List (ByteArray×(List (ByteArray×Int×Int×Int))×Bool)):Option ((List (Int×Int))×Int×Unit):=qw lpK jnK aN eu x0
abbrev t20:=((List (ByteArray×Int))×List (ByteArray×(List (ByteArray×Int×Int×Int))×Bool))->Option ((List (Int×Int))×Int×Unit)
def k20 (cI:t20):Ctr:=⟨[T25],[],[],.tup [(.sl T47),i64],fun x _ _=>cI x.1⟩
def c20:Ctr:=k20 cI
theorem e20 (lp:Lp) (jn:Jn) (aN:t55) (eu:t56):∀(x:TsS c20.as) (F:TsF c20.fs) (y:TsS c20.cs),qw lp jn aN eu x.1=bg lp jn (cx [(56,⟨[T82],[],[],.tup [T94,i64],fun x _ _=>eu x.1⟩),(55,k55 aN)] [(32,r32),(92,r92),(112,aU)]) aj 4 20 f20 c20 x F y:=fun x F y=>by kernel_rfl
theorem Pr:c20.ok prog 20:=Ctr.of_den (an (aa (aa (q32) (by kernel_rfl) K2) (by kernel_rfl) O2)) aw (hl:=aj) (d:=4) func20 rfl (by decide) (e20 lpK jnK aN eu)
def lG (lp:Lp) (jn:Jn) (aM:t99) (bK:Gp) (aY:DW) (aI:Hn) (ao:F6) (aE:HG) (x0:(List Int)×List ((List Int)×Int×Int)):Option ((List (Int×Int))×Int×Unit) :=
 af (aM x0) fun (t:Bool)=>bif !t then some ([],1,PUnit.unit) else af (bK x0) fun (t:Bool)=>bif !t then some ([],5,PUnit.unit) else lp (Int×Int×PUnit) (List (Int×Int)×Int×PUnit) (fun (again:Int×Int×PUnit->Option (List (Int×Int)×Int×PUnit)) (x:Int×Int×PUnit) =>
 let v7:Int×PUnit:=(IntKind.wrap .i64 (x.2.1+1),PUnit.unit);
 let v8:Int:=IntKind.wrap .i64 ((↑x0.1.length:Int)+x.1);bif decide (x.2.1<(↑x0.2.length:Int)) then bif inB x.2.1 x0.2.length then bif !decide ((x0.2.getD x.2.1.toNat ([],0,0)).2.1=3) then again (IntKind.wrap .i64 (x.1+1),v7) else again (x.1, v7) else none else af (aY x0.1) fun (t:List Int)=>lp (Int×Int×(List Nat×List (Option (List Int)))×Int×List Int×List Int×List Int×Int×Int × PUnit) (List (Int×Int)×Int×PUnit) (fun (again:Int×Int×(List Nat×List (Option (List Int)))×Int×List Int×List Int×List Int×Int×Int×PUnit->Option (List (Int × Int)×Int×PUnit)) (x:Int×Int×(List Nat×List (Option (List Int)))×Int×List Int×List Int×List Int×Int×Int×PUnit) =>
 let v12:Int:=IntKind.wrap .i64 (x.1+1);
 let v13:List Int×Int×Int:=x0.2.getD x.2.1.toNat ([],0,0);
 let v14:List Int:=List.replicate (Int.toNat (IntKind.wrap .i64 (x.2.2.2.2.2.2.2.2.1+1))) 0;
 let v15:Bool:=inB x.1 (Int.toNat (IntKind.wrap .i64 (x.2.2.2.2.2.2.2.2.1+1)));
 let v16:Bool:=Nat.ble (Nat.succ x.1.toNat) (Int.toNat (IntKind.wrap .i64 (x.2.2.2.2.2.2.2.2.1+1)));
 let v17:Int:=IntKind.wrap .i64 (x.2.2.2.2.2.2.2.1+x.2.1);
 let v18:List Int:=List.take (Int.toNat (IntKind.wrap .i64 (x.2.2.2.2.2.2.2.2.1+1))) v13.1;
 let v19:List Int:=List.set (List.take 0 v14++v18++List.drop (0+List.length v18) v14) x.2.2.2.2.2.2.2.2.1.toNat v13.2.2;bif decide (x.2.1<(↑x0.2.length:Int)) then bif inB x.2.1 x0.2.length then bif decide (0<=IntKind.wrap .i64 (x.2.2.2.2.2.2.2.2.1+(1 : Int)))&&dU (Int.toNat (IntKind.wrap .i64 (x.2.2.2.2.2.2.2.2.1+1))) 8 then bif inB x.2.2.2.2.2.2.2.2.1 (Int.toNat (IntKind.wrap .i64 (x.2.2.2.2.2.2.2.2.1+1))) then bif Nat.ble (Nat.succ x.2.2.2.2.2.2.2.2.1.toNat) (Int.toNat (IntKind.wrap IntKind.i64 (x.2.2.2.2.2.2.2.2.1+1))) then jn (Int×List Int×PUnit) (List (Int×Int)×Int×PUnit) (fun (x_1:Int×List Int×PUnit) =>
 let v21:List Int×PUnit:=(x_1.2.1,PUnit.unit);jn (Int×List Int×PUnit) (List (Int×Int)×Int×PUnit) (fun (x_2:Int×List Int×PUnit)=>bif inB v17 x_2.2.1.length then bif Nat.ble (Nat.succ v17.toNat) x_2.2.1.length then bif dU (List.length x.2.2.1.1+1) 24 then bif dU (List.length x.2.2.2.2.2.1+1) 8 then bif dU (List.length x.2.2.2.2.1+1) 8 then again (x_1.1,IntKind.wrap .i64 (x.2.1+(1 : Int)),(x.2.2.1.1++[List.length x.2.2.1.2+0],x.2.2.1.2++[some (x_2.2.1.set v17.toNat 1)]),x.2.2.2.1, x.2.2.2.2.1++[v17],x.2.2.2.2.2.1++[x_2.1],x.2.2.2.2.2.2.1,x.2.2.2.2.2.2.2.1,x.2.2.2.2.2.2.2.2.1, PUnit.unit) else none else none else none else none else none) fun (j:Int×List Int×PUnit->Option (List (Int×Int)×Int×PUnit))=>bif decide (v13.2.2<0) then lp (Int×List Int×PUnit) (List (Int×Int)×Int×PUnit) (fun (again:Int×List Int×PUnit->Option (List (Int×Int)×Int×PUnit)) (x:Int×List Int×PUnit) =>
 let v25:Bool:=inB x.1 x.2.1.length;
 let v26:Bool:=Nat.ble (Nat.succ x.1.toNat) x.2.1.length;bif decide (x.1<(↑x_1.2.1.length:Int)) then bif v25 then bif v26 then bif v25 then bif v26 then again (IntKind.wrap .i64 (x.1+1),x.2.1.set x.1.toNat (IntKind.wrap .i64 (0 - x.2.1.getD x.1.toNat 0)), PUnit.unit) else none else none else none else none else j ((-1),x.2.1,PUnit.unit)) (0,v21) else j (1,v21)) fun (j:Int×List Int×PUnit->Option (List (Int×Int)×Int×PUnit))=>bif decide (v13.2.1=1) then bif v15 then bif v16 then j (v12,v19.set x.1.toNat 1,PUnit.unit) else none else none else jn (Int×List Int×PUnit) (List (Int×Int)×Int×PUnit) (fun (x:Int×List Int×PUnit)=>j (x.1,x.2.1,PUnit.unit)) fun (j:Int×List Int×PUnit->Option (List (Int × Int)×Int×PUnit))=>bif decide (v13.2.1=2) then bif v15 then bif v16 then j (v12,v19.set x.1.toNat (-1),PUnit.unit) else none else none else j (x.1,v19,PUnit.unit) else none else none else none else none else af (aI x.2.2.1 x.2.2.2.1 x.2.2.2.2.1 x.2.2.2.2.2.1 x.2.2.2.2.2.2.1 x.2.2.2.2.2.2.2.1 x.2.2.2.2.2.2.2.2.1) fun (y:(List Nat×List (Option (List Int)))×Int×List Int×List Int×List Int×Int×Int×Bool×PUnit)=>bif y.2.2.2.2.2.2.2.1 then some ([],12,PUnit.unit) else lp (List (Int×Int)×Int×PUnit) (List (Int×Int)×Int×PUnit) (fun (again:List (Int×Int)×Int×PUnit->Option (List (Int×Int)×Int×PUnit)) (x:List (Int×Int)×Int×PUnit)=>bif decide (x.2.1<(↑x0.2.length:Int)) then bif inB x.2.1 y.2.2.2.1.length then bif Nat.ble (Nat.succ x.2.1.toNat) y.2.2.2.1.length then af (bif List.all y.1.1 fun (x:Nat) =>fB y.1.2 x then ao (List.map (fun (x:Nat)=>br y.1.2 x) y.1.1,y.2.1,y.2.2.1,y.2.2.2.1,y.2.2.2.2.1, y.2.2.2.2.2.1,y.2.2.2.2.2.2.1) (IntKind.wrap .i64 (y.2.2.2.2.2.1+x.2.1)) else none) fun (t:Int)=>af (bif List.all y.1.1 fun (x:Nat)=>fB y.1.2 x then aE (List.map (fun (x:Nat)=>br y.1.2 x) y.1.1,y.2.1,y.2.2.1,y.2.2.2.1,y.2.2.2.2.1, y.2.2.2.2.2.1,y.2.2.2.2.2.2.1) (IntKind.wrap .i64 (y.2.2.2.1.getD x.2.1.toNat 0*t)) else none) fun (t:Int×Int) => bif dU (List.length x.1+1) 16 then again (x.1++[t],IntKind.wrap .i64 (x.2.1+1),PUnit.unit) else none else none else none else some (x.1,0,PUnit.unit)) ([],0,PUnit.unit)) ((↑x0.1.length:Int),0,([],[]),1,[],[],t,v8,IntKind.wrap .i64 (v8+(↑x0.2.length:Int)),PUnit.unit)) (0,0,PUnit.unit)
def dK (x0:(List Int)×List ((List Int)×Int×Int)):Option ((List (Int×Int))×Int×Unit):=lG lpK jnK aM bK aY aI ao aE x0
abbrev t57:=((List Int)×List ((List Int)×Int×Int))->Option ((List (Int×Int))×Int×Unit)
def c57:Ctr:=⟨[T82],[],[],.tup [(.sl T47),i64],fun x _ _=>dK x.1⟩
theorem e57 (lp:Lp) (jn:Jn) (aM:t99) (bK:Gp) (aY:DW) (aI:Hn) (ao:F6) (aE:HG):∀(x:TsS c57.as) (F:TsF c57.fs) (y:TsS c57.cs),lG lp jn aM bK aY aI ao aE x.1=GZ lp jn (Dn.look [(102,KV aI)]) (uk va uX (Ao [(105,Ku aE),(106,KB ao)] [] (gg prog shs pF its [(100,Kf bK),(99,k99 aM)] [(32,r32),(92,r92),(112,KZ aY)]))) aj 4 57 f57 c57 x F y:=fun x F y=>by kernel_rfl
theorem Pz:c57.ok prog 57:=Ctr.of_denS (an (oD (aa (aa (q32) (by kernel_rfl) KL) (by kernel_rfl) JW) (fR (by kernel_rfl) Kb (fR (by kernel_rfl) J4 (li))) (kV))) aw (ll JM (nD)) (hl:=aj) (d:=4) func57 rfl (by decide) (e57 lpK jnK aM bK aY aI ao aE)
def nQ (_:Lp) (_:Jn) (aN:t55) (dK:t57) (x0:(List (ByteArray×Int))×List (ByteArray×(List (ByteArray×Int×Int×Int))×Bool)):Option ((List (Int×Int))×Int×Unit) :=
 af (aN x0) fun (t:(List Int×List (List Int×Int×Int))×Int×PUnit)=>bif !decide (t.2.1=0) then some ([],t.2.1,PUnit.unit) else af (dK t.1) fun (t:List (Int×Int)×Int×PUnit)=>some (t.1,t.2.1,PUnit.unit)
def bR (x0:(List (ByteArray×Int))×List (ByteArray×(List (ByteArray×Int×Int×Int))×Bool)):Option ((List (Int×Int))×Int×Unit):=nQ lpK jnK aN dK x0
abbrev t21:=((List (ByteArray×Int))×List (ByteArray×(List (ByteArray×Int×Int×Int))×Bool))->Option ((List (Int×Int))×Int×Unit)
def k21 (bR:t21):Ctr:=⟨[T25],[],[],.tup [(.sl T47),i64],fun x _ _=>bR x.1⟩
def c21:Ctr:=k21 bR
theorem e21 (lp:Lp) (jn:Jn) (aN:t55) (dK:t57):∀(x:TsS c21.as) (F:TsF c21.fs) (y:TsS c21.cs),nQ lp jn aN dK x.1=bg lp jn (cx [(57,⟨[T82],[],[],.tup [(.sl T47),i64],fun x _ _=>dK x.1⟩),(55,k55 aN)] [(32,r32),(92,r92),(112,aU)]) aj 4 21 f21 c21 x F y:=fun x F y=>by kernel_rfl
theorem OJ:c21.ok prog 21:=Ctr.of_den (an (aa (aa (q32) (by kernel_rfl) K2) (by kernel_rfl) Pz)) aw (hl:=aj) (d:=4) func21 rfl (by decide) (e21 lpK jnK aN dK)
def mU (_:Lp) (_:Jn) (cI:t20) (bR:t21) (x0:(List (ByteArray×Int))×List (ByteArray×(List (ByteArray×Int×Int×Int))×Bool)):Option (((List (Int×Int))×Bool×List (Int×Int))×Int×Unit) :=
 af (cI x0) fun (t:List (Int×Int)×Int×PUnit)=>bif decide (t.2.1=0) then some ((t.1,false,[]),0,PUnit.unit) else bif decide (t.2.1=(22 : Int)) then af (bR x0) fun (t:List (Int×Int)×Int×PUnit)=>bif !decide (t.2.1=0) then some (([],false,[]),t.2.1,PUnit.unit) else some (([], true,t.1),0,PUnit.unit) else some (([],false,[]),t.2.1,PUnit.unit)
def aR (x0:(List (ByteArray×Int))×List (ByteArray×(List (ByteArray×Int×Int×Int))×Bool)):Option (((List (Int×Int))×Bool×List (Int×Int))×Int×Unit):=mU lpK jnK cI bR x0
abbrev t13:=((List (ByteArray×Int))×List (ByteArray×(List (ByteArray×Int×Int×Int))×Bool))->Option (((List (Int×Int))×Bool×List (Int×Int))×Int×Unit)
def k13 (aR:t13):Ctr:=⟨[T25],[],[],.tup [T30,i64],fun x _ _=>aR x.1⟩
def c13:Ctr:=k13 aR
theorem e13 (lp:Lp) (jn:Jn) (cI:t20) (bR:t21):∀(x:TsS c13.as) (F:TsF c13.fs) (y:TsS c13.cs),mU lp jn cI bR x.1=bg lp jn (cx [(21,k21 bR),(20,k20 cI)] [(32,r32),(92,r92),(112,aU)]) aj 4 13 f13 c13 x F y:=fun x F y=>by kernel_rfl
theorem Ot:c13.ok prog 13:=Ctr.of_den (an (aa (aa (q32) (by kernel_rfl) Pr) (by kernel_rfl) OJ)) aw (hl:=aj) (d:=4) func13 rfl (by decide) (e13 lpK jnK cI bR)
def gQ (lp:Lp) (_:Jn) (x0:List (Int×Int)) (x1:List (Int×Int)):Option Bool :=
 bif !decide ((↑x0.length:Int)=(↑x1.length:Int)) then some false else lp (Int×PUnit) Bool (fun (again:Int×PUnit->Option Bool) (x:Int×PUnit)=>bif decide (x.1<(↑x0.length:Int)) then bif inB x.1 x0.length then bif inB x.1 x1.length then bif !(decide ((x0.getD x.1.toNat (0,(0 : Int))).1=(x1.getD x.1.toNat (0,0)).1)&&(decide ((x0.getD x.1.toNat (0,0)).2=(x1.getD x.1.toNat ((0 : Int),0)).2)&&true)) then some false else again (IntKind.wrap .i64 (x.1+1),PUnit.unit) else none else none else some true) (0,PUnit.unit)
def bJ (x0:List (Int×Int)) (x1:List (Int×Int)):Option Bool:=gQ lpK jnK x0 x1
abbrev t36:=(List (Int×Int))->(List (Int×Int))->Option (Bool)
def k36 (bJ:t36):Ctr:=⟨[(.sl T47),(.sl T47)],[],[],.one .bool,fun x _ _=>bJ x.1 x.2.1⟩
def c36:Ctr:=k36 bJ
theorem e36 (lp:Lp) (jn:Jn):∀(x:TsS c36.as) (F:TsF c36.fs) (y:TsS c36.cs),gQ lp jn x.1 x.2.1=bg lp jn (cx [] [(32,r32),(92,r92),(112,aU)]) aj 4 36 f36 c36 x F y:=fun x F y=>by kernel_rfl
theorem O3:c36.ok prog 36:=Ctr.of_den (an (q32)) aw (hl:=aj) (d:=4) func36 rfl (by decide) (e36 lpK jnK)
def jP (_:Lp) (_:Jn) (bJ:t36) (x0:(List (Int×Int))×Bool×List (Int×Int)) (x1:(List (Int×Int))×Bool×List (Int×Int)):Option Bool :=
 
 let v4:Bool:=decide (x0.2.1=x1.2.1);
 let v5:Bool:=!v4||v4;bif v5 then bif v5 then bif v5&&v5 then af (bif v4 then bJ x0.1 x1.1 else some false) fun (t:Bool) =>
 let v7:Bool:=bif v4 then t else false;
 let v8:Bool:=!v7||v7;bif v5 then bif v8 then bif v8 then bif v8&&v8 then af (bif v7 then bJ x0.2.2 x1.2.2 else some false) fun (t:Bool)=>bif v8 then some (bif v7 then t else false) else none else none else none else none else none else none else none else none
def bm (x0:(List (Int×Int))×Bool×List (Int×Int)) (x1:(List (Int×Int))×Bool×List (Int×Int)):Option Bool:=jP lpK jnK bJ x0 x1
abbrev t15:=((List (Int×Int))×Bool×List (Int×Int))->((List (Int×Int))×Bool×List (Int×Int))->Option (Bool)
def k15 (bm:t15):Ctr:=⟨[T30,T30],[],[],.one .bool,fun x _ _=>bm x.1 x.2.1⟩
def c15:Ctr:=k15 bm
theorem e15 (lp:Lp) (jn:Jn) (bJ:t36):∀(x:TsS c15.as) (F:TsF c15.fs) (y:TsS c15.cs),jP lp jn bJ x.1 x.2.1=bg lp jn (cx [(36,k36 bJ)] [(32,r32),(92,r92),(112,aU)]) aj 4 15 f15 c15 x F y:=fun x F y=>by kernel_rfl
theorem NX:c15.ok prog 15:=Ctr.of_den (an (aa (q32) (by kernel_rfl) O3)) aw (hl:=aj) (d:=4) func15 rfl (by decide) (e15 lpK jnK bJ)
def ia (lp:Lp) (_:Jn) (x0:List (Int×Int)) (f0:(((Int×Int)×Unit)->Option Bool)):Option Int :=
 lp (Int×PUnit) Int (fun (again:Int×PUnit->Option Int) (x:Int×PUnit)=>bif decide (x.1<(↑x0.length:Int)) then bif inB x.1 x0.length then af (f0 (x0.getD x.1.toNat (0,0),PUnit.unit)) fun (t:Bool)=>bif t then some x.1 else again (IntKind.wrap .i64 (x.1+1),PUnit.unit) else none else some (-1)) (0,PUnit.unit)
def bH (x0:List (Int×Int)) (f0:(((Int×Int)×Unit)->Option Bool)):Option Int:=ia lpK jnK x0 f0
abbrev t75:=(List (Int×Int))->((((Int×Int)×Unit)->Option Bool))->Option (Int)
def k75 (bH:t75):Ctr:=⟨[(.sl T47)],[([T47],.bool)],[],.one i64,fun x F _=>bH x.1 F.1⟩
def c75:Ctr:=k75 bH
theorem e75 (lp:Lp) (jn:Jn):∀(x:TsS c75.as) (F:TsF c75.fs) (y:TsS c75.cs),ia lp jn x.1 F.1=bg lp jn (cx [] [(32,r32),(92,r92),(112,aU)]) aj 4 75 f75 c75 x F y:=fun x F y=>by kernel_rfl
theorem N1:c75.ok prog 75:=Ctr.of_den (an (q32)) aw (hl:=aj) (d:=4) func75 rfl (by decide) (e75 lpK jnK)
def gl (_:Lp) (_:Jn) (bH:t75) (x0:List (Int×Int)) (f0:(((Int×Int)×Unit)->Option Bool)):Option Bool :=
 af (bH x0 f0) fun (t:Int)=>some (decide (t>=0))
def ai (x0:List (Int×Int)) (f0:(((Int×Int)×Unit)->Option Bool)):Option Bool:=gl lpK jnK bH x0 f0
abbrev t34:=(List (Int×Int))->((((Int×Int)×Unit)->Option Bool))->Option (Bool)
def k34 (ai:t34):Ctr:=⟨[(.sl T47)],[([T47],.bool)],[],.one .bool,fun x F _=>ai x.1 F.1⟩
def c34:Ctr:=k34 ai
theorem e34 (lp:Lp) (jn:Jn) (bH:t75):∀(x:TsS c34.as) (F:TsF c34.fs) (y:TsS c34.cs),gl lp jn bH x.1 F.1=bg lp jn (cx [(75,k75 bH)] [(32,r32),(92,r92),(112,aU)]) aj 4 34 f34 c34 x F y:=fun x F y=>by kernel_rfl
theorem ER:c34.ok prog 34:=Ctr.of_den (an (aa (q32) (by kernel_rfl) N1)) aw (hl:=aj) (d:=4) func34 rfl (by decide) (e34 lpK jnK bH)
def mY (_:Lp) (_:Jn) (x0:(List (Int×Int))×Bool×List (Int×Int)):Option ((List (Int×Int))×(List (Int×Int))×Unit) :=
 bif x0.2.1 then some (x0.2.2,x0.1,PUnit.unit) else some (x0.1,x0.2.2,PUnit.unit)
def bE (x0:(List (Int×Int))×Bool×List (Int×Int)):Option ((List (Int×Int))×(List (Int×Int))×Unit):=mY lpK jnK x0
abbrev t49:=((List (Int×Int))×Bool×List (Int×Int))->Option ((List (Int×Int))×(List (Int×Int))×Unit)
def k49 (bE:t49):Ctr:=⟨[T30],[],[],.tup [(.sl T47),(.sl T47)],fun x _ _=>bE x.1⟩
def c49:Ctr:=k49 bE
theorem e49 (lp:Lp) (jn:Jn):∀(x:TsS c49.as) (F:TsF c49.fs) (y:TsS c49.cs),mY lp jn x.1=bg lp jn (cx [] [(32,r32),(92,r92),(112,aU)]) aj 4 49 f49 c49 x F y:=fun x F y=>by kernel_rfl
theorem MZ:c49.ok prog 49:=Ctr.of_den (an (q32)) aw (hl:=aj) (d:=4) func49 rfl (by decide) (e49 lpK jnK)
def kg (_:Lp) (_:Jn) (al:t58) (x0:Int×Int):Option Bool :=
 af (al x0) fun (t:Bool)=>some !t
def dn (x0:Int×Int):Option Bool:=kg lpK jnK al x0
abbrev t93:=(Int×Int)->Option (Bool)
def c93:Ctr:=⟨[T47],[],[],.one .bool,fun x _ _=>dn x.1⟩
theorem e93 (lp:Lp) (jn:Jn) (al:t58):∀(x:TsS c93.as) (F:TsF c93.fs) (y:TsS c93.cs),kg lp jn al x.1=bg lp jn (cx [(58,k58 al)] [(32,r32),(92,r92),(112,aU)]) aj 4 93 f93 c93 x F y:=fun x F y=>by kernel_rfl
theorem Oh:c93.ok prog 93:=Ctr.of_den (an (aa (q32) (by kernel_rfl) xA)) aw (hl:=aj) (d:=4) func93 rfl (by decide) (e93 lpK jnK al)
def mG (_:Lp) (_:Jn) (ai:t34) (dn:t93) (cX:t92) (x0:(List (Int×Int))×Bool×List (Int×Int)):Option Bool :=
 af (cX [x0.1,x0.2.2]) fun (t:List (Int×Int))=>af (ai t fun (x:(Int×Int)×PUnit)=>dn x.1) fun (t:Bool)=>some !t
def bC (x0:(List (Int×Int))×Bool×List (Int×Int)):Option Bool:=mG lpK jnK ai dn cX x0
abbrev t51:=((List (Int×Int))×Bool×List (Int×Int))->Option (Bool)
def k51 (bC:t51):Ctr:=⟨[T30],[],[],.one .bool,fun x _ _=>bC x.1⟩
def c51:Ctr:=k51 bC
theorem e51 (lp:Lp) (jn:Jn) (ai:t34) (dn:t93) (cX:t92):∀(x:TsS c51.as) (F:TsF c51.fs) (y:TsS c51.cs),mG lp jn ai dn cX x.1=bg lp jn (cx [(93,⟨[T47],[],[],.one .bool,fun x _ _=>dn x.1⟩),(34,k34 ai)] [(32,r32),(92,⟨[(.sl (.sl T47))],47,T47,fun x=>cX x.1⟩),(112,aU)]) aj 4 51 f51 c51 x F y:=fun x F y=>by kernel_rfl
theorem Mh:c51.ok prog 51:=Ctr.of_den (an (aa (aa (q32) (by kernel_rfl) ER) (by kernel_rfl) Oh)) aw (hl:=aj) (d:=4) func51 rfl (by decide) (e51 lpK jnK ai dn cX)
def kq (_:Lp) (_:Jn) (al:t58) (x0:Int×Int):Option Bool :=
 af (al x0) fun (t:Bool)=>some !t
def dw (x0:Int×Int):Option Bool:=kq lpK jnK al x0
abbrev Mu:=(Int×Int)->Option (Bool)
def Fo:Ctr:=⟨[T47],[],[],.one .bool,fun x _ _=>dw x.1⟩
theorem NU (lp:Lp) (jn:Jn) (al:t58):∀(x:TsS Fo.as) (F:TsF Fo.fs) (y:TsS Fo.cs),kq lp jn al x.1=bg lp jn (cx [(58,k58 al)] [(32,r32),(92,r92),(112,aU)]) aj 4 168 f168 Fo x F y:=fun x F y=>by kernel_rfl
theorem ME:Fo.ok prog 168:=Ctr.of_den (an (aa (q32) (by kernel_rfl) xA)) aw (hl:=aj) (d:=4) func168 rfl (by decide) (NU lpK jnK al)
def mD (_:Lp) (_:Jn) (ai:t34) (dw:Mu) (x0:List (Int×Int)):Option Bool :=
 af (ai x0 fun (x:(Int×Int)×PUnit)=>dw x.1) fun (t:Bool)=>some !t
def eq (x0:List (Int×Int)):Option Bool:=mD lpK jnK ai dw x0
abbrev LI:=(List (Int×Int))->Option (Bool)
def FO:Ctr:=⟨[(.sl T47)],[],[],.one .bool,fun x _ _=>eq x.1⟩
theorem NZ (lp:Lp) (jn:Jn) (ai:t34) (dw:Mu):∀(x:TsS FO.as) (F:TsF FO.fs) (y:TsS FO.cs),mD lp jn ai dw x.1=bg lp jn (cx [(168,⟨[T47],[],[],.one .bool,fun x _ _=>dw x.1⟩),(34,k34 ai)] [(32,r32),(92,r92),(112,aU)]) aj 4 130 f130 FO x F y:=fun x F y=>by kernel_rfl
theorem NT:FO.ok prog 130:=Ctr.of_den (an (aa (aa (q32) (by kernel_rfl) ER) (by kernel_rfl) ME)) aw (hl:=aj) (d:=4) func130 rfl (by decide) (NZ lpK jnK ai dw)
def mR (_:Lp) (_:Jn) (bv:Ap) (x0:Int) (x1:Int):Option (Int×Int) :=
 af (bv x0 x1) fun (t:Int×Int×PUnit)=>some (t.1,t.2.1)
def aG (x0:Int) (x1:Int):Option (Int×Int):=mR lpK jnK bv x0 x1
abbrev t61:=(Int)->(Int)->Option (Int×Int)
def k61 (aG:t61):Ctr:=⟨[(.int .u64),(.int .u64)],[],[],.one kN,fun x _ _=>aG x.1 x.2.1⟩
def c61:Ctr:=k61 aG
theorem e61 (lp:Lp) (jn:Jn) (bv:Ap):∀(x:TsS c61.as) (F:TsF c61.fs) (y:TsS c61.cs),mR lp jn bv x.1 x.2.1=bg lp jn (cx [(107,Il bv)] [(32,r32),(92,r92),(112,aU)]) aj 4 61 f61 c61 x F y:=fun x F y=>by kernel_rfl
theorem K5:c61.ok prog 61:=Ctr.of_den (an (aa (q32) (by kernel_rfl) G5)) aw (hl:=aj) (d:=4) func61 rfl (by decide) (e61 lpK jnK bv)
def ss (_:Lp) (_:Jn) (aW:t59) (av:t60) (al:t58) (aZ:t62) (aG:t61) (x0:Int×Int) (x1:Int×Int):Option ((Int×Int)×Int×Unit) :=
 
 let v4:Int:=IntKind.wrap .u64 x1.2;
 let v5:Int:=IntKind.wrap .u64 x0.2;af (al x0) fun (t:Bool) =>
 let v7:Bool:=!t;
 let v8:Bool:=!v7;
 let v9:Bool:=!v8||v8;bif v9 then af (bif v8 then al x1 else some false) fun (t:Bool)=>bif v9 then bif v7||v8 then bif bif v7 then true else !t then some (((0 : Int),0),1,PUnit.unit) else af (av x0.1) fun (t:Int)=>af (aW t v4) fun (t:Int) =>
 let v13:Bool:=nzB t;af (av x1.1) fun (t_1:Int)=>af (aW t_1 v5) fun (t_2:Int) =>
 let v16:Bool:=nzB t_2;af (av x0.1) fun (t_3:Int)=>bif v13 then af (av x1.1) fun (t_4:Int)=>bif v16 then af (aG (IntKind.wrap IntKind.u64 (Int.tdiv t_3 t)) (IntKind.wrap .u64 (Int.tdiv t_4 t_2))) fun (t_5:Int×Int) =>
 let v20:Bool:=decide (t_5.1>0);
 let v21:Bool:=decide (t_5.2>0);
 let v22:Bool:=!v20;
 let v23:Bool:=!v21||v21;
 let v24:Bool:=!v22||v22;bif v16 then bif v13 then af (aG (IntKind.wrap .u64 (Int.tdiv v5 t_2)) (IntKind.wrap .u64 (Int.tdiv v4 t))) fun (t:Int×Int) =>bif v24 then bif v24 then bif v20||v22 then bif bif v20 then true else decide (t.1>0) then some ((0,0),5,PUnit.unit) else bif v23 then bif v23 then bif v23 then bif v23 then bif v23&&v23 then bif v23 then af (aZ (bif v21 then !decide (decide (x0.1<0)=decide (x1.1<0)) else false) t_5.2 t.2) fun (t:(Int×Int)×Int×PUnit)=>some (t.1,t.2.1,PUnit.unit) else none else none else none else none else none else none else none else none else none else none else none else none else none else none else none else none
def bS (x0:Int×Int) (x1:Int×Int):Option ((Int×Int)×Int×Unit):=ss lpK jnK aW av al aZ aG x0 x1
abbrev t23:=(Int×Int)->(Int×Int)->Option ((Int×Int)×Int×Unit)
def k23 (bS:t23):Ctr:=⟨[T47,T47],[],[],.tup [T47,i64],fun x _ _=>bS x.1 x.2.1⟩
def c23:Ctr:=k23 bS
theorem e23 (lp:Lp) (jn:Jn) (aW:t59) (av:t60) (al:t58) (aZ:t62) (aG:t61):∀(x:TsS c23.as) (F:TsF c23.fs) (y:TsS c23.cs),ss lp jn aW av al aZ aG x.1 x.2.1=bg lp jn (cx [(61,k61 aG),(62,k62 aZ),(58,k58 al),(60,k60 av),(59,k59 aW)] [(32,r32),(92,r92),(112,aU)]) aj 4 23 f23 c23 x F y:=fun x F y=>by kernel_rfl
theorem L6:c23.ok prog 23:=Ctr.of_den (an (aa (aa (aa (aa (aa (q32) (by kernel_rfl) IG) (by kernel_rfl) Ev) (by kernel_rfl) xA) (by kernel_rfl) Lq) (by kernel_rfl) K5)) aw (hl:=aj) (d:=4) func23 rfl (by decide) (e23 lpK jnK aW av al aZ aG)
def qy (_:Lp) (_:Jn) (x0:Int×Int) (x1:Int×Int):Option (Int×Int) :=
 bif decide ((0:Int)<=0)&&decide ((0:Int)<=1) then bif decide (0<=xM x0.2 x1.2 0)&&decide (xM x0.2 x1.2 0<=1) then some (Ar x0.1 x1.1 (xM x0.2 x1.2 0),Ar x0.2 x1.2 0) else none else none
def fN (x0:Int×Int) (x1:Int×Int):Option (Int×Int):=qy lpK jnK x0 x1
abbrev L8:=(Int×Int)->(Int×Int)->Option (Int×Int)
def FH:Ctr:=⟨[kN,kN],[],[],.one kN,fun x _ _=>fN x.1 x.2.1⟩
theorem Ov (lp:Lp) (jn:Jn):∀(x:TsS FH.as) (F:TsF FH.fs) (y:TsS FH.cs),qy lp jn x.1 x.2.1=bg lp jn (cx [] [(32,r32),(92,r92),(112,aU)]) aj 4 188 f188 FH x F y:=fun x F y=>by kernel_rfl
theorem ND:FH.ok prog 188:=Ctr.of_den (an (q32)) aw (hl:=aj) (d:=4) func188 rfl (by decide) (Ov lpK jnK)
def qM (_:Lp) (_:Jn) (x0:Int×Int) (x1:Int×Int):Option Bool :=
 
 let v4:Bool:=decide (x0.1=x1.1);
 let v5:Bool:=decide (x0.1<x1.1);
 let v6:Bool:=!v5;
 let v7:Bool:=!v6;
 let v8:Bool:=v6&&v4;
 let v9:Bool:=v7||v6;
 let v10:Bool:=!v8||v8;bif v9 then bif v9 then bif v9&&v9 then bif v9 then bif v10 then bif v10 then bif v10&&v10 then bif (v7||v9)&&(v7||(!v4||(v7||v8))) then bif v5 || v6 then some (bif v5 then true else bif v4 then decide (x0.2<x1.2) else false) else none else none else none else none else none else none else none else none else none
def cj (x0:Int×Int) (x1:Int×Int):Option Bool:=qM lpK jnK x0 x1
abbrev EE:=(Int×Int)->(Int×Int)->Option (Bool)
def Ky (cj:EE):Ctr:=⟨[kN,kN],[],[],.one .bool,fun x _ _=>cj x.1 x.2.1⟩
def Dm:Ctr:=Ky cj
theorem OG (lp:Lp) (jn:Jn):∀(x:TsS Dm.as) (F:TsF Dm.fs) (y:TsS Dm.cs),qM lp jn x.1 x.2.1=bg lp jn (cx [] [(32,r32),(92,r92),(112,aU)]) aj 4 189 f189 Dm x F y:=fun x F y=>by kernel_rfl
theorem JL:Dm.ok prog 189:=Ctr.of_den (an (q32)) aw (hl:=aj) (d:=4) func189 rfl (by decide) (OG lpK jnK)
def oS (_:Lp) (_:Jn) (x0:Int×Int) (x1:Int×Int):Option (Int×Int) :=
 bif decide ((0:Int)<=0)&&decide ((0:Int)<=1) then bif decide (0<=tI x0.2 x1.2 0)&&decide (tI x0.2 x1.2 0<=1) then some (uY x0.1 x1.1 (tI x0.2 x1.2 0),uY x0.2 x1.2 0) else none else none
def eW (x0:Int×Int) (x1:Int×Int):Option (Int×Int):=oS lpK jnK x0 x1
abbrev Ng:=(Int×Int)->(Int×Int)->Option (Int×Int)
def Gw:Ctr:=⟨[kN,kN],[],[],.one kN,fun x _ _=>eW x.1 x.2.1⟩
theorem PT (lp:Lp) (jn:Jn):∀(x:TsS Gw.as) (F:TsF Gw.fs) (y:TsS Gw.cs),oS lp jn x.1 x.2.1=bg lp jn (cx [] [(32,r32),(92,r92),(112,aU)]) aj 4 190 f190 Gw x F y:=fun x F y=>by kernel_rfl
theorem Nm:Gw.ok prog 190:=Ctr.of_den (an (q32)) aw (hl:=aj) (d:=4) func190 rfl (by decide) (PT lpK jnK)
def qd (_:Lp) (_:Jn) (cv:Fu) (x0:Int×Int) (x1:Int):Option ((Int×Int)×Int×Unit) :=
 
 let v4:Bool:=nzB x1;bif v4 then af (cv (Int.tmod x0.1 x1) x0.2 x1) fun (t:Int×Int×PUnit)=>bif v4 then some ((IntKind.wrap .u64 (Int.tdiv x0.1 x1), t.1),t.2.1,PUnit.unit) else none else none
def eF (x0:Int×Int) (x1:Int):Option ((Int×Int)×Int×Unit):=qd lpK jnK cv x0 x1
abbrev K9:=(Int×Int)->(Int)->Option ((Int×Int)×Int×Unit)
def Me (eF:K9):Ctr:=⟨[kN,(.int .u64)],[],[],.tup [kN,(.int .u64)],fun x _ _=>eF x.1 x.2.1⟩
def Hu:Ctr:=Me eF
theorem Pt (lp:Lp) (jn:Jn) (cv:Fu):∀(x:TsS Hu.as) (F:TsF Hu.fs) (y:TsS Hu.cs),qd lp jn cv x.1 x.2.1=bg lp jn (cx [(185,Kg cv)] [(32,r32),(92,r92),(112,aU)]) aj 4 191 f191 Hu x F y:=fun x F y=>by kernel_rfl
theorem My:Hu.ok prog 191:=Ctr.of_den (an (aa (q32) (by kernel_rfl) JN)) aw (hl:=aj) (d:=4) func191 rfl (by decide) (Pt lpK jnK cv)
def rY (_:Lp) (jn:Jn) (aW:t59) (av:t60) (al:t58) (aZ:t62) (aG:t61) (fN:L8) (cj:EE) (eW:Ng) (eF:K9) (x0:Int×Int) (x1:Int×Int):Option ((Int×Int)×Int×Unit) :=
 
 let v4:Int:=IntKind.wrap .u64 x0.2;
 let v5:Int:=IntKind.wrap .u64 x1.2;
 let v6:Bool:=decide (x0.1<0);af (al x0) fun (t:Bool) =>
 let v8:Bool:=!t;
 let v9:Bool:=!v8;
 let v10:Bool:=!v9||v9;bif v10 then af (bif v9 then al x1 else some false) fun (t:Bool)=>bif v10 then bif v8||v9 then bif bif v8 then true else !t then some (((0 : Int),0),1,PUnit.unit) else af (aW v4 v5) fun (t:Int) =>
 let v13:Bool:=nzB t;
 let v14:Int:=IntKind.wrap .u64 (Int.tdiv v4 t);af (av x0.1) fun (t_1:Int)=>bif v13 then af (aG t_1 (IntKind.wrap .u64 (Int.tdiv v5 t))) fun (t_2:Int×Int)=>af (av x1.1) fun (t_3:Int)=>bif v13 then af (aG t_3 v14) fun (t_4:Int×Int)=>jn (Bool×(Int×Int)×PUnit) ((Int×Int) × Int×PUnit) (fun (x:Bool×(Int×Int)×PUnit)=>bif decide (x.2.1.1=0)&&(decide (x.2.1.2=0)&&true) then some ((0,1),(0 : Int),PUnit.unit) else af (eF x.2.1 t) fun (t_5:(Int×Int)×Int×PUnit)=>af (aW t t_5.2.1) fun (t:Int)=>af (eF x.2.1 t) fun (t_6 : (Int×Int)×Int×PUnit) =>
 let v23:Bool:=decide (t_6.1.1>0);
 let v24:Bool:=!v23;
 let v25:Bool:=!v24||v24;bif v13 then bif nzB t then af (aG v14 (IntKind.wrap .u64 (Int.tdiv v5 t))) fun (t:Int×Int)=>bif v25 then bif v25 then bif v23 || v24 then bif bif v23 then true else decide (t.1>0) then some ((0,0),5,PUnit.unit) else af (aZ x.1 t_6.1.2 t.2) fun (t:(Int × Int)×Int×PUnit)=>some (t.1,t.2.1,PUnit.unit) else none else none else none else none else none) fun (j:Bool×(Int×Int)×PUnit->Option ((Int×Int)×Int×PUnit)) =>bif decide (v6=decide (x1.1<0)) then af (fN t_2 t_4) fun (t:Int×Int)=>j (v6,t,PUnit.unit) else af (cj t_2 t_4) fun (t:Bool)=>jn (Bool × (Int×Int)×PUnit) ((Int×Int)×Int×PUnit) (fun (x:Bool×(Int×Int)×PUnit)=>j (x.1,x.2.1,PUnit.unit)) fun (j:Bool×(Int×Int)×PUnit->Option ((Int×Int) × Int×PUnit))=>bif t then af (eW t_4 t_2) fun (t:Int×Int)=>j (!v6,t,PUnit.unit) else af (eW t_2 t_4) fun (t:Int×Int)=>j (v6,t,PUnit.unit) else none else none else none else none else none
def bO (x0:Int×Int) (x1:Int×Int):Option ((Int×Int)×Int×Unit):=rY lpK jnK aW av al aZ aG fN cj eW eF x0 x1
abbrev AD:=(Int×Int)->(Int×Int)->Option ((Int×Int)×Int×Unit)
def IU (bO:AD):Ctr:=⟨[T47,T47],[],[],.tup [T47,i64],fun x _ _=>bO x.1 x.2.1⟩
def Eg:Ctr:=IU bO
theorem Ox (lp:Lp) (jn:Jn) (aW:t59) (av:t60) (al:t58) (aZ:t62) (aG:t61) (fN:L8) (cj:EE) (eW:Ng) (eF:K9):∀(x:TsS Eg.as) (F:TsF Eg.fs) (y:TsS Eg.cs),rY lp jn aW av al aZ aG fN cj eW eF x.1 x.2.1=bg lp jn (cx [(191,Me eF),(190,⟨[kN,kN],[],[],.one kN,fun x _ _=>eW x.1 x.2.1⟩),(189,Ky cj),(188,⟨[kN,kN],[],[],.one kN,fun x _ _=>fN x.1 x.2.1⟩),(61,k61 aG),(62,k62 aZ),(58,k58 al),(60,k60 av),(59,k59 aW)] [(32,r32),(92,r92),(112,aU)]) aj 4 171 f171 Eg x F y:=fun x F y=>by kernel_rfl
theorem GL:Eg.ok prog 171:=Ctr.of_den (an (aa (aa (aa (aa (aa (aa (aa (aa (aa (q32) (by kernel_rfl) IG) (by kernel_rfl) Ev) (by kernel_rfl) xA) (by kernel_rfl) Lq) (by kernel_rfl) K5) (by kernel_rfl) ND) (by kernel_rfl) JL) (by kernel_rfl) Nm) (by kernel_rfl) My)) aw (hl:=aj) (d:=4) func171 rfl (by decide) (Ox lpK jnK aW av al aZ aG fN cj eW eF)
def kB (lp:Lp) (jn:Jn) (bS:t23) (bO:AD) (x0:Int) (x1:List Int) (x2:List (Int×Int)):Option (Int×(Int×Int)) :=
 lp (Int×Int×(Int×Int)×(Int×Int)×PUnit) (Int×Int×Int) (fun (again:Int×Int×(Int×Int)×(Int×Int)×PUnit->Option (Int×Int×Int)) (x:Int×Int×(Int×Int) × (Int×Int)×PUnit)=>bif decide (x.1<(↑x1.length:Int)) then bif inB x.1 x1.length then bif inB x.1 x2.length then af (bS (x1.getD x.1.toNat 0,1) (x2.getD x.1.toNat (0,0))) fun (t:(Int×Int)×Int×PUnit)=>jn (Int×(Int×Int)×PUnit) (Int×Int×Int) (fun (x_1:Int×(Int×Int)×PUnit)=>bif !decide (x_1.1=0) then some (x_1.1,0,1) else again (IntKind.wrap .i64 (x.1+1), x.2.1,x.2.2.1,x_1.2.1,PUnit.unit)) fun (j:Int×(Int×Int)×PUnit->Option (Int×Int×Int))=>bif decide (t.2.1=0) then af (bO x.2.2.2.1 t.1) fun (t:(Int×Int)×Int×PUnit)=>j (t.2.1,t.1,PUnit.unit) else j (t.2.1,t.1,PUnit.unit) else none else none else some (x.2.1, x.2.2.2.1)) (0,x0,(0,0),(0,1),PUnit.unit)
def cd (x0:Int) (x1:List Int) (x2:List (Int×Int)):Option (Int×(Int×Int)):=kB lpK jnK bS bO x0 x1 x2
abbrev Lk:=(Int)->(List Int)->(List (Int×Int))->Option (Int×(Int×Int))
def Mg (cd:Lk):MCtr:=⟨KX,[(.sl i64),(.sl T47)],.one T47,fun x y=>cd x y.1 y.2.1⟩
def Jt:MCtr:=Mg cd
theorem Oj (lp:Lp) (jn:Jn) (bS:t23) (bO:AD):∀(x:Jt.s.T) (y:TsS Jt.as),kB lp jn bS bO x y.1 y.2.1=KC lp jn (cx [(171,IU bO),(23,k23 bS)] [(32,r32),(92,r92),(112,aU)]) aj 4 133 f133 Jt x y:=fun x y=>by kernel_rfl
theorem MM:Jt.ok prog 133:=MCtr.of_den (an (aa (aa (q32) (by kernel_rfl) L6) (by kernel_rfl) GL)) aw (hl:=aj) (d:=4) func133 rfl (by decide) rfl (Oj lpK jnK bS bO)
def sx (_:Lp) (jn:Jn) (av:t60) (al:t58) (aG:t61) (cj:EE) (x0:Int×Int) (x1:Int×Int):Option (Int×Int×Unit) :=
 
 let v4:Bool:=decide (x0.1<0);af (al x0) fun (t:Bool) =>
 let v6:Bool:=!t;
 let v7:Bool:=!v6;
 let v8:Bool:=!v7||v7;bif v8 then af (bif v7 then al x1 else some false) fun (t:Bool)=>bif v8 then bif v6||v7 then bif bif v6 then true else !t then some ((0 : Int),1,PUnit.unit) else af (av x0.1) fun (t:Int)=>af (aG t (IntKind.wrap .u64 x1.2)) fun (t:Int×Int)=>af (av x1.1) fun (t_1:Int)=>af (aG t_1 (IntKind.wrap .u64 x0.2)) fun (t_2:Int×Int)=>bif !decide (v4=decide (x1.1<0)) then bif v4 then some ((-1), 0,PUnit.unit) else some (1,0,PUnit.unit) else jn ((Int×Int)×(Int×Int)×PUnit) (Int×Int×PUnit) (fun (x:(Int×Int)×(Int×Int)×PUnit)=>af (cj x.1 x.2.1) fun (t:Bool)=>bif t then some ((-1),0,PUnit.unit) else af (cj x.2.1 x.1) fun (t:Bool)=>bif t then some (1, 0,PUnit.unit) else some (0,0,PUnit.unit)) fun (j:(Int×Int)×(Int×Int)×PUnit->Option (Int×Int×PUnit))=>bif v4 then j (t_2,t,PUnit.unit) else j (t,t_2,PUnit.unit) else none else none else none
def gB (x0:Int×Int) (x1:Int×Int):Option (Int×Int×Unit):=sx lpK jnK av al aG cj x0 x1
abbrev M6:=(Int×Int)->(Int×Int)->Option (Int×Int×Unit)
def FX:Ctr:=⟨[T47,T47],[],[],.tup [i64,i64],fun x _ _=>gB x.1 x.2.1⟩
theorem Ob (lp:Lp) (jn:Jn) (av:t60) (al:t58) (aG:t61) (cj:EE):∀(x:TsS FX.as) (F:TsF FX.fs) (y:TsS FX.cs),sx lp jn av al aG cj x.1 x.2.1=bg lp jn (cx [(189,Ky cj),(61,k61 aG),(58,k58 al),(60,k60 av)] [(32,r32),(92,r92),(112,aU)]) aj 4 187 f187 FX x F y:=fun x F y=>by kernel_rfl
theorem Nh:FX.ok prog 187:=Ctr.of_den (an (aa (aa (aa (aa (q32) (by kernel_rfl) Ev) (by kernel_rfl) xA) (by kernel_rfl) K5) (by kernel_rfl) JL)) aw (hl:=aj) (d:=4) func187 rfl (by decide) (Ob lpK jnK av al aG cj)
def pn (_:Lp) (_:Jn) (gB:M6) (x0:Int×Int) (x1:Int):Option Int :=
 af (gB x0 (x1,1)) fun (t:Int×Int×PUnit)=>some t.1
def fg (x0:Int×Int) (x1:Int):Option Int:=pn lpK jnK gB x0 x1
abbrev MA:=(Int×Int)->(Int)->Option (Int)
def Ez:Ctr:=⟨[T47,i64],[],[],.one i64,fun x _ _=>fg x.1 x.2.1⟩
theorem Pj (lp:Lp) (jn:Jn) (gB:M6):∀(x:TsS Ez.as) (F:TsF Ez.fs) (y:TsS Ez.cs),pn lp jn gB x.1 x.2.1=bg lp jn (cx [(187,⟨[T47,T47],[],[],.tup [i64,i64],fun x _ _=>gB x.1 x.2.1⟩)] [(32,r32),(92,r92),(112,aU)]) aj 4 169 f169 Ez x F y:=fun x F y=>by kernel_rfl
theorem Nt:Ez.ok prog 169:=Ctr.of_den (an (aa (q32) (by kernel_rfl) Nh)) aw (hl:=aj) (d:=4) func169 rfl (by decide) (Pj lpK jnK gB)
def kT (lp:Lp) (_:Jn) (x0:(List Int)×List ((List Int)×Int×Int)) (x1:Int):Option (List Int) :=
 lp (List Int×Int×PUnit) (List Int) (fun (again:List Int×Int×PUnit->Option (List Int)) (x:List Int×Int×PUnit)=>bif decide (x.2.1<(↑x0.2.length:Int)) then bif inB x.2.1 x0.2.length then bif inB x1 (List.length (x0.2.getD x.2.1.toNat ([],0,0)).1) then bif dU (List.length x.1+(1 : Nat)) 8 then again (x.1++[List.getD (x0.2.getD x.2.1.toNat ([],0,0)).1 x1.toNat 0],IntKind.wrap .i64 (x.2.1 + 1),PUnit.unit) else none else none else none else some x.1) ([],0,PUnit.unit)
def dN (x0:(List Int)×List ((List Int)×Int×Int)) (x1:Int):Option (List Int):=kT lpK jnK x0 x1
abbrev L1:=((List Int)×List ((List Int)×Int×Int))->(Int)->Option (List Int)
def HA:Ctr:=⟨[T82,i64],[],[],.one (.sl i64),fun x _ _=>dN x.1 x.2.1⟩
theorem OA (lp:Lp) (jn:Jn):∀(x:TsS HA.as) (F:TsF HA.fs) (y:TsS HA.cs),kT lp jn x.1 x.2.1=bg lp jn (cx [] [(32,r32),(92,r92),(112,aU)]) aj 4 170 f170 HA x F y:=fun x F y=>by kernel_rfl
theorem MW:HA.ok prog 170:=Ctr.of_den (an (q32)) aw (hl:=aj) (d:=4) func170 rfl (by decide) (OA lpK jnK)
def jg (_:Lp) (_:Jn) (_:Int):Option Int :=
 some 0
def cM (x0:Int):Option Int:=jg lpK jnK x0
abbrev L3:=(Int)->Option (Int)
def DN:Ctr:=⟨[i64],[],[],.one i64,fun x _ _=>cM x.1⟩
theorem OI (lp:Lp) (jn:Jn):∀(x:TsS DN.as) (F:TsF DN.fs) (y:TsS DN.cs),jg lp jn x.1=bg lp jn (cx [] [(32,r32),(92,r92),(112,aU)]) aj 4 132 f132 DN x F y:=fun x F y=>by kernel_rfl
theorem M8:DN.ok prog 132:=Ctr.of_den (an (q32)) aw (hl:=aj) (d:=4) func132 rfl (by decide) (OI lpK jnK)
def lq (lp:Lp) (_:Jn) (x0:(List Int)×List ((List Int)×Int×Int)):Option (List Int) :=
 lp (List Int×Int×PUnit) (List Int) (fun (again:List Int×Int×PUnit->Option (List Int)) (x:List Int×Int×PUnit)=>bif decide (x.2.1<(↑x0.2.length:Int)) then bif inB x.2.1 x0.2.length then bif dU (List.length x.1+1) 8 then again (x.1++[(x0.2.getD x.2.1.toNat ([],0,(0 : Int))).2.2],IntKind.wrap .i64 (x.2.1+1),PUnit.unit) else none else none else some x.1) ([],0,PUnit.unit)
def dM (x0:(List Int)×List ((List Int)×Int×Int)):Option (List Int):=lq lpK jnK x0
abbrev M9:=((List Int)×List ((List Int)×Int×Int))->Option (List Int)
def Ei:Ctr:=⟨[T82],[],[],.one (.sl i64),fun x _ _=>dM x.1⟩
theorem OH (lp:Lp) (jn:Jn):∀(x:TsS Ei.as) (F:TsF Ei.fs) (y:TsS Ei.cs),lq lp jn x.1=bg lp jn (cx [] [(32,r32),(92,r92),(112,aU)]) aj 4 134 f134 Ei x F y:=fun x F y=>by kernel_rfl
theorem Nr:Ei.ok prog 134:=Ctr.of_den (an (q32)) aw (hl:=aj) (d:=4) func134 rfl (by decide) (OH lpK jnK)
def ls (lp:Lp) (_:Jn) (x0:(List Int)×List ((List Int)×Int×Int)) (x1:List (Int×Int)):Option Bool :=
 lp (Int×PUnit) Bool (fun (again:Int×PUnit->Option Bool) (x:Int×PUnit) =>
 let v6:Bool:=inB x.1 x1.length;
 let v7:Bool:=decide ((x0.2.getD x.1.toNat ([],0,0)).2.1=1);
 let v8:Bool:=decide ((x0.2.getD x.1.toNat ([],0,0)).2.1=2);
 let v9:Bool:=!v7;
 let v10:Bool:=bif v7 then decide ((x1.getD x.1.toNat (0,0)).1>0) else false;
 let v11:Bool:=!v10;
 let v12:Bool:=!v11;
 let v13:Bool:=v9||v7;
 let v14:Bool:=v11&&v8;
 let v15:Bool:=!v14;
 let v16:Bool:=v12||v11;
 let v17:Bool:=v15||v14;bif decide (x.1<(↑x0.2.length:Int)) then bif inB x.1 x0.2.length then bif v13&&(v13&&(v9||v6)) then bif v13 then bif v13 then bif v13 then bif v13 then bif v16 then bif v16 then bif v16 then bif v17&&(v17&&(v15||v6)) then bif v17 then bif v17 then bif v17 then bif (v12||v16)&&(v12||(!v8||(v12 || v14))) then bif v10||v11 then bif bif v10 then true else bif v8 then decide ((x1.getD x.1.toNat (0,0)).1<0) else false then some false else again (IntKind.wrap .i64 (x.1+1),PUnit.unit) else none else none else none else none else none else none else none else none else none else none else none else none else none else none else none else some true) (0,PUnit.unit)
def dP (x0:(List Int)×List ((List Int)×Int×Int)) (x1:List (Int×Int)):Option Bool:=ls lpK jnK x0 x1
abbrev MI:=((List Int)×List ((List Int)×Int×Int))->(List (Int×Int))->Option (Bool)
def EM:Ctr:=⟨[T82,(.sl T47)],[],[],.one .bool,fun x _ _=>dP x.1 x.2.1⟩
theorem N2 (lp:Lp) (jn:Jn):∀(x:TsS EM.as) (F:TsF EM.fs) (y:TsS EM.cs),ls lp jn x.1 x.2.1=bg lp jn (cx [] [(32,r32),(92,r92),(112,aU)]) aj 4 135 f135 EM x F y:=fun x F y=>by kernel_rfl
theorem Mn:EM.ok prog 135:=Ctr.of_den (an (q32)) aw (hl:=aj) (d:=4) func135 rfl (by decide) (N2 lpK jnK)
def ky (lp:Lp) (_:Jn) (aM:t99) (eq:LI) (fg:MA) (dN:L1) (cM:L3) (dM:M9) (dP:MI) (cd:Lk) (x0:(List Int)×List ((List Int)×Int×Int)) (x1:List (Int×Int)):Option (Bool×Int×Unit) :=
 af (aM x0) fun (t:Bool) =>
 let v5:Bool:=!t;
 let v6:Bool:=!v5;
 let v7:Bool:=!v6||v6;bif v7 then af (bif v6 then eq x1 else some false) fun (t:Bool)=>bif v7 then bif v5||v6 then bif bif v5 then true else !t then some (false, 1,PUnit.unit) else bif !decide ((↑x1.length:Int)=(↑x0.2.length:Int)) then some (false,3,PUnit.unit) else lp (Bool×Int×Int×PUnit) (Bool × Int×PUnit) (fun (again:Bool×Int×Int×PUnit->Option (Bool×Int×PUnit)) (x:Bool×Int×Int×PUnit)=>bif decide (x.2.1<(↑x0.1.length:Int)) then af (dN x0 x.2.1) fun (t:List Int)=>af (cd x.2.2.1 t x1) fun (t:Int×Int×Int)=>af (cM x.2.1) fun (t_1:Int)=>af (fg t.2 t_1) fun (t_2:Int) =>
 let v15:Bool:=decide (t_2<=0);bif !v15||v15 then again (bif v15 then x.1 else false,IntKind.wrap .i64 (x.2.1+1),t.1,PUnit.unit) else none else af (dM x0) fun (t:List Int)=>af (cd x.2.2.1 t x1) fun (t:Int×Int×Int) =>
 let v13:Bool:=decide (t.2.1>0);
 let v14:Bool:=!v13||v13;bif v14&&v14 then af (bif v13 then dP x0 x1 else some false) fun (t_1:Bool) =>
 let v16:Bool:=bif v13 then t_1 else false;
 let v17:Bool:=bif v16 then x.1 else false;
 let v18:Bool:=!v17||v17;bif v14 then bif !v16||v16 then bif v18 then bif v18 then bif v18 then some (bif v17 then decide (t.1=0) else false,t.1,PUnit.unit) else none else none else none else none else none else none) (true,0,0,PUnit.unit) else none else none else none
def cA (x0:(List Int)×List ((List Int)×Int×Int)) (x1:List (Int×Int)):Option (Bool×Int×Unit):=ky lpK jnK aM eq fg dN cM dM dP cd x0 x1
abbrev t94:=((List Int)×List ((List Int)×Int×Int))->(List (Int×Int))->Option (Bool×Int×Unit)
def k94 (cA:t94):Ctr:=⟨[T82,(.sl T47)],[],[],.tup [.bool,i64],fun x _ _=>cA x.1 x.2.1⟩
def c94:Ctr:=k94 cA
theorem e94 (lp:Lp) (jn:Jn) (aM:t99) (eq:LI) (fg:MA) (dN:L1) (cM:L3) (dM:M9) (dP:MI) (cd:Lk):∀(x:TsS c94.as) (F:TsF c94.fs) (y:TsS c94.cs),ky lp jn aM eq fg dN cM dM dP cd x.1 x.2.1=bg lp jn (uk va uX (Ao [] [(133,Mg cd)] (gg prog shs pF its [(135,⟨[T82,(.sl T47)],[],[],.one .bool,fun x _ _=>dP x.1 x.2.1⟩),(134,⟨[T82],[],[],.one (.sl i64),fun x _ _=>dM x.1⟩),(132,⟨[i64],[],[],.one i64,fun x _ _=>cM x.1⟩),(170,⟨[T82,i64],[],[],.one (.sl i64),fun x _ _=>dN x.1 x.2.1⟩),(169,⟨[T47,i64],[],[],.one i64,fun x _ _=>fg x.1 x.2.1⟩),(130,⟨[(.sl T47)],[],[],.one .bool,fun x _ _=>eq x.1⟩),(99,k99 aM)] [(32,r32),(92,r92),(112,aU)]))) aj 4 94 f94 c94 x F y:=fun x F y=>by kernel_rfl
theorem Pe:c94.ok prog 94:=Ctr.of_den (an (oD (aa (aa (aa (aa (aa (aa (aa (q32) (by kernel_rfl) KL) (by kernel_rfl) NT) (by kernel_rfl) Nt) (by kernel_rfl) MW) (by kernel_rfl) M8) (by kernel_rfl) Nr) (by kernel_rfl) Mn) (li) (Db (by kernel_rfl) MM (kV)))) aw (hl:=aj) (d:=4) func94 rfl (by decide) (e94 lpK jnK aM eq fg dN cM dM dP cd)
def nj (_:Lp) (_:Jn) (aN:t55) (cA:t94) (x0:(List (ByteArray×Int))×List (ByteArray×(List (ByteArray×Int×Int×Int))×Bool)) (x1:List (Int×Int)):Option (Bool×Int×Unit) :=
 af (aN x0) fun (t:(List Int×List (List Int×Int×Int))×Int×PUnit)=>bif !decide (t.2.1=0) then some (false,t.2.1,PUnit.unit) else af (cA t.1 x1) fun (t:Bool×Int×PUnit)=>some (t.1,t.2.1,PUnit.unit)
def dE (x0:(List (ByteArray×Int))×List (ByteArray×(List (ByteArray×Int×Int×Int))×Bool)) (x1:List (Int×Int)):Option (Bool×Int×Unit):=nj lpK jnK aN cA x0 x1
abbrev t52:=((List (ByteArray×Int))×List (ByteArray×(List (ByteArray×Int×Int×Int))×Bool))->(List (Int×Int))->Option (Bool×Int×Unit)
def k52 (dE:t52):Ctr:=⟨[T25,(.sl T47)],[],[],.tup [.bool,i64],fun x _ _=>dE x.1 x.2.1⟩
def c52:Ctr:=k52 dE
theorem e52 (lp:Lp) (jn:Jn) (aN:t55) (cA:t94):∀(x:TsS c52.as) (F:TsF c52.fs) (y:TsS c52.cs),nj lp jn aN cA x.1 x.2.1=bg lp jn (cx [(94,k94 cA),(55,k55 aN)] [(32,r32),(92,r92),(112,aU)]) aj 4 52 f52 c52 x F y:=fun x F y=>by kernel_rfl
theorem Og:c52.ok prog 52:=Ctr.of_den (an (aa (aa (q32) (by kernel_rfl) K2) (by kernel_rfl) Pe)) aw (hl:=aj) (d:=4) func52 rfl (by decide) (e52 lpK jnK aN cA)
def kF (_:Lp) (_:Jn) (al:t58) (x0:Int×Int):Option Bool :=
 af (al x0) fun (t:Bool)=>some !t
def du (x0:Int×Int):Option Bool:=kF lpK jnK al x0
abbrev M3:=(Int×Int)->Option (Bool)
def E6:Ctr:=⟨[T47],[],[],.one .bool,fun x _ _=>du x.1⟩
theorem OY (lp:Lp) (jn:Jn) (al:t58):∀(x:TsS E6.as) (F:TsF E6.fs) (y:TsS E6.cs),kF lp jn al x.1=bg lp jn (cx [(58,k58 al)] [(32,r32),(92,r92),(112,aU)]) aj 4 172 f172 E6 x F y:=fun x F y=>by kernel_rfl
theorem Mo:E6.ok prog 172:=Ctr.of_den (an (aa (q32) (by kernel_rfl) xA)) aw (hl:=aj) (d:=4) func172 rfl (by decide) (OY lpK jnK al)
def mF (_:Lp) (_:Jn) (bi:t72) (ai:t34) (du:M3) (x0:(List (ByteArray×Int))×List (ByteArray×(List (ByteArray×Int×Int×Int))×Bool)) (x1:List (Int×Int)):Option ((List (List Int))×Int×Unit) :=
 af (bi x0) fun (t:List (List Int)×Int×PUnit)=>bif !decide (t.2.1=0) then some ([],t.2.1,PUnit.unit) else af (ai x1 fun (x : (Int×Int)×PUnit)=>du x.1) fun (t_1:Bool)=>bif t_1 then some ([],1,PUnit.unit) else bif !decide ((↑x1.length:Int)=(↑x0.2.length : Int)) then some ([],3,PUnit.unit) else some (t.1,0,PUnit.unit)
def db (x0:(List (ByteArray×Int))×List (ByteArray×(List (ByteArray×Int×Int×Int))×Bool)) (x1:List (Int×Int)):Option ((List (List Int))×Int×Unit):=mF lpK jnK bi ai du x0 x1
abbrev Lh:=((List (ByteArray×Int))×List (ByteArray×(List (ByteArray×Int×Int×Int))×Bool))->(List (Int×Int))->Option ((List (List Int))×Int×Unit)
def MD (db:Lh):Ctr:=⟨[T25,(.sl T47)],[],[],.tup [(.sl (.sl i64)),i64],fun x _ _=>db x.1 x.2.1⟩
def Fv:Ctr:=MD db
theorem Oa (lp:Lp) (jn:Jn) (bi:t72) (ai:t34) (du:M3):∀(x:TsS Fv.as) (F:TsF Fv.fs) (y:TsS Fv.cs),mF lp jn bi ai du x.1 x.2.1=bg lp jn (cx [(172,⟨[T47],[],[],.one .bool,fun x _ _=>du x.1⟩),(34,k34 ai),(72,k72 bi)] [(32,r32),(92,r92),(112,aU)]) aj 4 136 f136 Fv x F y:=fun x F y=>by kernel_rfl
theorem Np:Fv.ok prog 136:=Ctr.of_den (an (aa (aa (aa (q32) (by kernel_rfl) M5) (by kernel_rfl) ER) (by kernel_rfl) Mo)) aw (hl:=aj) (d:=4) func136 rfl (by decide) (Oa lpK jnK bi ai du)
def qt (_:Lp) (_:Jn) (x0:Int):Option (Int×Int) :=
 some (x0,1)
def ci (x0:Int):Option (Int×Int):=qt lpK jnK x0
abbrev Fh:=(Int)->Option (Int×Int)
def KM (ci:Fh):Ctr:=⟨[i64],[],[],.one T47,fun x _ _=>ci x.1⟩
def FQ:Ctr:=KM ci
theorem Po (lp:Lp) (jn:Jn):∀(x:TsS FQ.as) (F:TsF FQ.fs) (y:TsS FQ.cs),qt lp jn x.1=bg lp jn (cx [] [(32,r32),(92,r92),(112,aU)]) aj 4 137 f137 FQ x F y:=fun x F y=>by kernel_rfl
theorem J7:FQ.ok prog 137:=Ctr.of_den (an (q32)) aw (hl:=aj) (d:=4) func137 rfl (by decide) (Po lpK jnK)
def og (_:Lp) (_:Jn) (bS:t23) (bO:AD) (ci:Fh) (x0:Int×Int) (x1:Int) (x2:Int×Int):Option ((Int×Int)×Int×Unit) :=
 af (ci x1) fun (t:Int×Int)=>af (bS t x2) fun (t:(Int×Int)×Int×PUnit)=>bif !decide (t.2.1=0) then some ((0,0),t.2.1, PUnit.unit) else af (bO x0 t.1) fun (t:(Int×Int)×Int×PUnit)=>some (t.1,t.2.1,PUnit.unit)
def dF (x0:Int×Int) (x1:Int) (x2:Int×Int):Option ((Int×Int)×Int×Unit):=og lpK jnK bS bO ci x0 x1 x2
abbrev LB:=(Int×Int)->(Int)->(Int×Int)->Option ((Int×Int)×Int×Unit)
def LH (dF:LB):Ctr:=⟨[T47,i64,T47],[],[],.tup [T47,i64],fun x _ _=>dF x.1 x.2.1 x.2.2.1⟩
def G9:Ctr:=LH dF
theorem N3 (lp:Lp) (jn:Jn) (bS:t23) (bO:AD) (ci:Fh):∀(x:TsS G9.as) (F:TsF G9.fs) (y:TsS G9.cs),og lp jn bS bO ci x.1 x.2.1 x.2.2.1=bg lp jn (cx [(137,KM ci),(171,IU bO),(23,k23 bS)] [(32,r32),(92,r92),(112,aU)]) aj 4 138 f138 G9 x F y:=fun x F y=>by kernel_rfl
theorem NR:G9.ok prog 138:=Ctr.of_den (an (aa (aa (aa (q32) (by kernel_rfl) L6) (by kernel_rfl) GL) (by kernel_rfl) J7)) aw (hl:=aj) (d:=4) func138 rfl (by decide) (N3 lpK jnK bS bO ci)
def sa (_:Lp) (_:Jn) (al:t58) (bO:AD) (x0:Int×Int) (x1:Int×Int):Option ((Int×Int)×Int×Unit) :=
 af (al x0) fun (t:Bool) =>
 let v5:Bool:=!t;
 let v6:Bool:=!v5;
 let v7:Bool:=!v6||v6;bif v7 then af (bif v6 then al x1 else some false) fun (t:Bool)=>bif v7 then bif v5||v6 then bif bif v5 then true else !t then some (((0 : Int),0),1,PUnit.unit) else af (bO x0 (IntKind.wrap .i64 (0 - x1.1),x1.2)) fun (t:(Int×Int)×Int×PUnit)=>some (t.1,t.2.1, PUnit.unit) else none else none else none
def gz (x0:Int×Int) (x1:Int×Int):Option ((Int×Int)×Int×Unit):=sa lpK jnK al bO x0 x1
abbrev MJ:=(Int×Int)->(Int×Int)->Option ((Int×Int)×Int×Unit)
def FG:Ctr:=⟨[T47,T47],[],[],.tup [T47,i64],fun x _ _=>gz x.1 x.2.1⟩
theorem Pm (lp:Lp) (jn:Jn) (al:t58) (bO:AD):∀(x:TsS FG.as) (F:TsF FG.fs) (y:TsS FG.cs),sa lp jn al bO x.1 x.2.1=bg lp jn (cx [(171,IU bO),(58,k58 al)] [(32,r32),(92,r92),(112,aU)]) aj 4 139 f139 FG x F y:=fun x F y=>by kernel_rfl
theorem MS:FG.ok prog 139:=Ctr.of_den (an (aa (aa (q32) (by kernel_rfl) xA) (by kernel_rfl) GL)) aw (hl:=aj) (d:=4) func139 rfl (by decide) (Pm lpK jnK al bO)
def jf (lp:Lp) (_:Jn) (db:Lh) (ci:Fh) (dF:LB) (gz:MJ) (x0:(List (ByteArray×Int))×List (ByteArray×(List (ByteArray×Int×Int×Int))×Bool)) (x1:List (Int×Int)):Option ((List (Int×Int))×Int×Unit) :=
 af (db x0 x1) fun (t:List (List Int)×Int×PUnit)=>bif !decide (t.2.1=0) then some ([],t.2.1,PUnit.unit) else lp (List (Int×Int)×Int×Int × PUnit) (List (Int×Int)×Int×PUnit) (fun (again:List (Int×Int)×Int×Int×PUnit->Option (List (Int×Int)×Int×PUnit)) (x:List (Int×Int)×Int×Int×PUnit) =>
 let v7:List Int:=t.1.getD x.2.2.1.toNat [];bif decide (x.2.2.1<(↑t.1.length:Int)) then af (ci 0) fun (t_1:Int×Int)=>lp (Int×(Int×Int)×PUnit) (List (Int×Int)×Int×PUnit) (fun (again_1:Int×(Int×Int)×PUnit->Option (List (Int×Int)×Int×PUnit)) (x_1:Int×(Int×Int)×PUnit) => bif decide (x_1.1<(↑x1.length:Int)) then bif inB x.2.2.1 t.1.length then bif inB x_1.1 v7.length then bif inB x_1.1 x1.length then af (dF x_1.2.1 (v7.getD x_1.1.toNat 0) (x1.getD x_1.1.toNat (0,0))) fun (t:(Int×Int)×Int×PUnit) =>
 let v12:Bool:=!decide (t.2.1=0);bif v12 then bif v12 then some ([],t.2.1,PUnit.unit) else some (x.1,0,PUnit.unit) else again_1 (IntKind.wrap IntKind.i64 (x_1.1+1),t.1,PUnit.unit) else none else none else none else bif inB x.2.2.1 x0.1.length then af (ci (x0.1.getD x.2.2.1.toNat ({ data:={ toList:=[] } },0)).2) fun (t:Int×Int)=>af (gz t x_1.2.1) fun (t:(Int×Int)×Int×PUnit) =>
 let v13:Bool:=!decide (t.2.1=0);bif v13 then bif v13 then some ([],t.2.1,PUnit.unit) else some (x.1,0,PUnit.unit) else bif dU (List.length x.1 + 1) 16 then again (x.1++[t.1],t.2.1,IntKind.wrap .i64 (x.2.2.1+1),PUnit.unit) else none else none) (0,t_1,PUnit.unit) else bif !decide (x.2.1=0) then some ([],x.2.1,PUnit.unit) else some (x.1,0,PUnit.unit)) ([],0,0,PUnit.unit)
def bV (x0:(List (ByteArray×Int))×List (ByteArray×(List (ByteArray×Int×Int×Int))×Bool)) (x1:List (Int×Int)):Option ((List (Int×Int))×Int×Unit):=jf lpK jnK db ci dF gz x0 x1
abbrev t95:=((List (ByteArray×Int))×List (ByteArray×(List (ByteArray×Int×Int×Int))×Bool))->(List (Int×Int))->Option ((List (Int×Int))×Int×Unit)
def k95 (bV:t95):Ctr:=⟨[T25,(.sl T47)],[],[],.tup [(.sl T47),i64],fun x _ _=>bV x.1 x.2.1⟩
def c95:Ctr:=k95 bV
theorem e95 (lp:Lp) (jn:Jn) (db:Lh) (ci:Fh) (dF:LB) (gz:MJ):∀(x:TsS c95.as) (F:TsF c95.fs) (y:TsS c95.cs),jf lp jn db ci dF gz x.1 x.2.1=bg lp jn (cx [(139,⟨[T47,T47],[],[],.tup [T47,i64],fun x _ _=>gz x.1 x.2.1⟩),(138,LH dF),(137,KM ci),(136,MD db)] [(32,r32),(92,r92),(112,aU)]) aj 4 95 f95 c95 x F y:=fun x F y=>by kernel_rfl
theorem OS:c95.ok prog 95:=Ctr.of_den (an (aa (aa (aa (aa (q32) (by kernel_rfl) Np) (by kernel_rfl) J7) (by kernel_rfl) NR) (by kernel_rfl) MS)) aw (hl:=aj) (d:=4) func95 rfl (by decide) (e95 lpK jnK db ci dF gz)
def kC (_:Lp) (_:Jn) (x0:Int×Int):Option Bool :=
 some !decide (x0.1=0)
def dt (x0:Int×Int):Option Bool:=kC lpK jnK x0
abbrev t96:=(Int×Int)->Option (Bool)
def c96:Ctr:=⟨[T47],[],[],.one .bool,fun x _ _=>dt x.1⟩
theorem e96 (lp:Lp) (jn:Jn):∀(x:TsS c96.as) (F:TsF c96.fs) (y:TsS c96.cs),kC lp jn x.1=bg lp jn (cx [] [(32,r32),(92,r92),(112,aU)]) aj 4 96 f96 c96 x F y:=fun x F y=>by kernel_rfl
theorem PN:c96.ok prog 96:=Ctr.of_den (an (q32)) aw (hl:=aj) (d:=4) func96 rfl (by decide) (e96 lpK jnK)
def mM (_:Lp) (_:Jn) (ai:t34) (bV:t95) (dt:t96) (x0:(List (ByteArray×Int))×List (ByteArray×(List (ByteArray×Int×Int×Int))×Bool)) (x1:List (Int×Int)):Option (Bool×Int×Unit) :=
 af (bV x0 x1) fun (t:List (Int×Int)×Int×PUnit)=>bif !decide (t.2.1=0) then some (false,t.2.1,PUnit.unit) else af (ai t.1 fun (x:(Int×Int)×PUnit)=>dt x.1) fun (t:Bool)=>some (!t,0,PUnit.unit)
def df (x0:(List (ByteArray×Int))×List (ByteArray×(List (ByteArray×Int×Int×Int))×Bool)) (x1:List (Int×Int)):Option (Bool×Int×Unit):=mM lpK jnK ai bV dt x0 x1
abbrev t53:=((List (ByteArray×Int))×List (ByteArray×(List (ByteArray×Int×Int×Int))×Bool))->(List (Int×Int))->Option (Bool×Int×Unit)
def k53 (df:t53):Ctr:=⟨[T25,(.sl T47)],[],[],.tup [.bool,i64],fun x _ _=>df x.1 x.2.1⟩
def c53:Ctr:=k53 df
theorem e53 (lp:Lp) (jn:Jn) (ai:t34) (bV:t95) (dt:t96):∀(x:TsS c53.as) (F:TsF c53.fs) (y:TsS c53.cs),mM lp jn ai bV dt x.1 x.2.1=bg lp jn (cx [(96,⟨[T47],[],[],.one .bool,fun x _ _=>dt x.1⟩),(95,k95 bV),(34,k34 ai)] [(32,r32),(92,r92),(112,aU)]) aj 4 53 f53 c53 x F y:=fun x F y=>by kernel_rfl
theorem OQ:c53.ok prog 53:=Ctr.of_den (an (aa (aa (aa (q32) (by kernel_rfl) ER) (by kernel_rfl) OS) (by kernel_rfl) PN)) aw (hl:=aj) (d:=4) func53 rfl (by decide) (e53 lpK jnK ai bV dt)
def kh (_:Lp) (_:Jn) (x0:Int×Int):Option Bool :=
 some (decide (x0.1<0))
def dv (x0:Int×Int):Option Bool:=kh lpK jnK x0
abbrev t54:=(Int×Int)->Option (Bool)
def c54:Ctr:=⟨[T47],[],[],.one .bool,fun x _ _=>dv x.1⟩
theorem e54 (lp:Lp) (jn:Jn):∀(x:TsS c54.as) (F:TsF c54.fs) (y:TsS c54.cs),kh lp jn x.1=bg lp jn (cx [] [(32,r32),(92,r92),(112,aU)]) aj 4 54 f54 c54 x F y:=fun x F y=>by kernel_rfl
theorem OV:c54.ok prog 54:=Ctr.of_den (an (q32)) aw (hl:=aj) (d:=4) func54 rfl (by decide) (e54 lpK jnK)
def mO (_:Lp) (jn:Jn) (aO:t50) (ai:t34) (bE:t49) (bC:t51) (dE:t52) (df:t53) (dv:t54) (x0:(List (ByteArray×Int))×List (ByteArray×(List (ByteArray×Int×Int×Int))×Bool)) (x1:(List (Int×Int))×Bool×List (Int×Int)):Option (Bool×Int×Unit) :=
 af (bE x1) fun (t:List (Int×Int)×List (Int×Int)×PUnit)=>jn (Int×PUnit) (Bool×Int×PUnit) (fun (x:Int×PUnit)=>af (aO x0) fun (t_1:Bool) =>
 let v7:Bool:=!t_1;
 let v8:Bool:=!v7;
 let v9:Bool:=!v8||v8;bif v9 then af (bif v8 then bC x1 else some false) fun (t_2:Bool)=>bif v9 then bif v7||v8 then bif bif v7 then true else !t_2 then some (false,1,PUnit.unit) else bif decide ((↑t.2.1.length:Int)>0) then some (false,19,PUnit.unit) else bif !decide ((↑t.1.length:Int) = x.1) then some (false,3,PUnit.unit) else bif x1.2.1 then af (dE x0 t.1) fun (t:Bool×Int×PUnit)=>some (t.1,t.2.1,PUnit.unit) else af (df x0 t.1) fun (t_3:Bool×Int×PUnit) =>
 let v12:Bool:=decide (t_3.2.1=0);
 let v13:Bool:=bif v12 then t_3.1 else false;
 let v14:Bool:=!v13||v13;bif !v12||v12 then bif v14 then af (bif v13 then ai t.1 fun (x:(Int×Int)×PUnit)=>dv x.1 else some false) fun (t:Bool)=>bif v14 then bif v14 then some (bif v13 then !t else false,t_3.2.1,PUnit.unit) else none else none else none else none else none else none else none) fun (j : Int×PUnit->Option (Bool×Int×PUnit))=>bif x1.2.1 then j ((↑x0.1.length:Int),PUnit.unit) else j ((↑x0.2.length:Int),PUnit.unit)
def ay (x0:(List (ByteArray×Int))×List (ByteArray×(List (ByteArray×Int×Int×Int))×Bool)) (x1:(List (Int×Int))×Bool×List (Int×Int)):Option (Bool×Int×Unit):=mO lpK jnK aO ai bE bC dE df dv x0 x1
abbrev t19:=((List (ByteArray×Int))×List (ByteArray×(List (ByteArray×Int×Int×Int))×Bool))->((List (Int×Int))×Bool×List (Int×Int))->Option (Bool×Int×Unit)
def k19 (ay:t19):Ctr:=⟨[T25,T30],[],[],.tup [.bool,i64],fun x _ _=>ay x.1 x.2.1⟩
def c19:Ctr:=k19 ay
theorem e19 (lp:Lp) (jn:Jn) (aO:t50) (ai:t34) (bE:t49) (bC:t51) (dE:t52) (df:t53) (dv:t54):∀(x:TsS c19.as) (F:TsF c19.fs) (y:TsS c19.cs),mO lp jn aO ai bE bC dE df dv x.1 x.2.1=bg lp jn (cx [(54,⟨[T47],[],[],.one .bool,fun x _ _=>dv x.1⟩),(53,k53 df),(52,k52 dE),(51,k51 bC),(49,k49 bE),(34,k34 ai),(50,k50 aO)] [(32,r32),(92,r92),(112,aU)]) aj 4 19 f19 c19 x F y:=fun x F y=>by kernel_rfl
theorem OE:c19.ok prog 19:=Ctr.of_den (an (aa (aa (aa (aa (aa (aa (aa (q32) (by kernel_rfl) Ks) (by kernel_rfl) ER) (by kernel_rfl) MZ) (by kernel_rfl) Mh) (by kernel_rfl) Og) (by kernel_rfl) OQ) (by kernel_rfl) OV)) aw (hl:=aj) (d:=4) func19 rfl (by decide) (e19 lpK jnK aO ai bE bC dE df dv)
def uq (_:Lp) (_:Jn) (x0:Int):Option (Int×Int) :=
 some (x0,1)
def aK (x0:Int):Option (Int×Int):=uq lpK jnK x0
abbrev t24:=(Int)->Option (Int×Int)
def k24 (aK:t24):Ctr:=⟨[i64],[],[],.one T47,fun x _ _=>aK x.1⟩
def c24:Ctr:=k24 aK
theorem e24 (lp:Lp) (jn:Jn):∀(x:TsS c24.as) (F:TsF c24.fs) (y:TsS c24.cs),uq lp jn x.1=bg lp jn (cx [] [(32,r32),(92,r92),(112,aU)]) aj 4 24 f24 c24 x F y:=fun x F y=>by kernel_rfl
theorem Nn:c24.ok prog 24:=Ctr.of_den (an (q32)) aw (hl:=aj) (d:=4) func24 rfl (by decide) (e24 lpK jnK)
def pk (lp:Lp) (_:Jn) (x0:List Int) (x1:Int) (x2:Int):Option (List Int) :=
 lp (List Int×Int×PUnit) (List Int) (fun (again:List Int×Int×PUnit->Option (List Int)) (x:List Int×Int×PUnit)=>bif decide (x.2.1>=0) then bif decide ((0 : Int)<=IntKind.wrap .i64 (8*x.2.1)) then bif dU (List.length x.1+1) 1 then again (x.1++[IntKind.wrap IntKind.u8 (Int.fdiv x1 (2 ^ min (Int.toNat (IntKind.wrap .i64 (8*x.2.1))) 64))],IntKind.wrap .i64 (x.2.1 - 1),PUnit.unit) else none else none else bif Nat.ble (1 : Nat) x.1.length then some x.1 else none) (x0,IntKind.wrap .i64 (x2 - 1),PUnit.unit)
def eB (x0:List Int) (x1:Int) (x2:Int):Option (List Int):=pk lpK jnK x0 x1 x2
def a63:ACtr:=⟨[i64,i64],5,(.int .u8),fun l x=>eB l x.1 x.2.1⟩
theorem e63 (lp:Lp) (jn:Jn):∀(l:List a63.e.T) (x:TsS a63.as),pk lp jn l x.1 x.2.1=Lg lp jn (cx [] [(32,r32),(92,r92),(112,aU)]) aj 4 63 f63 a63 l x:=fun l x=>by kernel_rfl
theorem NY:a63.ok prog 63:=ACtr.of_den (an (q32)) aw (hl:=aj) (d:=4) func63 rfl (by decide) (e63 lpK jnK)
def kG (lp:Lp) (_:Jn) (x0:List Int):Option Int :=
 lp (Int×Int×PUnit) Int (fun (again:Int×Int×PUnit->Option Int) (x:Int×Int×PUnit)=>bif decide (x.2.1<(↑x0.length:Int)) then bif inB x.2.1 x0.length then again (IntKind.wrap IntKind.u32 (IntKind.wrap IntKind.u32 (IntKind.wrap IntKind.u32 (31*x.1)+IntKind.wrap IntKind.u32 (x0.getD x.2.1.toNat (0 : Int)))+1),IntKind.wrap .i64 (x.2.1+1),PUnit.unit) else none else some (IntKind.wrap .i64 x.1)) (0,0,PUnit.unit)
def bL (x0:List Int):Option Int:=kG lpK jnK x0
abbrev t64:=(List Int)->Option (Int)
def k64 (bL:t64):Ctr:=⟨[(.sl (.int .u8))],[],[],.one i64,fun x _ _=>bL x.1⟩
def c64:Ctr:=k64 bL
theorem e64 (lp:Lp) (jn:Jn):∀(x:TsS c64.as) (F:TsF c64.fs) (y:TsS c64.cs),kG lp jn x.1=bg lp jn (cx [] [(32,r32),(92,r92),(112,aU)]) aj 4 64 f64 c64 x F y:=fun x F y=>by kernel_rfl
theorem Ma:c64.ok prog 64:=Ctr.of_den (an (q32)) aw (hl:=aj) (d:=4) func64 rfl (by decide) (e64 lpK jnK)
def lk (lp:Lp) (jn:Jn) (bE:t49) (bC:t51) (bL:t64) (eB:(List Int)->(Int)->(Int)->Option (List Int)) (x0:(List (Int×Int))×Bool×List (Int×Int)):Option ((List Int)×Int×Unit) :=
 af (bE x0) fun (t:List (Int×Int)×List (Int×Int)×PUnit) =>
 let v4:List Int:=[IntKind.wrap IntKind.u8 (↑t.1.length:Int)];af (bC x0) fun (t_1:Bool)=>bif !t_1 then some ([],1,PUnit.unit) else bif decide ((↑t.2.1.length:Int)>0) then some ([],19,PUnit.unit) else bif decide ((↑t.1.length:Int)>20) then some ([],4,PUnit.unit) else jn (List Int×PUnit) (List Int×Int×PUnit) (fun (x:List Int×PUnit)=>lp (List Int×Int×PUnit) (List Int×Int×PUnit) (fun (again:List Int×Int×PUnit->Option (List Int×Int×PUnit)) (x:List Int×Int×PUnit) =>
 let v9:Int×Int:=t.1.getD x.2.1.toNat (0,0);bif decide (x.2.1<(↑t.1.length:Int)) then bif inB x.2.1 t.1.length then af (eB x.1 v9.1 8) fun (t:List Int)=>af (eB t v9.2 8) fun (t:List Int)=>again (t,IntKind.wrap .i64 (x.2.1+1), PUnit.unit) else none else af (bL x.1) fun (t:Int)=>af (eB x.1 t 4) fun (t:List Int)=>some (t,0,PUnit.unit)) (x.1,0, PUnit.unit)) fun (j:List Int×PUnit->Option (List Int×Int×PUnit))=>bif x0.2.1 then j (84 ::67 ::1 ::v4,PUnit.unit) else j (84 ::(67 : Int) ::0 ::v4,PUnit.unit)
def cO (x0:(List (Int×Int))×Bool×List (Int×Int)):Option ((List Int)×Int×Unit):=lk lpK jnK bE bC bL eB x0
abbrev t25:=((List (Int×Int))×Bool×List (Int×Int))->Option ((List Int)×Int×Unit)
def k25 (cO:t25):Ctr:=⟨[T30],[],[],.tup [(.sl (.int .u8)),i64],fun x _ _=>cO x.1⟩
def c25:Ctr:=k25 cO
theorem e25 (lp:Lp) (jn:Jn) (bE:t49) (bC:t51) (bL:t64) (eB:(List Int)->(Int)->(Int)->Option (List Int)):∀(x:TsS c25.as) (F:TsF c25.fs) (y:TsS c25.cs),lk lp jn bE bC bL eB x.1=bg lp jn (uk va uX (LP [(63,⟨[i64,i64],5,(.int .u8),fun l x=>eB l x.1 x.2.1⟩)] (gg prog shs pF its [(64,k64 bL),(51,k51 bC),(49,k49 bE)] [(32,r32),(92,r92),(112,aU)]))) aj 4 25 f25 c25 x F y:=fun x F y=>by kernel_rfl
theorem PP:c25.ok prog 25:=Ctr.of_den (an (JI (aa (aa (aa (q32) (by kernel_rfl) MZ) (by kernel_rfl) Mh) (by kernel_rfl) Ma) (CX (by kernel_rfl) NY (Hg)))) aw (hl:=aj) (d:=4) func25 rfl (by decide) (e25 lpK jnK bE bC bL eB)
def mH (_:Lp) (_:Jn) (aK:t24) (x0:Int):Option ((List (ByteArray×Int))×List (ByteArray×(List (ByteArray×Int×Int×Int))×Bool)) :=
 af (aK 1) fun (t:Int×Int) =>
 let v4:ByteArray×Int×Int×Int:=({ data:=#[] },0,t);some ([({ data:=#[(98:UInt8)] },300)],[({ data:=#[(114:UInt8)] },[v4,({ data:=#[(98 : UInt8)] },x0,t),v4],true)])
def da (x0:Int):Option ((List (ByteArray×Int))×List (ByteArray×(List (ByteArray×Int×Int×Int))×Bool)):=mH lpK jnK aK x0
abbrev t37:=(Int)->Option ((List (ByteArray×Int))×List (ByteArray×(List (ByteArray×Int×Int×Int))×Bool))
def c37:Ctr:=⟨[i64],[],[],.one T25,fun x _ _=>da x.1⟩
theorem e37 (lp:Lp) (jn:Jn) (aK:t24):∀(x:TsS c37.as) (F:TsF c37.fs) (y:TsS c37.cs),mH lp jn aK x.1=bg lp jn (cx [(24,k24 aK)] [(32,r32),(92,r92),(112,aU)]) aj 4 37 f37 c37 x F y:=fun x F y=>by kernel_rfl
theorem OU:c37.ok prog 37:=Ctr.of_den (an (aa (q32) (by kernel_rfl) Nn)) aw (hl:=aj) (d:=4) func37 rfl (by decide) (e37 lpK jnK aK)
def pV (_:Lp) (_:Jn) (x0:Bool) (x1:List (Int×Int)):Option ((List (Int×Int))×Bool×List (Int×Int)) :=
 bif x0 then some ([],true,x1) else some (x1,false,[])
def cW (x0:Bool) (x1:List (Int×Int)):Option ((List (Int×Int))×Bool×List (Int×Int)):=pV lpK jnK x0 x1
abbrev t38:=(Bool)->(List (Int×Int))->Option ((List (Int×Int))×Bool×List (Int×Int))
def k38 (cW:t38):Ctr:=⟨[.bool,(.sl T47)],[],[],.one T30,fun x _ _=>cW x.1 x.2.1⟩
def c38:Ctr:=k38 cW
theorem e38 (lp:Lp) (jn:Jn):∀(x:TsS c38.as) (F:TsF c38.fs) (y:TsS c38.cs),pV lp jn x.1 x.2.1=bg lp jn (cx [] [(32,r32),(92,r92),(112,aU)]) aj 4 38 f38 c38 x F y:=fun x F y=>by kernel_rfl
theorem Nb:c38.ok prog 38:=Ctr.of_den (an (q32)) aw (hl:=aj) (d:=4) func38 rfl (by decide) (e38 lpK jnK)
def po (_:Lp) (_:Jn) (aR:t13) (bm:t15) (ay:t19) (aK:t24) (cO:t25) (da:t37) (cW:t38):Option Bool :=
 af (da 2) fun (t:List (ByteArray×Int)×List (ByteArray×List (ByteArray×Int×Int×Int)×Bool))=>af (aR t) fun (t:(List (Int×Int)×Bool × List (Int×Int))×Int×PUnit) =>
 let v4:Bool:=decide (t.2.1=0);
 let v5:Bool:=!v4||v4;af (da (-2)) fun (t_1:List (ByteArray×Int)×List (ByteArray×List (ByteArray×Int×Int×Int)×Bool))=>af (aR t_1) fun (t_2:(List (Int×Int)×Bool×List (Int×Int))×Int×PUnit)=>af (da (-2)) fun (t_3:List (ByteArray×Int)×List (ByteArray×List (ByteArray×Int × Int×Int)×Bool))=>af (aK 1) fun (t_4:Int×Int)=>af (cW true [t_4]) fun (t_5:List (Int×Int)×Bool×List (Int×Int))=>af (ay t_3 t_5) fun (t_6:Bool×Int×PUnit)=>af (cO ([],false,[])) fun (t_7:List Int×Int×PUnit)=>af (bif v4 then aK 150 else some (0,(0 : Int))) fun (t_8:Int×Int)=>bif v5 then bif v5 then af (bif v4 then cW false [t_8] else some ([],false,[])) fun (t_9:List (Int×Int)×Bool×List (Int×Int))=>bif v5&&v5 then af (bif v4 then bm t.1 t_9 else some false) fun (t:Bool) =>
 let v16:Bool:=bif v4 then t else false;
 let v17:Bool:=!v16||v16;
 let v18:Bool:=bif v16 then decide (t_2.2.1=0) else false;
 let v19:Bool:=bif v18 then t_2.1.2.1 else false;
 let v20:Bool:=!v18||v18;
 let v21:Bool:=bif v19 then decide ((↑t_2.1.2.2.length:Int)=1) else false;
 let v22:Bool:=!v19||v19;
 let v23:Bool:=bif v21 then decide (t_6.2.1=0) else false;
 let v24:Bool:=bif v23 then t_6.1 else false;
 let v25:Bool:=bif v24 then decide (t_7.2.1=0) else false;
 let v26:Bool:=!v21||v21;
 let v27:Bool:=!v24||v24;
 let v28:Bool:=!v25||v25;bif v5 then bif v17 then bif v17 then bif v20 then bif v20 then bif v22 then bif v22 then bif v22 then bif v22 then bif v26 then bif v26 then bif !v23 || v23 then bif v27 then bif v27 then bif v28 then bif v28 then bif v28 then some (bif v25 then decide ((↑t_7.1.length:Int)=8) else false) else none else none else none else none else none else none else none else none else none else none else none else none else none else none else none else none else none else none else none else none
def aA:Option Bool:=po lpK jnK aR bm ay aK cO da cW
abbrev t11:=Option (Bool)
def k11 (aA:t11):Ctr:=⟨[],[],[],.one .bool,fun _ _ _=>aA⟩
def c11:Ctr:=k11 aA
theorem e11 (lp:Lp) (jn:Jn) (aR:t13) (bm:t15) (ay:t19) (aK:t24) (cO:t25) (da:t37) (cW:t38):∀(x:TsS c11.as) (F:TsF c11.fs) (y:TsS c11.cs),po lp jn aR bm ay aK cO da cW=bg lp jn (cx [(38,k38 cW),(37,⟨[i64],[],[],.one T25,fun x _ _=>da x.1⟩),(25,k25 cO),(24,k24 aK),(19,k19 ay),(15,k15 bm),(13,k13 aR)] [(32,r32),(92,r92),(112,aU)]) aj 4 11 f11 c11 x F y:=fun x F y=>by kernel_rfl
theorem PC:c11.ok prog 11:=Ctr.of_den (an (aa (aa (aa (aa (aa (aa (aa (q32) (by kernel_rfl) Ot) (by kernel_rfl) NX) (by kernel_rfl) OE) (by kernel_rfl) Nn) (by kernel_rfl) PP) (by kernel_rfl) OU) (by kernel_rfl) Nb)) aw (hl:=aj) (d:=4) func11 rfl (by decide) (e11 lpK jnK aR bm ay aK cO da cW)
def vi (lp:Lp) (_:Jn) (x0:(List (ByteArray×Int))×List (ByteArray×(List (ByteArray×Int×Int×Int))×Bool)):Option Bool :=
 
 let v3:Bool:=decide ((↑x0.1.length:Int)>9);
 let v4:Bool:=!v3;
 let v5:Bool:=!v4||v4;bif v5 then bif v5 then bif v5 then bif v3||v4 then bif bif v3 then true else decide ((↑x0.2.length:Int)>9) then some false else lp (Int × PUnit) Bool (fun (again:Int×PUnit->Option Bool) (x:Int×PUnit)=>bif decide (x.1<(↑x0.1.length:Int)) then bif inB x.1 x0.1.length then bif decide ((↑(ByteArray.size (x0.1.getD x.1.toNat ({ data:={ toList:=[] } },0)).1):Int)>60) then some false else again (IntKind.wrap .i64 (x.1 + 1),PUnit.unit) else none else lp (Int×PUnit) Bool (fun (again:Int×PUnit->Option Bool) (x:Int×PUnit) =>
 let v10:Bool:=inB x.1 x0.2.length;
 let v11:Bool:=decide ((↑(ByteArray.size (x0.2.getD x.1.toNat ({ data:={ toList:=[] } },[],false)).1):Int)>60);
 let v12:Bool:=!v11;
 let v13:Bool:=!v12;
 let v14:Bool:=v13||v12;bif decide (x.1<(↑x0.2.length:Int)) then bif v10 then bif v14 then bif v14&&(v14&&(v13||v10)) then bif v14 then bif v14 then bif v14 then bif v14 then bif v11||v12 then bif bif v11 then true else decide ((↑(List.length (x0.2.getD x.1.toNat ({ data:={ toList:=[] } },[],false)).2.1):Int) > 13) then some false else lp (Int×PUnit) Bool (fun (again_1:Int×PUnit->Option Bool) (x_1:Int×PUnit)=>bif v10 then bif decide (x_1.1<(↑(List.length (x0.2.getD x.1.toNat ({ data:={ toList:=[] } },[],false)).2.1):Int)) then bif v10 then bif inB x_1.1 (List.length (x0.2.getD x.1.toNat ({ data:={ toList:=[] } },[],false)).2.1) then bif decide ((↑(ByteArray.size (List.getD (x0.2.getD x.1.toNat ({ data:={ toList:=[] } },[],false)).2.1 x_1.1.toNat ({ data:={ toList:=[] } },0,0,0)).1):Int)>60) then some false else again_1 (IntKind.wrap .i64 (x_1.1+1), PUnit.unit) else none else none else again (IntKind.wrap .i64 (x.1+1),PUnit.unit) else none) (0,PUnit.unit) else none else none else none else none else none else none else none else none else some true) (0,PUnit.unit)) (0,PUnit.unit) else none else none else none else none
def ba (x0:(List (ByteArray×Int))×List (ByteArray×(List (ByteArray×Int×Int×Int))×Bool)):Option Bool:=vi lpK jnK x0
abbrev t12:=((List (ByteArray×Int))×List (ByteArray×(List (ByteArray×Int×Int×Int))×Bool))->Option (Bool)
def k12 (ba:t12):Ctr:=⟨[T25],[],[],.one .bool,fun x _ _=>ba x.1⟩
def uM (_:Lp) (_:Jn) (x0:Int):Option Bool :=
 
 let v3:Bool:=decide (x0>=97);
 let v4:Bool:=decide (x0>=65);
 let v5:Bool:=!v3||v3;
 let v6:Bool:=bif v3 then decide (x0<=122) else false;
 let v7:Bool:=!v6;
 let v8:Bool:=!v7;
 let v9:Bool:=v7&&v4;
 let v10:Bool:=v8||v7;bif v5 then bif v5 then bif v10 then bif v10 then bif !v9||v9 then bif (v8||v10)&&(v8||(!v4||(v8||v9))) then bif v6||v7 then some (bif v6 then true else bif v4 then decide (x0<=90) else false) else none else none else none else none else none else none else none
def fX (x0:Int):Option Bool:=uM lpK jnK x0
abbrev t76:=(Int)->Option (Bool)
def vf (_:Lp) (_:Jn) (x0:Int):Option Bool :=
 
 let v3:Bool:=decide (x0>=48);
 let v4:Bool:=!v3||v3;bif v4 then bif v4 then some (bif v3 then decide (x0<=57) else false) else none else none
def od (x0:Int):Option Bool:=vf lpK jnK x0
abbrev PV:=(Int)->Option (Bool)
def xY (lp:Lp) (_:Jn) (fX:t76) (od:PV) (x0:ByteArray) (x1:Int):Option Int :=
 lp (Int×PUnit) Int (fun (again:Int×PUnit->Option Int) (x:Int×PUnit) =>
 let v6:Bool:=inB x.1 (ByteArray.size x0);
 let v7:Int:=jO x0 x.1.toNat;
 let v8:Bool:=decide (x.1<(↑(ByteArray.size x0):Int));
 let v9:Bool:=!v8;
 let v10:Bool:=v9||v8;
 let v11:Bool:=v9||v10;bif v10&&(v10&&(v9||v6)) then bif v10 then af (bif v8 then fX v7 else some false) fun (t:Bool) =>
 let v13:Bool:=v8&&!t;
 let v14:Bool:=!v13;
 let v15:Bool:=v14||v13;bif v10 then bif v15&&(v15&&(v14||v6)) then bif v15 then af (bif v13 then od v7 else some false) fun (t_1:Bool) =>
 let v17:Bool:=bif t then true else t_1;
 let v18:Bool:=v8&&!v17;
 let v19:Bool:=!v18;
 let v20:Bool:=v19||v18;bif v11&&(v9||(t||(v9||v13))) then bif v10 then bif v20&&(v20&&(v19||v6)) then bif v20 then bif v11&&(v9||(v17||(v9||v18))) then bif v10 then bif bif v8 then bif v17 then true else decide (v7=95) else false then again (IntKind.wrap .i64 (x.1+1),PUnit.unit) else some x.1 else none else none else none else none else none else none else none else none else none else none else none) (x1,PUnit.unit)
def pw (x0:ByteArray) (x1:Int):Option Int:=xY lpK jnK fX od x0 x1
abbrev t77:=(ByteArray)->(Int)->Option (Int)
def uG (_:Lp) (_:Jn) (fX:t76) (pw:t77) (x0:ByteArray):Option Bool :=
 
 let v3:Bool:=decide ((↑(ByteArray.size x0):Int)=0);
 let v4:Bool:=!v3;
 let v5:Bool:=!v4||v4;
 let v6:Bool:=bif v3 then true else decide ((↑(ByteArray.size x0):Int)>20);
 let v7:Bool:=!v6;
 let v8:Bool:=!v7;
 let v9:Bool:=v8||v7;bif v5 then bif v5 then bif v3||v4 then bif v9&&(v8||inB 0 (ByteArray.size x0)) then bif v9 then af (bif v7 then fX (jO x0 (0 : Nat)) else some false) fun (t:Bool)=>bif v9 then bif v6||v7 then bif bif v6 then true else !t then some false else af (pw x0 0) fun (t:Int)=>some (decide (t = (↑(ByteArray.size x0):Int))) else none else none else none else none else none else none else none
def jp (x0:ByteArray):Option Bool:=uG lpK jnK fX pw x0
abbrev t39:=(ByteArray)->Option (Bool)
def qF (lp:Lp) (_:Jn) (x0:(List (ByteArray×Int))×List (ByteArray×(List (ByteArray×Int×Int×Int))×Bool)) (x1:ByteArray):Option Int :=
 lp (Int×PUnit) Int (fun (again:Int×PUnit->Option Int) (x:Int×PUnit)=>bif decide (x.1<(↑x0.1.length:Int)) then bif inB x.1 x0.1.length then bif List.beq (ByteArray.toList (x0.1.getD x.1.toNat ({ data:={ toList:=[] } },0)).1) (ByteArray.toList x1) then some x.1 else again (IntKind.wrap .i64 (x.1+1),PUnit.unit) else none else some (-1)) (0,PUnit.unit)
def eg (x0:(List (ByteArray×Int))×List (ByteArray×(List (ByteArray×Int×Int×Int))×Bool)) (x1:ByteArray):Option Int:=qF lpK jnK x0 x1
abbrev t40:=((List (ByteArray×Int))×List (ByteArray×(List (ByteArray×Int×Int×Int))×Bool))->(ByteArray)->Option (Int)
def ru (lp:Lp) (_:Jn) (x0:(List (ByteArray×Int))×List (ByteArray×(List (ByteArray×Int×Int×Int))×Bool)) (x1:ByteArray):Option Int :=
 lp (Int×PUnit) Int (fun (again:Int×PUnit->Option Int) (x:Int×PUnit)=>bif decide (x.1<(↑x0.2.length:Int)) then bif inB x.1 x0.2.length then bif List.beq (ByteArray.toList (x0.2.getD x.1.toNat ({ data:={ toList:=[] } },[],false)).1) (ByteArray.toList x1) then some x.1 else again (IntKind.wrap .i64 (x.1+1),PUnit.unit) else none else some (-1)) (0,PUnit.unit)
def jH (x0:(List (ByteArray×Int))×List (ByteArray×(List (ByteArray×Int×Int×Int))×Bool)) (x1:ByteArray):Option Int:=ru lpK jnK x0 x1
abbrev t41:=((List (ByteArray×Int))×List (ByteArray×(List (ByteArray×Int×Int×Int))×Bool))->(ByteArray)->Option (Int)
def mh (_:Lp) (_:Jn) (x0:Int×Int) (x1:Int×Int):Option Bool :=
 
 let v4:Bool:=decide (x0.1=x1.1);
 let v5:Bool:=decide (x0.1<x1.1);
 let v6:Bool:=!v5;
 let v7:Bool:=!v6;
 let v8:Bool:=v6&&v4;
 let v9:Bool:=v7||v6;
 let v10:Bool:=!v8||v8;bif v9 then bif v9 then bif v9&&v9 then bif v9 then bif v10 then bif v10 then bif v10&&v10 then bif (v7||v9)&&(v7||(!v4||(v7||v8))) then bif v5 || v6 then some (bif v5 then true else bif v4 then decide (x0.2<x1.2) else false) else none else none else none else none else none else none else none else none else none
def bN (x0:Int×Int) (x1:Int×Int):Option Bool:=mh lpK jnK x0 x1
abbrev B6:=(Int×Int)->(Int×Int)->Option (Bool)
def MF (bN:B6):Ctr:=⟨[iZ,iZ],[],[],.one .bool,fun x _ _=>bN x.1 x.2.1⟩
def Ej:Ctr:=MF bN
theorem O5 (lp:Lp) (jn:Jn):∀(x:TsS Ej.as) (F:TsF Ej.fs) (y:TsS Ej.cs),mh lp jn x.1 x.2.1=bg lp jn (cx [] [(32,r32),(92,r92),(112,aU)]) aj 4 161 f161 Ej x F y:=fun x F y=>by kernel_rfl
theorem NM:Ej.ok prog 161:=Ctr.of_den (an (q32)) aw (hl:=aj) (d:=4) func161 rfl (by decide) (O5 lpK jnK)
def ma (_:Lp) (_:Jn) (x0:Int×Int) (x1:Int×Int):Option (Int×Int) :=
 
 let v4:Int:=IntKind.wrap .u64 (x0.1+x1.1);
 let v5:Int:=IntKind.wrap .u64 (x0.2+x1.2);bif decide (v5<x0.2) then some (IntKind.wrap .u64 (v4+1),v5) else some (v4,v5)
def cV (x0:Int×Int) (x1:Int×Int):Option (Int×Int):=ma lpK jnK x0 x1
abbrev I5:=(Int×Int)->(Int×Int)->Option (Int×Int)
def LS (cV:I5):Ctr:=⟨[iZ,iZ],[],[],.one iZ,fun x _ _=>cV x.1 x.2.1⟩
def GF:Ctr:=LS cV
theorem Pw (lp:Lp) (jn:Jn):∀(x:TsS GF.as) (F:TsF GF.fs) (y:TsS GF.cs),ma lp jn x.1 x.2.1=bg lp jn (cx [] [(32,r32),(92,r92),(112,aU)]) aj 4 163 f163 GF x F y:=fun x F y=>by kernel_rfl
theorem MR:GF.ok prog 163:=Ctr.of_den (an (q32)) aw (hl:=aj) (d:=4) func163 rfl (by decide) (Pw lpK jnK)
def kQ (_:Lp) (_:Jn) (x0:Int×Int) (x1:Int×Int):Option (Int×Int) :=
 
 let v4:Int:=IntKind.wrap .u64 (x0.1 - x1.1);
 let v5:Int:=IntKind.wrap .u64 (x0.2 - x1.2);bif decide (x0.2<x1.2) then some (IntKind.wrap .u64 (v4 - 1),v5) else some (v4,v5)
def bG (x0:Int×Int) (x1:Int×Int):Option (Int×Int):=kQ lpK jnK x0 x1
abbrev DC:=(Int×Int)->(Int×Int)->Option (Int×Int)
def MG (bG:DC):Ctr:=⟨[iZ,iZ],[],[],.one iZ,fun x _ _=>bG x.1 x.2.1⟩
def DI:Ctr:=MG bG
theorem OB (lp:Lp) (jn:Jn):∀(x:TsS DI.as) (F:TsF DI.fs) (y:TsS DI.cs),kQ lp jn x.1 x.2.1=bg lp jn (cx [] [(32,r32),(92,r92),(112,aU)]) aj 4 164 f164 DI x F y:=fun x F y=>by kernel_rfl
theorem NH:DI.ok prog 164:=Ctr.of_den (an (q32)) aw (hl:=aj) (d:=4) func164 rfl (by decide) (OB lpK jnK)
def lZ (_:Lp) (_:Jn) (x0:Int×Int):Option (Int×Int) :=
 
 let v3:Int:=2 ^ 1;
 let v4:Bool:=decide ((0:Int)<=1);bif v4 then bif v4 then bif decide ((0:Int)<=63) then some (Int.fdiv x0.1 v3,IntKind.wrap .u64 (Int.fdiv x0.2 v3 + IntKind.wrap .u64 (x0.1*2 ^ 63))) else none else none else none
def dy (x0:Int×Int):Option (Int×Int):=lZ lpK jnK x0
abbrev LW:=(Int×Int)->Option (Int×Int)
def Hr:Ctr:=⟨[iZ],[],[],.one iZ,fun x _ _=>dy x.1⟩
theorem Ol (lp:Lp) (jn:Jn):∀(x:TsS Hr.as) (F:TsF Hr.fs) (y:TsS Hr.cs),lZ lp jn x.1=bg lp jn (cx [] [(32,r32),(92,r92),(112,aU)]) aj 4 180 f180 Hr x F y:=fun x F y=>by kernel_rfl
theorem L5:Hr.ok prog 180:=Ctr.of_den (an (q32)) aw (hl:=aj) (d:=4) func180 rfl (by decide) (Ol lpK jnK)
def nm (lp:Lp) (_:Jn) (bN:B6) (cV:I5) (bG:DC) (dy:LW) (x0:Int×Int) (x1:Int×Int):Option (Int×Int) :=
 bif decide (x0.1=0)&&(decide (x0.2=0)&&true) then some x1 else lp (Int×(Int×Int)×(Int×Int)×PUnit) (Int×Int) (fun (again:Int×(Int×Int)×(Int × Int)×PUnit->Option (Int×Int)) (x:Int×(Int×Int)×(Int×Int)×PUnit) =>
 let v6:Bool:=decide (IntKind.wrap .u64 (↑(Nat.land (Int.toNat (x.2.1.2 % Int.ofNat 18446744073709551616)) (Int.toNat (1 % Int.ofNat (18446744073709551616 : Nat)))):Int)=0);
 let v7:Bool:=!v6||v6;bif v7 then bif v7 then bif v7 then bif v7 then bif bif v6 then decide (IntKind.wrap .u64 (↑(Nat.land (Int.toNat (x.2.2.1.2 % Int.ofNat 18446744073709551616)) (Int.toNat (1 % Int.ofNat 18446744073709551616))):Int)=0) else false then af (dy x.2.1) fun (t:Int×Int) => af (dy x.2.2.1) fun (t_1:Int×Int)=>again (IntKind.wrap .i64 (x.1+1),t,t_1,PUnit.unit) else lp ((Int×Int)×(Int×Int)×PUnit) (Int × Int) (fun (again:(Int×Int)×(Int×Int)×PUnit->Option (Int×Int)) (x_1:(Int×Int)×(Int×Int)×PUnit) =>
 let v10:(Int×Int)×PUnit:=(x_1.2.1,PUnit.unit);bif !(decide (x_1.1.1=0)&&(decide (x_1.1.2=0)&&true)) then lp ((Int×Int)×PUnit) (Int×Int) (fun (again_1:(Int×Int)×PUnit->Option (Int×Int)) (x:(Int×Int)×PUnit)=>bif decide (IntKind.wrap .u64 (↑(Nat.land (Int.toNat (x.1.2 % Int.ofNat 18446744073709551616)) (Int.toNat (1 % Int.ofNat 18446744073709551616))):Int)=0) then af (dy x.1) fun (t:Int×Int)=>again_1 (t, PUnit.unit) else lp ((Int×Int)×PUnit) (Int×Int) (fun (again_2:(Int×Int)×PUnit->Option (Int×Int)) (x_2:(Int×Int)×PUnit)=>bif decide (IntKind.wrap .u64 (↑(Nat.land (Int.toNat (x_2.1.2 % Int.ofNat 18446744073709551616)) (Int.toNat (1 % Int.ofNat 18446744073709551616))):Int)=0) then af (dy x_2.1) fun (t:Int×Int)=>again_2 (t,PUnit.unit) else af (bN x.1 x_2.1) fun (t:Bool)=>bif t then af (bG x_2.1 x.1) fun (t:Int × Int)=>again (t,x.1,PUnit.unit) else af (bG x.1 x_2.1) fun (t:Int×Int)=>again (t,x_2.1,PUnit.unit)) v10) (x_1.1,PUnit.unit) else lp (Int×(Int×Int) × PUnit) (Int×Int) (fun (again:Int×(Int×Int)×PUnit->Option (Int×Int)) (x:Int×(Int×Int)×PUnit)=>bif decide (x.1>0) then af (cV x.2.1 x.2.1) fun (t:Int×Int)=>again (IntKind.wrap .i64 (x.1 - 1),t,PUnit.unit) else some x.2.1) (x.1,v10)) (x.2.1,x.2.2.1,PUnit.unit) else none else none else none else none) (0,x0,x1,PUnit.unit)
def dz (x0:Int×Int) (x1:Int×Int):Option (Int×Int):=nm lpK jnK bN cV bG dy x0 x1
abbrev H1:=(Int×Int)->(Int×Int)->Option (Int×Int)
def Nj (dz:H1):Ctr:=⟨[iZ,iZ],[],[],.one iZ,fun x _ _=>dz x.1 x.2.1⟩
def Hq:Ctr:=Nj dz
theorem PS (lp:Lp) (jn:Jn) (bN:B6) (cV:I5) (bG:DC) (dy:LW):∀(x:TsS Hq.as) (F:TsF Hq.fs) (y:TsS Hq.cs),nm lp jn bN cV bG dy x.1 x.2.1=bg lp jn (cx [(180,⟨[iZ],[],[],.one iZ,fun x _ _=>dy x.1⟩),(164,MG bG),(163,LS cV),(161,MF bN)] [(32,r32),(92,r92),(112,aU)]) aj 4 152 f152 Hq x F y:=fun x F y=>by kernel_rfl
theorem MH:Hq.ok prog 152:=Ctr.of_den (an (aa (aa (aa (aa (q32) (by kernel_rfl) NM) (by kernel_rfl) MR) (by kernel_rfl) NH) (by kernel_rfl) L5)) aw (hl:=aj) (d:=4) func152 rfl (by decide) (PS lpK jnK bN cV bG dy)
def mz (_:Lp) (_:Jn) (x0:Int):Option Int :=
 
 let v3:Int:=IntKind.wrap .u64 x0;bif decide (x0<0) then some (IntKind.wrap .u64 (0 - v3)) else some v3
def aP (x0:Int):Option Int:=mz lpK jnK x0
abbrev C6:=(Int)->Option (Int)
def Mq (aP:C6):Ctr:=⟨[i64],[],[],.one (.int .u64),fun x _ _=>aP x.1⟩
def EI:Ctr:=Mq aP
theorem PW (lp:Lp) (jn:Jn):∀(x:TsS EI.as) (F:TsF EI.fs) (y:TsS EI.cs),mz lp jn x.1=bg lp jn (cx [] [(32,r32),(92,r92),(112,aU)]) aj 4 153 f153 EI x F y:=fun x F y=>by kernel_rfl
theorem Ny:EI.ok prog 153:=Ctr.of_den (an (q32)) aw (hl:=aj) (d:=4) func153 rfl (by decide) (PW lpK jnK)
def kI (_:Lp) (_:Jn) (dz:H1) (aP:C6) (x0:Int×Int):Option Bool :=
 
 let v3:Bool:=decide (x0.2<1);
 let v4:Bool:=!v3;
 let v5:Bool:=bif v3 then true else decide (x0.2>1152921504606846976);
 let v6:Bool:=!v4||v4;
 let v7:Bool:=!v5;
 let v8:Bool:=bif v5 then true else decide (x0.1<(-1152921504606846976));
 let v9:Bool:=!v8;
 let v10:Bool:=!v7||v7;
 let v11:Bool:=!v9||v9;bif v6 then bif v6 then bif v3||v4 then bif v10 then bif v10 then bif v5||v7 then bif v11 then bif v11 then bif v8||v9 then bif bif v8 then true else decide (x0.1>1152921504606846976) then some false else af (aP x0.1) fun (t:Int)=>af (aP x0.2) fun (t_1:Int)=>af (dz (0, t) (0,t_1)) fun (t:Int×Int)=>some (decide (t.1=0)&&(decide (t.2=1)&&true)) else none else none else none else none else none else none else none else none else none
def cq (x0:Int×Int):Option Bool:=kI lpK jnK dz aP x0
abbrev IZ:=(Int×Int)->Option (Bool)
def LL (cq:IZ):Ctr:=⟨[T47],[],[],.one .bool,fun x _ _=>cq x.1⟩
def E9:Ctr:=LL cq
theorem P0 (lp:Lp) (jn:Jn) (dz:H1) (aP:C6):∀(x:TsS E9.as) (F:TsF E9.fs) (y:TsS E9.cs),kI lp jn dz aP x.1=bg lp jn (cx [(153,Mq aP),(152,Nj dz)] [(32,r32),(92,r92),(112,aU)]) aj 4 108 f108 E9 x F y:=fun x F y=>by kernel_rfl
theorem NQ:E9.ok prog 108:=Ctr.of_den (an (aa (aa (q32) (by kernel_rfl) MH) (by kernel_rfl) Ny)) aw (hl:=aj) (d:=4) func108 rfl (by decide) (P0 lpK jnK dz aP)
def qj (_:Lp) (_:Jn) (cq:IZ) (x0:Int×Int):Option Bool :=
 af (cq x0) fun (t:Bool) =>
 let v4:Bool:=!t||t;
 let v5:Bool:=bif t then decide (x0.1>=x0.2) else false;
 let v6:Bool:=!v5||v5;bif v4 then bif v4 then bif v4&&v4 then bif v4 then bif v6 then bif v6 then bif v6 then some (bif v5 then decide (x0.1<=100) else false) else none else none else none else none else none else none else none
def jb (x0:Int×Int):Option Bool:=qj lpK jnK cq x0
abbrev O1:=(Int×Int)->Option (Bool)
def xt (_:Lp) (_:Jn) (aK:t24) (eg:t40) (jb:O1) (x0:(List (ByteArray×Int))×List (ByteArray×(List (ByteArray×Int×Int×Int))×Bool)) (x1:ByteArray×Int×Int×Int) (x2:Bool):Option Bool :=
 
 let v5:Bool:=!x2||x2;
 let v6:Bool:=decide (x1.2.1=0);
 let v7:Bool:=decide (x1.2.1=1);
 let v8:Bool:=decide (x1.2.1=2);
 let v9:Bool:=!v7;
 let v10:Bool:=!v8;
 let v11:Bool:=bif v8 then true else v6;
 let v12:Bool:=!v9||v9;
 let v13:Bool:=!v10||v10;
 let v14:Bool:=!v11;
 let v15:Bool:=!v14||v14;bif v5 then af (bif x2 then aK 1 else some (0,0)) fun (t:Int×Int) =>
 let v17:Bool:=bif x2 then !(decide (x1.2.2.1=t.1)&&(decide (x1.2.2.2=t.2)&&true)) else false;
 let v18:Bool:=!v17;
 let v19:Bool:=!v18||v18;bif v5&&v5 then bif v5 then bif v19 then bif v19 then af (bif v18 then jb x1.2.2 else some false) fun (t:Bool)=>bif v19 then bif v17||v18 then bif bif v17 then true else !t then some false else bif List.beq (ByteArray.toList x1.1) (ByteArray.toList { data:=#[] }) then some v6 else af (eg x0 x1.1) fun (t:Int)=>bif decide (t<0) then some false else bif x2 then bif v12 then bif v12 then bif v7||v9 then some (bif v7 then true else decide (x1.2.1=(-1 : Int))) else none else none else none else bif v13 then bif v13 then bif v8||v10 then bif v15 then bif v15 then bif v11||v14 then some (bif v11 then true else decide (x1.2.1 = (-2))) else none else none else none else none else none else none else none else none else none else none else none else none else none
def pY (x0:(List (ByteArray×Int))×List (ByteArray×(List (ByteArray×Int×Int×Int))×Bool)) (x1:ByteArray×Int×Int×Int) (x2:Bool):Option Bool:=xt lpK jnK aK eg jb x0 x1 x2
abbrev t78:=((List (ByteArray×Int))×List (ByteArray×(List (ByteArray×Int×Int×Int))×Bool))->(ByteArray×Int×Int×Int)->(Bool)->Option (Bool)
def wx (lp:Lp) (_:Jn) (pY:t78) (x0:(List (ByteArray×Int))×List (ByteArray×(List (ByteArray×Int×Int×Int))×Bool)) (x1:ByteArray×(List (ByteArray×Int×Int×Int))×Bool):Option Bool :=
 
 let v4:Bool:=!x1.2.2;
 let v5:Bool:=!v4;
 let v6:Bool:=!v5;
 let v7:Int:=IntKind.wrap .i64 ((↑x1.2.1.length:Int) - 1);
 let v8:Bool:=v6||v5;
 let v9:Bool:=decide ((↑x1.2.1.length:Int)<2);
 let v10:Bool:=!v9;
 let v11:Bool:=!v10||v10;bif v11 then bif v11 then bif v11 then bif v9||v10 then bif bif v9 then true else decide ((↑x1.2.1.length:Int)>10) then some false else lp (Int×PUnit) Bool (fun (again:Int×PUnit->Option Bool) (x:Int×PUnit) =>
 let v14:Bool:=decide (x.1=0);
 let v15:Bool:=!v14;
 let v16:Bool:=!v15||v15;bif decide (x.1<(↑x1.2.1.length:Int)) then bif inB x.1 x1.2.1.length then bif v16 then bif v16 then bif v16 then bif v16 && v16 then bif v14||v15 then af (pY x0 (x1.2.1.getD x.1.toNat ({ data:={ toList:=[] } },0,0,0)) (bif v14 then true else decide (x.1=v7))) fun (t:Bool)=>bif !t then some false else again (IntKind.wrap .i64 (x.1+1),PUnit.unit) else none else none else none else none else none else none else bif v8 then bif v8 then bif v8 then bif v8 then bif v8&&(v8&&(v6||inB v7 x1.2.1.length)) then bif v8 then bif v8 then bif v8 then bif v4||v5 then some (bif v4 then true else List.beq (ByteArray.toList (x1.2.1.getD v7.toNat ({ data:={ toList:=[] } },0,0,0)).1) (ByteArray.toList { data:=#[] })) else none else none else none else none else none else none else none else none else none) (0,PUnit.unit) else none else none else none else none
def py (x0:(List (ByteArray×Int))×List (ByteArray×(List (ByteArray×Int×Int×Int))×Bool)) (x1:ByteArray×(List (ByteArray×Int×Int×Int))×Bool):Option Bool:=wx lpK jnK pY x0 x1
abbrev t42:=((List (ByteArray×Int))×List (ByteArray×(List (ByteArray×Int×Int×Int))×Bool))->(ByteArray×(List (ByteArray×Int×Int×Int))×Bool)->Option (Bool)
def vj (lp:Lp) (_:Jn) (jp:t39) (eg:t40) (jH:t41) (py:t42) (x0:(List (ByteArray×Int))×List (ByteArray×(List (ByteArray×Int×Int×Int))×Bool)):Option Bool :=
 
 let v3:Bool:=decide ((↑x0.1.length:Int)<1);
 let v4:Bool:=!v3;
 let v5:Bool:=bif v3 then true else decide ((↑x0.1.length:Int)>6);
 let v6:Bool:=!v4||v4;
 let v7:Bool:=!v5;
 let v8:Bool:=bif v5 then true else decide ((↑x0.2.length:Int)<1);
 let v9:Bool:=!v8;
 let v10:Bool:=!v7||v7;
 let v11:Bool:=!v9||v9;bif v6 then bif v6 then bif v6 then bif v3||v4 then bif v10 then bif v10 then bif v10 then bif v5||v7 then bif v11 then bif v11 then bif v11 then bif v8 || v9 then bif bif v8 then true else decide ((↑x0.2.length:Int)>6) then some false else lp (Int×PUnit) Bool (fun (again:Int×PUnit->Option Bool) (x:Int × PUnit)=>bif decide (x.1<(↑x0.1.length:Int)) then bif inB x.1 x0.1.length then af (jp (x0.1.getD x.1.toNat ({ data:={ toList := [] } },0)).1) fun (t:Bool) =>
 let v15:Bool:=!t;
 let v16:Bool:=!v15;
 let v17:Bool:=!v16||v16;
 let v18:Bool:=v17&&v17;bif v17 then bif v18 then af (bif v16 then eg x0 (x0.1.getD x.1.toNat ({ data:={ toList:=[] } },0)).1 else some 0) fun (t:Int) =>
 let v20:Bool:=bif v15 then true else !decide (t=x.1);
 let v21:Bool:=!v20;
 let v22:Bool:=!v21||v21;
 let v23:Bool:=bif v20 then true else decide ((x0.1.getD x.1.toNat ({ data:={ toList:=[] } },0)).2<0);
 let v24:Bool:=!v23;
 let v25:Bool:=!v24||v24;bif v18 then bif v15||v16 then bif v22 then bif v22 then bif v20||v21 then bif v25 then bif v25 then bif v23||v24 then bif bif v23 then true else decide ((x0.1.getD x.1.toNat ({ data:={ toList:=[] } },0)).2>16777216) then some false else again (IntKind.wrap .i64 (x.1+1), PUnit.unit) else none else none else none else none else none else none else none else none else none else none else none else lp (Int×Int×PUnit) Bool (fun (again:Int×Int × PUnit->Option Bool) (x:Int×Int×PUnit) =>
 let v16:Int×PUnit:=(IntKind.wrap .i64 (x.2.1+1),PUnit.unit);
 let v17:ByteArray×List (ByteArray×Int×Int×Int)×Bool:=x0.2.getD x.2.1.toNat ({ data:={ toList:=[] } },[],false);bif decide (x.2.1<(↑x0.2.length:Int)) then bif inB x.2.1 x0.2.length then af (jp v17.1) fun (t:Bool) =>
 let v19:Bool:=!t;
 let v20:Bool:=!v19;
 let v21:Bool:=!v20||v20;
 let v22:Bool:=v21&&v21;bif v21 then bif v22 then af (bif v20 then jH x0 v17.1 else some 0) fun (t:Int) =>
 let v24:Bool:=bif v19 then true else !decide (t=x.2.1);
 let v25:Bool:=!v24;
 let v26:Bool:=!v25||v25;bif v22 then bif v19||v20 then bif v26 then bif v26&&v26 then af (bif v25 then eg x0 v17.1 else some 0) fun (t:Int) =>
 let v28:Bool:=bif v24 then true else decide (t>=0);
 let v29:Bool:=!v28;
 let v30:Bool:=!v29||v29;bif v26 then bif v24||v25 then bif v30&&v30 then af (bif v29 then py x0 v17 else some false) fun (t:Bool)=>bif v30 then bif v28||v29 then bif bif v28 then true else !t then some false else bif v17.2.2 then again (IntKind.wrap .i64 (x.1+1),v16) else again (x.1,v16) else none else none else none else none else none else none else none else none else none else none else none else none else some (decide (x.1<=1))) (0,0,PUnit.unit)) (0, PUnit.unit) else none else none else none else none else none else none else none else none else none else none else none else none
def aX (x0:(List (ByteArray×Int))×List (ByteArray×(List (ByteArray×Int×Int×Int))×Bool)):Option Bool:=vj lpK jnK jp eg jH py x0
abbrev t14:=((List (ByteArray×Int))×List (ByteArray×(List (ByteArray×Int×Int×Int))×Bool))->Option (Bool)
def k14 (aX:t14):Ctr:=⟨[T25],[],[],.one .bool,fun x _ _=>aX x.1⟩
def xE (_:Lp) (_:Jn) (x0:Int):Option Int :=
 some (if IntKind.wrap .i64 (0 - x0)>x0 then IntKind.wrap .i64 (0 - x0) else x0)
def jK (x0:Int):Option Int:=xE lpK jnK x0
abbrev PR:=(Int)->Option (Int)
def sO (lp:Lp) (_:Jn) (jK:PR) (x0:(List Int)×List ((List Int)×Int×Int)):Option (List Int) :=
 lp (Int×Int×PUnit) (List Int) (fun (again:Int×Int×PUnit->Option (List Int)) (x:Int×Int×PUnit)=>bif decide (x.2.1<(↑x0.1.length:Int)) then bif inB x.2.1 x0.1.length then af (jK (x0.1.getD x.2.1.toNat 0)) fun (t:Int)=>again (IntKind.wrap .i64 (x.1+t),IntKind.wrap IntKind.i64 (x.2.1+1),PUnit.unit) else none else lp (List Int×Int×PUnit) (List Int) (fun (again:List Int×Int×PUnit->Option (List Int)) (x:List Int×Int × PUnit) =>
 let v7:Bool:=inB x.2.1 x0.2.length;
 let v8:List Int×Int×Int:=x0.2.getD x.2.1.toNat ([],0,0);bif decide (x.2.1<(↑x0.2.length:Int)) then bif v7 then af (jK v8.2.2) fun (t:Int)=>lp (Int×Int×PUnit) (List Int) (fun (again_1:Int×Int×PUnit->Option (List Int)) (x_1:Int×Int×PUnit)=>bif decide (x_1.2.1 < (↑x0.1.length:Int)) then bif v7 then bif inB x_1.2.1 v8.1.length then af (jK (v8.1.getD x_1.2.1.toNat 0)) fun (t:Int) => again_1 (IntKind.wrap .i64 (x_1.1+t),IntKind.wrap .i64 (x_1.2.1+1),PUnit.unit) else none else none else bif dU (List.length x.1+1) (8 : Nat) then again (x.1++[x_1.1],IntKind.wrap .i64 (x.2.1+1),PUnit.unit) else none) (IntKind.wrap .i64 (1+t),0,PUnit.unit) else none else some x.1) ([x.1],0,PUnit.unit)) (1,0,PUnit.unit)
def kO (x0:(List Int)×List ((List Int)×Int×Int)):Option (List Int):=sO lpK jnK jK x0
abbrev t79:=((List Int)×List ((List Int)×Int×Int))->Option (List Int)
set_option maxRecDepth 100000
def sT (lp:Lp) (_:Jn) (x0:List Int) (x1:Int):Option (Int×Bool×Unit) :=
 lp (Int×Int×PUnit) (Int×Bool×PUnit) (fun (again:Int×Int×PUnit->Option (Int×Bool×PUnit)) (x:Int×Int×PUnit) =>
 let v6:Bool:=inB x.2.1 x0.length;bif decide (x.2.1<(↑x0.length:Int)) then bif v6 then bif nzB x.1 then bif decide (x0.getD x.2.1.toNat (0 : Int)>IntKind.wrap .i64 (Int.tdiv x1 x.1)) then some (0,false,PUnit.unit) else bif v6 then again (IntKind.wrap .i64 (x.1*x0.getD x.2.1.toNat 0),IntKind.wrap .i64 (x.2.1+1),PUnit.unit) else none else none else none else some (x.1,true,PUnit.unit)) (1,0,PUnit.unit)
def kJ (x0:List Int) (x1:Int):Option (Int×Bool×Unit):=sT lpK jnK x0 x1
abbrev t80:=(List Int)->(Int)->Option (Int×Bool×Unit)
def xP (lp:Lp) (_:Jn) (kO:t79) (kJ:t80) (x0:(List Int)×List ((List Int)×Int×Int)):Option Bool :=
 af (kO x0) fun (t:List Int)=>af (kJ t 17592186044416) fun (t_1:Int×Bool×PUnit) =>
 let v5:Bool:=!t_1.2.1;
 let v6:Int:=IntKind.wrap .i64 (Int.tdiv 144115188075855872 t_1.1);
 let v7:Bool:=v5||t_1.2.1;lp (Int×Int×PUnit) Bool (fun (again:Int×Int×PUnit->Option Bool) (x:Int×Int×PUnit)=>bif decide (x.2.1<(↑t.length:Int)) then bif inB x.2.1 t.length then again (if t.getD x.2.1.toNat 0>x.1 then t.getD x.2.1.toNat 0 else x.1,IntKind.wrap IntKind.i64 (x.2.1+1),PUnit.unit) else none else bif v7&&(v5||nzB t_1.1) then bif v7&&v7 then bif v7 then some (bif t_1.2.1 then decide (x.1<=v6) else false) else none else none else none) (0,0,PUnit.unit)
def pC (x0:(List Int)×List ((List Int)×Int×Int)):Option Bool:=xP lpK jnK kO kJ x0
abbrev t43:=((List Int)×List ((List Int)×Int×Int))->Option (Bool)
def xO (lp:Lp) (_:Jn) (x0:ByteArray×(List (ByteArray×Int×Int×Int))×Bool) (x1:ByteArray):Option Int :=
 lp (Int×Int×PUnit) Int (fun (again:Int×Int×PUnit->Option Int) (x:Int×Int×PUnit) =>
 let v6:Int×PUnit:=(IntKind.wrap .i64 (x.2.1+1),PUnit.unit);
 let v7:Bool:=inB x.2.1 x0.2.1.length;
 let v8:ByteArray×Int×Int×Int:=x0.2.1.getD x.2.1.toNat ({ data:={ toList:=[] } },0,0,0);bif decide (x.2.1<(↑x0.2.1.length:Int)) then bif v7 then bif List.beq (ByteArray.toList v8.1) (ByteArray.toList x1) then bif v7 then again (IntKind.wrap .i64 (x.1+v8.2.1),v6) else none else again (x.1,v6) else none else some x.1) (0,0,PUnit.unit)
def pW (x0:ByteArray×(List (ByteArray×Int×Int×Int))×Bool) (x1:ByteArray):Option Int:=xO lpK jnK x0 x1
abbrev OC:=(ByteArray×(List (ByteArray×Int×Int×Int))×Bool)->(ByteArray)->Option (Int)
def tS (lp:Lp) (_:Jn) (pW:OC) (x0:(List (ByteArray×Int))×List (ByteArray×(List (ByteArray×Int×Int×Int))×Bool)):Option (List (List Int)) :=
 lp ((List Nat×List (Option (List Int)))×Int×PUnit) (List (List Int)) (fun (again:(List Nat×List (Option (List Int)))×Int×PUnit->Option (List (List Int))) (x:(List Nat × List (Option (List Int)))×Int×PUnit)=>bif decide (x.2.1<(↑x0.1.length:Int)) then lp (List Int×Int×PUnit) (List (List Int)) (fun (again_1:List Int×Int × PUnit->Option (List (List Int))) (x_1:List Int×Int×PUnit)=>bif decide (x_1.2.1<(↑x0.2.length:Int)) then bif inB x_1.2.1 x0.2.length then bif inB x.2.1 x0.1.length then af (pW (x0.2.getD x_1.2.1.toNat ({ data:={ toList:=[] } },[],false)) (x0.1.getD x.2.1.toNat ({ data:={ toList:=[] } },0)).1) fun (t:Int)=>bif dU (List.length x_1.1+1) 8 then again_1 (x_1.1++[t],IntKind.wrap .i64 (x_1.2.1 + 1),PUnit.unit) else none else none else none else bif dU (List.length x.1.1+1) 24 then again ((x.1.1++[List.length x.1.2+0], x.1.2++[some x_1.1]),IntKind.wrap .i64 (x.2.1+1),PUnit.unit) else none) ([],0,PUnit.unit) else bif List.all x.1.1 fun (x_1:Nat)=>fB x.1.2 x_1 then some (List.map (fun (x_1:Nat)=>br x.1.2 x_1) x.1.1) else none) (([],[]),0,PUnit.unit)
def fT (x0:(List (ByteArray×Int))×List (ByteArray×(List (ByteArray×Int×Int×Int))×Bool)):Option (List (List Int)):=tS lpK jnK pW x0
abbrev t81:=((List (ByteArray×Int))×List (ByteArray×(List (ByteArray×Int×Int×Int))×Bool))->Option (List (List Int))
def sP (lp:Lp) (_:Jn) (fT:t81) (x0:(List (ByteArray×Int))×List (ByteArray×(List (ByteArray×Int×Int×Int))×Bool)) (x1:List Int):Option ((List Int)×List ((List Int)×Int×Int)) :=
 af (fT x0) fun (t:List (List Int))=>lp (Int×List Int×List (List Int×Int×Int)×PUnit) (List Int×List (List Int×Int×Int)) (fun (again:Int×List Int×List (List Int×Int×Int)×PUnit->Option (List Int×List (List Int×Int×Int))) (x:Int×List Int×List (List Int×Int×Int)×PUnit)=>bif decide (x.1<(↑x0.1.length:Int)) then bif inB x.1 t.length then bif inB x.1 x0.1.length then bif dU (List.length x.2.2.1+1) 40 then again (IntKind.wrap IntKind.i64 (x.1+1),x.2.1,x.2.2.1++[(t.getD x.1.toNat [],3,(x0.1.getD x.1.toNat ({ data:={ toList:=[] } },(0 : Int))).2)],PUnit.unit) else none else none else none else some (x.2.1,x.2.2.1)) (0,x1,[],PUnit.unit)
def fq (x0:(List (ByteArray×Int))×List (ByteArray×(List (ByteArray×Int×Int×Int))×Bool)) (x1:List Int):Option ((List Int)×List ((List Int)×Int×Int)):=sP lpK jnK fT x0 x1
abbrev t44:=((List (ByteArray×Int))×List (ByteArray×(List (ByteArray×Int×Int×Int))×Bool))->(List Int)->Option ((List Int)×List ((List Int)×Int×Int))
def xq (lp:Lp) (_:Jn) (x0:(List (ByteArray×Int))×List (ByteArray×(List (ByteArray×Int×Int×Int))×Bool)):Option (List Int) :=
 lp (List Int×Int×PUnit) (List Int) (fun (again:List Int×Int×PUnit->Option (List Int)) (x:List Int×Int×PUnit)=>bif decide (x.2.1<(↑x0.2.length:Int)) then bif dU (List.length x.1+1) 8 then again (x.1++[1],IntKind.wrap .i64 (x.2.1+1),PUnit.unit) else none else some x.1) ([],(0 : Int),PUnit.unit)
def im (x0:(List (ByteArray×Int))×List (ByteArray×(List (ByteArray×Int×Int×Int))×Bool)):Option (List Int):=xq lpK jnK x0
abbrev t45:=((List (ByteArray×Int))×List (ByteArray×(List (ByteArray×Int×Int×Int))×Bool))->Option (List Int)
def xT (_:Lp) (_:Jn) (pC:t43) (fq:t44) (im:t45) (x0:(List (ByteArray×Int))×List (ByteArray×(List (ByteArray×Int×Int×Int))×Bool)):Option Bool :=
 af (im x0) fun (t:List Int)=>af (fq x0 t) fun (t:List Int×List (List Int×Int×Int))=>af (pC t) fun (t:Bool)=>some t
def iq (x0:(List (ByteArray×Int))×List (ByteArray×(List (ByteArray×Int×Int×Int))×Bool)):Option Bool:=xT lpK jnK pC fq im x0
abbrev t16:=((List (ByteArray×Int))×List (ByteArray×(List (ByteArray×Int×Int×Int))×Bool))->Option (Bool)
def mu (_:Lp) (_:Jn) (x0:(List (Int×Int))×Bool×List (Int×Int)):Option Bool :=
 
 let v3:Bool:=decide ((↑x0.1.length:Int)>30);
 let v4:Bool:=!v3;
 let v5:Bool:=!v4||v4;bif v5 then bif v5 then bif v5 then bif v3||v4 then some (bif v3 then true else decide ((↑x0.2.2.length:Int)>30)) else none else none else none else none
def aJ (x0:(List (Int×Int))×Bool×List (Int×Int)):Option Bool:=mu lpK jnK x0
abbrev t17:=((List (Int×Int))×Bool×List (Int×Int))->Option (Bool)
def k17 (aJ:t17):Ctr:=⟨[T30],[],[],.one .bool,fun x _ _=>aJ x.1⟩
def c17:Ctr:=k17 aJ
theorem e17 (lp:Lp) (jn:Jn):∀(x:TsS c17.as) (F:TsF c17.fs) (y:TsS c17.cs),mu lp jn x.1=bg lp jn (cx [] [(32,r32),(92,r92),(112,aU)]) aj 4 17 f17 c17 x F y:=fun x F y=>by kernel_rfl
theorem Oo:c17.ok prog 17:=Ctr.of_den (an (q32)) aw (hl:=aj) (d:=4) func17 rfl (by decide) (e17 lpK jnK)
def nu (lp:Lp) (_:Jn) (cq:IZ) (x0:List (Int×Int)):Option Bool :=
 lp (Int×PUnit) Bool (fun (again:Int×PUnit->Option Bool) (x:Int×PUnit)=>bif decide (x.1<(↑x0.length:Int)) then bif inB x.1 x0.length then af (cq (x0.getD x.1.toNat (0,0))) fun (t:Bool)=>bif !t then some false else again (IntKind.wrap .i64 (x.1+1),PUnit.unit) else none else some true) (0,PUnit.unit)
def cE (x0:List (Int×Int)):Option Bool:=nu lpK jnK cq x0
abbrev t70:=(List (Int×Int))->Option (Bool)
def k70 (cE:t70):Ctr:=⟨[(.sl T47)],[],[],.one .bool,fun x _ _=>cE x.1⟩
def c70:Ctr:=k70 cE
theorem e70 (lp:Lp) (jn:Jn) (cq:IZ):∀(x:TsS c70.as) (F:TsF c70.fs) (y:TsS c70.cs),nu lp jn cq x.1=bg lp jn (cx [(108,LL cq)] [(32,r32),(92,r92),(112,aU)]) aj 4 70 f70 c70 x F y:=fun x F y=>by kernel_rfl
theorem Oc:c70.ok prog 70:=Ctr.of_den (an (aa (q32) (by kernel_rfl) NQ)) aw (hl:=aj) (d:=4) func70 rfl (by decide) (e70 lpK jnK cq)
def vd (_:Lp) (_:Jn) (x0:(List (Int×Int))×Bool×List (Int×Int)):Option (List (Int×Int)) :=
 bif x0.2.1 then some x0.1 else some x0.2.2
def nq (x0:(List (Int×Int))×Bool×List (Int×Int)):Option (List (Int×Int)):=vd lpK jnK x0
abbrev t71:=((List (Int×Int))×Bool×List (Int×Int))->Option (List (Int×Int))
def vo (_:Lp) (_:Jn) (cE:t70) (nq:t71) (x0:(List (Int×Int))×Bool×List (Int×Int)):Option Int :=
 af (cE x0.1) fun (t:Bool) =>
 let v4:Bool:=!t;
 let v5:Bool:=!v4;
 let v6:Bool:=!v5||v5;bif v6 then bif v6 then af (bif v5 then cE x0.2.2 else some false) fun (t:Bool)=>bif v6 then bif v4||v5 then bif bif v4 then true else !t then some 1 else af (nq x0) fun (t:List (Int×Int))=>bif decide ((↑t.length:Int)>0) then some 19 else some 0 else none else none else none else none
def nn (x0:(List (Int×Int))×Bool×List (Int×Int)):Option Int:=vo lpK jnK cE nq x0
abbrev t31:=((List (Int×Int))×Bool×List (Int×Int))->Option (Int)
def xW (_:Lp) (_:Jn) (x0:(List (Int×Int))×Bool×List (Int×Int)):Option (List (Int×Int)) :=
 bif x0.2.1 then some x0.2.2 else some x0.1
def pT (x0:(List (Int×Int))×Bool×List (Int×Int)):Option (List (Int×Int)):=xW lpK jnK x0
abbrev t46:=((List (Int×Int))×Bool×List (Int×Int))->Option (List (Int×Int))
def ze (_:Lp) (_:Jn) (x0:Int) (x1:Int):Option (Int×Int) :=
 
 let v4:Int:=2 ^ 32;
 let v5:Int:=Int.fdiv x0 v4;
 let v6:Int:=Int.fdiv x1 v4;
 let v7:Bool:=decide ((0:Int)<=32);
 let v8:Int:=IntKind.wrap .u64 (↑(Nat.land (Int.toNat (x1 % Int.ofNat 18446744073709551616)) (Int.toNat (4294967295 % Int.ofNat 18446744073709551616))) : Int);
 let v9:Int:=IntKind.wrap .u64 (↑(Nat.land (Int.toNat (x0 % Int.ofNat 18446744073709551616)) (Int.toNat (4294967295 % Int.ofNat 18446744073709551616))) : Int);
 let v10:Int:=IntKind.wrap .u64 (v9*v8);
 let v11:Int:=IntKind.wrap .u64 (IntKind.wrap .u64 (v5*v8)+Int.fdiv v10 v4);
 let v12:Int:=IntKind.wrap .u64 (IntKind.wrap .u64 (v9*v6)+IntKind.wrap .u64 (↑(Nat.land (Int.toNat (v11 % Int.ofNat 18446744073709551616)) (Int.toNat (4294967295 % Int.ofNat 18446744073709551616))):Int));bif v7 then bif v7 then bif v7 then bif v7 then bif v7 then bif v7 then some (IntKind.wrap .u64 (IntKind.wrap .u64 (IntKind.wrap .u64 (v5*v6)+Int.fdiv v11 v4)+Int.fdiv v12 v4),IntKind.wrap .u64 (IntKind.wrap .u64 (v12*v4)+IntKind.wrap IntKind.u64 (↑(Nat.land (Int.toNat (v10 % Int.ofNat 18446744073709551616)) (Int.toNat (4294967295 % Int.ofNat 18446744073709551616))):Int))) else none else none else none else none else none else none
def eC (x0:Int) (x1:Int):Option (Int×Int):=ze lpK jnK x0 x1
abbrev Kn:=(Int)->(Int)->Option (Int×Int)
def yr (lp:Lp) (_:Jn) (bN:B6) (bG:DC) (x0:Int×Int) (x1:Int×Int):Option ((Int×Int)×(Int×Int)×Unit) :=
 
 let v4:Bool:=nzB x1.2;
 let v5:Int:=2 ^ 63;
 let v6:Int:=2 ^ 1;
 let v7:Bool:=decide (x0.1=0);
 let v8:Bool:=decide ((0:Int)<=63);
 let v9:Bool:=decide ((0:Int)<=1);
 let v10:Bool:=!v7||v7;bif v10 then bif v10 then bif v10 then bif bif v7 then decide (x1.1=0) else false then bif v4 then bif v4 then some ((0,IntKind.wrap IntKind.u64 (Int.tdiv x0.2 x1.2)),(0,Int.tmod x0.2 x1.2),PUnit.unit) else none else none else lp (Int×(Int×Int)×(Int×Int)×(Int×Int)×PUnit) ((Int×Int) × (Int×Int)×PUnit) (fun (again:Int×(Int×Int)×(Int×Int)×(Int×Int)×PUnit->Option ((Int×Int)×(Int×Int)×PUnit)) (x:Int×(Int×Int)×(Int×Int)×(Int × Int)×PUnit) =>
 let v13:Int:=IntKind.wrap .i64 (x.1+1);
 let v14:Int:=IntKind.wrap .u64 (x.2.2.1.2*v6);
 let v15:Int:=IntKind.wrap .u64 (IntKind.wrap .u64 (x.2.2.1.1*v6)+Int.fdiv x.2.2.1.2 v5);
 let v16:Bool:=decide (Int.fdiv x.2.2.2.1.1 v5>0);
 let v17:Bool:=!v16;
 let v18:Int×Int:=(IntKind.wrap .u64 (IntKind.wrap .u64 (x.2.1.1*v6)+Int.fdiv x.2.1.2 v5),IntKind.wrap .u64 (x.2.1.2*v6));
 let v19:Int×Int:=(IntKind.wrap .u64 (IntKind.wrap .u64 (x.2.2.2.1.1*v6)+Int.fdiv x.2.2.2.1.2 v5),IntKind.wrap .u64 (IntKind.wrap IntKind.u64 (x.2.2.2.1.2*v6)+Int.fdiv x.2.1.1 v5));
 let v20:Bool:=!v17||v17;bif decide (x.1<128) then bif v8 then bif v9 then bif v8 then bif v9 then bif v8 then bif v9 then bif v8 then bif v9 then bif v9 then bif v8 then bif v9 then bif v20&&v20 then af (bif v17 then bN v19 x1 else some false) fun (t:Bool)=>bif v20 then bif v16||v17 then bif bif v16 then true else !t then af (bG v19 x1) fun (t:Int×Int)=>again (v13,v18,(v15,IntKind.wrap .u64 (v14+1)),t,PUnit.unit) else again (v13,v18,(v15,v14),v19,PUnit.unit) else none else none else none else none else none else none else none else none else none else none else none else none else none else none else some (x.2.2.1,x.2.2.2.1, PUnit.unit)) (0,x0,(0,0),(0,0),PUnit.unit) else none else none else none
def ou (x0:Int×Int) (x1:Int×Int):Option ((Int×Int)×(Int×Int)×Unit):=yr lpK jnK bN bG x0 x1
abbrev O9:=(Int×Int)->(Int×Int)->Option ((Int×Int)×(Int×Int)×Unit)
def wN (_:Lp) (_:Jn) (dz:H1) (ou:O9) (x0:Int×Int) (x1:Bool) (x2:Int×Int):Option ((Int×Int)×Int×Unit) :=
 bif decide (x2.1=0)&&(decide (x2.2=0)&&true) then some ((0,0),16,PUnit.unit) else af (dz x0 x2) fun (t:Int×Int)=>af (ou x0 t) fun (t_1:(Int×Int)×(Int×Int)×PUnit) =>
 let v7:Int:=IntKind.wrap .i64 t_1.1.2;
 let v8:Bool:=decide (t_1.1.1>0);
 let v9:Bool:=!v8;
 let v10:Bool:=bif v8 then true else decide (t_1.1.2>1152921504606846976);
 let v11:Bool:=!v9||v9;
 let v12:Bool:=!v10;
 let v13:Bool:=!v12||v12;af (ou x2 t) fun (t:(Int×Int)×(Int×Int)×PUnit) =>
 let v15:Int:=IntKind.wrap .i64 t.1.2;
 let v16:Bool:=bif v10 then true else decide (t.1.1>0);
 let v17:Bool:=!v16;
 let v18:Bool:=!v17||v17;bif v11 then bif v11 then bif v8||v9 then bif v13 then bif v13 then bif v10||v12 then bif v18 then bif v18 then bif v16||v17 then bif bif v16 then true else decide (t.1.2>1152921504606846976) then some ((0,0),5,PUnit.unit) else bif x1 then some ((IntKind.wrap .i64 (0 - v7), v15),0,PUnit.unit) else some ((v7,v15),0,PUnit.unit) else none else none else none else none else none else none else none else none else none
def fK (x0:Int×Int) (x1:Bool) (x2:Int×Int):Option ((Int×Int)×Int×Unit):=wN lpK jnK dz ou x0 x1 x2
abbrev NK:=(Int×Int)->(Bool)->(Int×Int)->Option ((Int×Int)×Int×Unit)
def vl (_:Lp) (_:Jn) (aP:C6) (eC:Kn) (fK:NK) (x0:Int×Int) (x1:Int×Int):Option ((Int×Int)×Int×Unit) :=
 af (aP x0.1) fun (t:Int)=>af (aP x1.1) fun (t_1:Int)=>af (eC t t_1) fun (t:Int×Int)=>af (aP x0.2) fun (t_2:Int)=>af (aP x1.2) fun (t_3:Int)=>af (eC t_2 t_3) fun (t_4:Int×Int)=>af (fK t (!decide (decide (x0.1<0)=decide (x1.1<0))) t_4) fun (t:(Int×Int)×Int×PUnit)=>some (t.1,t.2.1,PUnit.unit)
def gw (x0:Int×Int) (x1:Int×Int):Option ((Int×Int)×Int×Unit):=vl lpK jnK aP eC fK x0 x1
abbrev Mj:=(Int×Int)->(Int×Int)->Option ((Int×Int)×Int×Unit)
def yI (_:Lp) (_:Jn) (bN:B6) (cV:I5) (bG:DC) (aP:C6) (eC:Kn) (fK:NK) (x0:Int×Int) (x1:Int×Int):Option ((Int×Int)×Int×Unit) :=
 
 let v4:Bool:=decide (x0.1<0);af (aP x0.1) fun (t:Int)=>af (aP x1.2) fun (t_1:Int)=>af (eC t t_1) fun (t:Int×Int)=>af (aP x1.1) fun (t_2:Int)=>af (aP x0.2) fun (t_3:Int)=>af (eC t_2 t_3) fun (t_4:Int×Int)=>af (aP x0.2) fun (t_5:Int)=>af (aP x1.2) fun (t_6:Int)=>af (eC t_5 t_6) fun (t_7:Int×Int)=>bif decide (v4=decide (x1.1<0)) then af (cV t t_4) fun (t:Int×Int) =>af (fK t v4 t_7) fun (t:(Int×Int)×Int×PUnit)=>some (t.1,t.2.1,PUnit.unit) else af (bN t t_4) fun (t_8:Bool)=>bif t_8 then af (bG t_4 t) fun (t:Int×Int)=>af (fK t (decide (x1.1<0)) t_7) fun (t:(Int×Int)×Int×PUnit)=>some (t.1,t.2.1,PUnit.unit) else af (bG t t_4) fun (t:Int×Int)=>af (fK t v4 t_7) fun (t:(Int×Int)×Int×PUnit)=>some (t.1,t.2.1,PUnit.unit)
def fU (x0:Int×Int) (x1:Int×Int):Option ((Int×Int)×Int×Unit):=yI lpK jnK bN cV bG aP eC fK x0 x1
abbrev KY:=(Int×Int)->(Int×Int)->Option ((Int×Int)×Int×Unit)
def yQ (lp:Lp) (_:Jn) (aK:t24) (gw:Mj) (fU:KY) (x0:List Int) (x1:List (Int×Int)):Option ((Int×Int)×Int×Unit) :=
 af (aK 0) fun (t:Int×Int)=>lp (Int×(Int×Int)×(Int×Int)×PUnit) ((Int×Int)×Int×PUnit) (fun (again:Int×(Int×Int)×(Int×Int)×PUnit->Option ((Int×Int)×Int×PUnit)) (x:Int×(Int×Int)×(Int×Int)×PUnit)=>bif decide (x.1<(↑x0.length:Int)) then bif inB x.1 x0.length then af (aK (x0.getD x.1.toNat 0)) fun (t:Int×Int)=>bif inB x.1 x1.length then af (gw t (x1.getD x.1.toNat (0,0))) fun (t:(Int×Int)×Int×PUnit)=>bif !decide (t.2.1=0) then some ((0,0),t.2.1,PUnit.unit) else af (fU x.2.2.1 t.1) fun (t:(Int × Int)×Int×PUnit)=>bif !decide (t.2.1=0) then some ((0,0),t.2.1,PUnit.unit) else again (IntKind.wrap .i64 (x.1+1), x.2.1,t.1,PUnit.unit) else none else none else some (x.2.2.1,0,PUnit.unit)) (0,(0,0),t,PUnit.unit)
def jr (x0:List Int) (x1:List (Int×Int)):Option ((Int×Int)×Int×Unit):=yQ lpK jnK aK gw fU x0 x1
abbrev t83:=(List Int)->(List (Int×Int))->Option ((Int×Int)×Int×Unit)
def uF (lp:Lp) (_:Jn) (x0:(List Int)×List ((List Int)×Int×Int)) (x1:Int):Option (List Int) :=
 lp (List Int×Int×PUnit) (List Int) (fun (again:List Int×Int×PUnit->Option (List Int)) (x:List Int×Int×PUnit)=>bif decide (x.2.1<(↑x0.2.length:Int)) then bif inB x.2.1 x0.2.length then bif inB x1 (List.length (x0.2.getD x.2.1.toNat ([],0,0)).1) then bif dU (List.length x.1+(1 : Nat)) 8 then again (x.1++[List.getD (x0.2.getD x.2.1.toNat ([],0,0)).1 x1.toNat 0],IntKind.wrap .i64 (x.2.1 + 1),PUnit.unit) else none else none else none else some x.1) ([],0,PUnit.unit)
def ms (x0:(List Int)×List ((List Int)×Int×Int)) (x1:Int):Option (List Int):=uF lpK jnK x0 x1
abbrev Oi:=((List Int)×List ((List Int)×Int×Int))->(Int)->Option (List Int)
def zn (_:Lp) (_:Jn) (bN:B6) (aP:C6) (eC:Kn) (x0:Int×Int) (x1:Int×Int):Option Int :=
 
 let v4:Bool:=decide (x0.1<0);
 let v5:Bool:=decide (x0.1>=0);
 let v6:Bool:=!v4||v4;
 let v7:Bool:=!v5||v5;af (aP x0.1) fun (t:Int)=>af (aP x1.2) fun (t_1:Int)=>af (eC t t_1) fun (t:Int×Int)=>af (aP x1.1) fun (t_2:Int)=>af (aP x0.2) fun (t_3:Int)=>af (eC t_2 t_3) fun (t_4:Int×Int)=>bif v6 then bif v6 then bif v6 then bif bif v4 then decide (x1.1>=0) else false then some (-1) else bif v7 then bif v7 then bif v7 then bif bif v5 then decide (x1.1<0) else false then some 1 else bif decide (t.1=t_4.1)&&(decide (t.2=t_4.2)&&true) then some 0 else af (bN t t_4) fun (t:Bool)=>bif decide (t=v5) then some (-1) else some 1 else none else none else none else none else none else none
def jC (x0:Int×Int) (x1:Int×Int):Option Int:=zn lpK jnK bN aP eC x0 x1
abbrev Mf:=(Int×Int)->(Int×Int)->Option (Int)
def ve (lp:Lp) (_:Jn) (aK:t24) (jr:t83) (ms:Oi) (jC:Mf) (x0:(List Int)×List ((List Int)×Int×Int)) (x1:List (Int×Int)) (x2:List Int):Option (Bool×Int×Unit) :=
 lp (Bool×Int×PUnit) (Bool×Int×PUnit) (fun (again:Bool×Int×PUnit->Option (Bool×Int×PUnit)) (x:Bool×Int×PUnit) =>
 let v7:Bool:=!x.1;
 let v8:Bool:=v7||x.1;bif decide (x.2.1<(↑x2.length:Int)) then af (ms x0 x.2.1) fun (t:List Int)=>af (jr t x1) fun (t:(Int×Int) × Int×PUnit)=>bif !decide (t.2.1=0) then some (false,t.2.1,PUnit.unit) else bif v8&&(v8&&(v7||inB x.2.1 x2.length)) then bif v8 then bif v8 then af (bif x.1 then aK (x2.getD x.2.1.toNat 0) else some (0,0)) fun (t_1:Int×Int)=>bif v8&&v8 then af (bif x.1 then jC t.1 t_1 else some 0) fun (t:Int)=>bif v8 then bif v8 then again (bif x.1 then decide (t<=0) else false,IntKind.wrap .i64 (x.2.1+(1 : Int)),PUnit.unit) else none else none else none else none else none else none else some (x.1,0,PUnit.unit)) (true,0,PUnit.unit)
def nO (x0:(List Int)×List ((List Int)×Int×Int)) (x1:List (Int×Int)) (x2:List Int):Option (Bool×Int×Unit):=ve lpK jnK aK jr ms jC x0 x1 x2
abbrev t82:=((List Int)×List ((List Int)×Int×Int))->(List (Int×Int))->(List Int)->Option (Bool×Int×Unit)
def uQ (lp:Lp) (_:Jn) (x0:(List Int)×List ((List Int)×Int×Int)):Option (List Int) :=
 lp (List Int×Int×PUnit) (List Int) (fun (again:List Int×Int×PUnit->Option (List Int)) (x:List Int×Int×PUnit)=>bif decide (x.2.1<(↑x0.2.length:Int)) then bif inB x.2.1 x0.2.length then bif dU (List.length x.1+1) 8 then again (x.1++[(x0.2.getD x.2.1.toNat ([],0,(0 : Int))).2.2],IntKind.wrap .i64 (x.2.1+1),PUnit.unit) else none else none else some x.1) ([],0,PUnit.unit)
def mg (x0:(List Int)×List ((List Int)×Int×Int)):Option (List Int):=uQ lpK jnK x0
abbrev t84:=((List Int)×List ((List Int)×Int×Int))->Option (List Int)
def xb (_:Lp) (_:Jn) (aK:t24) (jC:Mf) (x0:Int×Int):Option Int :=
 af (aK 0) fun (t:Int×Int)=>af (jC x0 t) fun (t:Int)=>some t
def gt (x0:Int×Int):Option Int:=xb lpK jnK aK jC x0
abbrev t85:=(Int×Int)->Option (Int)
def tM (lp:Lp) (_:Jn) (gt:t85) (x0:(List Int)×List ((List Int)×Int×Int)) (x1:List (Int×Int)):Option Bool :=
 lp (Int×PUnit) Bool (fun (again:Int×PUnit->Option Bool) (x:Int×PUnit) =>
 let v6:Bool:=inB x.1 x1.length;
 let v7:Bool:=inB x.1 x0.2.length;
 let v8:Bool:=decide ((x0.2.getD x.1.toNat ([],0,0)).2.1=1);
 let v9:Bool:=decide ((x0.2.getD x.1.toNat ([],0,0)).2.1=2);
 let v10:Bool:=!v8;
 let v11:Bool:=v10||v8;bif decide (x.1<(↑x1.length:Int)) then bif v7 then bif v11&&(v11&&(v10||v6)) then bif v11 then bif v11 then af (bif v8 then gt (x1.getD x.1.toNat (0,0)) else some 0) fun (t:Int) =>
 let v13:Bool:=bif v8 then decide (t>0) else false;
 let v14:Bool:=!v13;
 let v15:Bool:=!v14;
 let v16:Bool:=v14&&v9;
 let v17:Bool:=!v16;
 let v18:Bool:=v15||v14;
 let v19:Bool:=v17||v16;bif v11 then bif v11 then bif v18 then bif v18&&(v18&&(v15||v7)) then bif v18 then bif v18 then bif v18 then bif v18 then bif v19&&(v19&&(v17 || v6)) then bif v19 then bif v19 then af (bif v16 then gt (x1.getD x.1.toNat (0,0)) else some 0) fun (t:Int)=>bif v19 then bif (v15 || v18)&&(v15||(!v9||(v15||v16))) then bif v13||v14 then bif bif v13 then true else bif v9 then decide (t<0) else false then some false else again (IntKind.wrap IntKind.i64 (x.1+1),PUnit.unit) else none else none else none else none else none else none else none else none else none else none else none else none else none else none else none else none else none else none else some true) (0,PUnit.unit)
def lO (x0:(List Int)×List ((List Int)×Int×Int)) (x1:List (Int×Int)):Option Bool:=tM lpK jnK gt x0 x1
abbrev t86:=((List Int)×List ((List Int)×Int×Int))->(List (Int×Int))->Option (Bool)
def sR (_:Lp) (_:Jn) (jr:t83) (nO:t82) (mg:t84) (gt:t85) (lO:t86) (x0:(List Int)×List ((List Int)×Int×Int)) (x1:List (Int×Int)):Option (Bool×Int×Unit) :=
 bif decide (0<=(↑x0.1.length:Int))&&dU (Int.toNat (↑x0.1.length:Int)) 8 then af (nO x0 x1 (List.replicate (Int.toNat (↑x0.1.length:Int)) 0)) fun (t:Bool×Int×PUnit) =>
 let v5:Bool:=!t.1||t.1;bif !decide (t.2.1=0) then some (false,t.2.1,PUnit.unit) else af (mg x0) fun (t_1:List Int)=>af (jr t_1 x1) fun (t_2:(Int×Int)×Int×PUnit)=>bif !decide (t_2.2.1=0) then some (false,t_2.2.1,PUnit.unit) else bif v5 then af (bif t.1 then gt t_2.1 else some 0) fun (t_3:Int) =>
 let v9:Bool:=bif t.1 then decide (t_3>0) else false;
 let v10:Bool:=!v9||v9;bif v5 then bif v5 then bif v10&&v10 then af (bif v9 then lO x0 x1 else some false) fun (t:Bool)=>bif v10 then some (bif v9 then t else false,0,PUnit.unit) else none else none else none else none else none else none
def kP (x0:(List Int)×List ((List Int)×Int×Int)) (x1:List (Int×Int)):Option (Bool×Int×Unit):=sR lpK jnK jr nO mg gt lO x0 x1
abbrev t47:=((List Int)×List ((List Int)×Int×Int))->(List (Int×Int))->Option (Bool×Int×Unit)
def vq (_:Lp) (_:Jn) (aX:t14) (cE:t70) (x0:(List (ByteArray×Int))×List (ByteArray×(List (ByteArray×Int×Int×Int))×Bool)) (x1:List (Int×Int)):Option Int :=
 af (aX x0) fun (t:Bool) =>
 let v5:Bool:=!t;
 let v6:Bool:=!v5;
 let v7:Bool:=!v6||v6;bif v7 then af (bif v6 then cE x1 else some false) fun (t:Bool)=>bif v7 then bif v5||v6 then bif bif v5 then true else !t then some 1 else bif !decide ((↑x1.length:Int)=(↑x0.2.length:Int)) then some 3 else some 0 else none else none else none
def oe (x0:(List (ByteArray×Int))×List (ByteArray×(List (ByteArray×Int×Int×Int))×Bool)) (x1:List (Int×Int)):Option Int:=vq lpK jnK aX cE x0 x1
abbrev OM:=((List (ByteArray×Int))×List (ByteArray×(List (ByteArray×Int×Int×Int))×Bool))->(List (Int×Int))->Option (Int)
def zQ (lp:Lp) (_:Jn) (aK:t24) (gw:Mj) (fU:KY) (x0:List Int) (x1:List (Int×Int)):Option ((Int×Int)×Int×Unit) :=
 af (aK 0) fun (t:Int×Int)=>lp (Int×(Int×Int)×(Int×Int)×PUnit) ((Int×Int)×Int×PUnit) (fun (again:Int×(Int×Int)×(Int×Int)×PUnit->Option ((Int×Int)×Int×PUnit)) (x:Int×(Int×Int)×(Int×Int)×PUnit)=>bif decide (x.1<(↑x1.length:Int)) then bif inB x.1 x0.length then af (aK (x0.getD x.1.toNat 0)) fun (t:Int×Int)=>bif inB x.1 x1.length then af (gw t (x1.getD x.1.toNat (0,0))) fun (t:(Int×Int)×Int×PUnit)=>bif !decide (t.2.1=0) then some ((0,0),t.2.1,PUnit.unit) else af (fU x.2.2.1 t.1) fun (t:(Int × Int)×Int×PUnit)=>bif !decide (t.2.1=0) then some ((0,0),t.2.1,PUnit.unit) else again (IntKind.wrap .i64 (x.1+1), x.2.1,t.1,PUnit.unit) else none else none else some (x.2.2.1,0,PUnit.unit)) (0,(0,0),t,PUnit.unit)
def rp (x0:List Int) (x1:List (Int×Int)):Option ((Int×Int)×Int×Unit):=zQ lpK jnK aK gw fU x0 x1
abbrev OD:=(List Int)->(List (Int×Int))->Option ((Int×Int)×Int×Unit)
def zm (_:Lp) (_:Jn) (x0:Int×Int):Option (Int×Int) :=
 some (IntKind.wrap .i64 (0 - x0.1),x0.2)
def rK (x0:Int×Int):Option (Int×Int):=zm lpK jnK x0
abbrev Pb:=(Int×Int)->Option (Int×Int)
def yn (_:Lp) (_:Jn) (fU:KY) (rK:Pb) (x0:Int×Int) (x1:Int×Int):Option ((Int×Int)×Int×Unit) :=
 af (rK x1) fun (t:Int×Int)=>af (fU x0 t) fun (t:(Int×Int)×Int×PUnit)=>some (t.1,t.2.1,PUnit.unit)
def rr (x0:Int×Int) (x1:Int×Int):Option ((Int×Int)×Int×Unit):=yn lpK jnK fU rK x0 x1
abbrev P6:=(Int×Int)->(Int×Int)->Option ((Int×Int)×Int×Unit)
def ra (lp:Lp) (_:Jn) (aK:t24) (fT:t81) (oe:OM) (rp:OD) (rr:P6) (x0:(List (ByteArray×Int))×List (ByteArray×(List (ByteArray×Int×Int×Int))×Bool)) (x1:List (Int×Int)):Option ((List (Int×Int))×Int×Unit) :=
 af (oe x0 x1) fun (t:Int)=>bif !decide (t=0) then some ([],t,PUnit.unit) else af (fT x0) fun (t:List (List Int))=>lp (List (Int×Int)×Int × PUnit) (List (Int×Int)×Int×PUnit) (fun (again:List (Int×Int)×Int×PUnit->Option (List (Int×Int)×Int×PUnit)) (x:List (Int×Int)×Int×PUnit)=>bif decide (x.2.1<(↑x0.1.length:Int)) then bif inB x.2.1 t.length then af (rp (t.getD x.2.1.toNat []) x1) fun (t:(Int×Int)×Int×PUnit) =>bif !decide (t.2.1=0) then some ([],t.2.1,PUnit.unit) else bif inB x.2.1 x0.1.length then af (aK (x0.1.getD x.2.1.toNat ({ data:={ toList:=[] } },0)).2) fun (t_1:Int×Int)=>af (rr t_1 t.1) fun (t:(Int×Int)×Int×PUnit)=>bif !decide (t.2.1=0) then some ([],t.2.1,PUnit.unit) else bif dU (List.length x.1+1) 16 then again (x.1++[t.1],IntKind.wrap .i64 (x.2.1+1),PUnit.unit) else none else none else none else some (x.1,0,PUnit.unit)) ([],0,PUnit.unit)
def ja (x0:(List (ByteArray×Int))×List (ByteArray×(List (ByteArray×Int×Int×Int))×Bool)) (x1:List (Int×Int)):Option ((List (Int×Int))×Int×Unit):=ra lpK jnK aK fT oe rp rr x0 x1
abbrev t87:=((List (ByteArray×Int))×List (ByteArray×(List (ByteArray×Int×Int×Int))×Bool))->(List (Int×Int))->Option ((List (Int×Int))×Int×Unit)
def vp (lp:Lp) (_:Jn) (aK:t24) (ja:t87) (x0:(List (ByteArray×Int))×List (ByteArray×(List (ByteArray×Int×Int×Int))×Bool)) (x1:List (Int×Int)):Option (Bool×Int×Unit) :=
 af (ja x0 x1) fun (t:List (Int×Int)×Int×PUnit)=>bif !decide (t.2.1=0) then some (false,t.2.1,PUnit.unit) else lp (Int×PUnit) (Bool×Int × PUnit) (fun (again:Int×PUnit->Option (Bool×Int×PUnit)) (x:Int×PUnit) =>
 let v7:Int×Int:=t.1.getD x.1.toNat (0,0);bif decide (x.1<(↑t.1.length:Int)) then bif inB x.1 t.1.length then af (aK 0) fun (t:Int×Int)=>bif !(decide (v7.1=t.1)&&(decide (v7.2=t.2)&&true)) then some (false,0,PUnit.unit) else again (IntKind.wrap IntKind.i64 (x.1+1),PUnit.unit) else none else some (true,0,PUnit.unit)) (0,PUnit.unit)
def nW (x0:(List (ByteArray×Int))×List (ByteArray×(List (ByteArray×Int×Int×Int))×Bool)) (x1:List (Int×Int)):Option (Bool×Int×Unit):=vp lpK jnK aK ja x0 x1
abbrev t48:=((List (ByteArray×Int))×List (ByteArray×(List (ByteArray×Int×Int×Int))×Bool))->(List (Int×Int))->Option (Bool×Int×Unit)
def vk (lp:Lp) (jn:Jn) (aX:t14) (fq:t44) (im:t45) (nn:t31) (pT:t46) (kP:t47) (nW:t48) (x0:(List (ByteArray×Int))×List (ByteArray×(List (ByteArray×Int×Int×Int))×Bool)) (x1:(List (Int×Int))×Bool×List (Int×Int)):Option (Bool×Int×Unit) :=
 af (aX x0) fun (t:Bool)=>bif !t then some (false,1,PUnit.unit) else af (nn x1) fun (t:Int)=>bif !decide (t=0) then some (false,t, PUnit.unit) else af (pT x1) fun (t:List (Int×Int))=>jn (Int×PUnit) (Bool×Int×PUnit) (fun (x:Int×PUnit)=>bif !decide ((↑t.length:Int)=x.1) then some (false,3,PUnit.unit) else bif x1.2.1 then af (im x0) fun (t_1:List Int)=>af (fq x0 t_1) fun (t_2:List Int×List (List Int×Int × Int))=>af (kP t_2 t) fun (t:Bool×Int×PUnit)=>some (t.1,t.2.1,PUnit.unit) else af (nW x0 t) fun (t_1:Bool×Int×PUnit)=>bif !decide (t_1.2.1=0) then some (false,t_1.2.1,PUnit.unit) else lp (Bool×Int×PUnit) (Bool×Int×PUnit) (fun (again:Bool×Int×PUnit->Option (Bool×Int×PUnit)) (x : Bool×Int×PUnit) =>
 let v11:Bool:=!x.1;
 let v12:Bool:=v11||x.1;bif decide (x.2.1<(↑t.length:Int)) then bif v12&&(v12&&(v11||inB x.2.1 t.length)) then bif v12 then bif v12 then bif v12 then bif v12 then again (bif x.1 then decide ((t.getD x.2.1.toNat (0,0)).1>=0) else false,IntKind.wrap .i64 (x.2.1+1), PUnit.unit) else none else none else none else none else none else some (x.1,0,PUnit.unit)) (t_1.1,0,PUnit.unit)) fun (j:Int×PUnit->Option (Bool×Int × PUnit))=>bif x1.2.1 then j ((↑x0.1.length:Int),PUnit.unit) else j ((↑x0.2.length:Int),PUnit.unit)
def cJ (x0:(List (ByteArray×Int))×List (ByteArray×(List (ByteArray×Int×Int×Int))×Bool)) (x1:(List (Int×Int))×Bool×List (Int×Int)):Option (Bool×Int×Unit):=vk lpK jnK aX fq im nn pT kP nW x0 x1
abbrev t18:=((List (ByteArray×Int))×List (ByteArray×(List (ByteArray×Int×Int×Int))×Bool))->((List (Int×Int))×Bool×List (Int×Int))->Option (Bool×Int×Unit)
def k18 (cJ:t18):Ctr:=⟨[T25,T30],[],[],.tup [.bool,i64],fun x _ _=>cJ x.1 x.2.1⟩
def ib (_:Lp) (_:Jn) (aR:t13) (bm:t15) (aA:t11) (ba:t12) (aX:t14) (iq:t16) (aJ:t17) (cJ:t18) (x0:(List (ByteArray×Int))×List (ByteArray×(List (ByteArray×Int×Int×Int))×Bool)):Option Bool :=
 af aA fun (t:Bool)=>bif !t then some false else af (ba x0) fun (t:Bool)=>bif !t then some true else af (aR x0) fun (t:(List (Int×Int) × Bool×List (Int×Int))×Int×PUnit) =>
 let v6:Bool:=decide (t.2.1=1);
 let v7:Bool:=decide (t.2.1=5);
 let v8:Bool:=!decide (t.2.1=0);
 let v9:Bool:=!v8;
 let v10:Bool:=!v6||v6;
 let v11:Bool:=!v7||v7;af (aX x0) fun (t_1:Bool)=>bif !t_1 then bif v10&&v10 then af (bif v6 then bm t.1 ([],false,[]) else some false) fun (t : Bool)=>bif v10 then some (bif v6 then t else false) else none else none else af (iq x0) fun (t_2:Bool)=>bif !t_2 then bif v11&&v11 then af (bif v7 then bm t.1 ([],false,[]) else some false) fun (t:Bool)=>bif v11 then some (bif v7 then t else false) else none else none else bif !v9||v9 then af (bif v9 then aJ t.1 else some false) fun (t_3:Bool)=>bif v8||v9 then bif bif v8 then true else t_3 then some false else af (cJ x0 t.1) fun (t:Bool×Int×PUnit) =>
 let v16:Bool:=decide (t.2.1=0);
 let v17:Bool:=bif v16 then t.1 else false;
 let v18:Bool:=!v17;bif !v16||v16 then bif !v18||v18 then bif v17||v18 then some (bif v17 then true else decide (t.2.1=5)) else none else none else none else none else none
def oJ (x0:(List (ByteArray×Int))×List (ByteArray×(List (ByteArray×Int×Int×Int))×Bool)):Option Bool:=ib lpK jnK aR bm aA ba aX iq aJ cJ x0
def c3:Ctr:=⟨[T25],[],[],.one .bool,fun x _ _=>oJ x.1⟩
theorem e3 (lp:Lp) (jn:Jn) (aR:t13) (bm:t15) (aA:t11) (ba:t12) (aX:t14) (iq:t16) (aJ:t17) (cJ:t18):∀(x:TsS c3.as) (F:TsF c3.fs) (y:TsS c3.cs),ib lp jn aR bm aA ba aX iq aJ cJ x.1=bg lp jn (cx [(18,k18 cJ),(17,k17 aJ),(16,⟨[T25],[],[],.one .bool,fun x _ _=>iq x.1⟩),(14,k14 aX),(12,k12 ba),(11,k11 aA),(15,k15 bm),(13,k13 aR)] [(32,r32),(92,r92),(112,aU)]) aj 4 3 f3 c3 x F y:=fun x F y=>by kernel_rfl
def gY (_:Lp) (_:Jn) (ay:t19) (aA:t11) (ba:t12) (aJ:t17) (cJ:t18) (x0:(List (ByteArray×Int))×List (ByteArray×(List (ByteArray×Int×Int×Int))×Bool)) (x1:(List (Int×Int))×Bool×List (Int×Int)):Option Bool :=
 af aA fun (t:Bool)=>bif !t then some false else af (ba x0) fun (t:Bool) =>
 let v6:Bool:=!t;
 let v7:Bool:=!v6;bif !v7||v7 then af (bif v7 then aJ x1 else some false) fun (t:Bool)=>bif v6||v7 then bif bif v6 then true else t then some true else af (ay x0 x1) fun (t:Bool×Int×PUnit)=>af (cJ x0 x1) fun (t_1:Bool×Int×PUnit) =>
 let v11:Bool:=decide (t.1=t_1.1);
 let v12:Bool:=!v11||v11;bif v12&&v12 then bif v12 then some (bif v11 then decide (t.2.1=t_1.2.1) else false) else none else none else none else none
def oM (x0:(List (ByteArray×Int))×List (ByteArray×(List (ByteArray×Int×Int×Int))×Bool)) (x1:(List (Int×Int))×Bool×List (Int×Int)):Option Bool:=gY lpK jnK ay aA ba aJ cJ x0 x1
def c4:Ctr:=⟨[T25,T30],[],[],.one .bool,fun x _ _=>oM x.1 x.2.1⟩
theorem e4 (lp:Lp) (jn:Jn) (ay:t19) (aA:t11) (ba:t12) (aJ:t17) (cJ:t18):∀(x:TsS c4.as) (F:TsF c4.fs) (y:TsS c4.cs),gY lp jn ay aA ba aJ cJ x.1 x.2.1=bg lp jn (cx [(18,k18 cJ),(17,k17 aJ),(12,k12 ba),(11,k11 aA),(19,k19 ay)] [(32,r32),(92,r92),(112,aU)]) aj 4 4 f4 c4 x F y:=fun x F y=>by kernel_rfl
def gR (_:Lp) (_:Jn) (cI:t20) (bR:t21) (aR:t13) (ay:t19) (aA:t11) (ba:t12) (aX:t14) (aJ:t17) (x0:(List (ByteArray×Int))×List (ByteArray×(List (ByteArray×Int×Int×Int))×Bool)) (x1:(List (Int×Int))×Bool×List (Int×Int)):Option Bool :=
 af aA fun (t:Bool)=>bif !t then some false else af (ba x0) fun (t:Bool) =>
 let v6:Bool:=!t;
 let v7:Bool:=!v6;
 let v8:Bool:=!v7||v7;bif v8 then af (bif v7 then aX x0 else some false) fun (t:Bool) =>
 let v10:Bool:=bif v6 then true else !t;
 let v11:Bool:=!v10;bif v8 then bif v6||v7 then bif !v11||v11 then af (bif v11 then aJ x1 else some false) fun (t:Bool)=>bif v10||v11 then bif bif v10 then true else t then some true else af (aR x0) fun (t:(List (Int×Int)×Bool×List (Int×Int))×Int×PUnit) =>
 let v14:Bool:=!t.1.2.1;
 let v15:Bool:=v14||t.1.2.1;
 let v16:Bool:=v14||v15;bif !decide (t.2.1=0) then some (decide (t.2.1=5)) else af (cI x0) fun (t_1:List (Int×Int)×Int×PUnit) =>
 let v18:Bool:=!decide (t_1.2.1=22);
 let v19:Bool:=!decide (t_1.2.1=0);
 let v20:Bool:=t.1.2.1&&!v18;
 let v21:Bool:=bif v18 then true else !decide ((↑t_1.1.length:Int)=0);
 let v22:Bool:=t.1.2.1&&!v21;
 let v23:Bool:=!v20||v20;af (bR x0) fun (t_2:List (Int×Int)×Int×PUnit) =>
 let v25:Bool:=bif v19 then true else !decide (t_2.2.1=12);
 let v26:Bool:=bif t.1.2.1 then bif v21 then true else !decide (t_2.2.1=0) else false;
 let v27:Bool:=!v26;
 let v28:Bool:=!v27;
 let v29:Bool:=v27&&v14;
 let v30:Bool:=!v29;
 let v31:Bool:=v29&&!v19;
 let v32:Bool:=v29&&!v25;
 let v33:Bool:=v28||v27;
 let v34:Bool:=v30||v29;
 let v35:Bool:=v30||v34;
 let v36:Bool:=!v32||v32;bif v15 then bif v15 then bif v23 then bif v23 then bif v16&&(v14||(v18||(v14||v20))) then bif v15 then bif !v22||v22 then bif v16&&(v14||(v21 || (v14||v22))) then bif v15 then bif v33 then bif v33 then bif v33 then bif v34 then bif v34 then bif !v31||v31 then bif v35&&(v30||(v19||(v30||v31))) then bif v34 then bif v36 then bif v36 then bif v35&&(v30||(v25||(v30||v32))) then bif (v28||v33)&&(v28||(!v14||(v28||v29))) then bif v26||v27 then bif bif v26 then true else bif v14 then bif v25 then true else !decide ((↑t_2.1.length:Int)=0) else false then some false else af (ay x0 t.1) fun (t_3:Bool×Int×PUnit) =>
 let v38:Bool:=!decide (t_3.2.1=5);
 let v39:Bool:=!decide (t_3.2.1=0);
 let v40:Bool:=!v38;
 let v41:Bool:=v40||v38;
 let v42:Bool:=v38&&!v39;bif v41 then bif v41 then bif !v42||v42 then bif (v40||v41)&&(v40||(v39||(v40||v42))) then bif v41 then bif bif v38 then bif v39 then true else !t_3.1 else false then some false else af (ay x0 x1) fun (t_4:Bool×Int×PUnit) =>
 let v44:Bool:=!decide (t_4.2.1=0);
 let v45:Bool:=!v44;
 let v46:Bool:=bif v44 then true else !t_4.1;
 let v47:Bool:=!v46;
 let v48:Bool:=!v47||v47;bif !v45||v45 then bif v44||v45 then bif v48 then bif v48 then bif v48&&v48 then bif v46||v47 then some (bif v46 then true else decide (x1.2.1 = t.1.2.1)) else none else none else none else none else none else none else none else none else none else none else none else none else none else none else none else none else none else none else none else none else none else none else none else none else none else none else none else none else none else none else none else none else none else none else none else none else none else none
def nV (x0:(List (ByteArray×Int))×List (ByteArray×(List (ByteArray×Int×Int×Int))×Bool)) (x1:(List (Int×Int))×Bool×List (Int×Int)):Option Bool:=gR lpK jnK cI bR aR ay aA ba aX aJ x0 x1
def c5:Ctr:=⟨[T25,T30],[],[],.one .bool,fun x _ _=>nV x.1 x.2.1⟩
theorem e5 (lp:Lp) (jn:Jn) (cI:t20) (bR:t21) (aR:t13) (ay:t19) (aA:t11) (ba:t12) (aX:t14) (aJ:t17):∀(x:TsS c5.as) (F:TsF c5.fs) (y:TsS c5.cs),gR lp jn cI bR aR ay aA ba aX aJ x.1 x.2.1=bg lp jn (cx [(17,k17 aJ),(14,k14 aX),(12,k12 ba),(11,k11 aA),(19,k19 ay),(13,k13 aR),(21,k21 bR),(20,k20 cI)] [(32,r32),(92,r92),(112,aU)]) aj 4 5 f5 c5 x F y:=fun x F y=>by kernel_rfl
def xf (lp:Lp) (_:Jn) (x0:(List (ByteArray×Int))×List (ByteArray×(List (ByteArray×Int×Int×Int))×Bool)):Option ((List (ByteArray×Int))×List (ByteArray×(List (ByteArray×Int×Int×Int))×Bool)) :=
 
 let v3:List (ByteArray×List (ByteArray×Int×Int×Int)×Bool):=[];bif dU (0+List.length x0.1) 24 then lp (Int×List (ByteArray×Int)×List (ByteArray × List (ByteArray×Int×Int×Int)×Bool)×PUnit) (List (ByteArray×Int)×List (ByteArray×List (ByteArray×Int×Int×Int)×Bool)) (fun (again:Int×List (ByteArray×Int) × List (ByteArray×List (ByteArray×Int×Int×Int)×Bool)×PUnit->Option (List (ByteArray×Int)×List (ByteArray×List (ByteArray×Int×Int×Int)×Bool))) (x:Int×List (ByteArray×Int)×List (ByteArray×List (ByteArray×Int×Int×Int)×Bool)×PUnit) =>
 let v6:ByteArray×List (ByteArray×Int×Int×Int)×Bool:=x0.2.getD x.1.toNat ({ data:={ toList:=[] } },[],false);bif decide (x.1<(↑x0.2.length : Int)) then bif inB x.1 x0.2.length then bif dU (0+List.length v6.2.1) 40 then bif dU (List.length x.2.2.1+1) 48 then again (IntKind.wrap .i64 (x.1+1),x.2.1,x.2.2.1++v6 ::v3,PUnit.unit) else none else none else none else some (x.2.1,x.2.2.1)) (0,x0.1, v3,PUnit.unit) else none
def io (x0:(List (ByteArray×Int))×List (ByteArray×(List (ByteArray×Int×Int×Int))×Bool)):Option ((List (ByteArray×Int))×List (ByteArray×(List (ByteArray×Int×Int×Int))×Bool)):=xf lpK jnK x0
def iM (lp:Lp) (jn:Jn) (bS:t23) (ay:t19) (aK:t24) (aA:t11) (ba:t12) (aX:t14) (aJ:t17) (io:((List (ByteArray×Int))×List (ByteArray×(List (ByteArray×Int×Int×Int))×Bool))->Option ((List (ByteArray×Int))×List (ByteArray×(List (ByteArray×Int×Int×Int))×Bool))) (x0:(List (ByteArray×Int))×List (ByteArray×(List (ByteArray×Int×Int×Int))×Bool)) (x1:(List (Int×Int))×Bool×List (Int×Int)):Option Bool :=
 af aA fun (t:Bool)=>bif !t then some false else af (ba x0) fun (t:Bool) =>
 let v6:Bool:=!t;
 let v7:Bool:=!v6;
 let v8:Bool:=!v7||v7;bif v8 then af (bif v7 then aX x0 else some false) fun (t:Bool) =>
 let v10:Bool:=bif v6 then true else !t;
 let v11:Bool:=!v10;bif v8 then bif v6||v7 then bif !v11||v11 then af (bif v11 then aJ x1 else some false) fun (t:Bool)=>bif v10||v11 then bif bif v10 then true else t then some true else af (ay x0 x1) fun (t:Bool×Int×PUnit) =>
 let v14:Bool:=!decide (t.2.1=0);
 let v15:Bool:=!v14;bif !v15||v15 then bif v14||v15 then bif bif v14 then true else !t.1 then some true else af (io x0) fun (t:List (ByteArray×Int)×List (ByteArray×List (ByteArray×Int×Int×Int)×Bool))=>lp (Int×List (ByteArray×Int)×PUnit) Bool (fun (again:Int×List (ByteArray×Int)×PUnit->Option Bool) (x:Int × List (ByteArray×Int)×PUnit) =>
 let v19:Bool:=inB x.1 x.2.1.length;
 let v20:Bool:=Nat.ble (Nat.succ x.1.toNat) x.2.1.length;
 let v21:ByteArray×Int:=x.2.1.getD x.1.toNat ({ data:={ toList:=[] } },0);
 let v22:List (ByteArray×Int)×List (ByteArray×List (ByteArray×Int×Int×Int)×Bool):=(x.2.1,t.2);bif decide (x.1<(↑t.1.length:Int)) then bif v19 then bif v20 then bif v19 then bif v20 then again (IntKind.wrap .i64 (x.1+1),x.2.1.set x.1.toNat (v21.1,IntKind.wrap .i64 (v21.2*(2 : Int))),PUnit.unit) else none else none else none else none else af (aX v22) fun (t:Bool)=>bif !t then some true else jn (List (Int×Int)×Bool×List (Int×Int) × PUnit) Bool (fun (x:List (Int×Int)×Bool×List (Int×Int)×PUnit)=>af (ay v22 (x.1,x.2.1,x.2.2.1)) fun (t:Bool×Int×PUnit) =>
 let v26:Bool:=decide (t.2.1=5);
 let v27:Bool:=decide (t.2.1=0);
 let v28:Bool:=!v26;
 let v29:Bool:=!v28;
 let v30:Bool:=v29||v28;bif v30 then bif v30 then bif (v29||v30)&&(v29||(!v27||(v29||v28&&v27))) then bif v26||v28 then some (bif v26 then true else bif v27 then t.1 else false) else none else none else none else none) fun (j:List (Int×Int)×Bool×List (Int×Int)×PUnit->Option Bool)=>bif !x1.2.1 then lp (Int×List (Int×Int)×Bool × List (Int×Int)×PUnit) Bool (fun (again:Int×List (Int×Int)×Bool×List (Int×Int)×PUnit->Option Bool) (x:Int×List (Int×Int)×Bool×List (Int×Int)×PUnit) =>
 let v27:Bool×List (Int×Int)×PUnit:=(x.2.2.1,x.2.2.2.1,PUnit.unit);bif decide (x.1<(↑x1.1.length:Int)) then bif inB x.1 x1.1.length then af (aK 2) fun (t:Int×Int)=>af (bS (x1.1.getD x.1.toNat (0,0)) t) fun (t:(Int×Int)×Int×PUnit)=>bif !decide (t.2.1=0) then some (decide (t.2.1=5)) else bif dU (List.length x.2.1+1) 16 then again (IntKind.wrap .i64 (x.1+1), x.2.1++[t.1],v27) else none else none else j (x.2.1,v27)) (0,[],x1.2.1,x1.2.2,PUnit.unit) else none) (0,t.1,PUnit.unit) else none else none else none else none else none else none else none
def pQ (x0:(List (ByteArray×Int))×List (ByteArray×(List (ByteArray×Int×Int×Int))×Bool)) (x1:(List (Int×Int))×Bool×List (Int×Int)):Option Bool:=iM lpK jnK bS ay aK aA ba aX aJ io x0 x1
def c6:Ctr:=⟨[T25,T30],[],[],.one .bool,fun x _ _=>pQ x.1 x.2.1⟩
theorem e6 (lp:Lp) (jn:Jn) (bS:t23) (ay:t19) (aK:t24) (aA:t11) (ba:t12) (aX:t14) (aJ:t17) (io:((List (ByteArray×Int))×List (ByteArray×(List (ByteArray×Int×Int×Int))×Bool))->Option ((List (ByteArray×Int))×List (ByteArray×(List (ByteArray×Int×Int×Int))×Bool))):∀(x:TsS c6.as) (F:TsF c6.fs) (y:TsS c6.cs),iM lp jn bS ay aK aA ba aX aJ io x.1 x.2.1=bg lp jn (uk va uX (Pk [(22,⟨[T25],45,T45,(.sl T72),fun x=>io x.1⟩)] (gg prog shs pF its [(17,k17 aJ),(14,k14 aX),(12,k12 ba),(11,k11 aA),(24,k24 aK),(19,k19 ay),(23,k23 bS)] [(32,r32),(92,r92),(112,aU)]))) aj 4 6 f6 c6 x F y:=fun x F y=>by kernel_rfl
def nJ (lp:Lp) (_:Jn) (x0:List Int):Option Int :=
 lp (Int×Int×PUnit) Int (fun (again:Int×Int×PUnit->Option Int) (x:Int×Int×PUnit)=>bif decide (x.2.1<(↑x0.length:Int)) then bif inB x.2.1 x0.length then again (Int.tmod (IntKind.wrap .i64 (IntKind.wrap .i64 (IntKind.wrap .i64 (31*x.1)+IntKind.wrap .i64 (x0.getD x.2.1.toNat 0))+1)) 4294967296,IntKind.wrap .i64 (x.2.1+1),PUnit.unit) else none else some x.1) (0,0,PUnit.unit)
def eN (x0:List Int):Option Int:=nJ lpK jnK x0
abbrev t66:=(List Int)->Option (Int)
def k66 (eN:t66):Ctr:=⟨[(.sl (.int .u8))],[],[],.one i64,fun x _ _=>eN x.1⟩
def c66:Ctr:=k66 eN
theorem e66 (lp:Lp) (jn:Jn):∀(x:TsS c66.as) (F:TsF c66.fs) (y:TsS c66.cs),nJ lp jn x.1=bg lp jn (cx [] [(32,r32),(92,r92),(112,aU)]) aj 4 66 f66 c66 x F y:=fun x F y=>by kernel_rfl
theorem O8:c66.ok prog 66:=Ctr.of_den (an (q32)) aw (hl:=aj) (d:=4) func66 rfl (by decide) (e66 lpK jnK)
def qp (lp:Lp) (_:Jn) (x0:List (Int×Int)) (x1:List (Int×Int)):Option Bool :=
 bif !decide ((↑x0.length:Int)=(↑x1.length:Int)) then some false else lp (Int×PUnit) Bool (fun (again:Int×PUnit->Option Bool) (x:Int×PUnit)=>bif decide (x.1<(↑x0.length:Int)) then bif inB x.1 x0.length then bif inB x.1 x1.length then bif !(decide ((x0.getD x.1.toNat (0,(0 : Int))).1=(x1.getD x.1.toNat (0,0)).1)&&(decide ((x0.getD x.1.toNat (0,0)).2=(x1.getD x.1.toNat ((0 : Int),0)).2)&&true)) then some false else again (IntKind.wrap .i64 (x.1+1),PUnit.unit) else none else none else some true) (0,PUnit.unit)
def eG (x0:List (Int×Int)) (x1:List (Int×Int)):Option Bool:=qp lpK jnK x0 x1
abbrev t67:=(List (Int×Int))->(List (Int×Int))->Option (Bool)
def k67 (eG:t67):Ctr:=⟨[(.sl T47),(.sl T47)],[],[],.one .bool,fun x _ _=>eG x.1 x.2.1⟩
def c67:Ctr:=k67 eG
theorem e67 (lp:Lp) (jn:Jn):∀(x:TsS c67.as) (F:TsF c67.fs) (y:TsS c67.cs),qp lp jn x.1 x.2.1=bg lp jn (cx [] [(32,r32),(92,r92),(112,aU)]) aj 4 67 f67 c67 x F y:=fun x F y=>by kernel_rfl
theorem PQ:c67.ok prog 67:=Ctr.of_den (an (q32)) aw (hl:=aj) (d:=4) func67 rfl (by decide) (e67 lpK jnK)
def qu (_:Lp) (_:Jn) (eG:t67) (x0:(List (Int×Int))×Bool×List (Int×Int)) (x1:(List (Int×Int))×Bool×List (Int×Int)):Option Bool :=
 
 let v4:Bool:=decide (x0.2.1=x1.2.1);
 let v5:Bool:=!v4||v4;bif v5 then bif v5 then bif v5&&v5 then af (bif v4 then eG x0.1 x1.1 else some false) fun (t:Bool) =>
 let v7:Bool:=bif v4 then t else false;
 let v8:Bool:=!v7||v7;bif v5 then bif v8 then bif v8 then bif v8&&v8 then af (bif v7 then eG x0.2.2 x1.2.2 else some false) fun (t:Bool)=>bif v8 then some (bif v7 then t else false) else none else none else none else none else none else none else none else none
def eD (x0:(List (Int×Int))×Bool×List (Int×Int)) (x1:(List (Int×Int))×Bool×List (Int×Int)):Option Bool:=qu lpK jnK eG x0 x1
abbrev t28:=((List (Int×Int))×Bool×List (Int×Int))->((List (Int×Int))×Bool×List (Int×Int))->Option (Bool)
def k28 (eD:t28):Ctr:=⟨[T30,T30],[],[],.one .bool,fun x _ _=>eD x.1 x.2.1⟩
def c28:Ctr:=k28 eD
theorem e28 (lp:Lp) (jn:Jn) (eG:t67):∀(x:TsS c28.as) (F:TsF c28.fs) (y:TsS c28.cs),qu lp jn eG x.1 x.2.1=bg lp jn (cx [(67,k67 eG)] [(32,r32),(92,r92),(112,aU)]) aj 4 28 f28 c28 x F y:=fun x F y=>by kernel_rfl
theorem Qb:c28.ok prog 28:=Ctr.of_den (an (aa (q32) (by kernel_rfl) PQ)) aw (hl:=aj) (d:=4) func28 rfl (by decide) (e28 lpK jnK eG)
def kM (lp:Lp) (_:Jn) (x0:List Int):Option Int :=
 lp (Int×Int×PUnit) Int (fun (again:Int×Int×PUnit->Option Int) (x:Int×Int×PUnit)=>bif decide (x.2.1<(↑x0.length:Int)) then bif inB x.2.1 x0.length then bif decide ((0:Int)<=8) then again (IntKind.wrap .i64 (↑(Nat.lor (Int.toNat (IntKind.wrap .i64 (x.1*2 ^ 8) % Int.ofNat 18446744073709551616)) (Int.toNat (IntKind.wrap .i64 (x0.getD x.2.1.toNat 0) % Int.ofNat 18446744073709551616))):Int),IntKind.wrap IntKind.i64 (x.2.1+1),PUnit.unit) else none else none else some x.1) (0,0,PUnit.unit)
def dq (x0:List Int):Option Int:=kM lpK jnK x0
abbrev t68:=(List Int)->Option (Int)
def c68:Ctr:=⟨[(.sl (.int .u8))],[],[],.one i64,fun x _ _=>dq x.1⟩
theorem e68 (lp:Lp) (jn:Jn):∀(x:TsS c68.as) (F:TsF c68.fs) (y:TsS c68.cs),kM lp jn x.1=bg lp jn (cx [] [(32,r32),(92,r92),(112,aU)]) aj 4 68 f68 c68 x F y:=fun x F y=>by kernel_rfl
theorem NW:c68.ok prog 68:=Ctr.of_den (an (q32)) aw (hl:=aj) (d:=4) func68 rfl (by decide) (e68 lpK jnK)
def iE (lp:Lp) (_:Jn) (al:t58) (bL:t64) (dq:t68) (x0:List Int):Option (((List (Int×Int))×Bool×List (Int×Int))×Int×Unit) :=
 
 let v3:Bool:=inB 2 x0.length;
 let v4:Bool:=inB 3 x0.length;
 let v5:Int:=IntKind.wrap .i64 ((↑x0.length:Int) - 4);
 let v6:Bool:=!decide (x0.getD 0 0=84);
 let v7:Bool:=!v6;
 let v8:Bool:=!v7;
 let v9:Bool:=bif v6 then true else !decide (x0.getD 1 0=67);
 let v10:Bool:=v8||v7;
 let v11:Bool:=!v9;
 let v12:Bool:=!v11;
 let v13:Bool:=bif v9 then true else decide (x0.getD 2 0>1);
 let v14:Bool:=!v13;
 let v15:Bool:=!v14;
 let v16:Bool:=bif v13 then true else decide (x0.getD 3 0>20);
 let v17:Bool:=v12||v11;
 let v18:Bool:=!v16;
 let v19:Bool:=!v18;
 let v20:Bool:=v15||v14;
 let v21:Bool:=v19||v18;bif decide ((↑x0.length:Int)>1048576) then some (([],false,[]),4,PUnit.unit) else bif decide ((↑x0.length:Int)<(8 : Int)) then some (([],false,[]),8,PUnit.unit) else bif inB 0 x0.length then bif v10&&(v8||inB 1 x0.length) then bif v10 then bif v10 then bif v6||v7 then bif v17&&(v12||v3) then bif v17 then bif v17 then bif v9||v11 then bif v20&&(v15||v4) then bif v20 then bif v20 then bif v13||v14 then bif v21&&(v19 || v4) then bif v21 then bif v21 then bif v21 then bif v21 then bif v21&&v21 then bif v16||v18 then bif bif v16 then true else !decide ((↑x0.length:Int)=IntKind.wrap IntKind.i64 (8+IntKind.wrap .i64 (16*IntKind.wrap .i64 (x0.getD 3 0)))) then some (([],false,[]),7,PUnit.unit) else bif slB v5 (↑x0.length:Int) x0.length then af (dq (List.drop v5.toNat (List.take (Int.toNat (↑x0.length:Int)) x0))) fun (t:Int)=>bif slB 0 v5 x0.length then af (bL (List.drop 0 (List.take v5.toNat x0))) fun (t_1:Int)=>bif !decide (t=t_1) then some (([],false,[]),(18 : Int),PUnit.unit) else lp (List (Int×Int)×Int×(List (Int×Int)×Bool×List (Int×Int))×PUnit) ((List (Int×Int)×Bool×List (Int×Int))×Int×PUnit) (fun (again:List (Int×Int)×Int×(List (Int×Int)×Bool×List (Int×Int))×PUnit->Option ((List (Int×Int)×Bool×List (Int×Int))×Int×PUnit)) (x:List (Int×Int)×Int×(List (Int × Int)×Bool×List (Int×Int))×PUnit) =>
 let v26:Int:=IntKind.wrap .i64 (x.2.1+8);
 let v27:Int:=IntKind.wrap .i64 (x.2.1+16);bif decide (x.2.1<v5) then bif slB x.2.1 v26 x0.length then af (dq (List.drop x.2.1.toNat (List.take v26.toNat x0))) fun (t:Int)=>bif slB v26 v27 x0.length then af (dq (List.drop v26.toNat (List.take v27.toNat x0))) fun (t_2:Int) =>
 let v30:Int×Int:=(t,t_2);af (al v30) fun (t:Bool)=>bif !t then some (([],false,[]),1,PUnit.unit) else bif dU (List.length x.1+1) (16 : Nat) then again (x.1++[v30],v27,x.2.2.1,PUnit.unit) else none else none else none else bif v3 then bif decide (x0.getD 2 0=1) then some (([], true,x.1),0,PUnit.unit) else some ((x.1,false,[]),0,PUnit.unit) else none) ([],4,([],false,[]),PUnit.unit) else none else none else none else none else none else none else none else none else none else none else none else none else none else none else none else none else none else none else none else none else none else none
def cb (x0:List Int):Option (((List (Int×Int))×Bool×List (Int×Int))×Int×Unit):=iE lpK jnK al bL dq x0
abbrev t29:=(List Int)->Option (((List (Int×Int))×Bool×List (Int×Int))×Int×Unit)
def k29 (cb:t29):Ctr:=⟨[(.sl (.int .u8))],[],[],.tup [T30,i64],fun x _ _=>cb x.1⟩
def c29:Ctr:=k29 cb
theorem e29 (lp:Lp) (jn:Jn) (al:t58) (bL:t64) (dq:t68):∀(x:TsS c29.as) (F:TsF c29.fs) (y:TsS c29.cs),iE lp jn al bL dq x.1=bg lp jn (cx [(68,⟨[(.sl (.int .u8))],[],[],.one i64,fun x _ _=>dq x.1⟩),(64,k64 bL),(58,k58 al)] [(32,r32),(92,r92),(112,aU)]) aj 4 29 f29 c29 x F y:=fun x F y=>by kernel_rfl
theorem PD:c29.ok prog 29:=Ctr.of_den (an (aa (aa (aa (q32) (by kernel_rfl) xA) (by kernel_rfl) Ma) (by kernel_rfl) NW)) aw (hl:=aj) (d:=4) func29 rfl (by decide) (e29 lpK jnK al bL dq)
def mj (lp:Lp) (_:Jn) (x0:List Int):Option Int :=
 lp (Int×Int×PUnit) Int (fun (again:Int×Int×PUnit->Option Int) (x:Int×Int×PUnit)=>bif decide (x.2.1<(↑x0.length:Int)) then bif decide (0<=(8 : Int)) then bif inB x.2.1 x0.length then again (IntKind.wrap .i64 (IntKind.wrap .i64 (x.1*2 ^ 8)+IntKind.wrap .i64 (x0.getD x.2.1.toNat 0)),IntKind.wrap .i64 (x.2.1+1),PUnit.unit) else none else none else some x.1) (0,0,PUnit.unit)
def dZ (x0:List Int):Option Int:=mj lpK jnK x0
abbrev t69:=(List Int)->Option (Int)
def c69:Ctr:=⟨[(.sl (.int .u8))],[],[],.one i64,fun x _ _=>dZ x.1⟩
theorem e69 (lp:Lp) (jn:Jn):∀(x:TsS c69.as) (F:TsF c69.fs) (y:TsS c69.cs),mj lp jn x.1=bg lp jn (cx [] [(32,r32),(92,r92),(112,aU)]) aj 4 69 f69 c69 x F y:=fun x F y=>by kernel_rfl
theorem PZ:c69.ok prog 69:=Ctr.of_den (an (q32)) aw (hl:=aj) (d:=4) func69 rfl (by decide) (e69 lpK jnK)
def jE (lp:Lp) (_:Jn) (cW:t38) (cE:t70) (eN:t66) (dZ:t69) (x0:List Int):Option (((List (Int×Int))×Bool×List (Int×Int))×Int×Unit) :=
 
 let v3:Bool:=inB 2 x0.length;
 let v4:Int:=IntKind.wrap .i64 (x0.getD 3 0);
 let v5:Int:=IntKind.wrap .i64 ((↑x0.length:Int) - 4);
 let v6:Bool:=!decide (x0.getD 0 0=84);
 let v7:Bool:=!v6;
 let v8:Bool:=!v7;
 let v9:Bool:=bif v6 then true else !decide (x0.getD 1 0=67);
 let v10:Bool:=v8||v7;
 let v11:Bool:=!v9;
 let v12:Bool:=!v11;
 let v13:Bool:=bif v9 then true else decide (x0.getD 2 0>1);
 let v14:Bool:=!v13;
 let v15:Bool:=v12||v11;
 let v16:Bool:=bif v13 then true else decide (v4>20);
 let v17:Bool:=!v16;
 let v18:Bool:=!v17||v17;bif decide ((↑x0.length:Int)>1048576) then some (([],false,[]),4,PUnit.unit) else bif decide ((↑x0.length:Int)<(8 : Int)) then some (([],false,[]),8,PUnit.unit) else bif inB 3 x0.length then bif inB 0 x0.length then bif v10&&(v8||inB 1 x0.length) then bif v10 then bif v10 then bif v6||v7 then bif v15&&(v12||v3) then bif v15 then bif v15 then bif v9||v11 then bif !v14||v14 then bif v13||v14 then bif v18 then bif v18 then bif v18 then bif v18&&v18 then bif v16||v17 then bif bif v16 then true else !decide ((↑x0.length:Int)=IntKind.wrap .i64 (8 + IntKind.wrap .i64 (16*v4))) then some (([],false,[]),7,PUnit.unit) else bif slB v5 (↑x0.length:Int) x0.length then af (dZ (List.drop v5.toNat (List.take (Int.toNat (↑x0.length:Int)) x0))) fun (t:Int)=>bif slB 0 v5 x0.length then af (eN (List.drop 0 (List.take v5.toNat x0))) fun (t_1:Int)=>bif !decide (t=t_1) then some (([],false,[]),18,PUnit.unit) else lp (List (Int×Int)×Int×PUnit) ((List (Int×Int) × Bool×List (Int×Int))×Int×PUnit) (fun (again:List (Int×Int)×Int×PUnit->Option ((List (Int×Int)×Bool×List (Int×Int))×Int×PUnit)) (x:List (Int×Int)×Int × PUnit) =>
 let v23:Int:=IntKind.wrap .i64 (4+IntKind.wrap .i64 (16*x.2.1));
 let v24:Int:=IntKind.wrap .i64 (v23+8);
 let v25:Int:=IntKind.wrap .i64 (v23+16);bif decide (x.2.1<v4) then bif slB v23 v24 x0.length then af (dZ (List.drop v23.toNat (List.take v24.toNat x0))) fun (t:Int)=>bif slB v24 v25 x0.length then af (dZ (List.drop v24.toNat (List.take v25.toNat x0))) fun (t_2:Int) => bif dU (List.length x.1+1) 16 then again (x.1++[(t,t_2)],IntKind.wrap .i64 (x.2.1+1),PUnit.unit) else none else none else none else af (cE x.1) fun (t:Bool)=>bif !t then some (([],false,[]),1,PUnit.unit) else bif v3 then af (cW (decide (x0.getD 2 0=(1 : Int))) x.1) fun (t:List (Int×Int)×Bool×List (Int×Int))=>some (t,0,PUnit.unit) else none) ([],0,PUnit.unit) else none else none else none else none else none else none else none else none else none else none else none else none else none else none else none else none else none else none else none
def dH (x0:List Int):Option (((List (Int×Int))×Bool×List (Int×Int))×Int×Unit):=jE lpK jnK cW cE eN dZ x0
abbrev t30:=(List Int)->Option (((List (Int×Int))×Bool×List (Int×Int))×Int×Unit)
def c30:Ctr:=⟨[(.sl (.int .u8))],[],[],.tup [T30,i64],fun x _ _=>dH x.1⟩
theorem e30 (lp:Lp) (jn:Jn) (cW:t38) (cE:t70) (eN:t66) (dZ:t69):∀(x:TsS c30.as) (F:TsF c30.fs) (y:TsS c30.cs),jE lp jn cW cE eN dZ x.1=bg lp jn (cx [(69,⟨[(.sl (.int .u8))],[],[],.one i64,fun x _ _=>dZ x.1⟩),(66,k66 eN),(70,k70 cE),(38,k38 cW)] [(32,r32),(92,r92),(112,aU)]) aj 4 30 f30 c30 x F y:=fun x F y=>by kernel_rfl
theorem OO:c30.ok prog 30:=Ctr.of_den (an (aa (aa (aa (aa (q32) (by kernel_rfl) Nb) (by kernel_rfl) Oc) (by kernel_rfl) O8) (by kernel_rfl) PZ)) aw (hl:=aj) (d:=4) func30 rfl (by decide) (e30 lpK jnK cW cE eN dZ)
def fo (_:Lp) (_:Jn) (aA:t11) (aJ:t17) (eD:t28) (cb:t29) (dH:t30) (x0:List Int):Option Bool :=
 
 let v3:Bool:=decide ((↑x0.length:Int)>500);
 let v4:Bool:=!v3||v3;
 let v5:Bool:=bif v3 then decide ((↑x0.length:Int)<=1048576) else false;
 let v6:Bool:=!v5;
 let v7:Bool:=!v6||v6;af aA fun (t:Bool)=>bif !t then some false else bif v4 then bif v4 then bif v4 then bif v7 then bif v7 then bif v5||v6 then bif bif v5 then true else decide ((↑x0.length:Int)>1048586) then some true else af (cb x0) fun (t:(List (Int×Int)×Bool×List (Int×Int))×Int×PUnit) => af (dH x0) fun (t_1:(List (Int×Int)×Bool×List (Int×Int))×Int×PUnit)=>af (aJ t.1) fun (t_2:Bool) =>
 let v12:Bool:=!t_2;
 let v13:Bool:=!v12||v12;bif v13&&v13 then af (bif v12 then eD t.1 t_1.1 else some false) fun (t_3:Bool) =>
 let v15:Bool:=bif v12 then t_3 else false;
 let v16:Bool:=!v15||v15;bif v13 then bif v16&&v16 then bif v16 then some (bif v15 then decide (t.2.1=t_1.2.1) else false) else none else none else none else none else none else none else none else none else none else none
def fL (x0:List Int):Option Bool:=fo lpK jnK aA aJ eD cb dH x0
def c8:Ctr:=⟨[(.sl (.int .u8))],[],[],.one .bool,fun x _ _=>fL x.1⟩
theorem e8 (lp:Lp) (jn:Jn) (aA:t11) (aJ:t17) (eD:t28) (cb:t29) (dH:t30):∀(x:TsS c8.as) (F:TsF c8.fs) (y:TsS c8.cs),fo lp jn aA aJ eD cb dH x.1=bg lp jn (cx [(30,⟨[(.sl (.int .u8))],[],[],.tup [T30,i64],fun x _ _=>dH x.1⟩),(29,k29 cb),(28,k28 eD),(17,k17 aJ),(11,k11 aA)] [(32,r32),(92,r92),(112,aU)]) aj 4 8 f8 c8 x F y:=fun x F y=>by kernel_rfl
theorem ok8:c8.ok prog 8:=Ctr.of_den (an (aa (aa (aa (aa (aa (q32) (by kernel_rfl) PC) (by kernel_rfl) Oo) (by kernel_rfl) Qb) (by kernel_rfl) PD) (by kernel_rfl) OO)) aw (hl:=aj) (d:=4) func8 rfl (by decide) (e8 lpK jnK aA aJ eD cb dH)
end
end Go.Proofs.YtegbncajloeepaaGreat

namespace Go.Proofs.YtegbncajloeepaaGreat
open Tryz Dn Dn.Sh
set_option maxRecDepth 100000
end Go.Proofs.YtegbncajloeepaaGreat
