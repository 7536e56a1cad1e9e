/- r50: the shapes of its types, and the places of its loops. r50: what its functions answer (printed by a program), and that they do. r50: what its functions answer (printed by a program), and that they do; part 2. r50: what its functions answer (printed by a program), and that they do; part 3. r50: what its functions answer (printed by a program), and that they do; part 4. Plain lemmas for what functions answer: loops, machine numbers, lists. Names: both programs know the same ones. Fractions: rational numbers, and the pairs of numbers that stand for them. Fractions: what 'Make', 'Valid', 'Mul', 'Floor', 'Ceil' of package ratio answer. -/
import Derived.Test.YtegbncajloeepaaGreatProg
import Derived.KernelRfl
import Derived.Laws.StructEq
import Derived.Test.YtegbncajloeepaaGreatMgL

namespace Go.Proofs.YtegbncajloeepaaGreat
open Tryz Dn Dn.Sh
abbrev i64:Sh:=.int .i64
abbrev T45:Sh:=.agg (.pair .str i64)
abbrev T47:Sh:=.agg (.pair i64 i64)
abbrev T74:Sh:=.agg (.pair .str (.pair i64 T47))
abbrev T72:Sh:=.agg (.pair .str (.pair (.sl T74) .bool))
abbrev T25:Sh:=.agg (.pair (.sl T45) (.sl T72))
abbrev T30:Sh:=.agg (.pair (.sl T47) (.pair .bool (.sl T47)))
abbrev Af:Sh:=.agg (.pair (.sl i64) (.pair i64 i64))
abbrev T82:Sh:=.agg (.pair (.sl i64) (.sl Af))
abbrev T94:Sh:=.agg (.pair T47 (.pair (.sl T47) (.sl T47)))
abbrev kO:Sh:=.agg (.pair (.int .u64) (.int .u64))
abbrev Dw:Sh:=.agg (.pair (.sl (.sl i64)) (.pair i64 (.pair (.sl i64) (.pair (.sl i64) (.pair (.sl i64) (.pair i64 i64))))))
abbrev KG:Sh:=.agg i64
abbrev jf:Sh:=.agg (.pair (.int .u64) (.int .u64))
abbrev qz:Sh:=.agg (.pair .bool (.pair (.int .u64) (.int .u64)))
def shs:TypeId->Option Sh
 | 3=>some i64
 | 4=>some .bool
 | 5=>some (.int .u8)
 | 9=>some .str
 | 28=>some (.sl T47)
 | 45=>some T45
 | 47=>some T47
 | 72=>some T72
 | 74=>some T74
 | 79=>some (.sl i64)
 | 124=>some Af
 | _=>none
def J8:Nat->Option Hd
 | 3=>some ⟨[(3,false,[.d i64]),(11,false,[.d i64])],[],[]⟩
 | 11=>some ⟨[(6,false,[.row 47 T47]),(27,false,[.d i64])],[],[]⟩
 | _=>none
def Hv:Nat->Option Hd
 | 2=>some ⟨[(3,false,[.d i64])],[],[]⟩
 | _=>none
def FA:Nat->Option Hd
 | 2=>some ⟨[(8,false,[.d i64])],[],[]⟩
 | _=>none
def I3:Nat->Option Hd
 | 1=>some ⟨[(0,false,[.d (.int .u64)]),(1,false,[.d (.int .u64)])],[],[]⟩
 | _=>none
def IC:Nat->Option Hd
 | 5=>some ⟨[(17,false,[.d i64])],[],[]⟩
 | _=>none
def JD:Nat->Option Hd
 | 6=>some ⟨[(27,false,[.d i64])],[],[(3,some 0,.x (.map 133 .str .bool))]⟩
 | 13=>some ⟨[(7,false,[.d i64]),(46,false,[.d i64])],[],[(3,some 0,.x (.map 133 .str .bool))]⟩
 | _=>none
def It:Nat->Option Hd
 | 5=>some ⟨[(20,false,[.d i64])],[],[(4,none,.x (.tab 79 .ref 3 i64))]⟩
 | 10=>some ⟨[(34,false,[.d i64])],[],[(4,none,.x (.tab 79 .ref 3 i64))]⟩
 | 13=>some ⟨[(42,false,[.d i64])],[],[(4,none,.x (.tab 79 .ref 3 i64))]⟩
 | _=>none
def Ix:Nat->Option Hd
 | 5=>some ⟨[(4,false,[.row 3 i64]),(13,false,[.d i64])],[],[]⟩
 | _=>none
def JZ:Nat->Option Hd
 | 9=>some ⟨[(34,false,[.d i64])],[(9,[.d (.sl i64),.row 124 Af])],[]⟩
 | _=>none
def JN:Nat->Option Hd
 | 8=>some ⟨[(8,false,[.d i64])],[],[(7,none,.row 3 i64)]⟩
 | _=>none
def I4:Nat->Option Hd
 | 1000002=>some ⟨[],[],[]⟩
 | 1000005=>some ⟨[],[],[]⟩
 | _=>none
def Gr:Nat->Option Hd
 | 2=>some ⟨[(8,false,[.d i64])],[],[]⟩
 | _=>none
def Fj:Nat->Option Hd
 | 2=>some ⟨[(8,false,[.d i64])],[],[]⟩
 | _=>none
def GN:Nat->Option Hd
 | 3=>some ⟨[(5,false,[.d i64]),(14,false,[.d i64])],[],[]⟩
 | _=>none
def EY:Nat->Option Hd
 | 5=>some ⟨[(3,false,[.d i64]),(4,false,[.d i64])],[],[]⟩
 | _=>none
def Fl:Nat->Option Hd
 | 1000002=>some ⟨[],[],[]⟩
 | _=>none
def Eb:Nat->Option Hd
 | 4=>some ⟨[(4,false,[.row 3 i64]),(18,false,[.d i64])],[],[]⟩
 | 10=>some ⟨[(7,false,[.d i64]),(34,false,[.d i64])],[],[]⟩
 | _=>none
def Hc:Nat->Option Hd
 | 4=>some ⟨[(5,false,[.d i64]),(24,false,[.d i64])],[],[]⟩
 | 12=>some ⟨[(9,false,[.d i64]),(51,false,[.d i64])],[(46,[.x (.tab 79 .ref 3 i64),.d i64,.row 3 i64,.row 3 i64,.row 3 i64,.d i64,.d i64])],[]⟩
 | 28=>some ⟨[(95,false,[.d i64])],[],[(12,none,.row 3 i64)]⟩
 | _=>none
def Gj:Nat->Option Hd
 | 1000019=>some ⟨[(9,false,[.d i64])],[],[(12,none,.row 3 i64)]⟩
 | 1000022=>some ⟨[(9,false,[.d i64])],[],[(12,none,.row 3 i64)]⟩
 | 1000026=>some ⟨[(13,false,[.d i64])],[],[(12,none,.row 3 i64)]⟩
 | _=>none
def Gm:Nat->Option Hd
 | 3=>some ⟨[(5,false,[.d i64]),(13,false,[.d i64])],[],[]⟩
 | _=>none
def F7:Nat->Option Hd
 | 1000008=>some ⟨[(10,false,[.d .bool])],[(2,[.d qz]),(3,[.d qz])],[]⟩
 | _=>none
def Hy:Nat->Option Hd
 | 1000002=>some ⟨[(0,false,[.d (.int .u64)]),(2,false,[.d i64])],[],[]⟩
 | 1000005=>some ⟨[(0,false,[.d (.int .u64)]),(2,false,[.d i64])],[],[]⟩
 | _=>none
def Ht:Nat->Option Hd
 | 17=>some ⟨[(15,false,[.d (.int .u64)]),(16,false,[.d (.int .u64)])],[],[]⟩
 | 24=>some ⟨[(16,false,[.d (.int .u64)]),(18,false,[.d (.int .u64)])],[],[]⟩
 | _=>none
def G7:Nat->Option Hd
 | 0=>some ⟨[(15,false,[.d (.int .u64)])],[],[]⟩
 | 2=>some ⟨[(18,false,[.d (.int .u64)])],[],[]⟩
 | 1000002=>some ⟨[],[],[]⟩
 | 1000004=>some ⟨[],[],[]⟩
 | _=>none
def Fv:Nat->Option Hd
 | 2=>some ⟨[(29,false,[.d i64])],[],[(0,some 0,.x (.tab 79 .ref 3 i64))]⟩
 | 7=>some ⟨[(43,false,[.d i64])],[],[(0,some 0,.x (.tab 79 .ref 3 i64))]⟩
 | 17=>some ⟨[(98,false,[.d i64])],[],[(0,some 0,.x (.tab 79 .ref 3 i64))]⟩
 | 20=>some ⟨[(104,false,[.d i64])],[],[(0,some 0,.x (.tab 79 .ref 3 i64))]⟩
 | _=>none
def GD:Nat->Option Hd
 | 3=>some ⟨[(5,false,[.d i64]),(14,false,[.d i64])],[],[]⟩
 | _=>none
def Fy:Nat->Option Hd
 | 1=>some ⟨[],[(0,[.x (.tab 79 .ref 3 i64),.d i64,.row 3 i64,.row 3 i64,.row 3 i64,.d i64,.d i64])],[]⟩
 | 3=>some ⟨[(3,false,[.d i64]),(4,false,[.d i64])],[],[]⟩
 | 12=>some ⟨[(44,false,[.d i64])],[(0,[.x (.tab 79 .ref 3 i64),.d i64,.row 3 i64,.row 3 i64,.row 3 i64,.d i64,.d i64])],[]⟩
 | 15=>some ⟨[(6,false,[.d i64])],[(0,[.x (.tab 79 .ref 3 i64),.d i64,.row 3 i64,.row 3 i64,.row 3 i64,.d i64,.d i64])],[]⟩
 | _=>none
def Ga:Nat->Option Hd
 | 3=>some ⟨[(5,false,[.d i64]),(21,false,[.d i64])],[],[]⟩
 | _=>none
def HH:Nat->Option Hd
 | 1=>some ⟨[],[(0,[.x (.tab 79 .ref 3 i64),.d i64,.row 3 i64,.row 3 i64,.row 3 i64,.d i64,.d i64])],[]⟩
 | 3=>some ⟨[(3,false,[.d i64]),(4,false,[.d i64])],[],[]⟩
 | _=>none
def Jg:Nat->Option Hd
 | 14=>some ⟨[(6,false,[.d i64]),(43,false,[.d i64])],[],[(7,none,.row 3 i64)]⟩
 | 22=>some ⟨[(94,false,[.d i64])],[(5,[.d T47,.row 47 T47,.row 47 T47])],[]⟩
 | 27=>some ⟨[(110,false,[.d i64])],[(5,[.d T47,.row 47 T47,.row 47 T47])],[]⟩
 | 31=>some ⟨[(13,false,[.d i64]),(118,false,[.d i64])],[],[]⟩
 | _=>none
def Iu:Nat->Option Hd
 | 10=>some ⟨[(5,false,[.row 47 T47]),(20,false,[.d i64])],[],[]⟩
 | _=>none
def JX:Nat->Option Hd
 | 4=>some ⟨[(13,false,[.d i64])],[],[]⟩
 | _=>none
def JF:Nat->Option Hd
 | 2=>some ⟨[(8,false,[.d i64])],[],[]⟩
 | _=>none
def H0:Nat->Option Hd
 | 1000002=>some ⟨[],[],[]⟩
 | _=>none
def HY:Nat->Option Hd
 | 1000008=>some ⟨[(9,false,[.d .bool])],[(10,[.d kO])],[]⟩
 | 1000010=>some ⟨[(9,false,[.d .bool])],[(10,[.d kO])],[]⟩
 | _=>none
def GG:Nat->Option Hd
 | 3=>some ⟨[(15,false,[.d i64])],[(0,[.d KG]),(6,[.d T47]),(7,[.d T47])],[]⟩
 | _=>none
def D4:Nat->Option Hd
 | 1000007=>some ⟨[(11,false,[.d i64])],[(10,[.d T47])],[]⟩
 | _=>none
def Gp:Nat->Option Hd
 | 1000009=>some ⟨[],[(6,[.d kO]),(7,[.d kO])],[]⟩
 | _=>none
def HI:Nat->Option Hd
 | 3=>some ⟨[(5,false,[.row 3 i64]),(11,false,[.d i64])],[],[]⟩
 | _=>none
def FC:Nat->Option Hd
 | 3=>some ⟨[(9,false,[.d .bool]),(14,false,[.d i64])],[(0,[.d KG])],[]⟩
 | _=>none
def F4:Nat->Option Hd
 | 3=>some ⟨[(3,false,[.row 3 i64]),(9,false,[.d i64])],[],[]⟩
 | _=>none
def EO:Nat->Option Hd
 | 2=>some ⟨[(10,false,[.d i64])],[],[]⟩
 | _=>none
def IH:Nat->Option Hd
 | 7=>some ⟨[(8,false,[.row 47 T47]),(9,false,[.d i64]),(25,false,[.d i64])],[],[]⟩
 | 11=>some ⟨[(31,false,[.d i64])],[(11,[.d T47])],[]⟩
 | _=>none
def Jv:Nat->Option Hd
 | 1000004=>some ⟨[(8,false,[.d i64])],[],[]⟩
 | _=>none
def JB:Nat->Option Hd
 | 2=>some ⟨[(0,false,[.row 5 (.int .u8)]),(7,false,[.d i64])],[],[]⟩
 | _=>none
def H9:Nat->Option Hd
 | 3=>some ⟨[(3,false,[.d (.int .u32)]),(8,false,[.d i64])],[],[]⟩
 | _=>none
def Jf:Nat->Option Hd
 | 12=>some ⟨[(6,false,[.row 5 (.int .u8)]),(36,false,[.d i64])],[],[]⟩
 | _=>none
def JM:Nat->Option Hd
 | 1000010=>some ⟨[],[],[(6,none,.row 5 (.int .u8))]⟩
 | _=>none
def IA:Nat->Option Hd
 | 4=>some ⟨[(3,false,[.d i64])],[],[]⟩
 | 9=>some ⟨[(4,false,[.d i64])],[],[]⟩
 | 14=>some ⟨[(5,false,[.d i64])],[],[]⟩
 | _=>none
def IV:Nat->Option Hd
 | 1=>some ⟨[(1,false,[.d i64])],[],[]⟩
 | _=>none
def JV:Nat->Option Hd
 | 2=>some ⟨[(5,false,[.d i64])],[],[]⟩
 | _=>none
def J4:Nat->Option Hd
 | 2=>some ⟨[(5,false,[.d i64])],[],[]⟩
 | _=>none
def Gv:Nat->Option Hd
 | 4=>some ⟨[(5,false,[.d i64])],[(2,[.d jf]),(3,[.d jf])],[]⟩
 | 6=>some ⟨[],[(2,[.d jf]),(3,[.d jf])],[]⟩
 | 7=>some ⟨[],[(2,[.d jf])],[]⟩
 | 9=>some ⟨[],[(3,[.d jf])],[]⟩
 | 14=>some ⟨[(5,false,[.d i64])],[(3,[.d jf])],[]⟩
 | _=>none
def Jq:Nat->Option Hd
 | 4=>some ⟨[(5,false,[.d i64])],[],[]⟩
 | _=>none
def IU:Nat->Option Hd
 | 4=>some ⟨[(3,false,[.d i64])],[],[]⟩
 | 11=>some ⟨[(5,false,[.d i64]),(6,false,[.d i64])],[],[]⟩
 | _=>none
def Jw:Nat->Option Hd
 | 3=>some ⟨[(3,false,[.d i64]),(4,false,[.d i64])],[],[]⟩
 | 8=>some ⟨[(5,false,[.row 3 i64]),(6,false,[.d i64])],[],[]⟩
 | 12=>some ⟨[(7,false,[.d i64]),(8,false,[.d i64])],[],[]⟩
 | _=>none
def II:Nat->Option Hd
 | 3=>some ⟨[(6,false,[.d i64]),(7,false,[.d i64])],[],[]⟩
 | _=>none
def JP:Nat->Option Hd
 | 5=>some ⟨[(6,false,[.d i64]),(7,false,[.d i64])],[],[]⟩
 | _=>none
def EE:Nat->Option Hd
 | 3=>some ⟨[(5,false,[.d i64]),(6,false,[.d i64])],[],[]⟩
 | _=>none
def JH:Nat->Option Hd
 | 3=>some ⟨[(3,false,[.x (.tab 79 .ref 3 i64)]),(4,false,[.d i64])],[],[]⟩
 | 7=>some ⟨[(5,false,[.row 3 i64]),(6,false,[.d i64])],[],[]⟩
 | _=>none
def Ip:Nat->Option Hd
 | 4=>some ⟨[(7,false,[.d i64])],[(5,[.d (.sl i64),.row 124 Af])],[]⟩
 | _=>none
def J5:Nat->Option Hd
 | 3=>some ⟨[(3,false,[.row 3 i64]),(4,false,[.d i64])],[],[]⟩
 | _=>none
def IL:Nat->Option Hd
 | 2=>some ⟨[(3,false,[.d i64])],[],[]⟩
 | _=>none
def EV:Nat->Option Hd
 | 5=>some ⟨[(8,false,[.d i64])],[(2,[.d jf]),(6,[.d jf]),(7,[.d jf])],[]⟩
 | _=>none
def IK:Nat->Option Hd
 | 3=>some ⟨[(7,false,[.d i64])],[(4,[.d T47]),(6,[.d T47])],[]⟩
 | _=>none
def Gq:Nat->Option Hd
 | 3=>some ⟨[(5,false,[.row 3 i64]),(6,false,[.d i64])],[],[]⟩
 | _=>none
def Jt:Nat->Option Hd
 | 3=>some ⟨[(8,false,[.d .bool]),(9,false,[.d i64])],[],[]⟩
 | _=>none
def Ik:Nat->Option Hd
 | 3=>some ⟨[(3,false,[.row 3 i64]),(4,false,[.d i64])],[],[]⟩
 | _=>none
def Jm:Nat->Option Hd
 | 2=>some ⟨[(5,false,[.d i64])],[],[]⟩
 | _=>none
def Hf:Nat->Option Hd
 | 3=>some ⟨[(7,false,[.d i64])],[(4,[.d T47]),(6,[.d T47])],[]⟩
 | _=>none
def IQ:Nat->Option Hd
 | 7=>some ⟨[(8,false,[.row 47 T47]),(9,false,[.d i64])],[],[]⟩
 | _=>none
def Ju:Nat->Option Hd
 | 5=>some ⟨[(8,false,[.d i64])],[],[]⟩
 | _=>none
def J2:Nat->Option Hd
 | 18=>some ⟨[(9,false,[.d .bool]),(10,false,[.d i64])],[],[]⟩
 | _=>none
def Iq:Nat->Option Hd
 | 1000009=>some ⟨[(8,false,[.d i64])],[],[]⟩
 | _=>none
def JA:Nat->Option Hd
 | 3=>some ⟨[(4,false,[.d i64])],[(3,[.row 45 T45,.row 72 T72])],[]⟩
 | _=>none
def KQ:Nat->Option Hd
 | 10=>some ⟨[(45,false,[.d i64])],[],[(7,some 0,.row 45 T45)]⟩
 | 20=>some ⟨[(69,false,[.d i64])],[(9,[.row 47 T47,.d .bool,.d (.sl T47)])],[]⟩
 | _=>none
def L3:Nat->Option Hd
 | 1000018=>some ⟨[],[(9,[.row 47 T47,.d .bool,.d (.sl T47)])],[]⟩
 | _=>none
def Ij:Nat->Option Hd
 | 2=>some ⟨[(0,false,[.row 5 (.int .u8)]),(7,false,[.d i64])],[],[]⟩
 | _=>none
def I6:Nat->Option Hd
 | 3=>some ⟨[(3,false,[.d i64]),(4,false,[.d i64])],[],[]⟩
 | _=>none
def Ir:Nat->Option Hd
 | 11=>some ⟨[(6,false,[.row 5 (.int .u8)]),(7,false,[.d i64])],[],[]⟩
 | _=>none
def Im:Nat->Option Hd
 | 1000009=>some ⟨[],[],[(6,none,.row 5 (.int .u8))]⟩
 | _=>none
def IW:Nat->Option Hd
 | 4=>some ⟨[(13,false,[.d i64])],[],[]⟩
 | _=>none
def Jd:Nat->Option Hd
 | 4=>some ⟨[(5,false,[.d i64])],[],[]⟩
 | _=>none
def Js:Nat->Option Hd
 | 3=>some ⟨[(3,false,[.d i64]),(8,false,[.d i64])],[],[]⟩
 | _=>none
def Jp:Nat->Option Hd
 | 12=>some ⟨[(5,false,[.row 47 T47]),(6,false,[.d i64])],[(2,[.d T30])],[]⟩
 | _=>none
def IX:Nat->Option Hd
 | 3=>some ⟨[(3,false,[.d i64]),(4,false,[.d i64])],[],[]⟩
 | _=>none
def IG:Nat->Option Hd
 | 12=>some ⟨[(5,false,[.row 47 T47]),(6,false,[.d i64])],[],[]⟩
 | _=>none
def Ff:Nat->Option Hd
 | 2=>some ⟨[(8,false,[.d i64])],[],[]⟩
 | _=>none
def EP:Nat->Option Hd
 | 1000007=>some ⟨[(12,false,[.d (.int .u64)]),(13,false,[.d (.int .u64)]),(18,false,[.d .bool])],[],[]⟩
 | 1000008=>some ⟨[(12,false,[.d (.int .u64)]),(13,false,[.d (.int .u64)]),(14,false,[.d (.int .u64)]),(15,false,[.d (.int .u64)]),(18,false,[.d .bool])],[],[]⟩
 | _=>none
def HO:Nat->Option Hd
 | 3=>some ⟨[(20,false,[.d i64])],[(5,[.x (.tab 79 .ref 3 i64),.d i64,.row 3 i64,.row 3 i64,.d .bool])],[]⟩
 | 9=>some ⟨[(40,false,[.d i64])],[(5,[.x (.tab 79 .ref 3 i64),.d i64,.row 3 i64,.row 3 i64,.d .bool])],[]⟩
 | 14=>some ⟨[(10,false,[.d i64]),(11,false,[.d i64])],[],[]⟩
 | 19=>some ⟨[(10,false,[.d i64])],[(5,[.x (.tab 79 .ref 3 i64),.d i64,.row 3 i64,.row 3 i64,.d .bool])],[]⟩
 | 26=>some ⟨[(130,false,[.d i64])],[],[(5,some 0,.x (.tab 79 .ref 3 i64))]⟩
 | 31=>some ⟨[(144,false,[.d i64])],[],[(5,some 0,.x (.tab 79 .ref 3 i64))]⟩
 | _=>none
def Ib:Nat->Option Hd
 | 10=>some ⟨[(7,false,[.x (.tab 79 .ref 3 i64)]),(37,false,[.d i64])],[],[]⟩
 | 16=>some ⟨[(64,false,[.d i64])],[],[]⟩
 | 25=>some ⟨[(13,false,[.row 47 T47]),(80,false,[.d i64])],[],[]⟩
 | _=>none
def KH:Nat->List Nat
 | 2000014=>[7]
 | _=>[]
def aj:FuncId->Hint
 | 92=>{loop:=J8}
 | 127=>{loop:=Hv}
 | 154=>{loop:=FA}
 | 59=>{loop:=I3}
 | 91=>{loop:=IC}
 | 50=>{loop:=JD}
 | 72=>{loop:=It}
 | 73=>{loop:=Ix}
 | 97=>{loop:=JZ}
 | 98=>{loop:=JN,join:=I4}
 | 174=>{loop:=Gr}
 | 175=>{loop:=Fj}
 | 146=>{loop:=GN}
 | 148=>{loop:=EY,join:=Fl}
 | 100=>{loop:=Eb}
 | 101=>{loop:=Hc,join:=Gj}
 | 106=>{loop:=Gm}
 | 177=>{join:=F7}
 | 194=>{join:=Hy}
 | 185=>{loop:=Ht,join:=G7}
 | 149=>{loop:=Fv}
 | 150=>{loop:=GD}
 | 102=>{loop:=Fy}
 | 151=>{loop:=Ga}
 | 103=>{loop:=HH}
 | 56=>{loop:=Jg}
 | 57=>{loop:=Iu}
 | 36=>{loop:=JX}
 | 75=>{loop:=JF}
 | 129=>{join:=H0}
 | 171=>{join:=HY}
 | 133=>{loop:=GG,join:=D4}
 | 187=>{join:=Gp}
 | 170=>{loop:=HI}
 | 131=>{loop:=FC}
 | 134=>{loop:=F4}
 | 135=>{loop:=EO}
 | 95=>{loop:=IH}
 | 19=>{join:=Jv}
 | 63=>{loop:=JB}
 | 64=>{loop:=H9}
 | 25=>{loop:=Jf,join:=JM}
 | 12=>{loop:=IA}
 | 77=>{loop:=IV}
 | 40=>{loop:=JV}
 | 41=>{loop:=J4}
 | 152=>{loop:=Gv}
 | 42=>{loop:=Jq}
 | 14=>{loop:=IU}
 | 79=>{loop:=Jw}
 | 80=>{loop:=II}
 | 43=>{loop:=JP}
 | 118=>{loop:=EE}
 | 81=>{loop:=JH}
 | 44=>{loop:=Ip}
 | 45=>{loop:=J5}
 | 70=>{loop:=IL}
 | 186=>{loop:=EV}
 | 83=>{loop:=IK}
 | 119=>{loop:=Gq}
 | 82=>{loop:=Jt}
 | 84=>{loop:=Ik}
 | 86=>{loop:=Jm}
 | 124=>{loop:=Hf}
 | 87=>{loop:=IQ}
 | 48=>{loop:=Ju}
 | 18=>{loop:=J2,join:=Iq}
 | 22=>{loop:=JA}
 | 6=>{loop:=KQ,join:=L3,thaw:=KH}
 | 65=>{loop:=Ij}
 | 66=>{loop:=I6}
 | 26=>{loop:=Ir,join:=Im}
 | 27=>{loop:=IW}
 | 67=>{loop:=Jd}
 | 68=>{loop:=Js}
 | 29=>{loop:=Jp}
 | 69=>{loop:=IX}
 | 30=>{loop:=IG}
 | 181=>{loop:=Ff}
 | 159=>{join:=EP}
 | 113=>{loop:=HO}
 | 74=>{loop:=Ib}
 | _=>{}
def ve (p : String) : Bool := p == "program.go:104" || p == "ref.go:45" || p == "tension.go:104" || p == "ref.go:107"
def vh:TypeId->Option XP
 | 108=>some (.tab 79 .ref 3 i64)
 | 109=>some (.tab 79 .ref 3 i64)
 | _=>none
def qa:List Nat:=[89,175,144,145,101,149,102,103,129,131]
def its:List (Nat×ICtr):=[]
theorem NC:H1 prog its:=CC
end Go.Proofs.YtegbncajloeepaaGreat

namespace Go.Proofs.YtegbncajloeepaaGreat
noncomputable section
open Tryz Dn Dn.Sh
set_option maxRecDepth 100000
theorem aw:prog.follows .mixedOrders=true:=by kernel_rfl
theorem K8:zF prog qa=true:=by kernel_rfl
theorem q0:(gj prog shs qa its [] []).ok:=Cz K8 NC
abbrev cx (l) (r):=uG vh ve (gj prog shs qa its l r)
def kc (_:Lp) (_:Jn) (x0:List Int):Option (List Int) :=
 bif dM (0+List.length x0) 8 then some x0 else none
def aY (x0:List Int):Option (List Int):=kc lpK jnK x0
abbrev Gd:=(List Int)->Option (List Int)
def L6 (aY:Gd):RCtr:=⟨[(.sl i64)],3,i64,fun x=>aY x.1⟩
def aU:RCtr:=L6 aY
theorem Pj (lp:Lp) (jn:Jn):∀x:TsS aU.as,kc lp jn x.1=zm lp jn (cx [] []) aj 4 112 f112 aU.t aU.e (vG aU.as x true):=fun x=>by kernel_rfl
theorem LO:aU.ok prog 112:=RCtr.of_den_nil (c:=aU) (an (q0)) aw (hl:=aj) (d:=4) rfl func112 rfl (by decide) (Pj lpK jnK) fun x h=>by
 obtain ⟨l,u⟩:=x
 simp only at h
 subst h
 kernel_rfl
theorem NN:(gj prog shs qa its [] [(112,aU)]).ok:=rE q0 (by kernel_rfl) LO
def gu (lp:Lp) (jn:Jn) (x0:List (List (Int×Int))):Option (List (Int×Int)) :=
 lp (Int×Int×PUnit) (List (Int×Int)) (fun (again:Int×Int×PUnit->Option (List (Int×Int))) (x:Int×Int×PUnit)=>bif decide (x.2.1<(↑x0.length:Int)) then bif inB x.2.1 x0.length then bif decide (IntKind.wrap .i64 (x.1+(↑(List.length (x0.getD x.2.1.toNat [])):Int))<0) then none else again (IntKind.wrap .i64 (x.1+(↑(List.length (x0.getD x.2.1.toNat [])):Int)),IntKind.wrap .i64 (x.2.1+1),PUnit.unit) else none else jn PUnit (List (Int×Int)) (fun (_:PUnit)=>bif decide (IntKind.wrap .i64 (x.1 - IntKind.wrap .i64 ((↑0:Int) - (↑0:Int)))>0) then bif slB (0 : Int) (↑0:Int) 0 then bif decide (0<IntKind.wrap .i64 (x.1 - IntKind.wrap .i64 ((↑0:Int) - (↑0:Int))))&&dM (Int.toNat (IntKind.wrap .i64 (x.1 - IntKind.wrap .i64 ((↑0:Int) - (↑0:Int))))) 16 then bif slB 0 (↑0:Int) (Int.toNat (IntKind.wrap IntKind.i64 (x.1 - IntKind.wrap .i64 ((↑0:Int) - (↑0:Int)))))&&decide (0<Int.toNat (IntKind.wrap .i64 (x.1 - IntKind.wrap .i64 ((↑0:Int) - (↑0:Int))))) then lp (List (Int×Int)×Int×PUnit) (List (Int×Int)) (fun (again:List (Int×Int)×Int×PUnit->Option (List (Int×Int))) (x : List (Int×Int)×Int×PUnit) =>
 let v8:List (Int×Int):=x0.getD x.2.1.toNat [];bif decide (x.2.1<(↑x0.length:Int)) then bif inB x.2.1 x0.length then bif dM (List.length x.1+List.length v8) 16 then again (x.1++v8,IntKind.wrap .i64 (x.2.1+1),PUnit.unit) else none else none else some x.1) (List.take (Int.toNat (↑(0 : Nat):Int)) (List.replicate (Int.toNat (IntKind.wrap .i64 (x.1 - IntKind.wrap .i64 ((↑0:Int) - (↑0:Int))))) (0,0)),0, PUnit.unit) else none else none else none else lp (List (Int×Int)×Int×PUnit) (List (Int×Int)) (fun (again:List (Int×Int)×Int×PUnit->Option (List (Int×Int))) (x:List (Int×Int)×Int×PUnit) =>
 let v8:List (Int×Int):=x0.getD x.2.1.toNat [];bif decide (x.2.1<(↑x0.length:Int)) then bif inB x.2.1 x0.length then bif dM (List.length x.1+List.length v8) 16 then again (x.1++v8,IntKind.wrap .i64 (x.2.1+1),PUnit.unit) else none else none else some x.1) ([],0, PUnit.unit)) fun (j:PUnit->Option (List (Int×Int)))=>bif decide (x.1<0) then none else j PUnit.unit) (0,0,PUnit.unit)
def cf (x0:List (List (Int×Int))):Option (List (Int×Int)):=gu lpK jnK x0
abbrev t92:=(List (List (Int×Int)))->Option (List (Int×Int))
def r92:RCtr:=⟨[(.sl (.sl T47))],47,T47,fun x=>cf x.1⟩
theorem e92 (lp:Lp) (jn:Jn):∀x:TsS r92.as,gu lp jn x.1=zm lp jn (cx [] [(112,aU)]) aj 4 92 f92 r92.t r92.e (gZ r92.as x 0):=fun x=>by kernel_rfl
theorem M1:r92.ok prog 92:=RCtr.of_den (c:=r92) (an (NN)) aw (hl:=aj) (d:=4) func92 rfl (by decide) (e92 lpK jnK)
theorem q92:(gj prog shs qa its [] [(92,r92),(112,aU)]).ok:=rE NN (by kernel_rfl) M1
def gP (_:Lp) (_:Jn) (x0:List Int):Option (List Int) :=
 bif dM (0+List.length x0) 1 then some x0 else none
def cG (x0:List Int):Option (List Int):=gP lpK jnK x0
abbrev t32:=(List Int)->Option (List Int)
def r32:RCtr:=⟨[(.sl (.int .u8))],5,(.int .u8),fun x=>cG x.1⟩
theorem e32 (lp:Lp) (jn:Jn):∀x:TsS r32.as,gP lp jn x.1=zm lp jn (cx [] [(92,r92),(112,aU)]) aj 4 32 f32 r32.t r32.e (vG r32.as x true):=fun x=>by kernel_rfl
theorem Mp:r32.ok prog 32:=RCtr.of_den_nil (c:=r32) (an (q92)) aw (hl:=aj) (d:=4) rfl func32 rfl (by decide) (e32 lpK jnK) fun x h=>by
 obtain ⟨l,u⟩:=x
 simp only at h
 subst h
 kernel_rfl
theorem q32:(gj prog shs qa its [] [(32,r32),(92,r92),(112,aU)]).ok:=rE q92 (by kernel_rfl) Mp
def lQ (_:Lp) (_:Jn) (x0:Int) (x1:Int) (x2:Int):Option Bool :=
 
 let v5:Bool:=decide (x0>=x1);
 let v6:Bool:=!v5||v5;bif v6&&v6 then bif v6 then some (bif v5 then decide (x0<=x2) else false) else none else none
def bb (x0:Int) (x1:Int) (x2:Int):Option Bool:=lQ lpK jnK x0 x1 x2
abbrev t88:=(Int)->(Int)->(Int)->Option (Bool)
def k88 (bb:t88):Ctr:=⟨[i64,i64,i64],[],[],.one .bool,fun x _ _=>bb x.1 x.2.1 x.2.2.1⟩
def c88:Ctr:=k88 bb
theorem e88 (lp:Lp) (jn:Jn):∀(x:TsS c88.as) (F:TsF c88.fs) (y:TsS c88.cs),lQ lp jn x.1 x.2.1 x.2.2.1=bo lp jn (cx [] [(32,r32),(92,r92),(112,aU)]) aj 4 88 f88 c88 x F y:=fun x F y=>by kernel_rfl
theorem Mj:c88.ok prog 88:=Ctr.of_den (an (q32)) aw (hl:=aj) (d:=4) func88 rfl (by decide) (e88 lpK jnK)
def lh (_:Lp) (_:Jn) (x0:Int):Option Bool :=
 
 let v3:Bool:=decide (x0>=97);
 let v4:Bool:=decide (x0>=65);
 let v5:Bool:=!v3||v3;
 let v6:Bool:=bif v3 then decide (x0<=122) else false;
 let v7:Bool:=!v6;
 let v8:Bool:=!v7;
 let v9:Bool:=v7&&v4;
 let v10:Bool:=v8||v7;bif v5 then bif v5 then bif v10 then bif v10 then bif !v9||v9 then bif (v8||v10)&&(v8||(!v4||(v8||v9))) then bif v6||v7 then some (bif v6 then true else bif v4 then decide (x0<=90) else false) else none else none else none else none else none else none else none
def bn (x0:Int):Option Bool:=lh lpK jnK x0
abbrev EC:=(Int)->Option (Bool)
def LK (bn:EC):Ctr:=⟨[(.int .u8)],[],[],.one .bool,fun x _ _=>bn x.1⟩
def FE:Ctr:=LK bn
theorem Pn (lp:Lp) (jn:Jn):∀(x:TsS FE.as) (F:TsF FE.fs) (y:TsS FE.cs),lh lp jn x.1=bo lp jn (cx [] [(32,r32),(92,r92),(112,aU)]) aj 4 126 f126 FE x F y:=fun x F y=>by kernel_rfl
theorem Kd:FE.ok prog 126:=Ctr.of_den (an (q32)) aw (hl:=aj) (d:=4) func126 rfl (by decide) (Pn lpK jnK)
def mJ (_:Lp) (_:Jn) (x0:Int):Option Bool :=
 
 let v3:Bool:=decide (x0>=48);
 let v4:Bool:=!v3||v3;bif v4 then bif v4 then some (bif v3 then decide (x0<=57) else false) else none else none
def eC (x0:Int):Option Bool:=mJ lpK jnK x0
abbrev MS:=(Int)->Option (Bool)
def Eu:Ctr:=⟨[(.int .u8)],[],[],.one .bool,fun x _ _=>eC x.1⟩
theorem OL (lp:Lp) (jn:Jn):∀(x:TsS Eu.as) (F:TsF Eu.fs) (y:TsS Eu.cs),mJ lp jn x.1=bo lp jn (cx [] [(32,r32),(92,r92),(112,aU)]) aj 4 166 f166 Eu x F y:=fun x F y=>by kernel_rfl
theorem Nr:Eu.ok prog 166:=Ctr.of_den (an (q32)) aw (hl:=aj) (d:=4) func166 rfl (by decide) (OL lpK jnK)
def oa (lp:Lp) (_:Jn) (bn:EC) (eC:MS) (x0:ByteArray):Option Int :=
 lp (Int×PUnit) Int (fun (again:Int×PUnit->Option Int) (x:Int×PUnit) =>
 let v5:Bool:=inB x.1 (ByteArray.size x0);
 let v6:Int:=jQ x0 x.1.toNat;
 let v7:Bool:=decide (x.1<(↑(ByteArray.size x0):Int));
 let v8:Bool:=!v7;
 let v9:Bool:=v8||v7;
 let v10:Bool:=v8||v9;bif v9&&(v9&&(v8||v5)) then bif v9 then af (bif v7 then bn v6 else some false) fun (t:Bool) =>
 let v12:Bool:=v7&&!t;
 let v13:Bool:=!v12;
 let v14:Bool:=v13||v12;bif v9 then bif v14&&(v14&&(v13||v5)) then bif v14 then af (bif v12 then eC v6 else some false) fun (t_1:Bool) =>
 let v16:Bool:=bif t then true else t_1;
 let v17:Bool:=v7&&!v16;
 let v18:Bool:=!v17;
 let v19:Bool:=v18||v17;bif v10&&(v8||(t||(v8||v12))) then bif v9 then bif v19&&(v19&&(v18||v5)) then bif v19 then bif v10&&(v8||(v16||(v8||v17))) then bif v9 then bif bif v7 then bif v16 then true else decide (v6=95) else false then again (IntKind.wrap .i64 (x.1+1),PUnit.unit) else some x.1 else none else none else none else none else none else none else none else none else none else none else none) (0,PUnit.unit)
def eO (x0:ByteArray):Option Int:=oa lpK jnK bn eC x0
abbrev Nf:=(ByteArray)->Option (Int)
def FQ:Ctr:=⟨[.str],[],[],.one i64,fun x _ _=>eO x.1⟩
theorem OS (lp:Lp) (jn:Jn) (bn:EC) (eC:MS):∀(x:TsS FQ.as) (F:TsF FQ.fs) (y:TsS FQ.cs),oa lp jn bn eC x.1=bo lp jn (cx [(166,⟨[(.int .u8)],[],[],.one .bool,fun x _ _=>eC x.1⟩),(126,LK bn)] [(32,r32),(92,r92),(112,aU)]) aj 4 127 f127 FQ x F y:=fun x F y=>by kernel_rfl
theorem Me:FQ.ok prog 127:=Ctr.of_den (an (aa (aa (q32) (by kernel_rfl) Kd) (by kernel_rfl) Nr)) aw (hl:=aj) (d:=4) func127 rfl (by decide) (OS lpK jnK bn eC)
def ll (_:Lp) (_:Jn) (bn:EC) (eO:Nf) (x0:ByteArray):Option Bool :=
 
 let v3:Bool:=!List.beq (ByteArray.toList x0) (ByteArray.toList { data:=#[] });
 let v4:Bool:=!v3||v3;
 let v5:Bool:=bif v3 then decide ((↑(ByteArray.size x0):Int)<=20) else false;
 let v6:Bool:=!v5;
 let v7:Bool:=v6||v5;bif v4 then bif v4 then bif v4 then bif v7&&(v6||inB 0 (ByteArray.size x0)) then bif v7 then af (bif v5 then bn (jQ x0 0) else some false) fun (t:Bool) =>
 let v9:Bool:=bif v5 then t else false;
 let v10:Bool:=!v9||v9;bif v7 then bif v10 then af (bif v9 then eO x0 else some 0) fun (t:Int)=>bif v10 then bif v10&&v10 then bif v10 then some (bif v9 then decide (t=(↑(ByteArray.size x0):Int)) else false) else none else none else none else none else none else none else none else none else none else none
def dn (x0:ByteArray):Option Bool:=ll lpK jnK bn eO x0
abbrev t90:=(ByteArray)->Option (Bool)
def c90:Ctr:=⟨[.str],[],[],.one .bool,fun x _ _=>dn x.1⟩
theorem e90 (lp:Lp) (jn:Jn) (bn:EC) (eO:Nf):∀(x:TsS c90.as) (F:TsF c90.fs) (y:TsS c90.cs),ll lp jn bn eO x.1=bo lp jn (cx [(127,⟨[.str],[],[],.one i64,fun x _ _=>eO x.1⟩),(126,LK bn)] [(32,r32),(92,r92),(112,aU)]) aj 4 90 f90 c90 x F y:=fun x F y=>by kernel_rfl
theorem OO:c90.ok prog 90:=Ctr.of_den (an (aa (aa (q32) (by kernel_rfl) Kd) (by kernel_rfl) Me)) aw (hl:=aj) (d:=4) func90 rfl (by decide) (e90 lpK jnK bn eO)
def gJ (lp:Lp) (_:Jn) (x0:List (ByteArray×Int)) (f0:(((ByteArray×Int)×Unit)->Option Bool)):Option Int :=
 lp (Int×PUnit) Int (fun (again:Int×PUnit->Option Int) (x:Int×PUnit)=>bif decide (x.1<(↑x0.length:Int)) then bif inB x.1 x0.length then af (f0 (x0.getD x.1.toNat ({ data:={ toList:=[] } },0),PUnit.unit)) fun (t:Bool)=>bif t then some x.1 else again (IntKind.wrap .i64 (x.1+1), PUnit.unit) else none else some (-1)) (0,PUnit.unit)
def bD (x0:List (ByteArray×Int)) (f0:(((ByteArray×Int)×Unit)->Option Bool)):Option Int:=gJ lpK jnK x0 f0
abbrev KW:=(List (ByteArray×Int))->((((ByteArray×Int)×Unit)->Option Bool))->Option (Int)
def My (bD:KW):Ctr:=⟨[(.sl T45)],[([T45],.bool)],[],.one i64,fun x F _=>bD x.1 F.1⟩
def GF:Ctr:=My bD
theorem Qc (lp:Lp) (jn:Jn):∀(x:TsS GF.as) (F:TsF GF.fs) (y:TsS GF.cs),gJ lp jn x.1 F.1=bo lp jn (cx [] [(32,r32),(92,r92),(112,aU)]) aj 4 154 f154 GF x F y:=fun x F y=>by kernel_rfl
theorem Mb:GF.ok prog 154:=Ctr.of_den (an (q32)) aw (hl:=aj) (d:=4) func154 rfl (by decide) (Qc lpK jnK)
def lG (_:Lp) (_:Jn) (x0:ByteArray×Int) (y0:ByteArray):Option Bool :=
 some (List.beq (ByteArray.toList x0.1) (ByteArray.toList y0))
def dR (x0:ByteArray×Int) (y0:ByteArray):Option Bool:=lG lpK jnK x0 y0
abbrev NY:=(ByteArray×Int)->(ByteArray)->Option (Bool)
def FX:Ctr:=⟨[T45],[],[.str],.one .bool,fun x _ y=>dR x.1 y.1⟩
theorem OE (lp:Lp) (jn:Jn):∀(x:TsS FX.as) (F:TsF FX.fs) (y:TsS FX.cs),lG lp jn x.1 y.1=bo lp jn (cx [] [(32,r32),(92,r92),(112,aU)]) aj 4 155 f155 FX x F y:=fun x F y=>by kernel_rfl
theorem NG:FX.ok prog 155:=Ctr.of_den (an (q32)) aw (hl:=aj) (d:=4) func155 rfl (by decide) (OE lpK jnK)
def nW (_:Lp) (_:Jn) (bD:KW) (dR:NY) (x0:(List (ByteArray×Int))×List (ByteArray×(List (ByteArray×Int×Int×Int))×Bool)) (x1:ByteArray):Option Int :=
 af (bD x0.1 fun (x:(ByteArray×Int)×PUnit)=>dR x.1 x1) fun (t:Int)=>some t
def bK (x0:(List (ByteArray×Int))×List (ByteArray×(List (ByteArray×Int×Int×Int))×Bool)) (x1:ByteArray):Option Int:=nW lpK jnK bD dR x0 x1
abbrev GT:=((List (ByteArray×Int))×List (ByteArray×(List (ByteArray×Int×Int×Int))×Bool))->(ByteArray)->Option (Int)
def KV (bK:GT):Ctr:=⟨[T25,.str],[],[],.one i64,fun x _ _=>bK x.1 x.2.1⟩
def Gf:Ctr:=KV bK
theorem OZ (lp:Lp) (jn:Jn) (bD:KW) (dR:NY):∀(x:TsS Gf.as) (F:TsF Gf.fs) (y:TsS Gf.cs),nW lp jn bD dR x.1 x.2.1=bo lp jn (cx [(155,⟨[T45],[],[.str],.one .bool,fun x _ y=>dR x.1 y.1⟩),(154,My bD)] [(32,r32),(92,r92),(112,aU)]) aj 4 109 f109 Gf x F y:=fun x F y=>by kernel_rfl
theorem Ks:Gf.ok prog 109:=Ctr.of_den (an (aa (aa (q32) (by kernel_rfl) Mb) (by kernel_rfl) NG)) aw (hl:=aj) (d:=4) func109 rfl (by decide) (OZ lpK jnK bD dR)
def nH (lp:Lp) (_:Jn) (x0:Int) (x1:Int):Option Int :=
 lp (Int×Int×PUnit) Int (fun (again:Int×Int×PUnit->Option Int) (x:Int×Int×PUnit)=>bif !decide (x.2.1=0) then bif nzB x.2.1 then again (x.2.1, Int.tmod x.1 x.2.1,PUnit.unit) else none else some x.1) (x0,x1,PUnit.unit)
def aV (x0:Int) (x1:Int):Option Int:=nH lpK jnK x0 x1
abbrev t59:=(Int)->(Int)->Option (Int)
def k59 (aV:t59):Ctr:=⟨[(.int .u64),(.int .u64)],[],[],.one (.int .u64),fun x _ _=>aV x.1 x.2.1⟩
def c59:Ctr:=k59 aV
theorem e59 (lp:Lp) (jn:Jn):∀(x:TsS c59.as) (F:TsF c59.fs) (y:TsS c59.cs),nH lp jn x.1 x.2.1=bo lp jn (cx [] [(32,r32),(92,r92),(112,aU)]) aj 4 59 f59 c59 x F y:=fun x F y=>by kernel_rfl
theorem J7:c59.ok prog 59:=Ctr.of_den (an (q32)) aw (hl:=aj) (d:=4) func59 rfl (by decide) (e59 lpK jnK)
def mz (_:Lp) (_:Jn) (x0:Int):Option Int :=
 
 let v3:Int:=IntKind.wrap .u64 x0;bif decide (x0<0) then some (IntKind.wrap .u64 (0 - v3)) else some v3
def av (x0:Int):Option Int:=mz lpK jnK x0
abbrev t60:=(Int)->Option (Int)
def k60 (av:t60):Ctr:=⟨[i64],[],[],.one (.int .u64),fun x _ _=>av x.1⟩
def c60:Ctr:=k60 av
theorem e60 (lp:Lp) (jn:Jn):∀(x:TsS c60.as) (F:TsF c60.fs) (y:TsS c60.cs),mz lp jn x.1=bo lp jn (cx [] [(32,r32),(92,r92),(112,aU)]) aj 4 60 f60 c60 x F y:=fun x F y=>by kernel_rfl
theorem Gu:c60.ok prog 60:=Ctr.of_den (an (q32)) aw (hl:=aj) (d:=4) func60 rfl (by decide) (e60 lpK jnK)
def kX (_:Lp) (_:Jn) (aV:t59) (av:t60) (x0:Int×Int):Option Bool :=
 
 let v3:Bool:=decide (x0.2>=1);
 let v4:Bool:=!v3||v3;
 let v5:Bool:=bif v3 then decide (x0.2<=1152921504606846976) else false;
 let v6:Bool:=bif v5 then decide (x0.1>=(-1152921504606846976)) else false;
 let v7:Bool:=!v5||v5;
 let v8:Bool:=bif v6 then decide (x0.1<=1152921504606846976) else false;
 let v9:Bool:=!v6||v6;
 let v10:Bool:=!v8||v8;bif v4 then bif v4 then bif v4 then bif v7 then bif v7 then bif v7 then bif v9 then bif v9 then bif v9 then bif v10 then bif v10 then af (bif v8 then av x0.1 else some 0) fun (t:Int)=>bif v10 then bif v10 then bif v10&&v10 then af (bif v8 then aV t (IntKind.wrap .u64 x0.2) else some (0 : Int)) fun (t:Int)=>bif v10 then bif v10 then some (bif v8 then decide (t=1) else false) else none else none else none else none else none else none else none else none else none else none else none else none else none else none else none else none
def al (x0:Int×Int):Option Bool:=kX lpK jnK aV av x0
abbrev t58:=(Int×Int)->Option (Bool)
def k58 (al:t58):Ctr:=⟨[T47],[],[],.one .bool,fun x _ _=>al x.1⟩
def c58:Ctr:=k58 al
theorem e58 (lp:Lp) (jn:Jn) (aV:t59) (av:t60):∀(x:TsS c58.as) (F:TsF c58.fs) (y:TsS c58.cs),kX lp jn aV av x.1=bo lp jn (cx [(60,k60 av),(59,k59 aV)] [(32,r32),(92,r92),(112,aU)]) aj 4 58 f58 c58 x F y:=fun x F y=>by kernel_rfl
theorem xw:c58.ok prog 58:=Ctr.of_den (an (aa (aa (q32) (by kernel_rfl) J7) (by kernel_rfl) Gu)) aw (hl:=aj) (d:=4) func58 rfl (by decide) (e58 lpK jnK aV av)
def mQ (_:Lp) (_:Jn) (al:t58) (x0:Int×Int):Option Bool :=
 af (al x0) fun (t:Bool) =>
 let v4:Bool:=!t||t;
 let v5:Bool:=bif t then decide (x0.1>=x0.2) else false;
 let v6:Bool:=!v5||v5;bif v4 then bif v4 then bif v4&&v4 then bif v4 then bif v6 then bif v6 then bif v6 then some (bif v5 then decide (x0.1<=100) else false) else none else none else none else none else none else none else none
def eA (x0:Int×Int):Option Bool:=mQ lpK jnK al x0
abbrev Ow:=(Int×Int)->Option (Bool)
def FT:Ctr:=⟨[T47],[],[],.one .bool,fun x _ _=>eA x.1⟩
theorem PY (lp:Lp) (jn:Jn) (al:t58):∀(x:TsS FT.as) (F:TsF FT.fs) (y:TsS FT.cs),mQ lp jn al x.1=bo lp jn (cx [(58,k58 al)] [(32,r32),(92,r92),(112,aU)]) aj 4 167 f167 FT x F y:=fun x F y=>by kernel_rfl
theorem Nc:FT.ok prog 167:=Ctr.of_den (an (aa (q32) (by kernel_rfl) xw)) aw (hl:=aj) (d:=4) func167 rfl (by decide) (PY lpK jnK al)
def nB (_:Lp) (_:Jn) (bK:GT) (eA:Ow) (x0:(List (ByteArray×Int))×List (ByteArray×(List (ByteArray×Int×Int×Int))×Bool)) (x1:ByteArray×Int×Int×Int) (x2:Bool):Option Bool :=
 
 let v5:Bool:=!x2;
 let v6:Bool:=v5||x2;
 let v7:Bool:=decide (x1.2.1=0);
 let v8:Bool:=decide (x1.2.1=1);
 let v9:Bool:=decide (x1.2.1=2);
 let v10:Bool:=!v8;
 let v11:Bool:=!v9;
 let v12:Bool:=bif v9 then true else v7;
 let v13:Bool:=!v10||v10;
 let v14:Bool:=!v11||v11;
 let v15:Bool:=!v12;
 let v16:Bool:=bif x2 then !(decide (x1.2.2.1=1)&&(decide (x1.2.2.2=1)&&true)) else false;
 let v17:Bool:=!v16;
 let v18:Bool:=!v17;
 let v19:Bool:=v17&&v5;
 let v20:Bool:=!v15||v15;
 let v21:Bool:=v18||v17;
 let v22:Bool:=!v19||v19;bif v6 then bif v6&&v6 then bif v6 then bif v21 then bif v21 then bif v22 then bif v22 then af (bif v19 then eA x1.2.2 else some false) fun (t:Bool)=>bif v22 then bif (v18||v21)&&(v18||(!v5||(v18||v19))) then bif v16||v17 then bif bif v16 then true else bif v5 then !t else false then some false else bif List.beq (ByteArray.toList x1.1) (ByteArray.toList { data:=#[] }) then some v7 else af (bK x0 x1.1) fun (t:Int)=>bif decide (t<0) then some false else bif x2 then bif v13 then bif v13 then bif v8||v10 then some (bif v8 then true else decide (x1.2.1=(-1))) else none else none else none else bif v14 then bif v14 then bif v9||v11 then bif v20 then bif v20 then bif v12||v15 then some (bif v12 then true else decide (x1.2.1=(-2))) else none else none else none else none else none else none else none else none else none else none else none else none else none else none else none else none
def dJ (x0:(List (ByteArray×Int))×List (ByteArray×(List (ByteArray×Int×Int×Int))×Bool)) (x1:ByteArray×Int×Int×Int) (x2:Bool):Option Bool:=nB lpK jnK bK eA x0 x1 x2
abbrev KY:=((List (ByteArray×Int))×List (ByteArray×(List (ByteArray×Int×Int×Int))×Bool))->(ByteArray×Int×Int×Int)->(Bool)->Option (Bool)
def No (dJ:KY):Ctr:=⟨[T25,T74,.bool],[],[],.one .bool,fun x _ _=>dJ x.1 x.2.1 x.2.2.1⟩
def GE:Ctr:=No dJ
theorem O3 (lp:Lp) (jn:Jn) (bK:GT) (eA:Ow):∀(x:TsS GE.as) (F:TsF GE.fs) (y:TsS GE.cs),nB lp jn bK eA x.1 x.2.1 x.2.2.1=bo lp jn (cx [(167,⟨[T47],[],[],.one .bool,fun x _ _=>eA x.1⟩),(109,KV bK)] [(32,r32),(92,r92),(112,aU)]) aj 4 128 f128 GE x F y:=fun x F y=>by kernel_rfl
theorem Nk:GE.ok prog 128:=Ctr.of_den (an (aa (aa (q32) (by kernel_rfl) Ks) (by kernel_rfl) Nc)) aw (hl:=aj) (d:=4) func128 rfl (by decide) (O3 lpK jnK bK eA)
def nD (lp:Lp) (_:Jn) (bb:t88) (dJ:KY) (x0:(List (ByteArray×Int))×List (ByteArray×(List (ByteArray×Int×Int×Int))×Bool)) (x1:ByteArray×(List (ByteArray×Int×Int×Int))×Bool):Option Bool :=
 
 let v4:Bool:=!x1.2.2;
 let v5:Bool:=!v4;
 let v6:Bool:=!v5;
 let v7:Int:=IntKind.wrap .i64 ((↑x1.2.1.length:Int) - 1);
 let v8:Bool:=v6||v5;af (bb (↑x1.2.1.length:Int) 2 10) fun (t:Bool)=>bif !t then some false else lp (Int×PUnit) Bool (fun (again : Int×PUnit->Option Bool) (x:Int×PUnit) =>
 let v12:Bool:=decide (x.1=0);
 let v13:Bool:=!v12;
 let v14:Bool:=!v13||v13;bif decide (x.1<(↑x1.2.1.length:Int)) then bif inB x.1 x1.2.1.length then bif v14 then bif v14&&v14 then bif v12||v13 then af (dJ x0 (x1.2.1.getD x.1.toNat ({ data:={ toList:=[] } },0,0,0)) (bif v12 then true else decide (x.1=v7))) fun (t : Bool)=>bif !t then some false else again (IntKind.wrap .i64 (x.1+1),PUnit.unit) else none else none else none else none else bif v8 then bif v8 then bif v8&&(v8 && (v6||inB v7 x1.2.1.length)) then bif v8 then bif v8 then bif v8 then bif v4||v5 then some (bif v4 then true else List.beq (ByteArray.toList (x1.2.1.getD v7.toNat ({ data:={ toList:=[] } },0,0,0)).1) (ByteArray.toList { data:=#[] })) else none else none else none else none else none else none else none) (0,PUnit.unit)
def eN (x0:(List (ByteArray×Int))×List (ByteArray×(List (ByteArray×Int×Int×Int))×Bool)) (x1:ByteArray×(List (ByteArray×Int×Int×Int))×Bool):Option Bool:=nD lpK jnK bb dJ x0 x1
abbrev t91:=((List (ByteArray×Int))×List (ByteArray×(List (ByteArray×Int×Int×Int))×Bool))->(ByteArray×(List (ByteArray×Int×Int×Int))×Bool)->Option (Bool)
def c91:Ctr:=⟨[T25,T72],[],[],.one .bool,fun x _ _=>eN x.1 x.2.1⟩
theorem e91 (lp:Lp) (jn:Jn) (bb:t88) (dJ:KY):∀(x:TsS c91.as) (F:TsF c91.fs) (y:TsS c91.cs),nD lp jn bb dJ x.1 x.2.1=bo lp jn (cx [(128,No dJ),(88,k88 bb)] [(32,r32),(92,r92),(112,aU)]) aj 4 91 f91 c91 x F y:=fun x F y=>by kernel_rfl
theorem PS:c91.ok prog 91:=Ctr.of_den (an (aa (aa (q32) (by kernel_rfl) Mj) (by kernel_rfl) Nk)) aw (hl:=aj) (d:=4) func91 rfl (by decide) (e91 lpK jnK bb dJ)
def mO (lp:Lp) (_:Jn) (bb:t88) (dn:t90) (eN:t91) (x0:(List (ByteArray×Int))×List (ByteArray×(List (ByteArray×Int×Int×Int))×Bool)):Option Bool :=
 af (bb (↑x0.1.length:Int) 1 6) fun (t:Bool) =>
 let v4:Bool:=!t;
 let v5:Bool:=!v4;
 let v6:Bool:=!v5||v5;bif v6 then bif v6 then bif v6 then af (bif v5 then bb (↑x0.2.length:Int) 1 6 else some false) fun (t:Bool)=>bif v6 then bif v4||v5 then bif bif v4 then true else !t then some false else lp (Int×List (ByteArray×Bool)×PUnit) Bool (fun (again:Int×List (ByteArray×Bool)×PUnit->Option Bool) (x:Int×List (ByteArray×Bool)×PUnit) =>
 let v10:ByteArray×Int:=x0.1.getD x.1.toNat ({ data:={ toList:=[] } },0);bif decide (x.1<(↑x0.1.length:Int)) then bif inB x.1 x0.1.length then af (dn v10.1) fun (t:Bool) =>
 let v12:Bool:=!t||t;bif v12&&v12 then bif v12 then bif v12 then bif (!!!bif t then !iW str Sh.bool v10.1 false x.2.1 else false)||!!bif t then !iW str Sh.bool v10.1 false x.2.1 else false then bif (!!!bif t then !iW str Sh.bool v10.1 false x.2.1 else false)||!!bif t then !iW str Sh.bool v10.1 false x.2.1 else false then af (bif !!bif t then !iW str Sh.bool v10.1 false x.2.1 else false then bb v10.2 0 16777216 else some false) fun (t_1:Bool)=>bif (!!!bif t then !iW str Sh.bool v10.1 false x.2.1 else false)||!!bif t then !iW str Sh.bool v10.1 false x.2.1 else false then bif (!bif t then !iW str Sh.bool v10.1 false x.2.1 else false)||!!bif t then !iW str Sh.bool v10.1 false x.2.1 else false then bif bif !bif t then !iW str Sh.bool v10.1 false x.2.1 else false then true else !t_1 then some false else again (IntKind.wrap .i64 (x.1+1),tU str Sh.bool v10.1 true x.2.1,PUnit.unit) else none else none else none else none else none else none else none else none else lp (Int×Int×List (ByteArray×Bool)×PUnit) Bool (fun (again:Int×Int×List (ByteArray×Bool)×PUnit->Option Bool) (x:Int×Int×List (ByteArray×Bool)×PUnit) =>
 let v13:ByteArray×List (ByteArray×Int×Int×Int)×Bool:=x0.2.getD x.2.1.toNat ({ data:={ toList:=[] } },[],false);bif decide (x.2.1<(↑x0.2.length:Int)) then bif inB x.2.1 x0.2.length then af (dn v13.1) fun (t:Bool) =>
 let v15:Bool:=!t||t;bif v15&&v15 then bif v15 then bif v15 then bif ((!!!bif t then !iW str Sh.bool v13.1 false x.2.2.1 else false)||!!bif t then !iW str Sh.bool v13.1 false x.2.2.1 else false)&&((!!!bif t then !iW str Sh.bool v13.1 false x.2.2.1 else false)||!!bif t then !iW str Sh.bool v13.1 false x.2.2.1 else false) then af (bif !!bif t then !iW str Sh.bool v13.1 false x.2.2.1 else false then eN x0 v13 else some false) fun (t_1:Bool)=>bif (!!!bif t then !iW str Sh.bool v13.1 false x.2.2.1 else false)||!!bif t then !iW str Sh.bool v13.1 false x.2.2.1 else false then bif (!bif t then !iW str Sh.bool v13.1 false x.2.2.1 else false)||!!bif t then !iW str Sh.bool v13.1 false x.2.2.1 else false then bif bif !bif t then !iW str Sh.bool v13.1 false x.2.2.1 else false then true else !t_1 then some false else bif v13.2.2 then again (IntKind.wrap .i64 (x.1+1),IntKind.wrap .i64 (x.2.1+1),tU str Sh.bool v13.1 true x.2.2.1,PUnit.unit) else again (x.1,IntKind.wrap .i64 (x.2.1+1),tU str Sh.bool v13.1 true x.2.2.1,PUnit.unit) else none else none else none else none else none else none else none else some (decide (x.1<=1))) (0,0,x.2.1,PUnit.unit)) (0,[],PUnit.unit) else none else none else none else none else none
def aN (x0:(List (ByteArray×Int))×List (ByteArray×(List (ByteArray×Int×Int×Int))×Bool)):Option Bool:=mO lpK jnK bb dn eN x0
abbrev t50:=((List (ByteArray×Int))×List (ByteArray×(List (ByteArray×Int×Int×Int))×Bool))->Option (Bool)
def k50 (aN:t50):Ctr:=⟨[T25],[],[],.one .bool,fun x _ _=>aN x.1⟩
def c50:Ctr:=k50 aN
theorem e50 (lp:Lp) (jn:Jn) (bb:t88) (dn:t90) (eN:t91):∀(x:TsS c50.as) (F:TsF c50.fs) (y:TsS c50.cs),mO lp jn bb dn eN x.1=bo lp jn (cx [(91,⟨[T25,T72],[],[],.one .bool,fun x _ _=>eN x.1 x.2.1⟩),(90,⟨[.str],[],[],.one .bool,fun x _ _=>dn x.1⟩),(88,k88 bb)] [(32,r32),(92,r92),(112,aU)]) aj 4 50 f50 c50 x F y:=fun x F y=>by kernel_rfl
theorem LG:c50.ok prog 50:=Ctr.of_den (an (aa (aa (aa (q32) (by kernel_rfl) Mj) (by kernel_rfl) OO) (by kernel_rfl) PS)) aw (hl:=aj) (d:=4) func50 rfl (by decide) (e50 lpK jnK bb dn eN)
def ls (lp:Lp) (_:Jn) (bK:GT) (aN:t50) (x0:(List (ByteArray×Int))×List (ByteArray×(List (ByteArray×Int×Int×Int))×Bool)):Option ((List (List Int))×Int×Unit) :=
 af (aN x0) fun (t:Bool)=>bif !t then some ([],1,PUnit.unit) else bif decide (0<=(↑x0.1.length:Int))&&dM (Int.toNat (↑x0.1.length : Int)) 24 then lp (Int×(List Nat×List (Option (List Int)))×PUnit) (List (List Int)×Int×PUnit) (fun (again:Int×(List Nat×List (Option (List Int)))×PUnit -> Option (List (List Int)×Int×PUnit)) (x:Int×(List Nat×List (Option (List Int)))×PUnit)=>bif decide (x.1<(↑(List.length (Nat.brecOn (motive:=fun (x:Nat)=>Nat->List Nat) (Int.toNat (↑x0.1.length:Int)) (fun (x:Nat) (f:Nat.below (motive:=fun (x:Nat)=>Nat->List (T ref)) x) (x_1:Nat)=>(match (motive:=(x:Nat)->Nat->Nat.below (motive:=fun (x:Nat)=>Nat->List (T ref)) x->List Nat) x,x_1 with | 0,x=>fun (_:PUnit)=>[] | Nat.succ n,k=>fun (x:(Nat->List Nat) ×' Nat.rec PUnit (fun (n:Nat) (n_ih:Type)=>(fun (x:Nat)=>Nat->List (T ref)) n ×' n_ih) n)=>(k+0) ::x.1 (k+1)) f) 0)):Int)) then bif decide (0 <= (↑x0.2.length:Int))&&dM (Int.toNat (↑x0.2.length:Int)) 8 then bif inB x.1 x.2.1.1.length then bif Nat.ble (Nat.succ x.1.toNat) x.2.1.1.length then again (IntKind.wrap .i64 (x.1+1),(x.2.1.1.set x.1.toNat x.2.1.2.length,x.2.1.2++[some (List.replicate (Int.toNat (↑x0.2.length:Int)) 0)]),PUnit.unit) else none else none else none else lp (Int×(List Nat×List (Option (List Int)))×PUnit) (List (List Int)×Int×PUnit) (fun (again:Int×(List Nat×List (Option (List Int)))×PUnit->Option (List (List Int)×Int×PUnit)) (x:Int×(List Nat×List (Option (List Int))) × PUnit)=>bif decide (x.1<(↑x0.2.length:Int)) then bif inB x.1 x0.2.length then lp (Int×(List Nat×List (Option (List Int)))×PUnit) (List (List Int)×Int × PUnit) (fun (again_1:Int×(List Nat×List (Option (List Int)))×PUnit->Option (List (List Int)×Int×PUnit)) (x_1:Int×(List Nat×List (Option (List Int)))×PUnit) =>
 let v10:Int:=IntKind.wrap .i64 (x_1.1+1);
 let v11:(List Nat×List (Option (List Int)))×PUnit:=(x_1.2.1,PUnit.unit);
 let v12:ByteArray×Int×Int×Int:=List.getD (x0.2.getD x.1.toNat ({ data:={ toList:=[] } },[],false)).2.1 x_1.1.toNat ({ data:={ toList:=[] } },0,0,0);bif decide (x_1.1<(↑(List.length (x0.2.getD x.1.toNat ({ data:={ toList:=[] } },[],false)).2.1):Int)) then bif inB x_1.1 (List.length (x0.2.getD x.1.toNat ({ data:={ toList:=[] } },[],false)).2.1) then af (bK x0 v12.1) fun (t:Int)=>bif decide (t>=(0 : Int)) then bif inB t x_1.2.1.1.length then bif Nat.ble (Nat.succ t.toNat) x_1.2.1.1.length then bif inB x.1 (List.length (bw x_1.2.1.2 (x_1.2.1.1.getD t.toNat 0))) then bif Nat.ble (Nat.succ x.1.toNat) (List.length (bw x_1.2.1.2 (x_1.2.1.1.getD t.toNat (0 : Nat)))) then bif inB x.1 (List.length (bw x_1.2.1.2 (x_1.2.1.1.getD t.toNat 0))) then bif Nat.ble (Nat.succ x.1.toNat) (List.length (bw x_1.2.1.2 (x_1.2.1.1.getD t.toNat 0))) then again_1 (v10,(x_1.2.1.1,x_1.2.1.2.set (x_1.2.1.1.getD t.toNat 0) (some (List.set (bw x_1.2.1.2 (x_1.2.1.1.getD t.toNat 0)) x.1.toNat (IntKind.wrap .i64 (List.getD (bw x_1.2.1.2 (x_1.2.1.1.getD t.toNat 0)) x.1.toNat 0+v12.2.1))))),PUnit.unit) else none else none else none else none else none else none else again_1 (v10,v11) else none else again (IntKind.wrap .i64 (x.1+1),v11)) (0,x.2.1,PUnit.unit) else none else bif List.all x.2.1.1 fun (x_1:Nat)=>fE x.2.1.2 x_1 then some (List.map (fun (x_1:Nat)=>bw x.2.1.2 x_1) x.2.1.1,0,PUnit.unit) else none) (0,x.2.1,PUnit.unit)) (0, (Nat.brecOn (motive:=fun (x:Nat)=>Nat->List Nat) (Int.toNat (↑x0.1.length:Int)) (fun (x:Nat) (f:Nat.below (motive:=fun (x:Nat)=>Nat->List (T ref)) x) (x_1:Nat)=>(match (motive:=(x:Nat)->Nat->Nat.below (motive:=fun (x:Nat)=>Nat->List (T ref)) x->List Nat) x,x_1 with | 0,x=>fun (_:PUnit)=>[] | Nat.succ n,k=>fun (x:(Nat->List Nat) ×' Nat.rec PUnit (fun (n:Nat) (n_ih:Type)=>(fun (x:Nat)=>Nat->List (T ref)) n ×' n_ih) n)=>(k+0) ::x.1 (k+1)) f) 0,List.replicate (Int.toNat (↑x0.1.length:Int)) (some [])),PUnit.unit) else none
def bm (x0:(List (ByteArray×Int))×List (ByteArray×(List (ByteArray×Int×Int×Int))×Bool)):Option ((List (List Int))×Int×Unit):=ls lpK jnK bK aN x0
abbrev t72:=((List (ByteArray×Int))×List (ByteArray×(List (ByteArray×Int×Int×Int))×Bool))->Option ((List (List Int))×Int×Unit)
def k72 (bm:t72):Ctr:=⟨[T25],[],[],.tup [(.sl (.sl i64)),i64],fun x _ _=>bm x.1⟩
def c72:Ctr:=k72 bm
theorem e72 (lp:Lp) (jn:Jn) (bK:GT) (aN:t50):∀(x:TsS c72.as) (F:TsF c72.fs) (y:TsS c72.cs),ls lp jn bK aN x.1=bo lp jn (cx [(50,k50 aN),(109,KV bK)] [(32,r32),(92,r92),(112,aU)]) aj 4 72 f72 c72 x F y:=fun x F y=>by kernel_rfl
theorem Oi:c72.ok prog 72:=Ctr.of_den (an (aa (aa (q32) (by kernel_rfl) Ks) (by kernel_rfl) LG)) aw (hl:=aj) (d:=4) func72 rfl (by decide) (e72 lpK jnK bK aN)
def kz (lp:Lp) (_:Jn) (aN:t50) (x0:(List (ByteArray×Int))×List (ByteArray×(List (ByteArray×Int×Int×Int))×Bool)):Option ((List Int)×Int×Unit) :=
 af (aN x0) fun (t:Bool)=>bif !t then some ([],1,PUnit.unit) else lp (List Int×Int×PUnit) (List Int×Int×PUnit) (fun (again:List Int×Int×PUnit -> Option (List Int×Int×PUnit)) (x:List Int×Int×PUnit)=>bif decide (x.2.1<(↑x0.1.length:Int)) then bif inB x.2.1 x0.1.length then bif dM (List.length x.1+1) 8 then again (x.1++[(x0.1.getD x.2.1.toNat ({ data:={ toList:=[] } },0)).2],IntKind.wrap .i64 (x.2.1+1),PUnit.unit) else none else none else some (x.1,0,PUnit.unit)) ([],0,PUnit.unit)
def cD (x0:(List (ByteArray×Int))×List (ByteArray×(List (ByteArray×Int×Int×Int))×Bool)):Option ((List Int)×Int×Unit):=kz lpK jnK aN x0
abbrev t73:=((List (ByteArray×Int))×List (ByteArray×(List (ByteArray×Int×Int×Int))×Bool))->Option ((List Int)×Int×Unit)
def k73 (cD:t73):Ctr:=⟨[T25],[],[],.tup [(.sl i64),i64],fun x _ _=>cD x.1⟩
def c73:Ctr:=k73 cD
theorem e73 (lp:Lp) (jn:Jn) (aN:t50):∀(x:TsS c73.as) (F:TsF c73.fs) (y:TsS c73.cs),kz lp jn aN x.1=bo lp jn (cx [(50,k50 aN)] [(32,r32),(92,r92),(112,aU)]) aj 4 73 f73 c73 x F y:=fun x F y=>by kernel_rfl
theorem QA:c73.ok prog 73:=Ctr.of_den (an (aa (q32) (by kernel_rfl) LG)) aw (hl:=aj) (d:=4) func73 rfl (by decide) (e73 lpK jnK aN)
def ql (lp:Lp) (_:Jn) (bm:t72) (cD:t73) (x0:(List (ByteArray×Int))×List (ByteArray×(List (ByteArray×Int×Int×Int))×Bool)) (x1:List Int):Option (((List Int)×List ((List Int)×Int×Int))×Int×Unit) :=
 af (bm x0) fun (t:List (List Int)×Int×PUnit)=>bif !decide (t.2.1=0) then some (([],[]),t.2.1,PUnit.unit) else af (cD x0) fun (t_1 : List Int×Int×PUnit)=>bif !decide (t_1.2.1=0) then some (([],[]),t_1.2.1,PUnit.unit) else lp (Int×List Int×List (List Int×Int×Int)×PUnit) ((List Int×List (List Int×Int×Int))×Int×PUnit) (fun (again:Int×List Int×List (List Int×Int×Int)×PUnit->Option ((List Int×List (List Int×Int×Int))×Int×PUnit)) (x:Int×List Int×List (List Int×Int×Int)×PUnit)=>bif decide (x.1<(↑t.1.length:Int)) then bif inB x.1 t.1.length then bif inB x.1 t_1.1.length then bif dM (List.length x.2.2.1+1) 40 then again (IntKind.wrap .i64 (x.1+1),x.2.1,x.2.2.1++[(t.1.getD x.1.toNat [],3,t_1.1.getD x.1.toNat 0)],PUnit.unit) else none else none else none else some ((x.2.1,x.2.2.1),0, PUnit.unit)) (0,x1,[],PUnit.unit)
def fH (x0:(List (ByteArray×Int))×List (ByteArray×(List (ByteArray×Int×Int×Int))×Bool)) (x1:List Int):Option (((List Int)×List ((List Int)×Int×Int))×Int×Unit):=ql lpK jnK bm cD x0 x1
abbrev t97:=((List (ByteArray×Int))×List (ByteArray×(List (ByteArray×Int×Int×Int))×Bool))->(List Int)->Option (((List Int)×List ((List Int)×Int×Int))×Int×Unit)
def c97:Ctr:=⟨[T25,(.sl i64)],[],[],.tup [T82,i64],fun x _ _=>fH x.1 x.2.1⟩
theorem e97 (lp:Lp) (jn:Jn) (bm:t72) (cD:t73):∀(x:TsS c97.as) (F:TsF c97.fs) (y:TsS c97.cs),ql lp jn bm cD x.1 x.2.1=bo lp jn (cx [(73,k73 cD),(72,k72 bm)] [(32,r32),(92,r92),(112,aU)]) aj 4 97 f97 c97 x F y:=fun x F y=>by kernel_rfl
theorem Ps:c97.ok prog 97:=Ctr.of_den (an (aa (aa (q32) (by kernel_rfl) Oi) (by kernel_rfl) QA)) aw (hl:=aj) (d:=4) func97 rfl (by decide) (e97 lpK jnK bm cD)
def qE (_:Lp) (_:Jn) (x0:Int) (x1:Int):Option (Int×Int×Unit) :=
 
 let v4:Int:=2 ^ 32;
 let v5:Int:=Int.fdiv x0 v4;
 let v6:Int:=Int.fdiv x1 v4;
 let v7:Bool:=decide ((0:Int)<=32);
 let v8:Int:=IntKind.wrap .u64 (↑(Nat.land (Int.toNat (x1 % Int.ofNat 18446744073709551616)) (Int.toNat (4294967295 % Int.ofNat 18446744073709551616))) : Int);
 let v9:Int:=IntKind.wrap .u64 (↑(Nat.land (Int.toNat (x0 % Int.ofNat 18446744073709551616)) (Int.toNat (4294967295 % Int.ofNat 18446744073709551616))) : Int);
 let v10:Int:=IntKind.wrap .u64 (IntKind.wrap .u64 (v5*v8)+Int.fdiv (IntKind.wrap .u64 (v9*v8)) v4);bif v7 then bif v7 then bif v7 then bif v7 then bif v7 then some (IntKind.wrap .u64 (IntKind.wrap .u64 (IntKind.wrap .u64 (v5*v6)+Int.fdiv v10 v4)+Int.fdiv (IntKind.wrap .u64 (IntKind.wrap .u64 (↑(Nat.land (Int.toNat (v10 % Int.ofNat 18446744073709551616)) (Int.toNat (4294967295 % Int.ofNat 18446744073709551616))):Int)+IntKind.wrap .u64 (v9 * v6))) v4),IntKind.wrap .u64 (x0*x1),PUnit.unit) else none else none else none else none else none
def bz (x0:Int) (x1:Int):Option (Int×Int×Unit):=qE lpK jnK x0 x1
abbrev Bg:=(Int)->(Int)->Option (Int×Int×Unit)
def Ia (bz:Bg):Ctr:=⟨[(.int .u64),(.int .u64)],[],[],.tup [(.int .u64),(.int .u64)],fun x _ _=>bz x.1 x.2.1⟩
def Gt:Ctr:=Ia bz
theorem P0 (lp:Lp) (jn:Jn):∀(x:TsS Gt.as) (F:TsF Gt.fs) (y:TsS Gt.cs),qE lp jn x.1 x.2.1=bo lp jn (cx [] [(32,r32),(92,r92),(112,aU)]) aj 4 107 f107 Gt x F y:=fun x F y=>by kernel_rfl
theorem E4:Gt.ok prog 107:=Ctr.of_den (an (q32)) aw (hl:=aj) (d:=4) func107 rfl (by decide) (P0 lpK jnK)
def qf (_:Lp) (_:Jn) (x0:Int) (x1:Int):Option (Int×Int×Unit) :=
 
 let v4:Int:=IntKind.wrap .u64 (IntKind.wrap .u64 x0*IntKind.wrap .u64 x1);bif decide ((0:Int)<=32) then some (IntKind.wrap IntKind.u32 (Int.fdiv v4 (2 ^ 32)),IntKind.wrap IntKind.u32 v4,PUnit.unit) else none
def fK (x0:Int) (x1:Int):Option (Int×Int×Unit):=qf lpK jnK x0 x1
def Mf (fK:(Int)->(Int)->Option (Int×Int×Unit)):Ctr:=⟨[(.int .u32),(.int .u32)],[],[],.tup [(.int .u32),(.int .u32)],fun x _ _=>fK x.1 x.2.1⟩
def F5:Ctr:=Mf fK
theorem O1 (lp:Lp) (jn:Jn):∀(x:TsS F5.as) (F:TsF F5.fs) (y:TsS F5.cs),qf lp jn x.1 x.2.1=bo lp jn (cx [] [(32,r32),(92,r92),(112,aU)]) aj 4 173 f173 F5 x F y:=fun x F y=>by kernel_rfl
theorem Oq:F5.ok prog 173:=Ctr.of_den (an (q32)) aw (hl:=aj) (d:=4) func173 rfl (by decide) (O1 lpK jnK)
def tx (_:Lp) (_:Jn) (bz:Bg) (_:(Int)->(Int)->Option (Int×Int×Unit)) (x0:Int) (x1:Int):Option (Int×Int×Unit) :=
 af (bz x0 x1) fun (t:Int×Int×PUnit)=>some (t.1,t.2.1,PUnit.unit)
def gm (x0:Int) (x1:Int):Option (Int×Int×Unit):=tx lpK jnK bz fK x0 x1
abbrev Ls:=(Int)->(Int)->Option (Int×Int×Unit)
def MB (gm:Ls):Ctr:=⟨[(.int .u64),(.int .u64)],[],[],.tup [(.int .u64),(.int .u64)],fun x _ _=>gm x.1 x.2.1⟩
def HN:Ctr:=MB gm
theorem OB (lp:Lp) (jn:Jn) (bz:Bg) (fK:(Int)->(Int)->Option (Int×Int×Unit)):∀(x:TsS HN.as) (F:TsF HN.fs) (y:TsS HN.cs),tx lp jn bz fK x.1 x.2.1=bo lp jn (cx [(173,Mf fK),(107,Ia bz)] [(32,r32),(92,r92),(112,aU)]) aj 4 140 f140 HN x F y:=fun x F y=>by kernel_rfl
theorem NR:HN.ok prog 140:=Ctr.of_den (an (aa (aa (q32) (by kernel_rfl) E4) (by kernel_rfl) Oq)) aw (hl:=aj) (d:=4) func140 rfl (by decide) (OB lpK jnK bz fK)
def jN (lp:Lp) (jn:Jn) (gm:Ls) (x0:List Int) (x1:Int):Option (List Int) :=
 jn PUnit (List Int) (fun (_:PUnit)=>af (gm (IntKind.wrap .u64 (↑x0.length:Int)) (IntKind.wrap .u64 x1)) fun (t:Int×Int×PUnit) =>
 let v6:List Int:=List.take (Int.toNat (IntKind.wrap .i64 t.2.1)) x0;
 let v7:List Int:=List.replicate (Int.toNat (IntKind.wrap .i64 t.2.1)) 0;
 let v8:Bool:=decide (t.1>0);
 let v9:Bool:=!v8;bif !v9||v9 then bif v8||v9 then jn PUnit (List Int) (fun (_:PUnit)=>bif decide (0<=IntKind.wrap .i64 t.2.1)&&dM (Int.toNat (IntKind.wrap .i64 t.2.1)) 8 then lp (Int×List Int×PUnit) (List Int) (fun (again:Int×List Int×PUnit->Option (List Int)) (x:Int×List Int×PUnit) =>
 let v13:List Int:=List.take x.1.toNat x.2.1;
 let v14:List Int:=List.take (Int.toNat (↑x.2.1.length:Int) - Int.toNat x.1) (List.drop 0 v13);bif decide (x.1<(↑x.2.1.length:Int)) then bif slB x.1 (↑x.2.1.length:Int) x.2.1.length then bif slB 0 x.1 x.2.1.length then bif Nat.ble x.1.toNat (Int.toNat (↑x.2.1.length:Int))&&(Nat.ble (Int.toNat (↑x.2.1.length:Int)) x.2.1.length&&Nat.ble x.1.toNat x.2.1.length) then again (IntKind.wrap IntKind.i64 (x.1+(↑v14.length:Int)),v13++v14++List.drop (Int.toNat x.1+List.length v14) x.2.1,PUnit.unit) else none else none else none else some x.2.1) ((↑v6.length:Int),List.take 0 v7++v6++List.drop (0+List.length v6) v7,PUnit.unit) else none) fun (j:PUnit->Option (List Int))=>bif bif v8 then true else decide (t.2.1>9223372036854775807) then none else j PUnit.unit else none else none) fun (j:PUnit->Option (List Int))=>bif decide (x1<0) then none else j PUnit.unit
def cg (x0:List Int) (x1:Int):Option (List Int):=jN lpK jnK gm x0 x1
abbrev t98:=(List Int)->(Int)->Option (List Int)
def k98 (cg:t98):Ctr:=⟨[(.sl i64),i64],[],[],.one (.sl i64),fun x _ _=>cg x.1 x.2.1⟩
def c98:Ctr:=k98 cg
theorem e98 (lp:Lp) (jn:Jn) (gm:Ls):∀(x:TsS c98.as) (F:TsF c98.fs) (y:TsS c98.cs),jN lp jn gm x.1 x.2.1=bo lp jn (cx [(140,MB gm)] [(32,r32),(92,r92),(112,aU)]) aj 4 98 f98 c98 x F y:=fun x F y=>by kernel_rfl
theorem PT:c98.ok prog 98:=Ctr.of_den (an (aa (q32) (by kernel_rfl) NR)) aw (hl:=aj) (d:=4) func98 rfl (by decide) (e98 lpK jnK gm)
def mP (_:Lp) (_:Jn) (fH:t97) (cg:t98) (x0:(List (ByteArray×Int))×List (ByteArray×(List (ByteArray×Int×Int×Int))×Bool)):Option (((List Int)×List ((List Int)×Int×Int))×Int×Unit) :=
 af (cg [1] (↑x0.2.length:Int)) fun (t:List Int)=>af (fH x0 t) fun (t:(List Int×List (List Int×Int×Int))×Int×PUnit)=>some (t.1,t.2.1,PUnit.unit)
def aM (x0:(List (ByteArray×Int))×List (ByteArray×(List (ByteArray×Int×Int×Int))×Bool)):Option (((List Int)×List ((List Int)×Int×Int))×Int×Unit):=mP lpK jnK fH cg x0
abbrev t55:=((List (ByteArray×Int))×List (ByteArray×(List (ByteArray×Int×Int×Int))×Bool))->Option (((List Int)×List ((List Int)×Int×Int))×Int×Unit)
def k55 (aM:t55):Ctr:=⟨[T25],[],[],.tup [T82,i64],fun x _ _=>aM x.1⟩
def c55:Ctr:=k55 aM
theorem e55 (lp:Lp) (jn:Jn) (fH:t97) (cg:t98):∀(x:TsS c55.as) (F:TsF c55.fs) (y:TsS c55.cs),mP lp jn fH cg x.1=bo lp jn (cx [(98,k98 cg),(97,⟨[T25,(.sl i64)],[],[],.tup [T82,i64],fun x _ _=>fH x.1 x.2.1⟩)] [(32,r32),(92,r92),(112,aU)]) aj 4 55 f55 c55 x F y:=fun x F y=>by kernel_rfl
theorem KX:c55.ok prog 55:=Ctr.of_den (an (aa (aa (q32) (by kernel_rfl) Ps) (by kernel_rfl) PT)) aw (hl:=aj) (d:=4) func55 rfl (by decide) (e55 lpK jnK fH cg)
def jj (_:Lp) (_:Jn) (x0:Int) (y0:Int):Option Bool :=
 
 let v4:Bool:=decide (x0<IntKind.wrap .i64 (0 - y0));
 let v5:Bool:=!v4;
 let v6:Bool:=!v5||v5;bif v6&&v6 then bif v4||v5 then some (bif v4 then true else decide (x0>y0)) else none else none
def cQ (x0:Int) (y0:Int):Option Bool:=jj lpK jnK x0 y0
abbrev Mq:=(Int)->(Int)->Option (Bool)
def Gb:Ctr:=⟨[i64],[],[i64],.one .bool,fun x _ y=>cQ x.1 y.1⟩
theorem OD (lp:Lp) (jn:Jn):∀(x:TsS Gb.as) (F:TsF Gb.fs) (y:TsS Gb.cs),jj lp jn x.1 y.1=bo lp jn (cx [] [(32,r32),(92,r92),(112,aU)]) aj 4 142 f142 Gb x F y:=fun x F y=>by kernel_rfl
theorem Na:Gb.ok prog 142:=Ctr.of_den (an (q32)) aw (hl:=aj) (d:=4) func142 rfl (by decide) (OD lpK jnK)
def ko (_:Lp) (_:Jn) (cQ:Mq) (x0:Int):Option ((Int×Unit)->Option Bool) :=
 some fun (x:Int×PUnit)=>cQ x.1 x0
def cH (x0:Int):Option ((Int×Unit)->Option Bool):=ko lpK jnK cQ x0
abbrev Mm:=(Int)->Option ((Int×Unit)->Option Bool)
def LX:FCtr:=⟨[i64],[i64],.bool,fun x=>cH x.1⟩
theorem PO (lp:Lp) (jn:Jn) (cQ:Mq):∀x:TsS LX.as,ko lp jn cQ x.1=L1 lp jn (cx [(142,⟨[i64],[],[i64],.one .bool,fun x _ y=>cQ x.1 y.1⟩)] [(32,r32),(92,r92),(112,aU)]) aj 4 141 f141 LX x:=fun x=>by kernel_rfl
theorem K5:LX.ok prog 141:=FCtr.of_den (an (aa (q32) (by kernel_rfl) Na)) aw (hl:=aj) (d:=4) func141 rfl (by decide) (PO lpK jnK cQ)
def gQ (lp:Lp) (_:Jn) (x0:List Int) (f0:((Int×Unit)->Option Bool)):Option Int :=
 lp (Int×PUnit) Int (fun (again:Int×PUnit->Option Int) (x:Int×PUnit)=>bif decide (x.1<(↑x0.length:Int)) then bif inB x.1 x0.length then af (f0 (x0.getD x.1.toNat 0,PUnit.unit)) fun (t:Bool)=>bif t then some x.1 else again (IntKind.wrap .i64 (x.1+1),PUnit.unit) else none else some (-1)) (0,PUnit.unit)
def bF (x0:List Int) (f0:((Int×Unit)->Option Bool)):Option Int:=gQ lpK jnK x0 f0
abbrev Lq:=(List Int)->(((Int×Unit)->Option Bool))->Option (Int)
def Mn (bF:Lq):Ctr:=⟨[(.sl i64)],[([i64],.bool)],[],.one i64,fun x F _=>bF x.1 F.1⟩
def FF:Ctr:=Mn bF
theorem QC (lp:Lp) (jn:Jn):∀(x:TsS FF.as) (F:TsF FF.fs) (y:TsS FF.cs),gQ lp jn x.1 F.1=bo lp jn (cx [] [(32,r32),(92,r92),(112,aU)]) aj 4 174 f174 FF x F y:=fun x F y=>by kernel_rfl
theorem Oh:FF.ok prog 174:=Ctr.of_den (an (q32)) aw (hl:=aj) (d:=4) func174 rfl (by decide) (QC lpK jnK)
def gg (_:Lp) (_:Jn) (bF:Lq) (x0:List Int) (f0:((Int×Unit)->Option Bool)):Option Bool :=
 af (bF x0 f0) fun (t:Int)=>some (decide (t>=0))
def aW (x0:List Int) (f0:((Int×Unit)->Option Bool)):Option Bool:=gg lpK jnK bF x0 f0
abbrev LN:=(List Int)->(((Int×Unit)->Option Bool))->Option (Bool)
def L8 (aW:LN):Ctr:=⟨[(.sl i64)],[([i64],.bool)],[],.one .bool,fun x F _=>aW x.1 F.1⟩
def G2:Ctr:=L8 aW
theorem Oy (lp:Lp) (jn:Jn) (bF:Lq):∀(x:TsS G2.as) (F:TsF G2.fs) (y:TsS G2.cs),gg lp jn bF x.1 F.1=bo lp jn (cx [(174,Mn bF)] [(32,r32),(92,r92),(112,aU)]) aj 4 143 f143 G2 x F y:=fun x F y=>by kernel_rfl
theorem M2:G2.ok prog 143:=Ctr.of_den (an (aa (q32) (by kernel_rfl) Oh)) aw (hl:=aj) (d:=4) func143 rfl (by decide) (Oy lpK jnK bF)
def gS (lp:Lp) (_:Jn) (x0:List ((List Int)×Int×Int)) (f0:((((List Int)×Int×Int)×Unit)->Option Bool)):Option Int :=
 lp (Int×PUnit) Int (fun (again:Int×PUnit->Option Int) (x:Int×PUnit)=>bif decide (x.1<(↑x0.length:Int)) then bif inB x.1 x0.length then af (f0 (x0.getD x.1.toNat ([],0,0),PUnit.unit)) fun (t:Bool)=>bif t then some x.1 else again (IntKind.wrap .i64 (x.1+1),PUnit.unit) else none else some (-1)) (0,PUnit.unit)
def bE (x0:List ((List Int)×Int×Int)) (f0:((((List Int)×Int×Int)×Unit)->Option Bool)):Option Int:=gS lpK jnK x0 f0
abbrev KZ:=(List ((List Int)×Int×Int))->(((((List Int)×Int×Int)×Unit)->Option Bool))->Option (Int)
def NX (bE:KZ):Ctr:=⟨[(.sl Af)],[([Af],.bool)],[],.one i64,fun x F _=>bE x.1 F.1⟩
def Ev:Ctr:=NX bE
theorem Pu (lp:Lp) (jn:Jn):∀(x:TsS Ev.as) (F:TsF Ev.fs) (y:TsS Ev.cs),gS lp jn x.1 F.1=bo lp jn (cx [] [(32,r32),(92,r92),(112,aU)]) aj 4 175 f175 Ev x F y:=fun x F y=>by kernel_rfl
theorem Mo:Ev.ok prog 175:=Ctr.of_den (an (q32)) aw (hl:=aj) (d:=4) func175 rfl (by decide) (Pu lpK jnK)
def gi (_:Lp) (_:Jn) (bE:KZ) (x0:List ((List Int)×Int×Int)) (f0:((((List Int)×Int×Int)×Unit)->Option Bool)):Option Bool :=
 af (bE x0 f0) fun (t:Int)=>some (decide (t>=0))
def bH (x0:List ((List Int)×Int×Int)) (f0:((((List Int)×Int×Int)×Unit)->Option Bool)):Option Bool:=gi lpK jnK bE x0 f0
def Mr (bH:(List ((List Int)×Int×Int))->(((((List Int)×Int×Int)×Unit)->Option Bool))->Option (Bool)):Ctr:=⟨[(.sl Af)],[([Af],.bool)],[],.one .bool,fun x F _=>bH x.1 F.1⟩
def DU:Ctr:=Mr bH
theorem OT (lp:Lp) (jn:Jn) (bE:KZ):∀(x:TsS DU.as) (F:TsF DU.fs) (y:TsS DU.cs),gi lp jn bE x.1 F.1=bo lp jn (cx [(175,NX bE)] [(32,r32),(92,r92),(112,aU)]) aj 4 144 f144 DU x F y:=fun x F y=>by kernel_rfl
theorem MA:DU.ok prog 144:=Ctr.of_den (an (aa (q32) (by kernel_rfl) Mo)) aw (hl:=aj) (d:=4) func144 rfl (by decide) (OT lpK jnK bE)
def mX (lp:Lp) (_:Jn) (aW:LN) (_:(List ((List Int)×Int×Int))->(((((List Int)×Int×Int)×Unit)->Option Bool))->Option (Bool)) (cH:Mm) (x0:(List Int)×List ((List Int)×Int×Int)):Option Bool :=
 
 let v3:Bool:=decide ((↑x0.1.length:Int)<1);
 let v4:Bool:=!v3;
 let v5:Bool:=bif v3 then true else decide ((↑x0.1.length:Int)>12);
 let v6:Bool:=!v4||v4;
 let v7:Bool:=!v5;
 let v8:Bool:=bif v5 then true else decide ((↑x0.2.length:Int)>6);
 let v9:Bool:=!v8;
 let v10:Bool:=!v7||v7;
 let v11:Bool:=!v9||v9;bif v6 then bif v6 then bif v6 then bif v3||v4 then bif v10 then bif v10 then bif v10 then bif v5||v7 then bif v11 then bif v11 then af (bif v9 then cH 1048576 else some fun (_:Int×PUnit)=>none) fun (t:Int×PUnit->Option Bool)=>bif v11&&v11 then af (bif v9 then aW x0.1 t else some false) fun (t:Bool)=>bif v8||v9 then bif bif v8 then true else t then some false else lp (Int×PUnit) Bool (fun (again:Int×PUnit->Option Bool) (x:Int×PUnit) =>
 let v16:List Int×Int×Int:=x0.2.getD x.1.toNat ([],0,0);
 let v17:Bool:=decide (v16.2.1<1);
 let v18:Bool:=decide (v16.2.1>3);
 let v19:Bool:=!decide ((↑v16.1.length:Int)=(↑x0.1.length:Int));
 let v20:Bool:=!v19;
 let v21:Bool:=!v20||v20;bif decide (x.1<(↑x0.2.length:Int)) then bif inB x.1 x0.2.length then bif v21 then bif v21 then af (bif v20 then cH 1048576 else some fun (_:Int×PUnit)=>none) fun (t:Int×PUnit->Option Bool)=>bif v21&&v21 then af (bif v20 then aW v16.1 t else some false) fun (t:Bool) =>
 let v24:Bool:=bif v19 then true else t;
 let v25:Bool:=!v24;
 let v26:Bool:=bif v24 then true else v17;
 let v27:Bool:=!v26;
 let v28:Bool:=bif v26 then true else v18;
 let v29:Bool:=!v25||v25;
 let v30:Bool:=!v28;
 let v31:Bool:=!v27||v27;
 let v32:Bool:=!v30||v30;bif v19||v20 then bif v29 then bif v29 then bif v24||v25 then bif v31 then bif v31 then bif v26||v27 then bif v32 then af (bif v30 then cH 1073741824 else some fun (_:Int×PUnit)=>none) fun (t:Int×PUnit->Option Bool)=>bif v32 then bif v32&&v32 then af (bif v30 then t (v16.2.2, PUnit.unit) else some false) fun (t:Bool)=>bif v28||v30 then bif bif v28 then true else t then some !decide (x.1>=0) else again (IntKind.wrap .i64 (x.1+(1 : Int)),PUnit.unit) else none else none else none else none else none else none else none else none else none else none else none else none else none else none else none else some !decide ((-1:Int)>=0)) (0,PUnit.unit) else none else none else none else none else none else none else none else none else none else none else none else none
def aO (x0:(List Int)×List ((List Int)×Int×Int)):Option Bool:=mX lpK jnK aW bH cH x0
abbrev t99:=((List Int)×List ((List Int)×Int×Int))->Option (Bool)
def k99 (aO:t99):Ctr:=⟨[T82],[],[],.one .bool,fun x _ _=>aO x.1⟩
def c99:Ctr:=k99 aO
theorem e99 (lp:Lp) (jn:Jn) (aW:LN) (bH:(List ((List Int)×Int×Int))->(((((List Int)×Int×Int)×Unit)->Option Bool))->Option (Bool)) (cH:Mm):∀(x:TsS c99.as) (F:TsF c99.fs) (y:TsS c99.cs),mX lp jn aW bH cH x.1=bo lp jn (uG vh ve (MQ [(141,⟨[i64],[i64],.bool,fun x=>cH x.1⟩)] (gj prog shs qa its [(144,Mr bH),(143,L8 aW)] [(32,r32),(92,r92),(112,aU)]))) aj 4 99 f99 c99 x F y:=fun x F y=>by kernel_rfl
theorem Lw:c99.ok prog 99:=Ctr.of_den (an (JC (aa (aa (q32) (by kernel_rfl) M2) (by kernel_rfl) MA) (CZ (by kernel_rfl) K5 (GH)))) aw (hl:=aj) (d:=4) func99 rfl (by decide) (e99 lpK jnK aW bH cH)
def nQ (_:Lp) (_:Jn) (x0:Int):Option Int :=
 
 let v3:Int:=IntKind.wrap .u64 x0;bif decide (x0<0) then some (IntKind.wrap .u64 (0 - v3)) else some v3
def bB (x0:Int):Option Int:=nQ lpK jnK x0
abbrev E7:=(Int)->Option (Int)
def Lo (bB:E7):Ctr:=⟨[i64],[],[],.one (.int .u64),fun x _ _=>bB x.1⟩
def HF:Ctr:=Lo bB
theorem Pq (lp:Lp) (jn:Jn):∀(x:TsS HF.as) (F:TsF HF.fs) (y:TsS HF.cs),nQ lp jn x.1=bo lp jn (cx [] [(32,r32),(92,r92),(112,aU)]) aj 4 147 f147 HF x F y:=fun x F y=>by kernel_rfl
theorem Kk:HF.ok prog 147:=Ctr.of_den (an (q32)) aw (hl:=aj) (d:=4) func147 rfl (by decide) (Pq lpK jnK)
def lv (lp:Lp) (_:Jn) (bB:E7) (x0:List Int) (x1:Int):Option Int :=
 af (bB x1) fun (t:Int)=>lp (Int×Int×PUnit) Int (fun (again:Int×Int×PUnit->Option Int) (x:Int×Int×PUnit)=>bif decide (x.2.1<(↑x0.length : Int)) then bif inB x.2.1 x0.length then af (bB (x0.getD x.2.1.toNat 0)) fun (t:Int)=>again (IntKind.wrap .i64 (x.1 + IntKind.wrap .i64 t),IntKind.wrap .i64 (x.2.1+1),PUnit.unit) else none else some x.1) (IntKind.wrap .i64 (1+IntKind.wrap .i64 t), 0,PUnit.unit)
def dk (x0:List Int) (x1:Int):Option Int:=lv lpK jnK bB x0 x1
abbrev M9:=(List Int)->(Int)->Option (Int)
def Ey:Ctr:=⟨[(.sl i64),i64],[],[],.one i64,fun x _ _=>dk x.1 x.2.1⟩
theorem Qa (lp:Lp) (jn:Jn) (bB:E7):∀(x:TsS Ey.as) (F:TsF Ey.fs) (y:TsS Ey.cs),lv lp jn bB x.1 x.2.1=bo lp jn (cx [(147,Lo bB)] [(32,r32),(92,r92),(112,aU)]) aj 4 146 f146 Ey x F y:=fun x F y=>by kernel_rfl
theorem Np:Ey.ok prog 146:=Ctr.of_den (an (aa (q32) (by kernel_rfl) Kk)) aw (hl:=aj) (d:=4) func146 rfl (by decide) (Qa lpK jnK bB)
def lm (lp:Lp) (jn:Jn) (x0:List Int):Option Int :=
 jn PUnit Int (fun (_:PUnit)=>bif inB 0 x0.length then lp (Int×Int×PUnit) Int (fun (again:Int×Int×PUnit->Option Int) (x:Int×Int×PUnit)=>bif decide (x.2.1<(↑x0.length:Int)) then bif inB x.2.1 x0.length then again (if x0.getD x.2.1.toNat 0>x.1 then x0.getD x.2.1.toNat 0 else x.1,IntKind.wrap .i64 (x.2.1+1),PUnit.unit) else none else some x.1) (x0.getD 0 0,1,PUnit.unit) else none) fun (j:PUnit->Option Int)=>bif decide ((↑x0.length:Int)<1) then none else j PUnit.unit
def dN (x0:List Int):Option Int:=lm lpK jnK x0
abbrev MF:=(List Int)->Option (Int)
def FN:Ctr:=⟨[(.sl i64)],[],[],.one i64,fun x _ _=>dN x.1⟩
theorem PF (lp:Lp) (jn:Jn):∀(x:TsS FN.as) (F:TsF FN.fs) (y:TsS FN.cs),lm lp jn x.1=bo lp jn (cx [] [(32,r32),(92,r92),(112,aU)]) aj 4 148 f148 FN x F y:=fun x F y=>by kernel_rfl
theorem Nq:FN.ok prog 148:=Ctr.of_den (an (q32)) aw (hl:=aj) (d:=4) func148 rfl (by decide) (PF lpK jnK)
def nm (lp:Lp) (_:Jn) (dk:M9) (dN:MF) (x0:(List Int)×List ((List Int)×Int×Int)):Option Bool :=
 af (dk x0.1 0) fun (t:Int)=>lp (List Int×Int×PUnit) Bool (fun (again:List Int×Int×PUnit->Option Bool) (x:List Int×Int×PUnit) =>
 let v6:List Int×Int×Int:=x0.2.getD x.2.1.toNat ([],0,0);bif decide (x.2.1<(↑x0.2.length:Int)) then bif inB x.2.1 x0.2.length then af (dk v6.1 v6.2.2) fun (t:Int)=>bif dM (List.length x.1+1) 8 then again (x.1++[t],IntKind.wrap .i64 (x.2.1+1),PUnit.unit) else none else none else lp (Int×Int×PUnit) Bool (fun (again:Int×Int×PUnit->Option Bool) (x_1:Int×Int×PUnit) =>
 let v9:Int:=x.1.getD x_1.2.1.toNat 0;bif decide (x_1.2.1<(↑x.1.length:Int)) then bif inB x_1.2.1 x.1.length then bif Nat.ble (Nat.succ x_1.2.1.toNat) x.1.length then bif nzB v9 then bif decide (x_1.1>IntKind.wrap .i64 (Int.tdiv 17592186044416 v9)) then some false else again (IntKind.wrap .i64 (x_1.1*v9),IntKind.wrap .i64 (x_1.2.1+1),PUnit.unit) else none else none else none else af (dN x.1) fun (t : Int)=>bif nzB t then some (decide (x_1.1<=IntKind.wrap .i64 (Int.tdiv 144115188075855872 t))) else none) (1,0,PUnit.unit)) ([t],0, PUnit.unit)
def bM (x0:(List Int)×List ((List Int)×Int×Int)):Option Bool:=nm lpK jnK dk dN x0
abbrev GQ:=((List Int)×List ((List Int)×Int×Int))->Option (Bool)
def LS (bM:GQ):Ctr:=⟨[T82],[],[],.one .bool,fun x _ _=>bM x.1⟩
def EF:Ctr:=LS bM
theorem Qi (lp:Lp) (jn:Jn) (dk:M9) (dN:MF):∀(x:TsS EF.as) (F:TsF EF.fs) (y:TsS EF.cs),nm lp jn dk dN x.1=bo lp jn (cx [(148,⟨[(.sl i64)],[],[],.one i64,fun x _ _=>dN x.1⟩),(146,⟨[(.sl i64),i64],[],[],.one i64,fun x _ _=>dk x.1 x.2.1⟩)] [(32,r32),(92,r92),(112,aU)]) aj 4 100 f100 EF x F y:=fun x F y=>by kernel_rfl
theorem Kf:EF.ok prog 100:=Ctr.of_den (an (aa (aa (q32) (by kernel_rfl) Np) (by kernel_rfl) Nq)) aw (hl:=aj) (d:=4) func100 rfl (by decide) (Qi lpK jnK dk dN)
def fN (lp:Lp) (_:Jn) (x0:(List (List Int))×Int×(List Int)×(List Int)×(List Int)×Int×Int) (x1:Int):Option Int :=
 lp (Int×Int×PUnit) Int (fun (again:Int×Int×PUnit->Option Int) (x:Int×Int×PUnit) =>
 let v6:Int×PUnit:=(IntKind.wrap .i64 (x.2.1+1),PUnit.unit);
 let v7:List Int:=x0.1.getD x.2.1.toNat [];bif decide (x.2.1<(↑x0.1.length:Int)) then bif inB x.2.1 x0.1.length then bif inB x.2.1 x0.2.2.1.length then bif decide (x0.2.2.1.getD x.2.1.toNat 0>=x0.2.2.2.2.2.1) then bif inB x1 v7.length then again (IntKind.wrap .i64 (x.1+v7.getD x1.toNat 0),v6) else none else again (x.1,v6) else none else none else some x.1) (0,0,PUnit.unit)
def ao (x0:(List (List Int))×Int×(List Int)×(List Int)×(List Int)×Int×Int) (x1:Int):Option Int:=fN lpK jnK x0 x1
abbrev HJ:=((List (List Int))×Int×(List Int)×(List Int)×(List Int)×Int×Int)->(Int)->Option (Int)
def KO (ao:HJ):PCtr:=⟨Dw,[i64],.one i64,fun x y=>ao x y.1⟩
def Iw:PCtr:=KO ao
theorem Qj (lp:Lp) (jn:Jn):∀(x:Iw.s.T) (y:TsS Iw.as),fN lp jn x y.1=Ar lp jn (cx [] [(32,r32),(92,r92),(112,aU)]) aj 4 106 f106 Iw x y:=fun x y=>by kernel_rfl
theorem Kh:Iw.ok prog 106:=PCtr.of_den (an (q32)) aw (hl:=aj) (d:=4) func106 rfl (by decide) (Qj lpK jnK)
def mG (_:Lp) (_:Jn) (bz:Bg) (bB:E7) (x0:Int) (x1:Int):Option (Bool×Int×Int) :=
 
 let v4:Bool:=!decide (decide (x0<0)=decide (x1<0));
 let v5:Bool:=!v4;
 let v6:Bool:=v5||v4;af (bB x0) fun (t:Int)=>af (bB x1) fun (t_1:Int)=>af (bz t t_1) fun (t:Int×Int×PUnit) =>
 let v10:Bool:=!decide (t.1=0);
 let v11:Bool:=v4&&!v10;bif v6 then bif v6 then bif !v11||v11 then bif (v5||v6)&&(v5||(v10||(v5||v11))) then bif v6 then some (bif v4 then bif v10 then true else !decide (t.2.1=0) else false,t.1,t.2.1) else none else none else none else none else none
def bg (x0:Int) (x1:Int):Option (Bool×Int×Int):=mG lpK jnK bz bB x0 x1
abbrev HP:=(Int)->(Int)->Option (Bool×Int×Int)
def LC (bg:HP):Ctr:=⟨[i64,i64],[],[],.one qz,fun x _ _=>bg x.1 x.2.1⟩
def DT:Ctr:=LC bg
theorem O6 (lp:Lp) (jn:Jn) (bz:Bg) (bB:E7):∀(x:TsS DT.as) (F:TsF DT.fs) (y:TsS DT.cs),mG lp jn bz bB x.1 x.2.1=bo lp jn (cx [(147,Lo bB),(107,Ia bz)] [(32,r32),(92,r92),(112,aU)]) aj 4 176 f176 DT x F y:=fun x F y=>by kernel_rfl
theorem Ku:DT.ok prog 176:=Ctr.of_den (an (aa (aa (q32) (by kernel_rfl) E4) (by kernel_rfl) Kk)) aw (hl:=aj) (d:=4) func176 rfl (by decide) (O6 lpK jnK bz bB)
def gd (_:Lp) (_:Jn) (x0:Bool×Int×Int) (x1:Bool×Int×Int):Option Int :=
 
 let v4:Bool:=decide (x0.2.1=x1.2.1);
 let v5:Bool:=!v4;
 let v6:Bool:=v5||v4;
 let v7:Bool:=!v5||v5;
 let v8:Bool:=bif v5 then decide (x0.2.1<x1.2.1) else false;
 let v9:Bool:=!v8;
 let v10:Bool:=!v9;
 let v11:Bool:=v9&&v4;
 let v12:Bool:=v10||v9;
 let v13:Bool:=!v11||v11;bif v7 then bif v7 then bif v7&&v7 then bif v7 then bif v12 then bif v12 then bif v12&&v12 then bif v12 then bif v13 then bif v13 then bif v13&&v13 then bif (v10||v12)&&(v10||(v5||(v10||v11))) then bif v8||v9 then bif bif v8 then true else bif v4 then decide (x0.2.2<x1.2.2) else false then some (-1) else bif v6 then bif v6 then bif v6&&v6 then bif v6 then bif bif v4 then decide (x0.2.2=x1.2.2) else false then some 0 else some 1 else none else none else none else none else none else none else none else none else none else none else none else none else none else none else none else none else none
def ap (x0:Bool×Int×Int) (x1:Bool×Int×Int):Option Int:=gd lpK jnK x0 x1
abbrev Fg:=(Bool×Int×Int)->(Bool×Int×Int)->Option (Int)
def LJ (ap:Fg):Ctr:=⟨[qz,qz],[],[],.one i64,fun x _ _=>ap x.1 x.2.1⟩
def Eg:Ctr:=LJ ap
theorem Qb (lp:Lp) (jn:Jn):∀(x:TsS Eg.as) (F:TsF Eg.fs) (y:TsS Eg.cs),gd lp jn x.1 x.2.1=bo lp jn (cx [] [(32,r32),(92,r92),(112,aU)]) aj 4 192 f192 Eg x F y:=fun x F y=>by kernel_rfl
theorem Kr:Eg.ok prog 192:=Ctr.of_den (an (q32)) aw (hl:=aj) (d:=4) func192 rfl (by decide) (Qb lpK jnK)
def gE (_:Lp) (jn:Jn) (ap:Fg) (x0:Bool×Int×Int) (x1:Bool×Int×Int):Option (Bool×Int×Int) :=
 
 let v4:Bool:=!x0.1;
 let v5:Bool:=!x1.1;
 let v6:Bool:=!v4;
 let v7:Bool:=v4&&v5;
 let v8:Bool:=v6||v4;
 let v9:Bool:=!v7;
 let v10:Bool:=v9||v7;
 let v11:Bool:=!decide (x1.2.1=0);
 let v12:Bool:=v7&&!v11;
 let v13:Bool:=decide ((0:Int)<=0)&&decide ((0:Int)<=1);
 let v14:Bool:=!v12||v12;bif !decide (x0.1=x1.1) then bif v13 then bif decide (0<=xS x0.2.2 x1.2.2 0)&&decide (xS x0.2.2 x1.2.2 (0 : Int)<=1) then bif v8 then bif v8 then bif v8 then bif v10 then bif v10 then bif v10 then bif v14 then bif v14 then bif (v9||v10)&&(v9||(v11||(v9||v12))) then bif (v6 || v8)&&(v6||(!v5||(v6||v7))) then bif x0.1||v4 then some (bif x0.1 then true else bif v5 then bif v11 then true else !decide (x1.2.2=0) else false,AF x0.2.1 x1.2.1 (xS x0.2.2 x1.2.2 0),AF x0.2.2 x1.2.2 0) else none else none else none else none else none else none else none else none else none else none else none else none else none else af (ap x0 x1) fun (t:Int)=>jn (Bool×(Bool×Int×Int)×(Bool×Int×Int)×PUnit) (Bool×Int×Int) (fun (x:Bool×(Bool×Int×Int)×(Bool×Int×Int)×PUnit) =>
 let v17:Bool:=!x.1;
 let v18:Bool:=v17||x.1;
 let v19:Bool:=!decide (vf x.2.1.2.1 x.2.2.1.2.1 (ud x.2.1.2.2 x.2.2.1.2.2 0)=0);
 let v20:Bool:=x.1&&!v19;bif v13 then bif decide (0<=ud x.2.1.2.2 x.2.2.1.2.2 0)&&decide (ud x.2.1.2.2 x.2.2.1.2.2 (0 : Int)<=1) then bif v18 then bif v18 then bif !v20||v20 then bif (v17||v18)&&(v17||(v19||(v17||v20))) then bif v18 then some (bif x.1 then bif v19 then true else !decide (vf x.2.1.2.2 x.2.2.1.2.2 0=0) else false,vf x.2.1.2.1 x.2.2.1.2.1 (ud x.2.1.2.2 x.2.2.1.2.2 (0 : Int)),vf x.2.1.2.2 x.2.2.1.2.2 0) else none else none else none else none else none else none else none) fun (j:Bool×(Bool×Int×Int)×(Bool×Int × Int)×PUnit->Option (Bool×Int×Int))=>bif decide (t<0) then j (v4,x1,x0,PUnit.unit) else j (x0.1,x0,x1,PUnit.unit)
def bu (x0:Bool×Int×Int) (x1:Bool×Int×Int):Option (Bool×Int×Int):=gE lpK jnK ap x0 x1
abbrev LW:=(Bool×Int×Int)->(Bool×Int×Int)->Option (Bool×Int×Int)
def ME (bu:LW):Ctr:=⟨[qz,qz],[],[],.one qz,fun x _ _=>bu x.1 x.2.1⟩
def Ed:Ctr:=ME bu
theorem Pp (lp:Lp) (jn:Jn) (ap:Fg):∀(x:TsS Ed.as) (F:TsF Ed.fs) (y:TsS Ed.cs),gE lp jn ap x.1 x.2.1=bo lp jn (cx [(192,LJ ap)] [(32,r32),(92,r92),(112,aU)]) aj 4 177 f177 Ed x F y:=fun x F y=>by kernel_rfl
theorem M7:Ed.ok prog 177:=Ctr.of_den (an (aa (q32) (by kernel_rfl) Kr)) aw (hl:=aj) (d:=4) func177 rfl (by decide) (Pp lpK jnK ap)
def qS (_:Lp) (jn:Jn) (x0:Int):Option Int :=
 jn (Int×Int×PUnit) Int (fun (x:Int×Int×PUnit)=>jn (Int×Int×PUnit) Int (fun (x:Int×Int×PUnit) =>
 let v5:Int:=IntKind.wrap IntKind.u8 x.1;
 let v6:Int:=IntKind.wrap IntKind.u8 (Int.fdiv x.1 (2 ^ 8));bif decide (x.1>=256) then bif decide ((0:Int)<=8) then bif inB v6 256 then some (IntKind.wrap .i64 (IntKind.wrap .i64 (x.2.1+8)+IntKind.wrap .i64 (jQ { data:=List.toArray (List.append (List.append [(0:UInt8),(1 : UInt8),(2:UInt8),(2:UInt8),(3:UInt8),(3:UInt8),(3:UInt8),(3:UInt8),(4:UInt8),(4:UInt8),(4:UInt8),(4:UInt8),(4:UInt8),(4:UInt8),(4:UInt8),(4 : UInt8),(5:UInt8),(5:UInt8),(5:UInt8),(5:UInt8),(5:UInt8),(5:UInt8),(5:UInt8),(5:UInt8),(5:UInt8),(5:UInt8),(5:UInt8),(5:UInt8),(5:UInt8),(5 : UInt8),(5:UInt8),(5:UInt8),(6:UInt8),(6:UInt8),(6:UInt8),(6:UInt8),(6:UInt8),(6:UInt8),(6:UInt8),(6:UInt8),(6:UInt8),(6:UInt8),(6:UInt8),(6 : UInt8),(6:UInt8),(6:UInt8),(6:UInt8),(6:UInt8),(6:UInt8),(6:UInt8),(6:UInt8),(6:UInt8),(6:UInt8),(6:UInt8),(6:UInt8),(6:UInt8),(6:UInt8),(6 : UInt8),(6:UInt8),(6:UInt8),(6:UInt8),(6:UInt8),(6:UInt8),(6:UInt8)] [(7:UInt8),(7:UInt8),(7:UInt8),(7:UInt8),(7:UInt8),(7:UInt8),(7:UInt8),(7 : UInt8),(7:UInt8),(7:UInt8),(7:UInt8),(7:UInt8),(7:UInt8),(7:UInt8),(7:UInt8),(7:UInt8),(7:UInt8),(7:UInt8),(7:UInt8),(7:UInt8),(7:UInt8),(7 : UInt8),(7:UInt8),(7:UInt8),(7:UInt8),(7:UInt8),(7:UInt8),(7:UInt8),(7:UInt8),(7:UInt8),(7:UInt8),(7:UInt8),(7:UInt8),(7:UInt8),(7:UInt8),(7 : UInt8),(7:UInt8),(7:UInt8),(7:UInt8),(7:UInt8),(7:UInt8),(7:UInt8),(7:UInt8),(7:UInt8),(7:UInt8),(7:UInt8),(7:UInt8),(7:UInt8),(7:UInt8),(7 : UInt8),(7:UInt8),(7:UInt8),(7:UInt8),(7:UInt8),(7:UInt8),(7:UInt8),(7:UInt8),(7:UInt8),(7:UInt8),(7:UInt8),(7:UInt8),(7:UInt8),(7:UInt8),(7 : UInt8)]) (List.append [(8:UInt8),(8:UInt8),(8:UInt8),(8:UInt8),(8:UInt8),(8:UInt8),(8:UInt8),(8:UInt8),(8:UInt8),(8:UInt8),(8:UInt8),(8:UInt8),(8 : UInt8),(8:UInt8),(8:UInt8),(8:UInt8),(8:UInt8),(8:UInt8),(8:UInt8),(8:UInt8),(8:UInt8),(8:UInt8),(8:UInt8),(8:UInt8),(8:UInt8),(8:UInt8),(8 : UInt8),(8:UInt8),(8:UInt8),(8:UInt8),(8:UInt8),(8:UInt8),(8:UInt8),(8:UInt8),(8:UInt8),(8:UInt8),(8:UInt8),(8:UInt8),(8:UInt8),(8:UInt8),(8 : UInt8),(8:UInt8),(8:UInt8),(8:UInt8),(8:UInt8),(8:UInt8),(8:UInt8),(8:UInt8),(8:UInt8),(8:UInt8),(8:UInt8),(8:UInt8),(8:UInt8),(8:UInt8),(8 : UInt8),(8:UInt8),(8:UInt8),(8:UInt8),(8:UInt8),(8:UInt8),(8:UInt8),(8:UInt8),(8:UInt8),(8:UInt8)] [(8:UInt8),(8:UInt8),(8:UInt8),(8:UInt8),(8 : UInt8),(8:UInt8),(8:UInt8),(8:UInt8),(8:UInt8),(8:UInt8),(8:UInt8),(8:UInt8),(8:UInt8),(8:UInt8),(8:UInt8),(8:UInt8),(8:UInt8),(8:UInt8),(8 : UInt8),(8:UInt8),(8:UInt8),(8:UInt8),(8:UInt8),(8:UInt8),(8:UInt8),(8:UInt8),(8:UInt8),(8:UInt8),(8:UInt8),(8:UInt8),(8:UInt8),(8:UInt8),(8 : UInt8),(8:UInt8),(8:UInt8),(8:UInt8),(8:UInt8),(8:UInt8),(8:UInt8),(8:UInt8),(8:UInt8),(8:UInt8),(8:UInt8),(8:UInt8),(8:UInt8),(8:UInt8),(8 : UInt8),(8:UInt8),(8:UInt8),(8:UInt8),(8:UInt8),(8:UInt8),(8:UInt8),(8:UInt8),(8:UInt8),(8:UInt8),(8:UInt8),(8:UInt8),(8:UInt8),(8:UInt8),(8 : UInt8),(8:UInt8),(8:UInt8),(8:UInt8)])) } v6.toNat))) else none else none else bif inB v5 256 then some (IntKind.wrap .i64 (x.2.1+IntKind.wrap IntKind.i64 (jQ { data:=List.toArray (List.append (List.append [(0:UInt8),(1:UInt8),(2:UInt8),(2:UInt8),(3:UInt8),(3:UInt8),(3:UInt8),(3:UInt8),(4 : UInt8),(4:UInt8),(4:UInt8),(4:UInt8),(4:UInt8),(4:UInt8),(4:UInt8),(4:UInt8),(5:UInt8),(5:UInt8),(5:UInt8),(5:UInt8),(5:UInt8),(5:UInt8),(5 : UInt8),(5:UInt8),(5:UInt8),(5:UInt8),(5:UInt8),(5:UInt8),(5:UInt8),(5:UInt8),(5:UInt8),(5:UInt8),(6:UInt8),(6:UInt8),(6:UInt8),(6:UInt8),(6 : UInt8),(6:UInt8),(6:UInt8),(6:UInt8),(6:UInt8),(6:UInt8),(6:UInt8),(6:UInt8),(6:UInt8),(6:UInt8),(6:UInt8),(6:UInt8),(6:UInt8),(6:UInt8),(6 : UInt8),(6:UInt8),(6:UInt8),(6:UInt8),(6:UInt8),(6:UInt8),(6:UInt8),(6:UInt8),(6:UInt8),(6:UInt8),(6:UInt8),(6:UInt8),(6:UInt8),(6:UInt8)] [(7 : UInt8),(7:UInt8),(7:UInt8),(7:UInt8),(7:UInt8),(7:UInt8),(7:UInt8),(7:UInt8),(7:UInt8),(7:UInt8),(7:UInt8),(7:UInt8),(7:UInt8),(7:UInt8),(7 : UInt8),(7:UInt8),(7:UInt8),(7:UInt8),(7:UInt8),(7:UInt8),(7:UInt8),(7:UInt8),(7:UInt8),(7:UInt8),(7:UInt8),(7:UInt8),(7:UInt8),(7:UInt8),(7 : UInt8),(7:UInt8),(7:UInt8),(7:UInt8),(7:UInt8),(7:UInt8),(7:UInt8),(7:UInt8),(7:UInt8),(7:UInt8),(7:UInt8),(7:UInt8),(7:UInt8),(7:UInt8),(7 : UInt8),(7:UInt8),(7:UInt8),(7:UInt8),(7:UInt8),(7:UInt8),(7:UInt8),(7:UInt8),(7:UInt8),(7:UInt8),(7:UInt8),(7:UInt8),(7:UInt8),(7:UInt8),(7 : UInt8),(7:UInt8),(7:UInt8),(7:UInt8),(7:UInt8),(7:UInt8),(7:UInt8),(7:UInt8)]) (List.append [(8:UInt8),(8:UInt8),(8:UInt8),(8:UInt8),(8:UInt8),(8 : UInt8),(8:UInt8),(8:UInt8),(8:UInt8),(8:UInt8),(8:UInt8),(8:UInt8),(8:UInt8),(8:UInt8),(8:UInt8),(8:UInt8),(8:UInt8),(8:UInt8),(8:UInt8),(8 : UInt8),(8:UInt8),(8:UInt8),(8:UInt8),(8:UInt8),(8:UInt8),(8:UInt8),(8:UInt8),(8:UInt8),(8:UInt8),(8:UInt8),(8:UInt8),(8:UInt8),(8:UInt8),(8 : UInt8),(8:UInt8),(8:UInt8),(8:UInt8),(8:UInt8),(8:UInt8),(8:UInt8),(8:UInt8),(8:UInt8),(8:UInt8),(8:UInt8),(8:UInt8),(8:UInt8),(8:UInt8),(8 : UInt8),(8:UInt8),(8:UInt8),(8:UInt8),(8:UInt8),(8:UInt8),(8:UInt8),(8:UInt8),(8:UInt8),(8:UInt8),(8:UInt8),(8:UInt8),(8:UInt8),(8:UInt8),(8 : UInt8),(8:UInt8),(8:UInt8)] [(8:UInt8),(8:UInt8),(8:UInt8),(8:UInt8),(8:UInt8),(8:UInt8),(8:UInt8),(8:UInt8),(8:UInt8),(8:UInt8),(8:UInt8),(8 : UInt8),(8:UInt8),(8:UInt8),(8:UInt8),(8:UInt8),(8:UInt8),(8:UInt8),(8:UInt8),(8:UInt8),(8:UInt8),(8:UInt8),(8:UInt8),(8:UInt8),(8:UInt8),(8 : UInt8),(8:UInt8),(8:UInt8),(8:UInt8),(8:UInt8),(8:UInt8),(8:UInt8),(8:UInt8),(8:UInt8),(8:UInt8),(8:UInt8),(8:UInt8),(8:UInt8),(8:UInt8),(8 : UInt8),(8:UInt8),(8:UInt8),(8:UInt8),(8:UInt8),(8:UInt8),(8:UInt8),(8:UInt8),(8:UInt8),(8:UInt8),(8:UInt8),(8:UInt8),(8:UInt8),(8:UInt8),(8 : UInt8),(8:UInt8),(8:UInt8),(8:UInt8),(8:UInt8),(8:UInt8),(8:UInt8),(8:UInt8),(8:UInt8),(8:UInt8),(8:UInt8)])) } v5.toNat))) else none) fun (j:Int × Int×PUnit->Option Int)=>bif decide (x.1>=65536) then bif decide ((0:Int)<=16) then j (Int.fdiv x.1 (2 ^ 16),IntKind.wrap .i64 (x.2.1+16),PUnit.unit) else none else j (x.1,x.2.1,PUnit.unit)) fun (j:Int×Int×PUnit->Option Int)=>bif decide (x0>=4294967296) then bif decide (0<=32) then j (Int.fdiv x0 (2 ^ 32),32,PUnit.unit) else none else j (x0,0,PUnit.unit)
def fO (x0:Int):Option Int:=qS lpK jnK x0
abbrev Nz:=(Int)->Option (Int)
def D2:Ctr:=⟨[(.int .u64)],[],[],.one i64,fun x _ _=>fO x.1⟩
theorem P9 (lp:Lp) (jn:Jn):∀(x:TsS D2.as) (F:TsF D2.fs) (y:TsS D2.cs),qS lp jn x.1=bo lp jn (cx [] [(32,r32),(92,r92),(112,aU)]) aj 4 194 f194 D2 x F y:=fun x F y=>by kernel_rfl
theorem NF:D2.ok prog 194:=Ctr.of_den (an (q32)) aw (hl:=aj) (d:=4) func194 rfl (by decide) (P9 lpK jnK)
def ib (_:Lp) (_:Jn) (fO:Nz) (x0:Int):Option Int :=
 af (fO x0) fun (t:Int)=>some (IntKind.wrap .i64 (64 - t))
def ci (x0:Int):Option Int:=ib lpK jnK fO x0
abbrev NU:=(Int)->Option (Int)
def He:Ctr:=⟨[(.int .u64)],[],[],.one i64,fun x _ _=>ci x.1⟩
theorem Qw (lp:Lp) (jn:Jn) (fO:Nz):∀(x:TsS He.as) (F:TsF He.fs) (y:TsS He.cs),ib lp jn fO x.1=bo lp jn (cx [(194,⟨[(.int .u64)],[],[],.one i64,fun x _ _=>fO x.1⟩)] [(32,r32),(92,r92),(112,aU)]) aj 4 193 f193 He x F y:=fun x F y=>by kernel_rfl
theorem NB:He.ok prog 193:=Ctr.of_den (an (aa (q32) (by kernel_rfl) NF)) aw (hl:=aj) (d:=4) func193 rfl (by decide) (Qw lpK jnK fO)
def qC (lp:Lp) (jn:Jn) (ci:NU) (x0:Int) (x1:Int) (x2:Int):Option (Int×Int×Unit) :=
 
 let v5:Bool:=nzB x2;
 let v6:Int:=2 ^ 32;
 let v7:Bool:=decide ((0:Int)<=32);jn PUnit (Int×Int×PUnit) (fun (_:PUnit)=>jn PUnit (Int×Int×PUnit) (fun (_:PUnit)=>bif decide (x0=0) then bif v5 then bif v5 then some (IntKind.wrap .u64 (Int.tdiv x1 x2),Int.tmod x1 x2,PUnit.unit) else none else none else af (ci x2) fun (t:Int) =>
 let v11:Int:=IntKind.wrap .u64 t;
 let v12:Bool:=decide (0<=v11);
 let v13:Int:=2 ^ min v11.toNat 64;
 let v14:Int:=IntKind.wrap .u64 (x2*v13);
 let v15:Int:=IntKind.wrap .u64 (x1*v13);
 let v16:Int:=Int.fdiv v14 v6;
 let v17:Int:=Int.fdiv v15 v6;
 let v18:Bool:=nzB v16;
 let v19:Int:=IntKind.wrap .u64 (↑(Nat.land (Int.toNat (v15 % Int.ofNat 18446744073709551616)) (Int.toNat (4294967295 % Int.ofNat 18446744073709551616))) : Int);
 let v20:Int:=IntKind.wrap .u64 (↑(Nat.land (Int.toNat (v14 % Int.ofNat 18446744073709551616)) (Int.toNat (4294967295 % Int.ofNat 18446744073709551616))) : Int);
 let v21:Int:=IntKind.wrap .u64 (↑(Nat.lor (Int.toNat (IntKind.wrap .u64 (x0*v13) % Int.ofNat 18446744073709551616)) (Int.toNat (Int.fdiv x1 (2 ^ min (Int.toNat (IntKind.wrap .u64 (64 - v11))) 64) % Int.ofNat 18446744073709551616))):Int);
 let v22:Int:=IntKind.wrap .u64 (Int.tdiv v21 v16);bif v12 then bif v7 then bif v12 then bif decide (0<=IntKind.wrap .u64 (64 - v11)) then bif v12 then bif v7 then bif v18 then jn (Int×PUnit) (Int×Int×PUnit) (fun (x:Int×PUnit) =>
 let v24:Int:=IntKind.wrap .u64 (IntKind.wrap .u64 (IntKind.wrap .u64 (v21*4294967296)+v17) - IntKind.wrap .u64 (x.1*v14));
 let v25:Int:=IntKind.wrap .u64 (Int.tdiv v24 v16);bif v18 then jn (Int×PUnit) (Int×Int×PUnit) (fun (x_1:Int×PUnit)=>bif v12 then some (IntKind.wrap .u64 (IntKind.wrap .u64 (x.1*4294967296)+x_1.1),Int.fdiv (IntKind.wrap .u64 (IntKind.wrap .u64 (IntKind.wrap .u64 (v24*4294967296) + v19) - IntKind.wrap .u64 (x_1.1*v14))) v13,PUnit.unit) else none) fun (j:Int×PUnit->Option (Int×Int×PUnit))=>lp (Int×Int×PUnit) (Int×Int×PUnit) (fun (again:Int×Int×PUnit->Option (Int×Int×PUnit)) (x:Int×Int×PUnit) =>
 let v29:Int×PUnit:=(IntKind.wrap .u64 (x.2.1 - 1),PUnit.unit);
 let v30:Bool:=decide (x.2.1>=4294967296);
 let v31:Bool:=!v30;
 let v32:Bool:=!v31||v31;
 let v33:Bool:=v32&&v32;bif v33 then bif v32 then bif v33 then bif v33 then bif v30||v31 then bif bif v30 then true else decide (IntKind.wrap .u64 (x.2.1*v20) > IntKind.wrap .u64 (IntKind.wrap .u64 (4294967296*x.1)+v19)) then bif decide (IntKind.wrap .u64 (x.1+v16)>=4294967296) then j v29 else again (IntKind.wrap .u64 (x.1+v16),v29) else j (x.2.1,PUnit.unit) else none else none else none else none else none) (IntKind.wrap .u64 (v24 - IntKind.wrap IntKind.u64 (v25*v16)),v25,PUnit.unit) else none) fun (j:Int×PUnit->Option (Int×Int×PUnit))=>lp (Int×Int×PUnit) (Int×Int×PUnit) (fun (again:Int×Int×PUnit -> Option (Int×Int×PUnit)) (x:Int×Int×PUnit) =>
 let v26:Int:=IntKind.wrap .u64 (x.1 - 1);
 let v27:Bool:=decide (x.1>=4294967296);
 let v28:Bool:=!v27;
 let v29:Bool:=!v28||v28;
 let v30:Bool:=v29&&v29;bif v30 then bif v29 then bif v30 then bif v30 then bif v27||v28 then bif bif v27 then true else decide (IntKind.wrap .u64 (x.1*v20) > IntKind.wrap .u64 (IntKind.wrap .u64 (4294967296*x.2.1)+v17)) then bif decide (IntKind.wrap .u64 (x.2.1+v16)>=4294967296) then j (v26,PUnit.unit) else again (v26,IntKind.wrap .u64 (x.2.1+v16),PUnit.unit) else j (x.1,PUnit.unit) else none else none else none else none else none) (v22, IntKind.wrap .u64 (v21 - IntKind.wrap .u64 (v22*v16)),PUnit.unit) else none else none else none else none else none else none else none) fun (j:PUnit->Option (Int × Int×PUnit))=>bif decide (x2<=x0) then none else j PUnit.unit) fun (j:PUnit->Option (Int×Int×PUnit))=>bif decide (x2=0) then none else j PUnit.unit
def cA (x0:Int) (x1:Int) (x2:Int):Option (Int×Int×Unit):=qC lpK jnK ci x0 x1 x2
abbrev Hh:=(Int)->(Int)->(Int)->Option (Int×Int×Unit)
def L4 (cA:Hh):Ctr:=⟨[(.int .u64),(.int .u64),(.int .u64)],[],[],.tup [(.int .u64),(.int .u64)],fun x _ _=>cA x.1 x.2.1 x.2.2.1⟩
def EM:Ctr:=L4 cA
theorem Pr (lp:Lp) (jn:Jn) (ci:NU):∀(x:TsS EM.as) (F:TsF EM.fs) (y:TsS EM.cs),qC lp jn ci x.1 x.2.1 x.2.2.1=bo lp jn (cx [(193,⟨[(.int .u64)],[],[],.one i64,fun x _ _=>ci x.1⟩)] [(32,r32),(92,r92),(112,aU)]) aj 4 185 f185 EM x F y:=fun x F y=>by kernel_rfl
theorem Kn:EM.ok prog 185:=Ctr.of_den (an (aa (q32) (by kernel_rfl) NB)) aw (hl:=aj) (d:=4) func185 rfl (by decide) (Pr lpK jnK ci)
def gT (_:Lp) (_:Jn) (cA:Hh) (x0:Bool×Int×Int) (x1:Int):Option Int :=
 af (cA x0.2.1 x0.2.2 (IntKind.wrap .u64 x1)) fun (t:Int×Int×PUnit) =>
 let v5:Int:=IntKind.wrap .i64 t.1;bif x0.1 then some (IntKind.wrap .i64 (0 - v5)) else some v5
def bZ (x0:Bool×Int×Int) (x1:Int):Option Int:=gT lpK jnK cA x0 x1
abbrev Ox:=(Bool×Int×Int)->(Int)->Option (Int)
def Ef:Ctr:=⟨[qz,i64],[],[],.one i64,fun x _ _=>bZ x.1 x.2.1⟩
theorem PG (lp:Lp) (jn:Jn) (cA:Hh):∀(x:TsS Ef.as) (F:TsF Ef.fs) (y:TsS Ef.cs),gT lp jn cA x.1 x.2.1=bo lp jn (cx [(185,L4 cA)] [(32,r32),(92,r92),(112,aU)]) aj 4 178 f178 Ef x F y:=fun x F y=>by kernel_rfl
theorem L9:Ef.ok prog 178:=Ctr.of_den (an (aa (q32) (by kernel_rfl) Kn)) aw (hl:=aj) (d:=4) func178 rfl (by decide) (PG lpK jnK cA)
def ij (lp:Lp) (_:Jn) (bg:HP) (bu:LW) (bZ:Ox) (x0:List Nat×List (Option (List Int))) (x1:Int) (x2:List Int) (x3:List Int) (x4:List Int) (x5:Int) (x6:Int) (x7:Int) (x8:Int):Option ((List Nat×List (Option (List Int)))×Int×(List Int)×(List Int)×(List Int)×Int×Int×Unit) :=
 
 let v11:List Int×List Int×List Int×Int×Int×PUnit:=(x2.set x7.toNat x8,x3,x4,x5,x6,PUnit.unit);bif inB x7 x0.1.length then bif Nat.ble (Nat.succ x7.toNat) x0.1.length then bif inB x8 (List.length (bw x0.2 (x0.1.getD x7.toNat 0))) then bif Nat.ble (Nat.succ x8.toNat) (List.length (bw x0.2 (x0.1.getD x7.toNat 0))) then lp (Int×(List Nat×List (Option (List Int)))×PUnit) ((List Nat×List (Option (List Int)))×Int×List Int×List Int×List Int×Int×Int×PUnit) (fun (again:Int×(List Nat×List (Option (List Int)))×PUnit->Option ((List Nat×List (Option (List Int)))×Int×List Int×List Int×List Int×Int×Int×PUnit)) (x:Int×(List Nat×List (Option (List Int)))×PUnit) =>
 let v14:Int:=IntKind.wrap .i64 (x.1+1);
 let v15:(List Nat×List (Option (List Int)))×PUnit:=(x.2.1,PUnit.unit);
 let v16:Int×(List Nat×List (Option (List Int)))×PUnit:=(0,v15);bif decide (x.1<(↑x0.1.length:Int)) then bif inB x.1 x.2.1.1.length then bif Nat.ble (Nat.succ x.1.toNat) x.2.1.1.length then bif decide (x.1=x7) then again (v14,v15) else bif inB x8 (List.length (bw x.2.1.2 (x.2.1.1.getD x.1.toNat 0))) then bif Nat.ble (Nat.succ x8.toNat) (List.length (bw x.2.1.2 (x.2.1.1.getD x.1.toNat 0))) then bif fE x.2.1.2 (x.2.1.1.getD x.1.toNat 0) then lp (Int×(List Nat×List (Option (List Int)))×PUnit) ((List Nat×List (Option (List Int)))×Int × List Int×List Int×List Int×Int×Int×PUnit) (fun (again_1:Int×(List Nat×List (Option (List Int)))×PUnit->Option ((List Nat×List (Option (List Int)))×Int×List Int × List Int×List Int×Int×Int×PUnit)) (x_1:Int×(List Nat×List (Option (List Int)))×PUnit)=>bif decide (x_1.1<(↑(List.length (bw x.2.1.2 (x.2.1.1.getD x.1.toNat 0))):Int)) then bif inB x_1.1 (List.length (bw x_1.2.1.2 (x.2.1.1.getD x.1.toNat 0))) then bif Nat.ble (Nat.succ x_1.1.toNat) (List.length (bw x_1.2.1.2 (x.2.1.1.getD x.1.toNat 0))) then af (bg (List.getD (bw x_1.2.1.2 (x.2.1.1.getD x.1.toNat 0)) x_1.1.toNat 0) (List.getD (bw x0.2 (x0.1.getD x7.toNat 0)) x8.toNat 0)) fun (t:Bool×Int×Int)=>bif inB x7 x_1.2.1.1.length then bif Nat.ble (Nat.succ x7.toNat) x_1.2.1.1.length then bif inB x_1.1 (List.length (bw x_1.2.1.2 (x_1.2.1.1.getD x7.toNat 0))) then bif Nat.ble (Nat.succ x_1.1.toNat) (List.length (bw x_1.2.1.2 (x_1.2.1.1.getD x7.toNat 0))) then af (bg (List.getD (bw x.2.1.2 (x.2.1.1.getD x.1.toNat 0)) x8.toNat 0) (List.getD (bw x_1.2.1.2 (x_1.2.1.1.getD x7.toNat 0)) x_1.1.toNat 0)) fun (t_1:Bool×Int×Int)=>af (bu t t_1) fun (t:Bool × Int×Int)=>af (bZ t x1) fun (t:Int)=>bif inB x_1.1 (List.length (bw x_1.2.1.2 (x.2.1.1.getD x.1.toNat 0))) then bif Nat.ble (Nat.succ x_1.1.toNat) (List.length (bw x_1.2.1.2 (x.2.1.1.getD x.1.toNat 0))) then again_1 (IntKind.wrap .i64 (x_1.1+(1 : Int)),(x_1.2.1.1,x_1.2.1.2.set (x.2.1.1.getD x.1.toNat 0) (some (List.set (bw x_1.2.1.2 (x.2.1.1.getD x.1.toNat 0)) x_1.1.toNat t))),PUnit.unit) else none else none else none else none else none else none else none else none else again (v14,x_1.2.1,PUnit.unit)) v16 else none else none else none else none else none else bif inB x7 x2.length then bif Nat.ble (Nat.succ x7.toNat) x2.length then bif decide (List.getD (bw x0.2 (x0.1.getD x7.toNat 0)) x8.toNat 0<0) then lp (Int×(List Nat×List (Option (List Int)))×PUnit) ((List Nat×List (Option (List Int))) × Int×List Int×List Int×List Int×Int×Int×PUnit) (fun (again:Int×(List Nat×List (Option (List Int)))×PUnit->Option ((List Nat×List (Option (List Int)))×Int×List Int×List Int×List Int×Int×Int×PUnit)) (x_1:Int×(List Nat×List (Option (List Int)))×PUnit)=>bif decide (x_1.1<(↑x.2.1.1.length:Int)) then bif inB x_1.1 x_1.2.1.1.length then bif Nat.ble (Nat.succ x_1.1.toNat) x_1.2.1.1.length then bif fE x_1.2.1.2 (x_1.2.1.1.getD x_1.1.toNat 0) then lp (Int×(List Nat×List (Option (List Int)))×PUnit) ((List Nat×List (Option (List Int)))×Int×List Int×List Int×List Int×Int×Int×PUnit) (fun (again_1:Int×(List Nat×List (Option (List Int)))×PUnit->Option ((List Nat×List (Option (List Int)))×Int×List Int×List Int×List Int×Int×Int×PUnit)) (x:Int × (List Nat×List (Option (List Int)))×PUnit)=>bif decide (x.1<(↑(List.length (bw x_1.2.1.2 (x_1.2.1.1.getD x_1.1.toNat 0))):Int)) then bif inB x.1 (List.length (bw x.2.1.2 (x_1.2.1.1.getD x_1.1.toNat 0))) then bif Nat.ble (Nat.succ x.1.toNat) (List.length (bw x.2.1.2 (x_1.2.1.1.getD x_1.1.toNat 0))) then bif inB x.1 (List.length (bw x.2.1.2 (x_1.2.1.1.getD x_1.1.toNat 0))) then bif Nat.ble (Nat.succ x.1.toNat) (List.length (bw x.2.1.2 (x_1.2.1.1.getD x_1.1.toNat 0))) then again_1 (IntKind.wrap .i64 (x.1+(1 : Int)),(x.2.1.1,x.2.1.2.set (x_1.2.1.1.getD x_1.1.toNat 0) (some (List.set (bw x.2.1.2 (x_1.2.1.1.getD x_1.1.toNat 0)) x.1.toNat (IntKind.wrap .i64 (0 - List.getD (bw x.2.1.2 (x_1.2.1.1.getD x_1.1.toNat 0)) x.1.toNat 0))))),PUnit.unit) else none else none else none else none else again (IntKind.wrap .i64 (x_1.1+1),x.2.1,PUnit.unit)) (0,x_1.2.1, PUnit.unit) else none else none else none else some (x_1.2.1,IntKind.wrap .i64 (0 - List.getD (bw x0.2 (x0.1.getD x7.toNat 0)) x8.toNat 0),v11)) v16 else some (x.2.1,List.getD (bw x0.2 (x0.1.getD x7.toNat 0)) x8.toNat 0,v11) else none else none) (0,x0, PUnit.unit) else none else none else none else none
def aE (x0:List Nat×List (Option (List Int))) (x1:Int) (x2:List Int) (x3:List Int) (x4:List Int) (x5:Int) (x6:Int) (x7:Int) (x8:Int):Option ((List Nat×List (Option (List Int)))×Int×(List Int)×(List Int)×(List Int)×Int×Int×Unit):=ij lpK jnK bg bu bZ x0 x1 x2 x3 x4 x5 x6 x7 x8
abbrev D7:=(List Nat×List (Option (List Int)))->(Int)->(List Int)->(List Int)->(List Int)->(Int)->(Int)->(Int)->(Int)->Option ((List Nat×List (Option (List Int)))×Int×(List Int)×(List Int)×(List Int)×Int×Int×Unit)
def KR (aE:D7):SCtr:=⟨[.b [.x (.tab 79 .ref 3 i64),.d i64,.row 3 i64,.row 3 i64,.row 3 i64,.d i64,.d i64],.d i64,.d i64],[],fun x=>aE x.1 x.2.1 x.2.2.1 x.2.2.2.1 x.2.2.2.2.1 x.2.2.2.2.2.1 x.2.2.2.2.2.2.1 x.2.2.2.2.2.2.2.1 x.2.2.2.2.2.2.2.2.1⟩
def LI:SCtr:=KR aE
theorem OJ (lp:Lp) (jn:Jn) (bg:HP) (bu:LW) (bZ:Ox):∀x:TsR (rhI 0 LI.ks),ij lp jn bg bu bZ x.1 x.2.1 x.2.2.1 x.2.2.2.1 x.2.2.2.2.1 x.2.2.2.2.2.1 x.2.2.2.2.2.2.1 x.2.2.2.2.2.2.2.1 x.2.2.2.2.2.2.2.2.1=ER lp jn (Dn.look []) (cx [(178,⟨[qz,i64],[],[],.one i64,fun x _ _=>bZ x.1 x.2.1⟩),(177,ME bu),(176,LC bg)] [(32,r32),(92,r92),(112,aU)]) aj 4 149 f149 LI x:=fun x=>by kernel_rfl
theorem Ky:LI.ok prog 149:=SCtr.of_den (an (aa (aa (aa (q32) (by kernel_rfl) Ku) (by kernel_rfl) M7) (by kernel_rfl) L9)) aw (ny) (hl:=aj) (d:=4) func149 rfl (by decide) (OJ lpK jnK bg bu bZ)
def ii (_:Lp) (_:Jn) (ap:Fg) (x0:Bool×Int×Int) (x1:Bool×Int×Int):Option Int :=
 
 let v4:Bool:=!decide (x0.1=x1.1);
 let v5:Bool:=!v4||v4;bif v5 then bif v5 then bif bif v4 then x0.1 else false then some (-1) else bif v4 then some 1 else bif x0.1 then af (ap x1 x0) fun (t:Int)=>some t else af (ap x0 x1) fun (t:Int)=>some t else none else none
def cj (x0:Bool×Int×Int) (x1:Bool×Int×Int):Option Int:=ii lpK jnK ap x0 x1
abbrev MN:=(Bool×Int×Int)->(Bool×Int×Int)->Option (Int)
def Hj:Ctr:=⟨[qz,qz],[],[],.one i64,fun x _ _=>cj x.1 x.2.1⟩
theorem OI (lp:Lp) (jn:Jn) (ap:Fg):∀(x:TsS Hj.as) (F:TsF Hj.fs) (y:TsS Hj.cs),ii lp jn ap x.1 x.2.1=bo lp jn (cx [(192,LJ ap)] [(32,r32),(92,r92),(112,aU)]) aj 4 179 f179 Hj x F y:=fun x F y=>by kernel_rfl
theorem Mi:Hj.ok prog 179:=Ctr.of_den (an (aa (q32) (by kernel_rfl) Kr)) aw (hl:=aj) (d:=4) func179 rfl (by decide) (OI lpK jnK ap)
def gB (lp:Lp) (_:Jn) (bg:HP) (cj:MN) (x0:(List (List Int))×Int×(List Int)×(List Int)×(List Int)×Int×Int) (x1:Int):Option Int :=
 lp (Int×Int×PUnit) Int (fun (again:Int×Int×PUnit->Option Int) (x:Int×Int×PUnit) =>
 let v6:Int×PUnit:=(IntKind.wrap .i64 (x.2.1+1),PUnit.unit);
 let v7:Bool:=inB x.1 x0.1.length;
 let v8:List Int:=x0.1.getD x.1.toNat [];
 let v9:List Int:=x0.1.getD x.2.1.toNat [];
 let v10:Bool:=inB x1 v9.length;bif decide (x.2.1<(↑x0.1.length:Int)) then bif inB x.2.1 x0.1.length then bif v10 then bif decide (v9.getD x1.toNat 0<=0) then again (x.1,v6) else bif decide (x.1<0) then again (x.2.1,v6) else bif inB x0.2.2.2.2.2.2 v9.length then bif v7 then bif inB x1 v8.length then af (bg (v9.getD x0.2.2.2.2.2.2.toNat 0) (v8.getD x1.toNat 0)) fun (t:Bool × Int×Int)=>bif v7 then bif inB x0.2.2.2.2.2.2 v8.length then bif v10 then af (bg (v8.getD x0.2.2.2.2.2.2.toNat 0) (v9.getD x1.toNat 0)) fun (t_1:Bool×Int×Int)=>af (cj t t_1) fun (t:Int) =>
 let v14:Bool:=decide (t=0);
 let v15:Bool:=decide (t<0);
 let v16:Bool:=!v15;
 let v17:Bool:=!v16;
 let v18:Bool:=v16&&v14;
 let v19:Bool:=!v18;
 let v20:Bool:=v17||v16;
 let v21:Bool:=v19||v18;bif v20 then bif v20 then bif v21 then bif v21 then bif v21 then bif v21&&(v21&&(v19||inB x.2.1 x0.2.2.1.length)) then bif v21 then bif v21 then bif v21 then bif v21 then bif v21&&(v21&&(v19||inB x.1 x0.2.2.1.length)) then bif v21 then bif v21&&v21 then bif (v17||v20)&&(v17||(!v14 || (v17||v18))) then bif v15||v16 then bif bif v15 then true else bif v14 then decide (x0.2.2.1.getD x.2.1.toNat 0<x0.2.2.1.getD x.1.toNat 0) else false then again (x.2.1,v6) else again (x.1,v6) else none else none else none else none else none else none else none else none else none else none else none else none else none else none else none else none else none else none else none else none else none else none else none else some x.1) ((-1),0,PUnit.unit)
def ax (x0:(List (List Int))×Int×(List Int)×(List Int)×(List Int)×Int×Int) (x1:Int):Option Int:=gB lpK jnK bg cj x0 x1
abbrev Ep:=((List (List Int))×Int×(List Int)×(List Int)×(List Int)×Int×Int)->(Int)->Option (Int)
def L5 (ax:Ep):PCtr:=⟨Dw,[i64],.one i64,fun x y=>ax x y.1⟩
def IM:PCtr:=L5 ax
theorem Ql (lp:Lp) (jn:Jn) (bg:HP) (cj:MN):∀(x:IM.s.T) (y:TsS IM.as),gB lp jn bg cj x y.1=Ar lp jn (cx [(179,⟨[qz,qz],[],[],.one i64,fun x _ _=>cj x.1 x.2.1⟩),(176,LC bg)] [(32,r32),(92,r92),(112,aU)]) aj 4 150 f150 IM x y:=fun x y=>by kernel_rfl
theorem Kw:IM.ok prog 150:=PCtr.of_den (an (aa (aa (q32) (by kernel_rfl) Ku) (by kernel_rfl) Mi)) aw (hl:=aj) (d:=4) func150 rfl (by decide) (Ql lpK jnK bg cj)
def hU (lp:Lp) (_:Jn) (aE:D7) (ao:HJ) (ax:Ep) (x0:List Nat×List (Option (List Int))) (x1:Int) (x2:List Int) (x3:List Int) (x4:List Int) (x5:Int) (x6:Int):Option ((List Nat×List (Option (List Int)))×Int×(List Int)×(List Int)×(List Int)×Int×Int×Bool×Unit) :=
 lp ((List Nat×List (Option (List Int)))×Int×List Int×List Int×List Int×Int×Int×PUnit) ((List Nat×List (Option (List Int)))×Int×List Int×List Int×List Int×Int × Int×Bool×PUnit) (fun (again:(List Nat×List (Option (List Int)))×Int×List Int×List Int×List Int×Int×Int×PUnit->Option ((List Nat×List (Option (List Int)))×Int × List Int×List Int×List Int×Int×Int×Bool×PUnit)) (x:(List Nat×List (Option (List Int)))×Int×List Int×List Int×List Int×Int×Int×PUnit)=>lp (Int×Int × PUnit) ((List Nat×List (Option (List Int)))×Int×List Int×List Int×List Int×Int×Int×Bool×PUnit) (fun (again_1:Int×Int×PUnit->Option ((List Nat×List (Option (List Int)))×Int×List Int×List Int×List Int×Int×Int×Bool×PUnit)) (x_1:Int×Int×PUnit) =>
 let v13:Bool:=decide (x_1.1<0);
 let v14:Int×PUnit:=(IntKind.wrap .i64 (x_1.2.1+1),PUnit.unit);
 let v15:Bool:=decide (x_1.2.1<x.2.2.2.2.2.1);
 let v16:Bool:=!v15||v15;bif v16 then bif v16 then bif bif v15 then v13 else false then af (bif List.all x.1.1 fun (x_2:Nat)=>fE x.1.2 x_2 then ao (List.map (fun (x_2:Nat)=>bw x.1.2 x_2) x.1.1,x.2.1,x.2.2.1,x.2.2.2.1,x.2.2.2.2.1,x.2.2.2.2.2.1, x.2.2.2.2.2.2.1) x_1.2.1 else none) fun (t:Int)=>bif decide (t>0) then again_1 (x_1.2.1,v14) else again_1 (x_1.1,v14) else bif v13 then af (bif List.all x.1.1 fun (x_2:Nat)=>fE x.1.2 x_2 then ao (List.map (fun (x_2:Nat)=>bw x.1.2 x_2) x.1.1,x.2.1,x.2.2.1, x.2.2.2.1,x.2.2.2.2.1,x.2.2.2.2.2.1,x.2.2.2.2.2.2.1) x.2.2.2.2.2.2.1 else none) fun (t:Int)=>bif decide (t>0) then some (x.1,x.2.1,x.2.2.1,x.2.2.2.1,x.2.2.2.2.1,x.2.2.2.2.2.1,x.2.2.2.2.2.2.1,false,PUnit.unit) else lp (Int×(List Nat×List (Option (List Int)))×Int×List Int×List Int×List Int×Int×Int×PUnit) ((List Nat×List (Option (List Int)))×Int×List Int×List Int×List Int×Int×Int × Bool×PUnit) (fun (again:Int×(List Nat×List (Option (List Int)))×Int×List Int×List Int×List Int×Int×Int×PUnit->Option ((List Nat×List (Option (List Int)))×Int × List Int×List Int×List Int×Int×Int×Bool×PUnit)) (x_2:Int×(List Nat×List (Option (List Int)))×Int×List Int×List Int×List Int×Int×Int×PUnit)=>bif decide (x_2.1<(↑x.1.1.length:Int)) then lp (Int×(List Nat×List (Option (List Int)))×Int×List Int×List Int×List Int×Int×Int×PUnit) ((List Nat×List (Option (List Int)))×Int×List Int×List Int×List Int×Int×Int×Bool×PUnit) (fun (again_2:Int×(List Nat×List (Option (List Int)))×Int×List Int×List Int×List Int×Int×Int×PUnit->Option ((List Nat×List (Option (List Int)))×Int×List Int×List Int×List Int×Int×Int×Bool×PUnit)) (x:Int×(List Nat×List (Option (List Int)))×Int×List Int×List Int×List Int×Int×Int×PUnit) =>
 let v22:Int:=IntKind.wrap .i64 (x.1+1);
 let v23:Bool:=decide (x.1<x.2.2.2.2.2.2.1);
 let v24:Bool:=!v23;
 let v25:Bool:=v24||v23;
 let v26:(List Nat×List (Option (List Int)))×Int×List Int×List Int×List Int×Int×Int×PUnit:=(x.2.1,x.2.2.1,x.2.2.2.1,x.2.2.2.2.1, x.2.2.2.2.2.1,x.2.2.2.2.2.2.1,x.2.2.2.2.2.2.2.1,PUnit.unit);bif v25 then bif v25 then bif v25 then bif v25&&(v25&&(v24||inB x_2.1 x.2.2.2.1.length)) then bif v25&&(v24||Nat.ble (Nat.succ x_2.1.toNat) x.2.2.2.1.length) then bif v25 then bif v25 then bif v25 then bif v25 && v25 then bif v25 then bif bif v23 then decide (x.2.2.2.1.getD x_2.1.toNat 0>=x.2.2.2.2.2.2.1) else false then bif inB x_2.1 x.2.1.1.length then bif Nat.ble (Nat.succ x_2.1.toNat) x.2.1.1.length then bif inB x.1 (List.length (bw x.2.1.2 (x.2.1.1.getD x_2.1.toNat 0))) then bif Nat.ble (Nat.succ x.1.toNat) (List.length (bw x.2.1.2 (x.2.1.1.getD x_2.1.toNat 0))) then bif !decide (List.getD (bw x.2.1.2 (x.2.1.1.getD x_2.1.toNat 0)) x.1.toNat 0=0) then af (aE x.2.1 x.2.2.1 x.2.2.2.1 x.2.2.2.2.1 x.2.2.2.2.2.1 x.2.2.2.2.2.2.1 x.2.2.2.2.2.2.2.1 x_2.1 x.1) fun (y:(List Nat×List (Option (List Int)))×Int×List Int×List Int×List Int×Int×Int×PUnit)=>again_2 (v22,y.1,y.2.1,y.2.2.1,y.2.2.2.1,y.2.2.2.2.1,y.2.2.2.2.2.1, y.2.2.2.2.2.2.1,PUnit.unit) else again_2 (v22,v26) else none else none else none else none else again (IntKind.wrap .i64 (x_2.1+1),v26) else none else none else none else none else none else none else none else none else none else none) (0,x_2.2.1,x_2.2.2.1,x_2.2.2.2.1,x_2.2.2.2.2.1, x_2.2.2.2.2.2.1,x_2.2.2.2.2.2.2.1,x_2.2.2.2.2.2.2.2.1,PUnit.unit) else some (x_2.2.1,x_2.2.2.1,x_2.2.2.2.1, x_2.2.2.2.2.1,x_2.2.2.2.2.2.1,x_2.2.2.2.2.2.2.1,x_2.2.2.2.2.2.2.2.1,true,PUnit.unit)) (0,x.1,x.2.1, x.2.2.1,x.2.2.2.1,x.2.2.2.2.1,x.2.2.2.2.2.1,x.2.2.2.2.2.2.1,PUnit.unit) else af (bif List.all x.1.1 fun (x_2:Nat) => fE x.1.2 x_2 then ax (List.map (fun (x_2:Nat)=>bw x.1.2 x_2) x.1.1,x.2.1,x.2.2.1,x.2.2.2.1,x.2.2.2.2.1, x.2.2.2.2.2.1,x.2.2.2.2.2.2.1) x_1.1 else none) fun (t:Int)=>af (aE x.1 x.2.1 x.2.2.1 x.2.2.2.1 x.2.2.2.2.1 x.2.2.2.2.2.1 x.2.2.2.2.2.2.1 t x_1.1) fun (y:(List Nat×List (Option (List Int)))×Int×List Int×List Int×List Int×Int × Int×PUnit)=>again (y.1,y.2.1,y.2.2.1,y.2.2.2.1,y.2.2.2.2.1,y.2.2.2.2.2.1,y.2.2.2.2.2.2.1,PUnit.unit) else none else none) ((-1),0,PUnit.unit)) (x0,x1,x2,x3,x4,x5,x6,PUnit.unit)
def aJ (x0:List Nat×List (Option (List Int))) (x1:Int) (x2:List Int) (x3:List Int) (x4:List Int) (x5:Int) (x6:Int):Option ((List Nat×List (Option (List Int)))×Int×(List Int)×(List Int)×(List Int)×Int×Int×Bool×Unit):=hU lpK jnK aE ao ax x0 x1 x2 x3 x4 x5 x6
abbrev Fa:=(List Nat×List (Option (List Int)))->(Int)->(List Int)->(List Int)->(List Int)->(Int)->(Int)->Option ((List Nat×List (Option (List Int)))×Int×(List Int)×(List Int)×(List Int)×Int×Int×Bool×Unit)
def KB (aJ:Fa):SCtr:=⟨[.b [.x (.tab 79 .ref 3 i64),.d i64,.row 3 i64,.row 3 i64,.row 3 i64,.d i64,.d i64]],[(false,[.d .bool])],fun x=>aJ x.1 x.2.1 x.2.2.1 x.2.2.2.1 x.2.2.2.2.1 x.2.2.2.2.2.1 x.2.2.2.2.2.2.1⟩
def KC:SCtr:=KB aJ
theorem Qt (lp:Lp) (jn:Jn) (aE:D7) (ao:HJ) (ax:Ep):∀x:TsR (rhI 0 KC.ks),hU lp jn aE ao ax x.1 x.2.1 x.2.2.1 x.2.2.2.1 x.2.2.2.2.1 x.2.2.2.2.2.1 x.2.2.2.2.2.2.1=ER lp jn (Dn.look [(149,KR aE)]) (uG vh ve (Av [(150,L5 ax),(106,KO ao)] [] (gj prog shs qa its [] [(32,r32),(92,r92),(112,aU)]))) aj 4 102 f102 KC x:=fun x=>by kernel_rfl
theorem Kq:KC.ok prog 102:=SCtr.of_den (an (oG (q32) (fY (by kernel_rfl) Kw (fY (by kernel_rfl) Kh (lq))) (lk))) aw (lF Ky (ny)) (hl:=aj) (d:=4) func102 rfl (by decide) (Qt lpK jnK aE ao ax)
def iY (_:Lp) (_:Jn) (x0:(List (List Int))×Int×(List Int)×(List Int)×(List Int)×Int×Int) (x1:Int):Option Int :=
 bif decide (x1<(↑x0.2.2.2.2.1.length:Int)) then bif inB x1 x0.2.2.2.2.1.length then some (x0.2.2.2.2.1.getD x1.toNat 0) else none else some 0
def aF (x0:(List (List Int))×Int×(List Int)×(List Int)×(List Int)×Int×Int) (x1:Int):Option Int:=iY lpK jnK x0 x1
abbrev FP:=((List (List Int))×Int×(List Int)×(List Int)×(List Int)×Int×Int)->(Int)->Option (Int)
def KP (aF:FP):PCtr:=⟨Dw,[i64],.one i64,fun x y=>aF x y.1⟩
def IB:PCtr:=KP aF
theorem Px (lp:Lp) (jn:Jn):∀(x:IB.s.T) (y:TsS IB.as),iY lp jn x y.1=Ar lp jn (cx [] [(32,r32),(92,r92),(112,aU)]) aj 4 104 f104 IB x y:=fun x y=>by kernel_rfl
theorem KA:IB.ok prog 104:=PCtr.of_den (an (q32)) aw (hl:=aj) (d:=4) func104 rfl (by decide) (Px lpK jnK)
def gF (lp:Lp) (_:Jn) (aF:FP) (x0:(List (List Int))×Int×(List Int)×(List Int)×(List Int)×Int×Int) (x1:Int):Option Int :=
 af (aF x0 x1) fun (t:Int)=>lp (Int×Int×PUnit) Int (fun (again:Int×Int×PUnit->Option Int) (x:Int×Int×PUnit) =>
 let v7:List Int:=x0.1.getD x.2.1.toNat [];bif decide (x.2.1<(↑x0.1.length:Int)) then bif inB x.2.1 x0.1.length then bif inB x.2.1 x0.2.2.1.length then af (aF x0 (x0.2.2.1.getD x.2.1.toNat 0)) fun (t:Int)=>bif inB x1 v7.length then again (IntKind.wrap .i64 (x.1 - IntKind.wrap .i64 (t*v7.getD x1.toNat 0)),IntKind.wrap .i64 (x.2.1+1),PUnit.unit) else none else none else none else some x.1) (IntKind.wrap .i64 (t*x0.2.1),0,PUnit.unit)
def bQ (x0:(List (List Int))×Int×(List Int)×(List Int)×(List Int)×Int×Int) (x1:Int):Option Int:=gF lpK jnK aF x0 x1
abbrev NH:=((List (List Int))×Int×(List Int)×(List Int)×(List Int)×Int×Int)->(Int)->Option (Int)
def J1:PCtr:=⟨Dw,[i64],.one i64,fun x y=>bQ x y.1⟩
theorem OG (lp:Lp) (jn:Jn) (aF:FP):∀(x:J1.s.T) (y:TsS J1.as),gF lp jn aF x y.1=Ar lp jn (uG vh ve (Av [(104,KP aF)] [] (gj prog shs qa its [] [(32,r32),(92,r92),(112,aU)]))) aj 4 151 f151 J1 x y:=fun x y=>by kernel_rfl
theorem Ol:J1.ok prog 151:=PCtr.of_den (an (oG (q32) (fY (by kernel_rfl) KA (lq)) (lk))) aw (hl:=aj) (d:=4) func151 rfl (by decide) (OG lpK jnK aF)
def gA (lp:Lp) (_:Jn) (aE:D7) (ax:Ep) (bQ:NH) (x0:List Nat×List (Option (List Int))) (x1:Int) (x2:List Int) (x3:List Int) (x4:List Int) (x5:Int) (x6:Int):Option ((List Nat×List (Option (List Int)))×Int×(List Int)×(List Int)×(List Int)×Int×Int×Bool×Unit) :=
 lp ((List Nat×List (Option (List Int)))×Int×List Int×List Int×List Int×Int×Int×PUnit) ((List Nat×List (Option (List Int)))×Int×List Int×List Int×List Int×Int × Int×Bool×PUnit) (fun (again:(List Nat×List (Option (List Int)))×Int×List Int×List Int×List Int×Int×Int×PUnit->Option ((List Nat×List (Option (List Int)))×Int × List Int×List Int×List Int×Int×Int×Bool×PUnit)) (x:(List Nat×List (Option (List Int)))×Int×List Int×List Int×List Int×Int×Int×PUnit)=>lp (Int×Int × PUnit) ((List Nat×List (Option (List Int)))×Int×List Int×List Int×List Int×Int×Int×Bool×PUnit) (fun (again_1:Int×Int×PUnit->Option ((List Nat×List (Option (List Int)))×Int×List Int×List Int×List Int×Int×Int×Bool×PUnit)) (x_1:Int×Int×PUnit) =>
 let v13:Bool:=decide (x_1.1<0);
 let v14:Int×PUnit:=(IntKind.wrap .i64 (x_1.2.1+1),PUnit.unit);
 let v15:Bool:=decide (x_1.2.1<x.2.2.2.2.2.1);
 let v16:Bool:=!v15||v15;bif v16 then bif v16 then bif bif v15 then v13 else false then af (bif List.all x.1.1 fun (x_2:Nat)=>fE x.1.2 x_2 then bQ (List.map (fun (x_2:Nat)=>bw x.1.2 x_2) x.1.1,x.2.1,x.2.2.1,x.2.2.2.1,x.2.2.2.2.1,x.2.2.2.2.2.1, x.2.2.2.2.2.2.1) x_1.2.1 else none) fun (t:Int)=>bif decide (t<0) then again_1 (x_1.2.1,v14) else again_1 (x_1.1,v14) else bif v13 then some (x.1,x.2.1,x.2.2.1,x.2.2.2.1,x.2.2.2.2.1,x.2.2.2.2.2.1,x.2.2.2.2.2.2.1,true,PUnit.unit) else af (bif List.all x.1.1 fun (x_2:Nat)=>fE x.1.2 x_2 then ax (List.map (fun (x_2:Nat)=>bw x.1.2 x_2) x.1.1,x.2.1,x.2.2.1,x.2.2.2.1, x.2.2.2.2.1,x.2.2.2.2.2.1,x.2.2.2.2.2.2.1) x_1.1 else none) fun (t:Int)=>bif decide (t<0) then some (x.1,x.2.1, x.2.2.1,x.2.2.2.1,x.2.2.2.2.1,x.2.2.2.2.2.1,x.2.2.2.2.2.2.1,false,PUnit.unit) else af (aE x.1 x.2.1 x.2.2.1 x.2.2.2.1 x.2.2.2.2.1 x.2.2.2.2.2.1 x.2.2.2.2.2.2.1 t x_1.1) fun (y:(List Nat×List (Option (List Int)))×Int×List Int × List Int×List Int×Int×Int×PUnit)=>again (y.1,y.2.1,y.2.2.1,y.2.2.2.1,y.2.2.2.2.1,y.2.2.2.2.2.1,y.2.2.2.2.2.2.1, PUnit.unit) else none else none) ((-1),0,PUnit.unit)) (x0,x1,x2,x3,x4,x5,x6,PUnit.unit)
def br (x0:List Nat×List (Option (List Int))) (x1:Int) (x2:List Int) (x3:List Int) (x4:List Int) (x5:Int) (x6:Int):Option ((List Nat×List (Option (List Int)))×Int×(List Int)×(List Int)×(List Int)×Int×Int×Bool×Unit):=gA lpK jnK aE ax bQ x0 x1 x2 x3 x4 x5 x6
abbrev KI:=(List Nat×List (Option (List Int)))->(Int)->(List Int)->(List Int)->(List Int)->(Int)->(Int)->Option ((List Nat×List (Option (List Int)))×Int×(List Int)×(List Int)×(List Int)×Int×Int×Bool×Unit)
def NQ (br:KI):SCtr:=⟨[.b [.x (.tab 79 .ref 3 i64),.d i64,.row 3 i64,.row 3 i64,.row 3 i64,.d i64,.d i64]],[(false,[.d .bool])],fun x=>br x.1 x.2.1 x.2.2.1 x.2.2.2.1 x.2.2.2.2.1 x.2.2.2.2.2.1 x.2.2.2.2.2.2.1⟩
def LU:SCtr:=NQ br
theorem P7 (lp:Lp) (jn:Jn) (aE:D7) (ax:Ep) (bQ:NH):∀x:TsR (rhI 0 LU.ks),gA lp jn aE ax bQ x.1 x.2.1 x.2.2.1 x.2.2.2.1 x.2.2.2.2.1 x.2.2.2.2.2.1 x.2.2.2.2.2.2.1=ER lp jn (Dn.look [(149,KR aE)]) (uG vh ve (Av [(151,⟨Dw,[i64],.one i64,fun x y=>bQ x y.1⟩),(150,L5 ax)] [] (gj prog shs qa its [] [(32,r32),(92,r92),(112,aU)]))) aj 4 103 f103 LU x:=fun x=>by kernel_rfl
theorem NZ:LU.ok prog 103:=SCtr.of_den (an (oG (q32) (fY (by kernel_rfl) Ol (fY (by kernel_rfl) Kw (lq))) (lk))) aw (lF Ky (ny)) (hl:=aj) (d:=4) func103 rfl (by decide) (P7 lpK jnK aE ax bQ)
def oc (_:Lp) (_:Jn) (x0:Bool) (x1:Int) (x2:Int):Option ((Int×Int)×Int×Unit) :=
 
 let v5:Int:=IntKind.wrap .i64 x1;
 let v6:Int:=IntKind.wrap .i64 x2;
 let v7:Bool:=decide (x1>1152921504606846976);
 let v8:Bool:=!v7;bif !v8||v8 then bif v7||v8 then bif bif v7 then true else decide (x2>1152921504606846976) then some ((0,0),5,PUnit.unit) else bif x0 then some ((IntKind.wrap .i64 (0 - v5),v6),0,PUnit.unit) else some ((v5,v6),0,PUnit.unit) else none else none
def aZ (x0:Bool) (x1:Int) (x2:Int):Option ((Int×Int)×Int×Unit):=oc lpK jnK x0 x1 x2
abbrev t62:=(Bool)->(Int)->(Int)->Option ((Int×Int)×Int×Unit)
def k62 (aZ:t62):Ctr:=⟨[.bool,(.int .u64),(.int .u64)],[],[],.tup [T47,i64],fun x _ _=>aZ x.1 x.2.1 x.2.2.1⟩
def c62:Ctr:=k62 aZ
theorem e62 (lp:Lp) (jn:Jn):∀(x:TsS c62.as) (F:TsF c62.fs) (y:TsS c62.cs),oc lp jn x.1 x.2.1 x.2.2.1=bo lp jn (cx [] [(32,r32),(92,r92),(112,aU)]) aj 4 62 f62 c62 x F y:=fun x F y=>by kernel_rfl
theorem Lm:c62.ok prog 62:=Ctr.of_den (an (q32)) aw (hl:=aj) (d:=4) func62 rfl (by decide) (e62 lpK jnK)
def qm (_:Lp) (_:Jn) (aV:t59) (av:t60) (aZ:t62) (x0:Int) (x1:Int):Option ((Int×Int)×Int×Unit) :=
 
 let v4:Bool:=!decide (x0=0);
 let v5:Bool:=!v4||v4;bif decide (x1=0) then some ((0,0),16,PUnit.unit) else af (av x0) fun (t:Int)=>af (av x1) fun (t_1:Int)=>af (aV t t_1) fun (t_2:Int) =>
 let v9:Bool:=nzB t_2;bif v5 then bif v5 then bif v5&&v5 then bif v5 then bif v9 then bif v9 then af (aZ (bif v4 then !decide (decide (x0<0)=decide (x1<(0 : Int))) else false) (IntKind.wrap .u64 (Int.tdiv t t_2)) (IntKind.wrap .u64 (Int.tdiv t_1 t_2))) fun (t:(Int×Int)×Int×PUnit)=>some (t.1,t.2.1, PUnit.unit) else none else none else none else none else none else none
def eW (x0:Int) (x1:Int):Option ((Int×Int)×Int×Unit):=qm lpK jnK aV av aZ x0 x1
abbrev Lx:=(Int)->(Int)->Option ((Int×Int)×Int×Unit)
def M0 (eW:Lx):Ctr:=⟨[i64,i64],[],[],.tup [T47,i64],fun x _ _=>eW x.1 x.2.1⟩
def HV:Ctr:=M0 eW
theorem Qy (lp:Lp) (jn:Jn) (aV:t59) (av:t60) (aZ:t62):∀(x:TsS HV.as) (F:TsF HV.fs) (y:TsS HV.cs),qm lp jn aV av aZ x.1 x.2.1=bo lp jn (cx [(62,k62 aZ),(60,k60 av),(59,k59 aV)] [(32,r32),(92,r92),(112,aU)]) aj 4 114 f114 HV x F y:=fun x F y=>by kernel_rfl
theorem Mg:HV.ok prog 114:=Ctr.of_den (an (aa (aa (aa (q32) (by kernel_rfl) J7) (by kernel_rfl) Gu) (by kernel_rfl) Lm)) aw (hl:=aj) (d:=4) func114 rfl (by decide) (Qy lpK jnK aV av aZ)
def iR (_:Lp) (_:Jn) (eW:Lx) (x0:(List (List Int))×Int×(List Int)×(List Int)×(List Int)×Int×Int) (x1:Int):Option (Int×Int) :=
 af (eW x1 x0.2.1) fun (t:(Int×Int)×Int×PUnit)=>some t.1
def aG (x0:(List (List Int))×Int×(List Int)×(List Int)×(List Int)×Int×Int) (x1:Int):Option (Int×Int):=iR lpK jnK eW x0 x1
abbrev Hw:=((List (List Int))×Int×(List Int)×(List Int)×(List Int)×Int×Int)->(Int)->Option (Int×Int)
def Lk (aG:Hw):PCtr:=⟨Dw,[i64],.one T47,fun x y=>aG x y.1⟩
def JI:PCtr:=Lk aG
theorem Qn (lp:Lp) (jn:Jn) (eW:Lx):∀(x:JI.s.T) (y:TsS JI.as),iR lp jn eW x y.1=Ar lp jn (cx [(114,M0 eW)] [(32,r32),(92,r92),(112,aU)]) aj 4 105 f105 JI x y:=fun x y=>by kernel_rfl
theorem Kg:JI.ok prog 105:=PCtr.of_den (an (aa (q32) (by kernel_rfl) Mg)) aw (hl:=aj) (d:=4) func105 rfl (by decide) (Qn lpK jnK eW)
def mU (lp:Lp) (jn:Jn) (aO:t99) (bM:GQ) (aY:Gd) (aJ:Fa) (br:KI) (aF:FP) (aG:Hw) (x0:(List Int)×List ((List Int)×Int×Int)):Option (((Int×Int)×(List (Int×Int))×List (Int×Int))×Int×Unit) :=
 af (aO x0) fun (t:Bool)=>bif !t then some (((0,0),[],[]),1,PUnit.unit) else af (bM x0) fun (t:Bool)=>bif !t then some ((((0 : Int),0),[],[]),5,PUnit.unit) else lp (Int×Int×PUnit) (((Int×Int)×List (Int×Int)×List (Int×Int))×Int×PUnit) (fun (again:Int×Int×PUnit -> Option (((Int×Int)×List (Int×Int)×List (Int×Int))×Int×PUnit)) (x:Int×Int×PUnit) =>
 let v7:Int×PUnit:=(IntKind.wrap .i64 (x.2.1+1),PUnit.unit);
 let v8:Int:=IntKind.wrap .i64 ((↑x0.1.length:Int)+x.1);bif decide (x.2.1<(↑x0.2.length:Int)) then bif inB x.2.1 x0.2.length then bif !decide ((x0.2.getD x.2.1.toNat ([],0,0)).2.1=3) then again (IntKind.wrap .i64 (x.1+1),v7) else again (x.1, v7) else none else af (aY x0.1) fun (t:List Int)=>lp (Int×Int×(List Nat×List (Option (List Int)))×Int×List Int×List Int×List Int×Int×Int × PUnit) (((Int×Int)×List (Int×Int)×List (Int×Int))×Int×PUnit) (fun (again:Int×Int×(List Nat×List (Option (List Int)))×Int×List Int×List Int×List Int×Int × Int×PUnit->Option (((Int×Int)×List (Int×Int)×List (Int×Int))×Int×PUnit)) (x:Int×Int×(List Nat×List (Option (List Int)))×Int×List Int×List Int×List Int × Int×Int×PUnit) =>
 let v12:Int:=IntKind.wrap .i64 (x.1+1);
 let v13:List Int×Int×Int:=x0.2.getD x.2.1.toNat ([],0,0);
 let v14:List Int:=List.replicate (Int.toNat (IntKind.wrap .i64 (x.2.2.2.2.2.2.2.2.1+1))) 0;
 let v15:Bool:=inB x.1 (Int.toNat (IntKind.wrap .i64 (x.2.2.2.2.2.2.2.2.1+1)));
 let v16:Bool:=Nat.ble (Nat.succ x.1.toNat) (Int.toNat (IntKind.wrap .i64 (x.2.2.2.2.2.2.2.2.1+1)));
 let v17:Int:=IntKind.wrap .i64 (x.2.2.2.2.2.2.2.1+x.2.1);
 let v18:List Int:=List.take (Int.toNat (IntKind.wrap .i64 (x.2.2.2.2.2.2.2.2.1+1))) v13.1;
 let v19:List Int:=List.set (List.take 0 v14++v18++List.drop (0+List.length v18) v14) x.2.2.2.2.2.2.2.2.1.toNat v13.2.2;bif decide (x.2.1<(↑x0.2.length:Int)) then bif inB x.2.1 x0.2.length then bif decide (0<=IntKind.wrap .i64 (x.2.2.2.2.2.2.2.2.1+(1 : Int)))&&dM (Int.toNat (IntKind.wrap .i64 (x.2.2.2.2.2.2.2.2.1+1))) 8 then bif inB x.2.2.2.2.2.2.2.2.1 (Int.toNat (IntKind.wrap .i64 (x.2.2.2.2.2.2.2.2.1+1))) then bif Nat.ble (Nat.succ x.2.2.2.2.2.2.2.2.1.toNat) (Int.toNat (IntKind.wrap IntKind.i64 (x.2.2.2.2.2.2.2.2.1+1))) then jn (Int×List Int×PUnit) (((Int×Int)×List (Int×Int)×List (Int×Int))×Int×PUnit) (fun (x_1:Int × List Int×PUnit) =>
 let v21:List Int×PUnit:=(x_1.2.1,PUnit.unit);jn (Int×List Int×PUnit) (((Int×Int)×List (Int×Int)×List (Int×Int))×Int×PUnit) (fun (x_2:Int×List Int × PUnit)=>bif inB v17 x_2.2.1.length then bif Nat.ble (Nat.succ v17.toNat) x_2.2.1.length then bif dM (List.length x.2.2.1.1+1) (24 : Nat) then bif dM (List.length x.2.2.2.2.2.1+1) 8 then bif dM (List.length x.2.2.2.2.1+1) 8 then again (x_1.1, IntKind.wrap .i64 (x.2.1+1),(x.2.2.1.1++[List.length x.2.2.1.2+0],x.2.2.1.2++[some (x_2.2.1.set v17.toNat (1 : Int))]),x.2.2.2.1,x.2.2.2.2.1++[v17],x.2.2.2.2.2.1++[x_2.1],x.2.2.2.2.2.2.1,x.2.2.2.2.2.2.2.1, x.2.2.2.2.2.2.2.2.1,PUnit.unit) else none else none else none else none else none) fun (j:Int×List Int×PUnit->Option (((Int×Int)×List (Int×Int)×List (Int×Int))×Int×PUnit))=>bif decide (v13.2.2<0) then lp (Int×List Int×PUnit) (((Int×Int)×List (Int×Int)×List (Int×Int))×Int×PUnit) (fun (again : Int×List Int×PUnit->Option (((Int×Int)×List (Int×Int)×List (Int×Int))×Int×PUnit)) (x:Int×List Int×PUnit) =>
 let v25:Bool:=inB x.1 x.2.1.length;
 let v26:Bool:=Nat.ble (Nat.succ x.1.toNat) x.2.1.length;bif decide (x.1<(↑x_1.2.1.length:Int)) then bif v25 then bif v26 then bif v25 then bif v26 then again (IntKind.wrap .i64 (x.1+1),x.2.1.set x.1.toNat (IntKind.wrap .i64 (0 - x.2.1.getD x.1.toNat 0)), PUnit.unit) else none else none else none else none else j ((-1),x.2.1,PUnit.unit)) (0,v21) else j (1,v21)) fun (j:Int×List Int×PUnit->Option (((Int × Int)×List (Int×Int)×List (Int×Int))×Int×PUnit))=>bif decide (v13.2.1=1) then bif v15 then bif v16 then j (v12,v19.set x.1.toNat 1, PUnit.unit) else none else none else jn (Int×List Int×PUnit) (((Int×Int)×List (Int×Int)×List (Int×Int))×Int×PUnit) (fun (x:Int×List Int×PUnit)=>j (x.1, x.2.1,PUnit.unit)) fun (j:Int×List Int×PUnit->Option (((Int×Int)×List (Int×Int)×List (Int×Int))×Int×PUnit))=>bif decide (v13.2.1=2) then bif v15 then bif v16 then j (v12,v19.set x.1.toNat (-1),PUnit.unit) else none else none else j (x.1,v19,PUnit.unit) else none else none else none else none else af (aJ x.2.2.1 x.2.2.2.1 x.2.2.2.2.1 x.2.2.2.2.2.1 x.2.2.2.2.2.2.1 x.2.2.2.2.2.2.2.1 x.2.2.2.2.2.2.2.2.1) fun (y:(List Nat×List (Option (List Int)))×Int×List Int×List Int×List Int×Int×Int×Bool×PUnit)=>bif !y.2.2.2.2.2.2.2.1 then some (((0,0),[],[]),22,PUnit.unit) else af (br y.1 y.2.1 y.2.2.1 y.2.2.2.1 y.2.2.2.2.1 y.2.2.2.2.2.1 y.2.2.2.2.2.2.1) fun (y:(List Nat×List (Option (List Int)))×Int×List Int×List Int×List Int×Int×Int×Bool × PUnit)=>bif !y.2.2.2.2.2.2.2.1 then some (((0,0),[],[]),21,PUnit.unit) else bif decide (0<=(↑x0.1.length:Int))&&dM (Int.toNat (↑x0.1.length:Int)) 8 then lp (Int×Int×List Int×PUnit) (((Int×Int)×List (Int×Int)×List (Int×Int))×Int×PUnit) (fun (again:Int×Int × List Int×PUnit->Option (((Int×Int)×List (Int×Int)×List (Int×Int))×Int×PUnit)) (x:Int×Int×List Int×PUnit) =>
 let v24:Int:=IntKind.wrap .i64 (x.2.1+1);
 let v25:Bool:=inB x.2.1 y.1.1.length;
 let v26:Bool:=Nat.ble (Nat.succ x.2.1.toNat) y.1.1.length;
 let v27:Int:=y.2.2.1.getD x.2.1.toNat 0;bif decide (x.2.1<(↑y.2.2.1.length:Int)) then bif inB x.2.1 y.2.2.1.length then bif Nat.ble (Nat.succ x.2.1.toNat) y.2.2.1.length then af (bif List.all y.1.1 fun (x:Nat)=>fE y.1.2 x then aF (List.map (fun (x:Nat)=>bw y.1.2 x) y.1.1,y.2.1,y.2.2.1,y.2.2.2.1,y.2.2.2.2.1,y.2.2.2.2.2.1,y.2.2.2.2.2.2.1) v27 else none) fun (t:Int)=>bif v25 then bif v26 then bif inB y.2.2.2.2.2.2.1 (List.length (bw y.1.2 (y.1.1.getD x.2.1.toNat 0))) then bif Nat.ble (Nat.succ y.2.2.2.2.2.2.1.toNat) (List.length (bw y.1.2 (y.1.1.getD x.2.1.toNat 0))) then bif decide (v27<(↑x.2.2.1.length:Int)) then bif v25 then bif v26 then bif inB y.2.2.2.2.2.2.1 (List.length (bw y.1.2 (y.1.1.getD x.2.1.toNat 0))) then bif Nat.ble (Nat.succ y.2.2.2.2.2.2.1.toNat) (List.length (bw y.1.2 (y.1.1.getD x.2.1.toNat 0))) then bif inB v27 x.2.2.1.length then bif Nat.ble (Nat.succ v27.toNat) x.2.2.1.length then again (IntKind.wrap .i64 (x.1+IntKind.wrap .i64 (t*List.getD (bw y.1.2 (y.1.1.getD x.2.1.toNat 0)) y.2.2.2.2.2.2.1.toNat 0)),v24,x.2.2.1.set v27.toNat (List.getD (bw y.1.2 (y.1.1.getD x.2.1.toNat 0)) y.2.2.2.2.2.2.1.toNat 0),PUnit.unit) else none else none else none else none else none else none else again (IntKind.wrap .i64 (x.1+IntKind.wrap .i64 (t*List.getD (bw y.1.2 (y.1.1.getD x.2.1.toNat 0)) y.2.2.2.2.2.2.1.toNat 0)),v24,x.2.2.1,PUnit.unit) else none else none else none else none else none else none else af (bif List.all y.1.1 fun (x:Nat) =>fE y.1.2 x then aG (List.map (fun (x:Nat)=>bw y.1.2 x) y.1.1,y.2.1,y.2.2.1,y.2.2.2.1,y.2.2.2.2.1, y.2.2.2.2.2.1,y.2.2.2.2.2.2.1) x.1 else none) fun (t:Int×Int)=>lp (Int×(Int×Int)×List (Int×Int)×List (Int×Int)×PUnit) (((Int×Int) × List (Int×Int)×List (Int×Int))×Int×PUnit) (fun (again:Int×(Int×Int)×List (Int×Int)×List (Int×Int)×PUnit->Option (((Int×Int)×List (Int×Int)×List (Int × Int))×Int×PUnit)) (x_1:Int×(Int×Int)×List (Int×Int)×List (Int×Int)×PUnit) =>
 let v31:List (Int×Int)×PUnit:=(x_1.2.2.2.1,PUnit.unit);bif decide (x_1.1<(↑x.2.2.1.length:Int)) then bif inB x_1.1 x.2.2.1.length then bif Nat.ble (Nat.succ x_1.1.toNat) x.2.2.1.length then af (bif List.all y.1.1 fun (x:Nat)=>fE y.1.2 x then aG (List.map (fun (x : Nat)=>bw y.1.2 x) y.1.1,y.2.1,y.2.2.1,y.2.2.2.1,y.2.2.2.2.1,y.2.2.2.2.2.1,y.2.2.2.2.2.2.1) (x.2.2.1.getD x_1.1.toNat 0) else none) fun (t:Int×Int)=>bif dM (List.length x_1.2.2.1+1) 16 then again (IntKind.wrap .i64 (x_1.1+1),x_1.2.1,x_1.2.2.1++[t],v31) else none else none else none else lp (Int×(Int×Int)×List (Int×Int)×List (Int×Int)×PUnit) (((Int×Int) × List (Int×Int)×List (Int×Int))×Int×PUnit) (fun (again:Int×(Int×Int)×List (Int×Int)×List (Int×Int)×PUnit->Option (((Int×Int)×List (Int×Int)×List (Int × Int))×Int×PUnit)) (x:Int×(Int×Int)×List (Int×Int)×List (Int×Int)×PUnit) =>
 let v34:Int:=IntKind.wrap .i64 (y.2.2.2.2.2.1+x.1);bif decide (x.1<(↑x0.2.length:Int)) then lp (Int×Int×PUnit) (((Int×Int)×List (Int × Int)×List (Int×Int))×Int×PUnit) (fun (again_1:Int×Int×PUnit->Option (((Int×Int)×List (Int×Int)×List (Int×Int))×Int×PUnit)) (x_2:Int×Int×PUnit)=>bif decide (x_2.2.1<(↑y.2.2.1.length:Int)) then bif inB x_2.2.1 y.2.2.1.length then bif Nat.ble (Nat.succ x_2.2.1.toNat) y.2.2.1.length then af (bif List.all y.1.1 fun (x:Nat)=>fE y.1.2 x then aF (List.map (fun (x:Nat)=>bw y.1.2 x) y.1.1,y.2.1, y.2.2.1,y.2.2.2.1,y.2.2.2.2.1,y.2.2.2.2.2.1,y.2.2.2.2.2.2.1) (y.2.2.1.getD x_2.2.1.toNat 0) else none) fun (t:Int)=>bif inB x_2.2.1 y.1.1.length then bif Nat.ble (Nat.succ x_2.2.1.toNat) y.1.1.length then bif inB v34 (List.length (bw y.1.2 (y.1.1.getD x_2.2.1.toNat 0))) then bif Nat.ble (Nat.succ v34.toNat) (List.length (bw y.1.2 (y.1.1.getD x_2.2.1.toNat (0 : Nat)))) then again_1 (IntKind.wrap .i64 (x_2.1+IntKind.wrap .i64 (t*List.getD (bw y.1.2 (y.1.1.getD x_2.2.1.toNat 0)) v34.toNat 0)),IntKind.wrap .i64 (x_2.2.1+1),PUnit.unit) else none else none else none else none else none else none else bif inB x.1 y.2.2.2.1.length then bif Nat.ble (Nat.succ x.1.toNat) y.2.2.2.1.length then af (bif List.all y.1.1 fun (x:Nat)=>fE y.1.2 x then aG (List.map (fun (x:Nat)=>bw y.1.2 x) y.1.1,y.2.1,y.2.2.1,y.2.2.2.1,y.2.2.2.2.1,y.2.2.2.2.2.1, y.2.2.2.2.2.2.1) (IntKind.wrap .i64 (y.2.2.2.1.getD x.1.toNat 0*x_2.1)) else none) fun (t:Int×Int)=>bif dM (List.length x.2.2.2.1+1) 16 then again (IntKind.wrap .i64 (x.1+1),x.2.1,x.2.2.1,x.2.2.2.1++[t],PUnit.unit) else none else none else none) (0,0,PUnit.unit) else some ((x.2.1,x.2.2.1,x.2.2.2.1),0,PUnit.unit)) (0,x_1.2.1,x_1.2.2.1,v31)) ((0 : Int),t,[],[],PUnit.unit)) (0,0,List.replicate (Int.toNat (↑x0.1.length:Int)) 0,PUnit.unit) else none) ((↑x0.1.length:Int),(0 : Int),([],[]),1,[],[],t,v8,IntKind.wrap .i64 (v8+(↑x0.2.length:Int)),PUnit.unit)) (0,0,PUnit.unit)
def eD (x0:(List Int)×List ((List Int)×Int×Int)):Option (((Int×Int)×(List (Int×Int))×List (Int×Int))×Int×Unit):=mU lpK jnK aO bM aY aJ br aF aG x0
abbrev t56:=((List Int)×List ((List Int)×Int×Int))->Option (((Int×Int)×(List (Int×Int))×List (Int×Int))×Int×Unit)
def c56:Ctr:=⟨[T82],[],[],.tup [T94,i64],fun x _ _=>eD x.1⟩
theorem e56 (lp:Lp) (jn:Jn) (aO:t99) (bM:GQ) (aY:Gd) (aJ:Fa) (br:KI) (aF:FP) (aG:Hw):∀(x:TsS c56.as) (F:TsF c56.fs) (y:TsS c56.cs),mU lp jn aO bM aY aJ br aF aG x.1=H5 lp jn (Dn.look [(103,NQ br),(102,KB aJ)]) (uG vh ve (Av [(105,Lk aG),(104,KP aF)] [] (gj prog shs qa its [(100,LS bM),(99,k99 aO)] [(32,r32),(92,r92),(112,L6 aY)]))) aj 4 56 f56 c56 x F y:=fun x F y=>by kernel_rfl
theorem O2:c56.ok prog 56:=Ctr.of_denS (an (oG (aa (aa (q32) (by kernel_rfl) Lw) (by kernel_rfl) Kf) (fY (by kernel_rfl) Kg (fY (by kernel_rfl) KA (lq))) (lk))) aw (lF NZ (lF Kq (ny))) (hl:=aj) (d:=4) func56 rfl (by decide) (e56 lpK jnK aO bM aY aJ br aF aG)
set_option maxRecDepth 100000
def qj (_:Lp) (_:Jn) (aM:t55) (eD:t56) (x0:(List (ByteArray×Int))×List (ByteArray×(List (ByteArray×Int×Int×Int))×Bool)):Option ((List (Int×Int))×Int×Unit) :=
 af (aM x0) fun (t:(List Int×List (List Int×Int×Int))×Int×PUnit)=>bif !decide (t.2.1=0) then some ([],t.2.1,PUnit.unit) else af (eD t.1) fun (t:((Int×Int)×List (Int×Int)×List (Int×Int))×Int×PUnit)=>bif !decide (t.2.1=0) then some ([],t.2.1,PUnit.unit) else some (t.1.2.1,0,PUnit.unit)
def cN (x0:(List (ByteArray×Int))×List (ByteArray×(List (ByteArray×Int×Int×Int))×Bool)):Option ((List (Int×Int))×Int×Unit):=qj lpK jnK aM eD x0
abbrev t20:=((List (ByteArray×Int))×List (ByteArray×(List (ByteArray×Int×Int×Int))×Bool))->Option ((List (Int×Int))×Int×Unit)
def k20 (cN:t20):Ctr:=⟨[T25],[],[],.tup [(.sl T47),i64],fun x _ _=>cN x.1⟩
def c20:Ctr:=k20 cN
theorem e20 (lp:Lp) (jn:Jn) (aM:t55) (eD:t56):∀(x:TsS c20.as) (F:TsF c20.fs) (y:TsS c20.cs),qj lp jn aM eD x.1=bo lp jn (cx [(56,⟨[T82],[],[],.tup [T94,i64],fun x _ _=>eD x.1⟩),(55,k55 aM)] [(32,r32),(92,r92),(112,aU)]) aj 4 20 f20 c20 x F y:=fun x F y=>by kernel_rfl
theorem OV:c20.ok prog 20:=Ctr.of_den (an (aa (aa (q32) (by kernel_rfl) KX) (by kernel_rfl) O2)) aw (hl:=aj) (d:=4) func20 rfl (by decide) (e20 lpK jnK aM eD)
def lK (lp:Lp) (jn:Jn) (aO:t99) (bM:GQ) (aY:Gd) (aJ:Fa) (ao:HJ) (aG:Hw) (x0:(List Int)×List ((List Int)×Int×Int)):Option ((List (Int×Int))×Int×Unit) :=
 af (aO x0) fun (t:Bool)=>bif !t then some ([],1,PUnit.unit) else af (bM x0) fun (t:Bool)=>bif !t then some ([],5,PUnit.unit) else lp (Int×Int×PUnit) (List (Int×Int)×Int×PUnit) (fun (again:Int×Int×PUnit->Option (List (Int×Int)×Int×PUnit)) (x:Int×Int×PUnit) =>
 let v7:Int×PUnit:=(IntKind.wrap .i64 (x.2.1+1),PUnit.unit);
 let v8:Int:=IntKind.wrap .i64 ((↑x0.1.length:Int)+x.1);bif decide (x.2.1<(↑x0.2.length:Int)) then bif inB x.2.1 x0.2.length then bif !decide ((x0.2.getD x.2.1.toNat ([],0,0)).2.1=3) then again (IntKind.wrap .i64 (x.1+1),v7) else again (x.1, v7) else none else af (aY x0.1) fun (t:List Int)=>lp (Int×Int×(List Nat×List (Option (List Int)))×Int×List Int×List Int×List Int×Int×Int × PUnit) (List (Int×Int)×Int×PUnit) (fun (again:Int×Int×(List Nat×List (Option (List Int)))×Int×List Int×List Int×List Int×Int×Int×PUnit->Option (List (Int × Int)×Int×PUnit)) (x:Int×Int×(List Nat×List (Option (List Int)))×Int×List Int×List Int×List Int×Int×Int×PUnit) =>
 let v12:Int:=IntKind.wrap .i64 (x.1+1);
 let v13:List Int×Int×Int:=x0.2.getD x.2.1.toNat ([],0,0);
 let v14:List Int:=List.replicate (Int.toNat (IntKind.wrap .i64 (x.2.2.2.2.2.2.2.2.1+1))) 0;
 let v15:Bool:=inB x.1 (Int.toNat (IntKind.wrap .i64 (x.2.2.2.2.2.2.2.2.1+1)));
 let v16:Bool:=Nat.ble (Nat.succ x.1.toNat) (Int.toNat (IntKind.wrap .i64 (x.2.2.2.2.2.2.2.2.1+1)));
 let v17:Int:=IntKind.wrap .i64 (x.2.2.2.2.2.2.2.1+x.2.1);
 let v18:List Int:=List.take (Int.toNat (IntKind.wrap .i64 (x.2.2.2.2.2.2.2.2.1+1))) v13.1;
 let v19:List Int:=List.set (List.take 0 v14++v18++List.drop (0+List.length v18) v14) x.2.2.2.2.2.2.2.2.1.toNat v13.2.2;bif decide (x.2.1<(↑x0.2.length:Int)) then bif inB x.2.1 x0.2.length then bif decide (0<=IntKind.wrap .i64 (x.2.2.2.2.2.2.2.2.1+(1 : Int)))&&dM (Int.toNat (IntKind.wrap .i64 (x.2.2.2.2.2.2.2.2.1+1))) 8 then bif inB x.2.2.2.2.2.2.2.2.1 (Int.toNat (IntKind.wrap .i64 (x.2.2.2.2.2.2.2.2.1+1))) then bif Nat.ble (Nat.succ x.2.2.2.2.2.2.2.2.1.toNat) (Int.toNat (IntKind.wrap IntKind.i64 (x.2.2.2.2.2.2.2.2.1+1))) then jn (Int×List Int×PUnit) (List (Int×Int)×Int×PUnit) (fun (x_1:Int×List Int×PUnit) =>
 let v21:List Int×PUnit:=(x_1.2.1,PUnit.unit);jn (Int×List Int×PUnit) (List (Int×Int)×Int×PUnit) (fun (x_2:Int×List Int×PUnit)=>bif inB v17 x_2.2.1.length then bif Nat.ble (Nat.succ v17.toNat) x_2.2.1.length then bif dM (List.length x.2.2.1.1+1) 24 then bif dM (List.length x.2.2.2.2.2.1+1) 8 then bif dM (List.length x.2.2.2.2.1+1) 8 then again (x_1.1,IntKind.wrap .i64 (x.2.1+(1 : Int)),(x.2.2.1.1++[List.length x.2.2.1.2+0],x.2.2.1.2++[some (x_2.2.1.set v17.toNat 1)]),x.2.2.2.1, x.2.2.2.2.1++[v17],x.2.2.2.2.2.1++[x_2.1],x.2.2.2.2.2.2.1,x.2.2.2.2.2.2.2.1,x.2.2.2.2.2.2.2.2.1, PUnit.unit) else none else none else none else none else none) fun (j:Int×List Int×PUnit->Option (List (Int×Int)×Int×PUnit))=>bif decide (v13.2.2<0) then lp (Int×List Int×PUnit) (List (Int×Int)×Int×PUnit) (fun (again:Int×List Int×PUnit->Option (List (Int×Int)×Int×PUnit)) (x:Int×List Int×PUnit) =>
 let v25:Bool:=inB x.1 x.2.1.length;
 let v26:Bool:=Nat.ble (Nat.succ x.1.toNat) x.2.1.length;bif decide (x.1<(↑x_1.2.1.length:Int)) then bif v25 then bif v26 then bif v25 then bif v26 then again (IntKind.wrap .i64 (x.1+1),x.2.1.set x.1.toNat (IntKind.wrap .i64 (0 - x.2.1.getD x.1.toNat 0)), PUnit.unit) else none else none else none else none else j ((-1),x.2.1,PUnit.unit)) (0,v21) else j (1,v21)) fun (j:Int×List Int×PUnit->Option (List (Int×Int)×Int×PUnit))=>bif decide (v13.2.1=1) then bif v15 then bif v16 then j (v12,v19.set x.1.toNat 1,PUnit.unit) else none else none else jn (Int×List Int×PUnit) (List (Int×Int)×Int×PUnit) (fun (x:Int×List Int×PUnit)=>j (x.1,x.2.1,PUnit.unit)) fun (j:Int×List Int×PUnit->Option (List (Int × Int)×Int×PUnit))=>bif decide (v13.2.1=2) then bif v15 then bif v16 then j (v12,v19.set x.1.toNat (-1),PUnit.unit) else none else none else j (x.1,v19,PUnit.unit) else none else none else none else none else af (aJ x.2.2.1 x.2.2.2.1 x.2.2.2.2.1 x.2.2.2.2.2.1 x.2.2.2.2.2.2.1 x.2.2.2.2.2.2.2.1 x.2.2.2.2.2.2.2.2.1) fun (y:(List Nat×List (Option (List Int)))×Int×List Int×List Int×List Int×Int×Int×Bool×PUnit)=>bif y.2.2.2.2.2.2.2.1 then some ([],12,PUnit.unit) else lp (List (Int×Int)×Int×PUnit) (List (Int×Int)×Int×PUnit) (fun (again:List (Int×Int)×Int×PUnit->Option (List (Int×Int)×Int×PUnit)) (x:List (Int×Int)×Int×PUnit)=>bif decide (x.2.1<(↑x0.2.length:Int)) then bif inB x.2.1 y.2.2.2.1.length then bif Nat.ble (Nat.succ x.2.1.toNat) y.2.2.2.1.length then af (bif List.all y.1.1 fun (x:Nat) =>fE y.1.2 x then ao (List.map (fun (x:Nat)=>bw y.1.2 x) y.1.1,y.2.1,y.2.2.1,y.2.2.2.1,y.2.2.2.2.1, y.2.2.2.2.2.1,y.2.2.2.2.2.2.1) (IntKind.wrap .i64 (y.2.2.2.2.2.1+x.2.1)) else none) fun (t:Int)=>af (bif List.all y.1.1 fun (x:Nat)=>fE y.1.2 x then aG (List.map (fun (x:Nat)=>bw y.1.2 x) y.1.1,y.2.1,y.2.2.1,y.2.2.2.1,y.2.2.2.2.1, y.2.2.2.2.2.1,y.2.2.2.2.2.2.1) (IntKind.wrap .i64 (y.2.2.2.1.getD x.2.1.toNat 0*t)) else none) fun (t:Int×Int) => bif dM (List.length x.1+1) 16 then again (x.1++[t],IntKind.wrap .i64 (x.2.1+1),PUnit.unit) else none else none else none else some (x.1,0,PUnit.unit)) ([],0,PUnit.unit)) ((↑x0.1.length:Int),0,([],[]),1,[],[],t,v8,IntKind.wrap .i64 (v8+(↑x0.2.length:Int)),PUnit.unit)) (0,0,PUnit.unit)
def dQ (x0:(List Int)×List ((List Int)×Int×Int)):Option ((List (Int×Int))×Int×Unit):=lK lpK jnK aO bM aY aJ ao aG x0
abbrev t57:=((List Int)×List ((List Int)×Int×Int))->Option ((List (Int×Int))×Int×Unit)
def c57:Ctr:=⟨[T82],[],[],.tup [(.sl T47),i64],fun x _ _=>dQ x.1⟩
theorem e57 (lp:Lp) (jn:Jn) (aO:t99) (bM:GQ) (aY:Gd) (aJ:Fa) (ao:HJ) (aG:Hw):∀(x:TsS c57.as) (F:TsF c57.fs) (y:TsS c57.cs),lK lp jn aO bM aY aJ ao aG x.1=H5 lp jn (Dn.look [(102,KB aJ)]) (uG vh ve (Av [(105,Lk aG),(106,KO ao)] [] (gj prog shs qa its [(100,LS bM),(99,k99 aO)] [(32,r32),(92,r92),(112,L6 aY)]))) aj 4 57 f57 c57 x F y:=fun x F y=>by kernel_rfl
theorem Oz:c57.ok prog 57:=Ctr.of_denS (an (oG (aa (aa (q32) (by kernel_rfl) Lw) (by kernel_rfl) Kf) (fY (by kernel_rfl) Kg (fY (by kernel_rfl) Kh (lq))) (lk))) aw (lF Kq (ny)) (hl:=aj) (d:=4) func57 rfl (by decide) (e57 lpK jnK aO bM aY aJ ao aG)
def nU (_:Lp) (_:Jn) (aM:t55) (dQ:t57) (x0:(List (ByteArray×Int))×List (ByteArray×(List (ByteArray×Int×Int×Int))×Bool)):Option ((List (Int×Int))×Int×Unit) :=
 af (aM x0) fun (t:(List Int×List (List Int×Int×Int))×Int×PUnit)=>bif !decide (t.2.1=0) then some ([],t.2.1,PUnit.unit) else af (dQ t.1) fun (t:List (Int×Int)×Int×PUnit)=>some (t.1,t.2.1,PUnit.unit)
def bR (x0:(List (ByteArray×Int))×List (ByteArray×(List (ByteArray×Int×Int×Int))×Bool)):Option ((List (Int×Int))×Int×Unit):=nU lpK jnK aM dQ x0
abbrev t21:=((List (ByteArray×Int))×List (ByteArray×(List (ByteArray×Int×Int×Int))×Bool))->Option ((List (Int×Int))×Int×Unit)
def k21 (bR:t21):Ctr:=⟨[T25],[],[],.tup [(.sl T47),i64],fun x _ _=>bR x.1⟩
def c21:Ctr:=k21 bR
theorem e21 (lp:Lp) (jn:Jn) (aM:t55) (dQ:t57):∀(x:TsS c21.as) (F:TsF c21.fs) (y:TsS c21.cs),nU lp jn aM dQ x.1=bo lp jn (cx [(57,⟨[T82],[],[],.tup [(.sl T47),i64],fun x _ _=>dQ x.1⟩),(55,k55 aM)] [(32,r32),(92,r92),(112,aU)]) aj 4 21 f21 c21 x F y:=fun x F y=>by kernel_rfl
theorem PM:c21.ok prog 21:=Ctr.of_den (an (aa (aa (q32) (by kernel_rfl) KX) (by kernel_rfl) Oz)) aw (hl:=aj) (d:=4) func21 rfl (by decide) (e21 lpK jnK aM dQ)
def mY (_:Lp) (_:Jn) (cN:t20) (bR:t21) (x0:(List (ByteArray×Int))×List (ByteArray×(List (ByteArray×Int×Int×Int))×Bool)):Option (((List (Int×Int))×Bool×List (Int×Int))×Int×Unit) :=
 af (cN x0) fun (t:List (Int×Int)×Int×PUnit)=>bif decide (t.2.1=0) then some ((t.1,false,[]),0,PUnit.unit) else bif decide (t.2.1=(22 : Int)) then af (bR x0) fun (t:List (Int×Int)×Int×PUnit)=>bif !decide (t.2.1=0) then some (([],false,[]),t.2.1,PUnit.unit) else some (([], true,t.1),0,PUnit.unit) else some (([],false,[]),t.2.1,PUnit.unit)
def aR (x0:(List (ByteArray×Int))×List (ByteArray×(List (ByteArray×Int×Int×Int))×Bool)):Option (((List (Int×Int))×Bool×List (Int×Int))×Int×Unit):=mY lpK jnK cN bR x0
abbrev t13:=((List (ByteArray×Int))×List (ByteArray×(List (ByteArray×Int×Int×Int))×Bool))->Option (((List (Int×Int))×Bool×List (Int×Int))×Int×Unit)
def k13 (aR:t13):Ctr:=⟨[T25],[],[],.tup [T30,i64],fun x _ _=>aR x.1⟩
def c13:Ctr:=k13 aR
theorem e13 (lp:Lp) (jn:Jn) (cN:t20) (bR:t21):∀(x:TsS c13.as) (F:TsF c13.fs) (y:TsS c13.cs),mY lp jn cN bR x.1=bo lp jn (cx [(21,k21 bR),(20,k20 cN)] [(32,r32),(92,r92),(112,aU)]) aj 4 13 f13 c13 x F y:=fun x F y=>by kernel_rfl
theorem Qh:c13.ok prog 13:=Ctr.of_den (an (aa (aa (q32) (by kernel_rfl) OV) (by kernel_rfl) PM)) aw (hl:=aj) (d:=4) func13 rfl (by decide) (e13 lpK jnK cN bR)
def kl (lp:Lp) (_:Jn) (x0:List (Int×Int)) (x1:List (Int×Int)):Option Bool :=
 bif !decide ((↑x0.length:Int)=(↑x1.length:Int)) then some false else lp (Int×PUnit) Bool (fun (again:Int×PUnit->Option Bool) (x:Int×PUnit)=>bif decide (x.1<(↑x0.length:Int)) then bif inB x.1 x0.length then bif inB x.1 x1.length then bif !(decide ((x0.getD x.1.toNat (0,(0 : Int))).1=(x1.getD x.1.toNat (0,0)).1)&&(decide ((x0.getD x.1.toNat (0,0)).2=(x1.getD x.1.toNat ((0 : Int),0)).2)&&true)) then some false else again (IntKind.wrap .i64 (x.1+1),PUnit.unit) else none else none else some true) (0,PUnit.unit)
def cb (x0:List (Int×Int)) (x1:List (Int×Int)):Option Bool:=kl lpK jnK x0 x1
abbrev t36:=(List (Int×Int))->(List (Int×Int))->Option (Bool)
def k36 (cb:t36):Ctr:=⟨[(.sl T47),(.sl T47)],[],[],.one .bool,fun x _ _=>cb x.1 x.2.1⟩
def c36:Ctr:=k36 cb
theorem e36 (lp:Lp) (jn:Jn):∀(x:TsS c36.as) (F:TsF c36.fs) (y:TsS c36.cs),kl lp jn x.1 x.2.1=bo lp jn (cx [] [(32,r32),(92,r92),(112,aU)]) aj 4 36 f36 c36 x F y:=fun x F y=>by kernel_rfl
theorem O9:c36.ok prog 36:=Ctr.of_den (an (q32)) aw (hl:=aj) (d:=4) func36 rfl (by decide) (e36 lpK jnK)
def nS (_:Lp) (_:Jn) (cb:t36) (x0:(List (Int×Int))×Bool×List (Int×Int)) (x1:(List (Int×Int))×Bool×List (Int×Int)):Option Bool :=
 
 let v4:Bool:=decide (x0.2.1=x1.2.1);
 let v5:Bool:=!v4||v4;bif v5 then bif v5 then bif v5&&v5 then af (bif v4 then cb x0.1 x1.1 else some false) fun (t:Bool) =>
 let v7:Bool:=bif v4 then t else false;
 let v8:Bool:=!v7||v7;bif v5 then bif v8 then bif v8 then bif v8&&v8 then af (bif v7 then cb x0.2.2 x1.2.2 else some false) fun (t:Bool)=>bif v8 then some (bif v7 then t else false) else none else none else none else none else none else none else none else none
def bJ (x0:(List (Int×Int))×Bool×List (Int×Int)) (x1:(List (Int×Int))×Bool×List (Int×Int)):Option Bool:=nS lpK jnK cb x0 x1
abbrev t15:=((List (Int×Int))×Bool×List (Int×Int))->((List (Int×Int))×Bool×List (Int×Int))->Option (Bool)
def k15 (bJ:t15):Ctr:=⟨[T30,T30],[],[],.one .bool,fun x _ _=>bJ x.1 x.2.1⟩
def c15:Ctr:=k15 bJ
theorem e15 (lp:Lp) (jn:Jn) (cb:t36):∀(x:TsS c15.as) (F:TsF c15.fs) (y:TsS c15.cs),nS lp jn cb x.1 x.2.1=bo lp jn (cx [(36,k36 cb)] [(32,r32),(92,r92),(112,aU)]) aj 4 15 f15 c15 x F y:=fun x F y=>by kernel_rfl
theorem OW:c15.ok prog 15:=Ctr.of_den (an (aa (q32) (by kernel_rfl) O9)) aw (hl:=aj) (d:=4) func15 rfl (by decide) (e15 lpK jnK cb)
def fB (lp:Lp) (_:Jn) (x0:List (Int×Int)) (f0:(((Int×Int)×Unit)->Option Bool)):Option Int :=
 lp (Int×PUnit) Int (fun (again:Int×PUnit->Option Int) (x:Int×PUnit)=>bif decide (x.1<(↑x0.length:Int)) then bif inB x.1 x0.length then af (f0 (x0.getD x.1.toNat (0,0),PUnit.unit)) fun (t:Bool)=>bif t then some x.1 else again (IntKind.wrap .i64 (x.1+1),PUnit.unit) else none else some (-1)) (0,PUnit.unit)
def bf (x0:List (Int×Int)) (f0:(((Int×Int)×Unit)->Option Bool)):Option Int:=fB lpK jnK x0 f0
abbrev t75:=(List (Int×Int))->((((Int×Int)×Unit)->Option Bool))->Option (Int)
def k75 (bf:t75):Ctr:=⟨[(.sl T47)],[([T47],.bool)],[],.one i64,fun x F _=>bf x.1 F.1⟩
def c75:Ctr:=k75 bf
theorem e75 (lp:Lp) (jn:Jn):∀(x:TsS c75.as) (F:TsF c75.fs) (y:TsS c75.cs),fB lp jn x.1 F.1=bo lp jn (cx [] [(32,r32),(92,r92),(112,aU)]) aj 4 75 f75 c75 x F y:=fun x F y=>by kernel_rfl
theorem Qu:c75.ok prog 75:=Ctr.of_den (an (q32)) aw (hl:=aj) (d:=4) func75 rfl (by decide) (e75 lpK jnK)
def fa (_:Lp) (_:Jn) (bf:t75) (x0:List (Int×Int)) (f0:(((Int×Int)×Unit)->Option Bool)):Option Bool :=
 af (bf x0 f0) fun (t:Int)=>some (decide (t>=0))
def ah (x0:List (Int×Int)) (f0:(((Int×Int)×Unit)->Option Bool)):Option Bool:=fa lpK jnK bf x0 f0
abbrev t34:=(List (Int×Int))->((((Int×Int)×Unit)->Option Bool))->Option (Bool)
def k34 (ah:t34):Ctr:=⟨[(.sl T47)],[([T47],.bool)],[],.one .bool,fun x F _=>ah x.1 F.1⟩
def c34:Ctr:=k34 ah
theorem e34 (lp:Lp) (jn:Jn) (bf:t75):∀(x:TsS c34.as) (F:TsF c34.fs) (y:TsS c34.cs),fa lp jn bf x.1 F.1=bo lp jn (cx [(75,k75 bf)] [(32,r32),(92,r92),(112,aU)]) aj 4 34 f34 c34 x F y:=fun x F y=>by kernel_rfl
theorem Ha:c34.ok prog 34:=Ctr.of_den (an (aa (q32) (by kernel_rfl) Qu)) aw (hl:=aj) (d:=4) func34 rfl (by decide) (e34 lpK jnK bf)
def jg (_:Lp) (_:Jn) (x0:(List (Int×Int))×Bool×List (Int×Int)):Option ((List (Int×Int))×(List (Int×Int))×Unit) :=
 bif x0.2.1 then some (x0.2.2,x0.1,PUnit.unit) else some (x0.1,x0.2.2,PUnit.unit)
def bh (x0:(List (Int×Int))×Bool×List (Int×Int)):Option ((List (Int×Int))×(List (Int×Int))×Unit):=jg lpK jnK x0
abbrev t49:=((List (Int×Int))×Bool×List (Int×Int))->Option ((List (Int×Int))×(List (Int×Int))×Unit)
def k49 (bh:t49):Ctr:=⟨[T30],[],[],.tup [(.sl T47),(.sl T47)],fun x _ _=>bh x.1⟩
def c49:Ctr:=k49 bh
theorem e49 (lp:Lp) (jn:Jn):∀(x:TsS c49.as) (F:TsF c49.fs) (y:TsS c49.cs),jg lp jn x.1=bo lp jn (cx [] [(32,r32),(92,r92),(112,aU)]) aj 4 49 f49 c49 x F y:=fun x F y=>by kernel_rfl
theorem MD:c49.ok prog 49:=Ctr.of_den (an (q32)) aw (hl:=aj) (d:=4) func49 rfl (by decide) (e49 lpK jnK)
def gI (_:Lp) (_:Jn) (al:t58) (x0:Int×Int):Option Bool :=
 af (al x0) fun (t:Bool)=>some !t
def cV (x0:Int×Int):Option Bool:=gI lpK jnK al x0
abbrev t93:=(Int×Int)->Option (Bool)
def c93:Ctr:=⟨[T47],[],[],.one .bool,fun x _ _=>cV x.1⟩
theorem e93 (lp:Lp) (jn:Jn) (al:t58):∀(x:TsS c93.as) (F:TsF c93.fs) (y:TsS c93.cs),gI lp jn al x.1=bo lp jn (cx [(58,k58 al)] [(32,r32),(92,r92),(112,aU)]) aj 4 93 f93 c93 x F y:=fun x F y=>by kernel_rfl
theorem Qf:c93.ok prog 93:=Ctr.of_den (an (aa (q32) (by kernel_rfl) xw)) aw (hl:=aj) (d:=4) func93 rfl (by decide) (e93 lpK jnK al)
def jc (_:Lp) (_:Jn) (ah:t34) (cV:t93) (cf:t92) (x0:(List (Int×Int))×Bool×List (Int×Int)):Option Bool :=
 af (cf [x0.1,x0.2.2]) fun (t:List (Int×Int))=>af (ah t fun (x:(Int×Int)×PUnit)=>cV x.1) fun (t:Bool)=>some !t
def bi (x0:(List (Int×Int))×Bool×List (Int×Int)):Option Bool:=jc lpK jnK ah cV cf x0
abbrev t51:=((List (Int×Int))×Bool×List (Int×Int))->Option (Bool)
def k51 (bi:t51):Ctr:=⟨[T30],[],[],.one .bool,fun x _ _=>bi x.1⟩
def c51:Ctr:=k51 bi
theorem e51 (lp:Lp) (jn:Jn) (ah:t34) (cV:t93) (cf:t92):∀(x:TsS c51.as) (F:TsF c51.fs) (y:TsS c51.cs),jc lp jn ah cV cf x.1=bo lp jn (cx [(93,⟨[T47],[],[],.one .bool,fun x _ _=>cV x.1⟩),(34,k34 ah)] [(32,r32),(92,⟨[(.sl (.sl T47))],47,T47,fun x=>cf x.1⟩),(112,aU)]) aj 4 51 f51 c51 x F y:=fun x F y=>by kernel_rfl
theorem Nl:c51.ok prog 51:=Ctr.of_den (an (aa (aa (q32) (by kernel_rfl) Ha) (by kernel_rfl) Qf)) aw (hl:=aj) (d:=4) func51 rfl (by decide) (e51 lpK jnK ah cV cf)
def kG (_:Lp) (_:Jn) (al:t58) (x0:Int×Int):Option Bool :=
 af (al x0) fun (t:Bool)=>some !t
def dz (x0:Int×Int):Option Bool:=kG lpK jnK al x0
abbrev Md:=(Int×Int)->Option (Bool)
def GX:Ctr:=⟨[T47],[],[],.one .bool,fun x _ _=>dz x.1⟩
theorem Pk (lp:Lp) (jn:Jn) (al:t58):∀(x:TsS GX.as) (F:TsF GX.fs) (y:TsS GX.cs),kG lp jn al x.1=bo lp jn (cx [(58,k58 al)] [(32,r32),(92,r92),(112,aU)]) aj 4 168 f168 GX x F y:=fun x F y=>by kernel_rfl
theorem Mx:GX.ok prog 168:=Ctr.of_den (an (aa (q32) (by kernel_rfl) xw)) aw (hl:=aj) (d:=4) func168 rfl (by decide) (Pk lpK jnK al)
def mZ (_:Lp) (_:Jn) (ah:t34) (dz:Md) (x0:List (Int×Int)):Option Bool :=
 af (ah x0 fun (x:(Int×Int)×PUnit)=>dz x.1) fun (t:Bool)=>some !t
def eu (x0:List (Int×Int)):Option Bool:=mZ lpK jnK ah dz x0
abbrev M5:=(List (Int×Int))->Option (Bool)
def Hn:Ctr:=⟨[(.sl T47)],[],[],.one .bool,fun x _ _=>eu x.1⟩
theorem OP (lp:Lp) (jn:Jn) (ah:t34) (dz:Md):∀(x:TsS Hn.as) (F:TsF Hn.fs) (y:TsS Hn.cs),mZ lp jn ah dz x.1=bo lp jn (cx [(168,⟨[T47],[],[],.one .bool,fun x _ _=>dz x.1⟩),(34,k34 ah)] [(32,r32),(92,r92),(112,aU)]) aj 4 130 f130 Hn x F y:=fun x F y=>by kernel_rfl
theorem Nj:Hn.ok prog 130:=Ctr.of_den (an (aa (aa (q32) (by kernel_rfl) Ha) (by kernel_rfl) Mx)) aw (hl:=aj) (d:=4) func130 rfl (by decide) (OP lpK jnK ah dz)
def mF (_:Lp) (_:Jn) (bz:Bg) (x0:Int) (x1:Int):Option (Int×Int) :=
 af (bz x0 x1) fun (t:Int×Int×PUnit)=>some (t.1,t.2.1)
def aH (x0:Int) (x1:Int):Option (Int×Int):=mF lpK jnK bz x0 x1
abbrev t61:=(Int)->(Int)->Option (Int×Int)
def k61 (aH:t61):Ctr:=⟨[(.int .u64),(.int .u64)],[],[],.one kO,fun x _ _=>aH x.1 x.2.1⟩
def c61:Ctr:=k61 aH
theorem e61 (lp:Lp) (jn:Jn) (bz:Bg):∀(x:TsS c61.as) (F:TsF c61.fs) (y:TsS c61.cs),mF lp jn bz x.1 x.2.1=bo lp jn (cx [(107,Ia bz)] [(32,r32),(92,r92),(112,aU)]) aj 4 61 f61 c61 x F y:=fun x F y=>by kernel_rfl
theorem Lf:c61.ok prog 61:=Ctr.of_den (an (aa (q32) (by kernel_rfl) E4)) aw (hl:=aj) (d:=4) func61 rfl (by decide) (e61 lpK jnK bz)
def sJ (_:Lp) (_:Jn) (aV:t59) (av:t60) (al:t58) (aZ:t62) (aH:t61) (x0:Int×Int) (x1:Int×Int):Option ((Int×Int)×Int×Unit) :=
 
 let v4:Int:=IntKind.wrap .u64 x1.2;
 let v5:Int:=IntKind.wrap .u64 x0.2;af (al x0) fun (t:Bool) =>
 let v7:Bool:=!t;
 let v8:Bool:=!v7;
 let v9:Bool:=!v8||v8;bif v9 then af (bif v8 then al x1 else some false) fun (t:Bool)=>bif v9 then bif v7||v8 then bif bif v7 then true else !t then some (((0 : Int),0),1,PUnit.unit) else af (av x0.1) fun (t:Int)=>af (aV t v4) fun (t:Int) =>
 let v13:Bool:=nzB t;af (av x1.1) fun (t_1:Int)=>af (aV t_1 v5) fun (t_2:Int) =>
 let v16:Bool:=nzB t_2;af (av x0.1) fun (t_3:Int)=>bif v13 then af (av x1.1) fun (t_4:Int)=>bif v16 then af (aH (IntKind.wrap IntKind.u64 (Int.tdiv t_3 t)) (IntKind.wrap .u64 (Int.tdiv t_4 t_2))) fun (t_5:Int×Int) =>
 let v20:Bool:=decide (t_5.1>0);
 let v21:Bool:=decide (t_5.2>0);
 let v22:Bool:=!v20;
 let v23:Bool:=!v21||v21;
 let v24:Bool:=!v22||v22;bif v16 then bif v13 then af (aH (IntKind.wrap .u64 (Int.tdiv v5 t_2)) (IntKind.wrap .u64 (Int.tdiv v4 t))) fun (t:Int×Int) =>bif v24 then bif v24 then bif v20||v22 then bif bif v20 then true else decide (t.1>0) then some ((0,0),5,PUnit.unit) else bif v23 then bif v23 then bif v23 then bif v23 then bif v23&&v23 then bif v23 then af (aZ (bif v21 then !decide (decide (x0.1<0)=decide (x1.1<0)) else false) t_5.2 t.2) fun (t:(Int×Int)×Int×PUnit)=>some (t.1,t.2.1,PUnit.unit) else none else none else none else none else none else none else none else none else none else none else none else none else none else none else none else none
def bU (x0:Int×Int) (x1:Int×Int):Option ((Int×Int)×Int×Unit):=sJ lpK jnK aV av al aZ aH x0 x1
abbrev t23:=(Int×Int)->(Int×Int)->Option ((Int×Int)×Int×Unit)
def k23 (bU:t23):Ctr:=⟨[T47,T47],[],[],.tup [T47,i64],fun x _ _=>bU x.1 x.2.1⟩
def c23:Ctr:=k23 bU
theorem e23 (lp:Lp) (jn:Jn) (aV:t59) (av:t60) (al:t58) (aZ:t62) (aH:t61):∀(x:TsS c23.as) (F:TsF c23.fs) (y:TsS c23.cs),sJ lp jn aV av al aZ aH x.1 x.2.1=bo lp jn (cx [(61,k61 aH),(62,k62 aZ),(58,k58 al),(60,k60 av),(59,k59 aV)] [(32,r32),(92,r92),(112,aU)]) aj 4 23 f23 c23 x F y:=fun x F y=>by kernel_rfl
theorem MW:c23.ok prog 23:=Ctr.of_den (an (aa (aa (aa (aa (aa (q32) (by kernel_rfl) J7) (by kernel_rfl) Gu) (by kernel_rfl) xw) (by kernel_rfl) Lm) (by kernel_rfl) Lf)) aw (hl:=aj) (d:=4) func23 rfl (by decide) (e23 lpK jnK aV av al aZ aH)
def qU (_:Lp) (_:Jn) (x0:Int×Int) (x1:Int×Int):Option (Int×Int) :=
 bif decide ((0:Int)<=0)&&decide ((0:Int)<=1) then bif decide (0<=xS x0.2 x1.2 0)&&decide (xS x0.2 x1.2 0<=1) then some (AF x0.1 x1.1 (xS x0.2 x1.2 0),AF x0.2 x1.2 0) else none else none
def fI (x0:Int×Int) (x1:Int×Int):Option (Int×Int):=qU lpK jnK x0 x1
abbrev Ml:=(Int×Int)->(Int×Int)->Option (Int×Int)
def G1:Ctr:=⟨[kO,kO],[],[],.one kO,fun x _ _=>fI x.1 x.2.1⟩
theorem O4 (lp:Lp) (jn:Jn):∀(x:TsS G1.as) (F:TsF G1.fs) (y:TsS G1.cs),qU lp jn x.1 x.2.1=bo lp jn (cx [] [(32,r32),(92,r92),(112,aU)]) aj 4 188 f188 G1 x F y:=fun x F y=>by kernel_rfl
theorem MX:G1.ok prog 188:=Ctr.of_den (an (q32)) aw (hl:=aj) (d:=4) func188 rfl (by decide) (O4 lpK jnK)
def qw (_:Lp) (_:Jn) (x0:Int×Int) (x1:Int×Int):Option Bool :=
 
 let v4:Bool:=decide (x0.1=x1.1);
 let v5:Bool:=decide (x0.1<x1.1);
 let v6:Bool:=!v5;
 let v7:Bool:=!v6;
 let v8:Bool:=v6&&v4;
 let v9:Bool:=v7||v6;
 let v10:Bool:=!v8||v8;bif v9 then bif v9 then bif v9&&v9 then bif v9 then bif v10 then bif v10 then bif v10&&v10 then bif (v7||v9)&&(v7||(!v4||(v7||v8))) then bif v5 || v6 then some (bif v5 then true else bif v4 then decide (x0.2<x1.2) else false) else none else none else none else none else none else none else none else none else none
def cn (x0:Int×Int) (x1:Int×Int):Option Bool:=qw lpK jnK x0 x1
abbrev Fx:=(Int×Int)->(Int×Int)->Option (Bool)
def Lb (cn:Fx):Ctr:=⟨[kO,kO],[],[],.one .bool,fun x _ _=>cn x.1 x.2.1⟩
def EN:Ctr:=Lb cn
theorem PC (lp:Lp) (jn:Jn):∀(x:TsS EN.as) (F:TsF EN.fs) (y:TsS EN.cs),qw lp jn x.1 x.2.1=bo lp jn (cx [] [(32,r32),(92,r92),(112,aU)]) aj 4 189 f189 EN x F y:=fun x F y=>by kernel_rfl
theorem Kc:EN.ok prog 189:=Ctr.of_den (an (q32)) aw (hl:=aj) (d:=4) func189 rfl (by decide) (PC lpK jnK)
def pg (_:Lp) (_:Jn) (x0:Int×Int) (x1:Int×Int):Option (Int×Int) :=
 bif decide ((0:Int)<=0)&&decide ((0:Int)<=1) then bif decide (0<=ud x0.2 x1.2 0)&&decide (ud x0.2 x1.2 0<=1) then some (vf x0.1 x1.1 (ud x0.2 x1.2 0),vf x0.2 x1.2 0) else none else none
def eT (x0:Int×Int) (x1:Int×Int):Option (Int×Int):=pg lpK jnK x0 x1
abbrev MO:=(Int×Int)->(Int×Int)->Option (Int×Int)
def Fo:Ctr:=⟨[kO,kO],[],[],.one kO,fun x _ _=>eT x.1 x.2.1⟩
theorem OU (lp:Lp) (jn:Jn):∀(x:TsS Fo.as) (F:TsF Fo.fs) (y:TsS Fo.cs),pg lp jn x.1 x.2.1=bo lp jn (cx [] [(32,r32),(92,r92),(112,aU)]) aj 4 190 f190 Fo x F y:=fun x F y=>by kernel_rfl
theorem Oc:Fo.ok prog 190:=Ctr.of_den (an (q32)) aw (hl:=aj) (d:=4) func190 rfl (by decide) (OU lpK jnK)
def qq (_:Lp) (_:Jn) (cA:Hh) (x0:Int×Int) (x1:Int):Option ((Int×Int)×Int×Unit) :=
 
 let v4:Bool:=nzB x1;bif v4 then af (cA (Int.tmod x0.1 x1) x0.2 x1) fun (t:Int×Int×PUnit)=>bif v4 then some ((IntKind.wrap .u64 (Int.tdiv x0.1 x1), t.1),t.2.1,PUnit.unit) else none else none
def eF (x0:Int×Int) (x1:Int):Option ((Int×Int)×Int×Unit):=qq lpK jnK cA x0 x1
abbrev KM:=(Int×Int)->(Int)->Option ((Int×Int)×Int×Unit)
def MH (eF:KM):Ctr:=⟨[kO,(.int .u64)],[],[],.tup [kO,(.int .u64)],fun x _ _=>eF x.1 x.2.1⟩
def HM:Ctr:=MH eF
theorem Qx (lp:Lp) (jn:Jn) (cA:Hh):∀(x:TsS HM.as) (F:TsF HM.fs) (y:TsS HM.cs),qq lp jn cA x.1 x.2.1=bo lp jn (cx [(185,L4 cA)] [(32,r32),(92,r92),(112,aU)]) aj 4 191 f191 HM x F y:=fun x F y=>by kernel_rfl
theorem MM:HM.ok prog 191:=Ctr.of_den (an (aa (q32) (by kernel_rfl) Kn)) aw (hl:=aj) (d:=4) func191 rfl (by decide) (Qx lpK jnK cA)
def sr (_:Lp) (jn:Jn) (aV:t59) (av:t60) (al:t58) (aZ:t62) (aH:t61) (fI:Ml) (cn:Fx) (eT:MO) (eF:KM) (x0:Int×Int) (x1:Int×Int):Option ((Int×Int)×Int×Unit) :=
 
 let v4:Int:=IntKind.wrap .u64 x0.2;
 let v5:Int:=IntKind.wrap .u64 x1.2;
 let v6:Bool:=decide (x0.1<0);af (al x0) fun (t:Bool) =>
 let v8:Bool:=!t;
 let v9:Bool:=!v8;
 let v10:Bool:=!v9||v9;bif v10 then af (bif v9 then al x1 else some false) fun (t:Bool)=>bif v10 then bif v8||v9 then bif bif v8 then true else !t then some (((0 : Int),0),1,PUnit.unit) else af (aV v4 v5) fun (t:Int) =>
 let v13:Bool:=nzB t;
 let v14:Int:=IntKind.wrap .u64 (Int.tdiv v4 t);af (av x0.1) fun (t_1:Int)=>bif v13 then af (aH t_1 (IntKind.wrap .u64 (Int.tdiv v5 t))) fun (t_2:Int×Int)=>af (av x1.1) fun (t_3:Int)=>bif v13 then af (aH t_3 v14) fun (t_4:Int×Int)=>jn (Bool×(Int×Int)×PUnit) ((Int×Int) × Int×PUnit) (fun (x:Bool×(Int×Int)×PUnit)=>bif decide (x.2.1.1=0)&&(decide (x.2.1.2=0)&&true) then some ((0,1),(0 : Int),PUnit.unit) else af (eF x.2.1 t) fun (t_5:(Int×Int)×Int×PUnit)=>af (aV t t_5.2.1) fun (t:Int)=>af (eF x.2.1 t) fun (t_6 : (Int×Int)×Int×PUnit) =>
 let v23:Bool:=decide (t_6.1.1>0);
 let v24:Bool:=!v23;
 let v25:Bool:=!v24||v24;bif v13 then bif nzB t then af (aH v14 (IntKind.wrap .u64 (Int.tdiv v5 t))) fun (t:Int×Int)=>bif v25 then bif v25 then bif v23 || v24 then bif bif v23 then true else decide (t.1>0) then some ((0,0),5,PUnit.unit) else af (aZ x.1 t_6.1.2 t.2) fun (t:(Int × Int)×Int×PUnit)=>some (t.1,t.2.1,PUnit.unit) else none else none else none else none else none) fun (j:Bool×(Int×Int)×PUnit->Option ((Int×Int)×Int×PUnit)) =>bif decide (v6=decide (x1.1<0)) then af (fI t_2 t_4) fun (t:Int×Int)=>j (v6,t,PUnit.unit) else af (cn t_2 t_4) fun (t:Bool)=>jn (Bool × (Int×Int)×PUnit) ((Int×Int)×Int×PUnit) (fun (x:Bool×(Int×Int)×PUnit)=>j (x.1,x.2.1,PUnit.unit)) fun (j:Bool×(Int×Int)×PUnit->Option ((Int×Int) × Int×PUnit))=>bif t then af (eT t_4 t_2) fun (t:Int×Int)=>j (!v6,t,PUnit.unit) else af (eT t_2 t_4) fun (t:Int×Int)=>j (v6,t,PUnit.unit) else none else none else none else none else none
def bO (x0:Int×Int) (x1:Int×Int):Option ((Int×Int)×Int×Unit):=sr lpK jnK aV av al aZ aH fI cn eT eF x0 x1
abbrev AL:=(Int×Int)->(Int×Int)->Option ((Int×Int)×Int×Unit)
def JJ (bO:AL):Ctr:=⟨[T47,T47],[],[],.tup [T47,i64],fun x _ _=>bO x.1 x.2.1⟩
def Gw:Ctr:=JJ bO
theorem OQ (lp:Lp) (jn:Jn) (aV:t59) (av:t60) (al:t58) (aZ:t62) (aH:t61) (fI:Ml) (cn:Fx) (eT:MO) (eF:KM):∀(x:TsS Gw.as) (F:TsF Gw.fs) (y:TsS Gw.cs),sr lp jn aV av al aZ aH fI cn eT eF x.1 x.2.1=bo lp jn (cx [(191,MH eF),(190,⟨[kO,kO],[],[],.one kO,fun x _ _=>eT x.1 x.2.1⟩),(189,Lb cn),(188,⟨[kO,kO],[],[],.one kO,fun x _ _=>fI x.1 x.2.1⟩),(61,k61 aH),(62,k62 aZ),(58,k58 al),(60,k60 av),(59,k59 aV)] [(32,r32),(92,r92),(112,aU)]) aj 4 171 f171 Gw x F y:=fun x F y=>by kernel_rfl
theorem EL:Gw.ok prog 171:=Ctr.of_den (an (aa (aa (aa (aa (aa (aa (aa (aa (aa (q32) (by kernel_rfl) J7) (by kernel_rfl) Gu) (by kernel_rfl) xw) (by kernel_rfl) Lm) (by kernel_rfl) Lf) (by kernel_rfl) MX) (by kernel_rfl) Kc) (by kernel_rfl) Oc) (by kernel_rfl) MM)) aw (hl:=aj) (d:=4) func171 rfl (by decide) (OQ lpK jnK aV av al aZ aH fI cn eT eF)
def kx (lp:Lp) (jn:Jn) (bU:t23) (bO:AL) (x0:Int) (x1:List Int) (x2:List (Int×Int)):Option (Int×(Int×Int)) :=
 lp (Int×Int×(Int×Int)×(Int×Int)×PUnit) (Int×Int×Int) (fun (again:Int×Int×(Int×Int)×(Int×Int)×PUnit->Option (Int×Int×Int)) (x:Int×Int×(Int×Int) × (Int×Int)×PUnit)=>bif decide (x.1<(↑x1.length:Int)) then bif inB x.1 x1.length then bif inB x.1 x2.length then af (bU (x1.getD x.1.toNat 0,1) (x2.getD x.1.toNat (0,0))) fun (t:(Int×Int)×Int×PUnit)=>jn (Int×(Int×Int)×PUnit) (Int×Int×Int) (fun (x_1:Int×(Int×Int)×PUnit)=>bif !decide (x_1.1=0) then some (x_1.1,0,1) else again (IntKind.wrap .i64 (x.1+1), x.2.1,x.2.2.1,x_1.2.1,PUnit.unit)) fun (j:Int×(Int×Int)×PUnit->Option (Int×Int×Int))=>bif decide (t.2.1=0) then af (bO x.2.2.2.1 t.1) fun (t:(Int×Int)×Int×PUnit)=>j (t.2.1,t.1,PUnit.unit) else j (t.2.1,t.1,PUnit.unit) else none else none else some (x.2.1, x.2.2.2.1)) (0,x0,(0,0),(0,1),PUnit.unit)
def cd (x0:Int) (x1:List Int) (x2:List (Int×Int)):Option (Int×(Int×Int)):=kx lpK jnK bU bO x0 x1 x2
abbrev Lh:=(Int)->(List Int)->(List (Int×Int))->Option (Int×(Int×Int))
def MY (cd:Lh):MCtr:=⟨KG,[(.sl i64),(.sl T47)],.one T47,fun x y=>cd x y.1 y.2.1⟩
def I5:MCtr:=MY cd
theorem PU (lp:Lp) (jn:Jn) (bU:t23) (bO:AL):∀(x:I5.s.T) (y:TsS I5.as),kx lp jn bU bO x y.1 y.2.1=K4 lp jn (cx [(171,JJ bO),(23,k23 bU)] [(32,r32),(92,r92),(112,aU)]) aj 4 133 f133 I5 x y:=fun x y=>by kernel_rfl
theorem Ot:I5.ok prog 133:=MCtr.of_den (an (aa (aa (q32) (by kernel_rfl) MW) (by kernel_rfl) EL)) aw (hl:=aj) (d:=4) func133 rfl (by decide) rfl (PU lpK jnK bU bO)
def sD (_:Lp) (jn:Jn) (av:t60) (al:t58) (aH:t61) (cn:Fx) (x0:Int×Int) (x1:Int×Int):Option (Int×Int×Unit) :=
 
 let v4:Bool:=decide (x0.1<0);af (al x0) fun (t:Bool) =>
 let v6:Bool:=!t;
 let v7:Bool:=!v6;
 let v8:Bool:=!v7||v7;bif v8 then af (bif v7 then al x1 else some false) fun (t:Bool)=>bif v8 then bif v6||v7 then bif bif v6 then true else !t then some ((0 : Int),1,PUnit.unit) else af (av x0.1) fun (t:Int)=>af (aH t (IntKind.wrap .u64 x1.2)) fun (t:Int×Int)=>af (av x1.1) fun (t_1:Int)=>af (aH t_1 (IntKind.wrap .u64 x0.2)) fun (t_2:Int×Int)=>bif !decide (v4=decide (x1.1<0)) then bif v4 then some ((-1), 0,PUnit.unit) else some (1,0,PUnit.unit) else jn ((Int×Int)×(Int×Int)×PUnit) (Int×Int×PUnit) (fun (x:(Int×Int)×(Int×Int)×PUnit)=>af (cn x.1 x.2.1) fun (t:Bool)=>bif t then some ((-1),0,PUnit.unit) else af (cn x.2.1 x.1) fun (t:Bool)=>bif t then some (1, 0,PUnit.unit) else some (0,0,PUnit.unit)) fun (j:(Int×Int)×(Int×Int)×PUnit->Option (Int×Int×PUnit))=>bif v4 then j (t_2,t,PUnit.unit) else j (t,t_2,PUnit.unit) else none else none else none
def gG (x0:Int×Int) (x1:Int×Int):Option (Int×Int×Unit):=sD lpK jnK av al aH cn x0 x1
abbrev Om:=(Int×Int)->(Int×Int)->Option (Int×Int×Unit)
def FV:Ctr:=⟨[T47,T47],[],[],.tup [i64,i64],fun x _ _=>gG x.1 x.2.1⟩
theorem Qz (lp:Lp) (jn:Jn) (av:t60) (al:t58) (aH:t61) (cn:Fx):∀(x:TsS FV.as) (F:TsF FV.fs) (y:TsS FV.cs),sD lp jn av al aH cn x.1 x.2.1=bo lp jn (cx [(189,Lb cn),(61,k61 aH),(58,k58 al),(60,k60 av)] [(32,r32),(92,r92),(112,aU)]) aj 4 187 f187 FV x F y:=fun x F y=>by kernel_rfl
theorem NP:FV.ok prog 187:=Ctr.of_den (an (aa (aa (aa (aa (q32) (by kernel_rfl) Gu) (by kernel_rfl) xw) (by kernel_rfl) Lf) (by kernel_rfl) Kc)) aw (hl:=aj) (d:=4) func187 rfl (by decide) (Qz lpK jnK av al aH cn)
def pa (_:Lp) (_:Jn) (gG:Om) (x0:Int×Int) (x1:Int):Option Int :=
 af (gG x0 (x1,1)) fun (t:Int×Int×PUnit)=>some t.1
def fg (x0:Int×Int) (x1:Int):Option Int:=pa lpK jnK gG x0 x1
abbrev NW:=(Int×Int)->(Int)->Option (Int)
def Hx:Ctr:=⟨[T47,i64],[],[],.one i64,fun x _ _=>fg x.1 x.2.1⟩
theorem QB (lp:Lp) (jn:Jn) (gG:Om):∀(x:TsS Hx.as) (F:TsF Hx.fs) (y:TsS Hx.cs),pa lp jn gG x.1 x.2.1=bo lp jn (cx [(187,⟨[T47,T47],[],[],.tup [i64,i64],fun x _ _=>gG x.1 x.2.1⟩)] [(32,r32),(92,r92),(112,aU)]) aj 4 169 f169 Hx x F y:=fun x F y=>by kernel_rfl
theorem Mu:Hx.ok prog 169:=Ctr.of_den (an (aa (q32) (by kernel_rfl) NP)) aw (hl:=aj) (d:=4) func169 rfl (by decide) (QB lpK jnK gG)
def lB (lp:Lp) (_:Jn) (x0:(List Int)×List ((List Int)×Int×Int)) (x1:Int):Option (List Int) :=
 lp (List Int×Int×PUnit) (List Int) (fun (again:List Int×Int×PUnit->Option (List Int)) (x:List Int×Int×PUnit)=>bif decide (x.2.1<(↑x0.2.length:Int)) then bif inB x.2.1 x0.2.length then bif inB x1 (List.length (x0.2.getD x.2.1.toNat ([],0,0)).1) then bif dM (List.length x.1+(1 : Nat)) 8 then again (x.1++[List.getD (x0.2.getD x.2.1.toNat ([],0,0)).1 x1.toNat 0],IntKind.wrap .i64 (x.2.1 + 1),PUnit.unit) else none else none else none else some x.1) ([],0,PUnit.unit)
def dL (x0:(List Int)×List ((List Int)×Int×Int)) (x1:Int):Option (List Int):=lB lpK jnK x0 x1
abbrev M3:=((List Int)×List ((List Int)×Int×Int))->(Int)->Option (List Int)
def HR:Ctr:=⟨[T82,i64],[],[],.one (.sl i64),fun x _ _=>dL x.1 x.2.1⟩
theorem Pv (lp:Lp) (jn:Jn):∀(x:TsS HR.as) (F:TsF HR.fs) (y:TsS HR.cs),lB lp jn x.1 x.2.1=bo lp jn (cx [] [(32,r32),(92,r92),(112,aU)]) aj 4 170 f170 HR x F y:=fun x F y=>by kernel_rfl
theorem NS:HR.ok prog 170:=Ctr.of_den (an (q32)) aw (hl:=aj) (d:=4) func170 rfl (by decide) (Pv lpK jnK)
def jm (_:Lp) (_:Jn) (_:Int):Option Int :=
 some 0
def cO (x0:Int):Option Int:=jm lpK jnK x0
abbrev NT:=(Int)->Option (Int)
def FJ:Ctr:=⟨[i64],[],[],.one i64,fun x _ _=>cO x.1⟩
theorem PN (lp:Lp) (jn:Jn):∀(x:TsS FJ.as) (F:TsF FJ.fs) (y:TsS FJ.cs),jm lp jn x.1=bo lp jn (cx [] [(32,r32),(92,r92),(112,aU)]) aj 4 132 f132 FJ x F y:=fun x F y=>by kernel_rfl
theorem MR:FJ.ok prog 132:=Ctr.of_den (an (q32)) aw (hl:=aj) (d:=4) func132 rfl (by decide) (PN lpK jnK)
def lH (lp:Lp) (_:Jn) (x0:(List Int)×List ((List Int)×Int×Int)):Option (List Int) :=
 lp (List Int×Int×PUnit) (List Int) (fun (again:List Int×Int×PUnit->Option (List Int)) (x:List Int×Int×PUnit)=>bif decide (x.2.1<(↑x0.2.length:Int)) then bif inB x.2.1 x0.2.length then bif dM (List.length x.1+1) 8 then again (x.1++[(x0.2.getD x.2.1.toNat ([],0,(0 : Int))).2.2],IntKind.wrap .i64 (x.2.1+1),PUnit.unit) else none else none else some x.1) ([],0,PUnit.unit)
def dP (x0:(List Int)×List ((List Int)×Int×Int)):Option (List Int):=lH lpK jnK x0
abbrev Og:=((List Int)×List ((List Int)×Int×Int))->Option (List Int)
def Ge:Ctr:=⟨[T82],[],[],.one (.sl i64),fun x _ _=>dP x.1⟩
theorem Qp (lp:Lp) (jn:Jn):∀(x:TsS Ge.as) (F:TsF Ge.fs) (y:TsS Ge.cs),lH lp jn x.1=bo lp jn (cx [] [(32,r32),(92,r92),(112,aU)]) aj 4 134 f134 Ge x F y:=fun x F y=>by kernel_rfl
theorem NO:Ge.ok prog 134:=Ctr.of_den (an (q32)) aw (hl:=aj) (d:=4) func134 rfl (by decide) (Qp lpK jnK)
def lI (lp:Lp) (_:Jn) (x0:(List Int)×List ((List Int)×Int×Int)) (x1:List (Int×Int)):Option Bool :=
 lp (Int×PUnit) Bool (fun (again:Int×PUnit->Option Bool) (x:Int×PUnit) =>
 let v6:Bool:=inB x.1 x1.length;
 let v7:Bool:=decide ((x0.2.getD x.1.toNat ([],0,0)).2.1=1);
 let v8:Bool:=decide ((x0.2.getD x.1.toNat ([],0,0)).2.1=2);
 let v9:Bool:=!v7;
 let v10:Bool:=bif v7 then decide ((x1.getD x.1.toNat (0,0)).1>0) else false;
 let v11:Bool:=!v10;
 let v12:Bool:=!v11;
 let v13:Bool:=v9||v7;
 let v14:Bool:=v11&&v8;
 let v15:Bool:=!v14;
 let v16:Bool:=v12||v11;
 let v17:Bool:=v15||v14;bif decide (x.1<(↑x0.2.length:Int)) then bif inB x.1 x0.2.length then bif v13&&(v13&&(v9||v6)) then bif v13 then bif v13 then bif v13 then bif v13 then bif v16 then bif v16 then bif v16 then bif v17&&(v17&&(v15||v6)) then bif v17 then bif v17 then bif v17 then bif (v12||v16)&&(v12||(!v8||(v12 || v14))) then bif v10||v11 then bif bif v10 then true else bif v8 then decide ((x1.getD x.1.toNat (0,0)).1<0) else false then some false else again (IntKind.wrap .i64 (x.1+1),PUnit.unit) else none else none else none else none else none else none else none else none else none else none else none else none else none else none else none else some true) (0,PUnit.unit)
def dS (x0:(List Int)×List ((List Int)×Int×Int)) (x1:List (Int×Int)):Option Bool:=lI lpK jnK x0 x1
abbrev Nx:=((List Int)×List ((List Int)×Int×Int))->(List (Int×Int))->Option (Bool)
def Gg:Ctr:=⟨[T82,(.sl T47)],[],[],.one .bool,fun x _ _=>dS x.1 x.2.1⟩
theorem Qg (lp:Lp) (jn:Jn):∀(x:TsS Gg.as) (F:TsF Gg.fs) (y:TsS Gg.cs),lI lp jn x.1 x.2.1=bo lp jn (cx [] [(32,r32),(92,r92),(112,aU)]) aj 4 135 f135 Gg x F y:=fun x F y=>by kernel_rfl
theorem MI:Gg.ok prog 135:=Ctr.of_den (an (q32)) aw (hl:=aj) (d:=4) func135 rfl (by decide) (Qg lpK jnK)
def kr (lp:Lp) (_:Jn) (aO:t99) (eu:M5) (fg:NW) (dL:M3) (cO:NT) (dP:Og) (dS:Nx) (cd:Lh) (x0:(List Int)×List ((List Int)×Int×Int)) (x1:List (Int×Int)):Option (Bool×Int×Unit) :=
 af (aO x0) fun (t:Bool) =>
 let v5:Bool:=!t;
 let v6:Bool:=!v5;
 let v7:Bool:=!v6||v6;bif v7 then af (bif v6 then eu x1 else some false) fun (t:Bool)=>bif v7 then bif v5||v6 then bif bif v5 then true else !t then some (false, 1,PUnit.unit) else bif !decide ((↑x1.length:Int)=(↑x0.2.length:Int)) then some (false,3,PUnit.unit) else lp (Bool×Int×Int×PUnit) (Bool × Int×PUnit) (fun (again:Bool×Int×Int×PUnit->Option (Bool×Int×PUnit)) (x:Bool×Int×Int×PUnit)=>bif decide (x.2.1<(↑x0.1.length:Int)) then af (dL x0 x.2.1) fun (t:List Int)=>af (cd x.2.2.1 t x1) fun (t:Int×Int×Int)=>af (cO x.2.1) fun (t_1:Int)=>af (fg t.2 t_1) fun (t_2:Int) =>
 let v15:Bool:=decide (t_2<=0);bif !v15||v15 then again (bif v15 then x.1 else false,IntKind.wrap .i64 (x.2.1+1),t.1,PUnit.unit) else none else af (dP x0) fun (t:List Int)=>af (cd x.2.2.1 t x1) fun (t:Int×Int×Int) =>
 let v13:Bool:=decide (t.2.1>0);
 let v14:Bool:=!v13||v13;bif v14&&v14 then af (bif v13 then dS x0 x1 else some false) fun (t_1:Bool) =>
 let v16:Bool:=bif v13 then t_1 else false;
 let v17:Bool:=bif v16 then x.1 else false;
 let v18:Bool:=!v17||v17;bif v14 then bif !v16||v16 then bif v18 then bif v18 then bif v18 then some (bif v17 then decide (t.1=0) else false,t.1,PUnit.unit) else none else none else none else none else none else none) (true,0,0,PUnit.unit) else none else none else none
def cE (x0:(List Int)×List ((List Int)×Int×Int)) (x1:List (Int×Int)):Option (Bool×Int×Unit):=kr lpK jnK aO eu fg dL cO dP dS cd x0 x1
abbrev t94:=((List Int)×List ((List Int)×Int×Int))->(List (Int×Int))->Option (Bool×Int×Unit)
def k94 (cE:t94):Ctr:=⟨[T82,(.sl T47)],[],[],.tup [.bool,i64],fun x _ _=>cE x.1 x.2.1⟩
def c94:Ctr:=k94 cE
theorem e94 (lp:Lp) (jn:Jn) (aO:t99) (eu:M5) (fg:NW) (dL:M3) (cO:NT) (dP:Og) (dS:Nx) (cd:Lh):∀(x:TsS c94.as) (F:TsF c94.fs) (y:TsS c94.cs),kr lp jn aO eu fg dL cO dP dS cd x.1 x.2.1=bo lp jn (uG vh ve (Av [] [(133,MY cd)] (gj prog shs qa its [(135,⟨[T82,(.sl T47)],[],[],.one .bool,fun x _ _=>dS x.1 x.2.1⟩),(134,⟨[T82],[],[],.one (.sl i64),fun x _ _=>dP x.1⟩),(132,⟨[i64],[],[],.one i64,fun x _ _=>cO x.1⟩),(170,⟨[T82,i64],[],[],.one (.sl i64),fun x _ _=>dL x.1 x.2.1⟩),(169,⟨[T47,i64],[],[],.one i64,fun x _ _=>fg x.1 x.2.1⟩),(130,⟨[(.sl T47)],[],[],.one .bool,fun x _ _=>eu x.1⟩),(99,k99 aO)] [(32,r32),(92,r92),(112,aU)]))) aj 4 94 f94 c94 x F y:=fun x F y=>by kernel_rfl
theorem PQ:c94.ok prog 94:=Ctr.of_den (an (oG (aa (aa (aa (aa (aa (aa (aa (q32) (by kernel_rfl) Lw) (by kernel_rfl) Nj) (by kernel_rfl) Mu) (by kernel_rfl) NS) (by kernel_rfl) MR) (by kernel_rfl) NO) (by kernel_rfl) MI) (lq) (Cv (by kernel_rfl) Ot (lk)))) aw (hl:=aj) (d:=4) func94 rfl (by decide) (e94 lpK jnK aO eu fg dL cO dP dS cd)
def ng (_:Lp) (_:Jn) (aM:t55) (cE:t94) (x0:(List (ByteArray×Int))×List (ByteArray×(List (ByteArray×Int×Int×Int))×Bool)) (x1:List (Int×Int)):Option (Bool×Int×Unit) :=
 af (aM x0) fun (t:(List Int×List (List Int×Int×Int))×Int×PUnit)=>bif !decide (t.2.1=0) then some (false,t.2.1,PUnit.unit) else af (cE t.1 x1) fun (t:Bool×Int×PUnit)=>some (t.1,t.2.1,PUnit.unit)
def dI (x0:(List (ByteArray×Int))×List (ByteArray×(List (ByteArray×Int×Int×Int))×Bool)) (x1:List (Int×Int)):Option (Bool×Int×Unit):=ng lpK jnK aM cE x0 x1
abbrev t52:=((List (ByteArray×Int))×List (ByteArray×(List (ByteArray×Int×Int×Int))×Bool))->(List (Int×Int))->Option (Bool×Int×Unit)
def k52 (dI:t52):Ctr:=⟨[T25,(.sl T47)],[],[],.tup [.bool,i64],fun x _ _=>dI x.1 x.2.1⟩
def c52:Ctr:=k52 dI
theorem e52 (lp:Lp) (jn:Jn) (aM:t55) (cE:t94):∀(x:TsS c52.as) (F:TsF c52.fs) (y:TsS c52.cs),ng lp jn aM cE x.1 x.2.1=bo lp jn (cx [(94,k94 cE),(55,k55 aM)] [(32,r32),(92,r92),(112,aU)]) aj 4 52 f52 c52 x F y:=fun x F y=>by kernel_rfl
theorem PP:c52.ok prog 52:=Ctr.of_den (an (aa (aa (q32) (by kernel_rfl) KX) (by kernel_rfl) PQ)) aw (hl:=aj) (d:=4) func52 rfl (by decide) (e52 lpK jnK aM cE)
def kq (_:Lp) (_:Jn) (al:t58) (x0:Int×Int):Option Bool :=
 af (al x0) fun (t:Bool)=>some !t
def dy (x0:Int×Int):Option Bool:=kq lpK jnK al x0
abbrev Mc:=(Int×Int)->Option (Bool)
def GA:Ctr:=⟨[T47],[],[],.one .bool,fun x _ _=>dy x.1⟩
theorem Pe (lp:Lp) (jn:Jn) (al:t58):∀(x:TsS GA.as) (F:TsF GA.fs) (y:TsS GA.cs),kq lp jn al x.1=bo lp jn (cx [(58,k58 al)] [(32,r32),(92,r92),(112,aU)]) aj 4 172 f172 GA x F y:=fun x F y=>by kernel_rfl
theorem NM:GA.ok prog 172:=Ctr.of_den (an (aa (q32) (by kernel_rfl) xw)) aw (hl:=aj) (d:=4) func172 rfl (by decide) (Pe lpK jnK al)
def mH (_:Lp) (_:Jn) (bm:t72) (ah:t34) (dy:Mc) (x0:(List (ByteArray×Int))×List (ByteArray×(List (ByteArray×Int×Int×Int))×Bool)) (x1:List (Int×Int)):Option ((List (List Int))×Int×Unit) :=
 af (bm x0) fun (t:List (List Int)×Int×PUnit)=>bif !decide (t.2.1=0) then some ([],t.2.1,PUnit.unit) else af (ah x1 fun (x : (Int×Int)×PUnit)=>dy x.1) fun (t_1:Bool)=>bif t_1 then some ([],1,PUnit.unit) else bif !decide ((↑x1.length:Int)=(↑x0.2.length : Int)) then some ([],3,PUnit.unit) else some (t.1,0,PUnit.unit)
def di (x0:(List (ByteArray×Int))×List (ByteArray×(List (ByteArray×Int×Int×Int))×Bool)) (x1:List (Int×Int)):Option ((List (List Int))×Int×Unit):=mH lpK jnK bm ah dy x0 x1
abbrev Lc:=((List (ByteArray×Int))×List (ByteArray×(List (ByteArray×Int×Int×Int))×Bool))->(List (Int×Int))->Option ((List (List Int))×Int×Unit)
def Ns (di:Lc):Ctr:=⟨[T25,(.sl T47)],[],[],.tup [(.sl (.sl i64)),i64],fun x _ _=>di x.1 x.2.1⟩
def EU:Ctr:=Ns di
theorem Pt (lp:Lp) (jn:Jn) (bm:t72) (ah:t34) (dy:Mc):∀(x:TsS EU.as) (F:TsF EU.fs) (y:TsS EU.cs),mH lp jn bm ah dy x.1 x.2.1=bo lp jn (cx [(172,⟨[T47],[],[],.one .bool,fun x _ _=>dy x.1⟩),(34,k34 ah),(72,k72 bm)] [(32,r32),(92,r92),(112,aU)]) aj 4 136 f136 EU x F y:=fun x F y=>by kernel_rfl
theorem Ny:EU.ok prog 136:=Ctr.of_den (an (aa (aa (aa (q32) (by kernel_rfl) Oi) (by kernel_rfl) Ha) (by kernel_rfl) NM)) aw (hl:=aj) (d:=4) func136 rfl (by decide) (Pt lpK jnK bm ah dy)
def qN (_:Lp) (_:Jn) (x0:Int):Option (Int×Int) :=
 some (x0,1)
def cm (x0:Int):Option (Int×Int):=qN lpK jnK x0
abbrev HG:=(Int)->Option (Int×Int)
def LP (cm:HG):Ctr:=⟨[i64],[],[],.one T47,fun x _ _=>cm x.1⟩
def F8:Ctr:=LP cm
theorem OC (lp:Lp) (jn:Jn):∀(x:TsS F8.as) (F:TsF F8.fs) (y:TsS F8.cs),qN lp jn x.1=bo lp jn (cx [] [(32,r32),(92,r92),(112,aU)]) aj 4 137 f137 F8 x F y:=fun x F y=>by kernel_rfl
theorem Kx:F8.ok prog 137:=Ctr.of_den (an (q32)) aw (hl:=aj) (d:=4) func137 rfl (by decide) (OC lpK jnK)
def nC (_:Lp) (_:Jn) (bU:t23) (bO:AL) (cm:HG) (x0:Int×Int) (x1:Int) (x2:Int×Int):Option ((Int×Int)×Int×Unit) :=
 af (cm x1) fun (t:Int×Int)=>af (bU t x2) fun (t:(Int×Int)×Int×PUnit)=>bif !decide (t.2.1=0) then some ((0,0),t.2.1, PUnit.unit) else af (bO x0 t.1) fun (t:(Int×Int)×Int×PUnit)=>some (t.1,t.2.1,PUnit.unit)
def dK (x0:Int×Int) (x1:Int) (x2:Int×Int):Option ((Int×Int)×Int×Unit):=nC lpK jnK bU bO cm x0 x1 x2
abbrev Lu:=(Int×Int)->(Int)->(Int×Int)->Option ((Int×Int)×Int×Unit)
def N3 (dK:Lu):Ctr:=⟨[T47,i64,T47],[],[],.tup [T47,i64],fun x _ _=>dK x.1 x.2.1 x.2.2.1⟩
def Gi:Ctr:=N3 dK
theorem PR (lp:Lp) (jn:Jn) (bU:t23) (bO:AL) (cm:HG):∀(x:TsS Gi.as) (F:TsF Gi.fs) (y:TsS Gi.cs),nC lp jn bU bO cm x.1 x.2.1 x.2.2.1=bo lp jn (cx [(137,LP cm),(171,JJ bO),(23,k23 bU)] [(32,r32),(92,r92),(112,aU)]) aj 4 138 f138 Gi x F y:=fun x F y=>by kernel_rfl
theorem Nn:Gi.ok prog 138:=Ctr.of_den (an (aa (aa (aa (q32) (by kernel_rfl) MW) (by kernel_rfl) EL) (by kernel_rfl) Kx)) aw (hl:=aj) (d:=4) func138 rfl (by decide) (PR lpK jnK bU bO cm)
def rZ (_:Lp) (_:Jn) (al:t58) (bO:AL) (x0:Int×Int) (x1:Int×Int):Option ((Int×Int)×Int×Unit) :=
 af (al x0) fun (t:Bool) =>
 let v5:Bool:=!t;
 let v6:Bool:=!v5;
 let v7:Bool:=!v6||v6;bif v7 then af (bif v6 then al x1 else some false) fun (t:Bool)=>bif v7 then bif v5||v6 then bif bif v5 then true else !t then some (((0 : Int),0),1,PUnit.unit) else af (bO x0 (IntKind.wrap .i64 (0 - x1.1),x1.2)) fun (t:(Int×Int)×Int×PUnit)=>some (t.1,t.2.1, PUnit.unit) else none else none else none
def gz (x0:Int×Int) (x1:Int×Int):Option ((Int×Int)×Int×Unit):=rZ lpK jnK al bO x0 x1
abbrev Oj:=(Int×Int)->(Int×Int)->Option ((Int×Int)×Int×Unit)
def FM:Ctr:=⟨[T47,T47],[],[],.tup [T47,i64],fun x _ _=>gz x.1 x.2.1⟩
theorem Pm (lp:Lp) (jn:Jn) (al:t58) (bO:AL):∀(x:TsS FM.as) (F:TsF FM.fs) (y:TsS FM.cs),rZ lp jn al bO x.1 x.2.1=bo lp jn (cx [(171,JJ bO),(58,k58 al)] [(32,r32),(92,r92),(112,aU)]) aj 4 139 f139 FM x F y:=fun x F y=>by kernel_rfl
theorem Nt:FM.ok prog 139:=Ctr.of_den (an (aa (aa (q32) (by kernel_rfl) xw) (by kernel_rfl) EL)) aw (hl:=aj) (d:=4) func139 rfl (by decide) (Pm lpK jnK al bO)
def jk (lp:Lp) (_:Jn) (di:Lc) (cm:HG) (dK:Lu) (gz:Oj) (x0:(List (ByteArray×Int))×List (ByteArray×(List (ByteArray×Int×Int×Int))×Bool)) (x1:List (Int×Int)):Option ((List (Int×Int))×Int×Unit) :=
 af (di x0 x1) fun (t:List (List Int)×Int×PUnit)=>bif !decide (t.2.1=0) then some ([],t.2.1,PUnit.unit) else lp (List (Int×Int)×Int×Int × PUnit) (List (Int×Int)×Int×PUnit) (fun (again:List (Int×Int)×Int×Int×PUnit->Option (List (Int×Int)×Int×PUnit)) (x:List (Int×Int)×Int×Int×PUnit) =>
 let v7:List Int:=t.1.getD x.2.2.1.toNat [];bif decide (x.2.2.1<(↑t.1.length:Int)) then af (cm 0) fun (t_1:Int×Int)=>lp (Int×(Int×Int)×PUnit) (List (Int×Int)×Int×PUnit) (fun (again_1:Int×(Int×Int)×PUnit->Option (List (Int×Int)×Int×PUnit)) (x_1:Int×(Int×Int)×PUnit) => bif decide (x_1.1<(↑x1.length:Int)) then bif inB x.2.2.1 t.1.length then bif inB x_1.1 v7.length then bif inB x_1.1 x1.length then af (dK x_1.2.1 (v7.getD x_1.1.toNat 0) (x1.getD x_1.1.toNat (0,0))) fun (t:(Int×Int)×Int×PUnit) =>
 let v12:Bool:=!decide (t.2.1=0);bif v12 then bif v12 then some ([],t.2.1,PUnit.unit) else some (x.1,0,PUnit.unit) else again_1 (IntKind.wrap IntKind.i64 (x_1.1+1),t.1,PUnit.unit) else none else none else none else bif inB x.2.2.1 x0.1.length then af (cm (x0.1.getD x.2.2.1.toNat ({ data:={ toList:=[] } },0)).2) fun (t:Int×Int)=>af (gz t x_1.2.1) fun (t:(Int×Int)×Int×PUnit) =>
 let v13:Bool:=!decide (t.2.1=0);bif v13 then bif v13 then some ([],t.2.1,PUnit.unit) else some (x.1,0,PUnit.unit) else bif dM (List.length x.1 + 1) 16 then again (x.1++[t.1],t.2.1,IntKind.wrap .i64 (x.2.2.1+1),PUnit.unit) else none else none) (0,t_1,PUnit.unit) else bif !decide (x.2.1=0) then some ([],x.2.1,PUnit.unit) else some (x.1,0,PUnit.unit)) ([],0,0,PUnit.unit)
def bV (x0:(List (ByteArray×Int))×List (ByteArray×(List (ByteArray×Int×Int×Int))×Bool)) (x1:List (Int×Int)):Option ((List (Int×Int))×Int×Unit):=jk lpK jnK di cm dK gz x0 x1
abbrev t95:=((List (ByteArray×Int))×List (ByteArray×(List (ByteArray×Int×Int×Int))×Bool))->(List (Int×Int))->Option ((List (Int×Int))×Int×Unit)
def k95 (bV:t95):Ctr:=⟨[T25,(.sl T47)],[],[],.tup [(.sl T47),i64],fun x _ _=>bV x.1 x.2.1⟩
def c95:Ctr:=k95 bV
theorem e95 (lp:Lp) (jn:Jn) (di:Lc) (cm:HG) (dK:Lu) (gz:Oj):∀(x:TsS c95.as) (F:TsF c95.fs) (y:TsS c95.cs),jk lp jn di cm dK gz x.1 x.2.1=bo lp jn (cx [(139,⟨[T47,T47],[],[],.tup [T47,i64],fun x _ _=>gz x.1 x.2.1⟩),(138,N3 dK),(137,LP cm),(136,Ns di)] [(32,r32),(92,r92),(112,aU)]) aj 4 95 f95 c95 x F y:=fun x F y=>by kernel_rfl
theorem Qe:c95.ok prog 95:=Ctr.of_den (an (aa (aa (aa (aa (q32) (by kernel_rfl) Ny) (by kernel_rfl) Kx) (by kernel_rfl) Nn) (by kernel_rfl) Nt)) aw (hl:=aj) (d:=4) func95 rfl (by decide) (e95 lpK jnK di cm dK gz)
def kB (_:Lp) (_:Jn) (x0:Int×Int):Option Bool :=
 some !decide (x0.1=0)
def dv (x0:Int×Int):Option Bool:=kB lpK jnK x0
abbrev t96:=(Int×Int)->Option (Bool)
def c96:Ctr:=⟨[T47],[],[],.one .bool,fun x _ _=>dv x.1⟩
theorem e96 (lp:Lp) (jn:Jn):∀(x:TsS c96.as) (F:TsF c96.fs) (y:TsS c96.cs),kB lp jn x.1=bo lp jn (cx [] [(32,r32),(92,r92),(112,aU)]) aj 4 96 f96 c96 x F y:=fun x F y=>by kernel_rfl
theorem PX:c96.ok prog 96:=Ctr.of_den (an (q32)) aw (hl:=aj) (d:=4) func96 rfl (by decide) (e96 lpK jnK)
def mM (_:Lp) (_:Jn) (ah:t34) (bV:t95) (dv:t96) (x0:(List (ByteArray×Int))×List (ByteArray×(List (ByteArray×Int×Int×Int))×Bool)) (x1:List (Int×Int)):Option (Bool×Int×Unit) :=
 af (bV x0 x1) fun (t:List (Int×Int)×Int×PUnit)=>bif !decide (t.2.1=0) then some (false,t.2.1,PUnit.unit) else af (ah t.1 fun (x:(Int×Int)×PUnit)=>dv x.1) fun (t:Bool)=>some (!t,0,PUnit.unit)
def df (x0:(List (ByteArray×Int))×List (ByteArray×(List (ByteArray×Int×Int×Int))×Bool)) (x1:List (Int×Int)):Option (Bool×Int×Unit):=mM lpK jnK ah bV dv x0 x1
abbrev t53:=((List (ByteArray×Int))×List (ByteArray×(List (ByteArray×Int×Int×Int))×Bool))->(List (Int×Int))->Option (Bool×Int×Unit)
def k53 (df:t53):Ctr:=⟨[T25,(.sl T47)],[],[],.tup [.bool,i64],fun x _ _=>df x.1 x.2.1⟩
def c53:Ctr:=k53 df
theorem e53 (lp:Lp) (jn:Jn) (ah:t34) (bV:t95) (dv:t96):∀(x:TsS c53.as) (F:TsF c53.fs) (y:TsS c53.cs),mM lp jn ah bV dv x.1 x.2.1=bo lp jn (cx [(96,⟨[T47],[],[],.one .bool,fun x _ _=>dv x.1⟩),(95,k95 bV),(34,k34 ah)] [(32,r32),(92,r92),(112,aU)]) aj 4 53 f53 c53 x F y:=fun x F y=>by kernel_rfl
theorem OY:c53.ok prog 53:=Ctr.of_den (an (aa (aa (aa (q32) (by kernel_rfl) Ha) (by kernel_rfl) Qe) (by kernel_rfl) PX)) aw (hl:=aj) (d:=4) func53 rfl (by decide) (e53 lpK jnK ah bV dv)
def kE (_:Lp) (_:Jn) (x0:Int×Int):Option Bool :=
 some (decide (x0.1<0))
def dC (x0:Int×Int):Option Bool:=kE lpK jnK x0
abbrev t54:=(Int×Int)->Option (Bool)
def c54:Ctr:=⟨[T47],[],[],.one .bool,fun x _ _=>dC x.1⟩
theorem e54 (lp:Lp) (jn:Jn):∀(x:TsS c54.as) (F:TsF c54.fs) (y:TsS c54.cs),kE lp jn x.1=bo lp jn (cx [] [(32,r32),(92,r92),(112,aU)]) aj 4 54 f54 c54 x F y:=fun x F y=>by kernel_rfl
theorem Pb:c54.ok prog 54:=Ctr.of_den (an (q32)) aw (hl:=aj) (d:=4) func54 rfl (by decide) (e54 lpK jnK)
def mN (_:Lp) (jn:Jn) (aN:t50) (ah:t34) (bh:t49) (bi:t51) (dI:t52) (df:t53) (dC:t54) (x0:(List (ByteArray×Int))×List (ByteArray×(List (ByteArray×Int×Int×Int))×Bool)) (x1:(List (Int×Int))×Bool×List (Int×Int)):Option (Bool×Int×Unit) :=
 af (bh x1) fun (t:List (Int×Int)×List (Int×Int)×PUnit)=>jn (Int×PUnit) (Bool×Int×PUnit) (fun (x:Int×PUnit)=>af (aN x0) fun (t_1:Bool) =>
 let v7:Bool:=!t_1;
 let v8:Bool:=!v7;
 let v9:Bool:=!v8||v8;bif v9 then af (bif v8 then bi x1 else some false) fun (t_2:Bool)=>bif v9 then bif v7||v8 then bif bif v7 then true else !t_2 then some (false,1,PUnit.unit) else bif decide ((↑t.2.1.length:Int)>0) then some (false,19,PUnit.unit) else bif !decide ((↑t.1.length:Int) = x.1) then some (false,3,PUnit.unit) else bif x1.2.1 then af (dI x0 t.1) fun (t:Bool×Int×PUnit)=>some (t.1,t.2.1,PUnit.unit) else af (df x0 t.1) fun (t_3:Bool×Int×PUnit) =>
 let v12:Bool:=decide (t_3.2.1=0);
 let v13:Bool:=bif v12 then t_3.1 else false;
 let v14:Bool:=!v13||v13;bif !v12||v12 then bif v14 then af (bif v13 then ah t.1 fun (x:(Int×Int)×PUnit)=>dC x.1 else some false) fun (t:Bool)=>bif v14 then bif v14 then some (bif v13 then !t else false,t_3.2.1,PUnit.unit) else none else none else none else none else none else none else none) fun (j : Int×PUnit->Option (Bool×Int×PUnit))=>bif x1.2.1 then j ((↑x0.1.length:Int),PUnit.unit) else j ((↑x0.2.length:Int),PUnit.unit)
def ay (x0:(List (ByteArray×Int))×List (ByteArray×(List (ByteArray×Int×Int×Int))×Bool)) (x1:(List (Int×Int))×Bool×List (Int×Int)):Option (Bool×Int×Unit):=mN lpK jnK aN ah bh bi dI df dC x0 x1
abbrev t19:=((List (ByteArray×Int))×List (ByteArray×(List (ByteArray×Int×Int×Int))×Bool))->((List (Int×Int))×Bool×List (Int×Int))->Option (Bool×Int×Unit)
def k19 (ay:t19):Ctr:=⟨[T25,T30],[],[],.tup [.bool,i64],fun x _ _=>ay x.1 x.2.1⟩
def c19:Ctr:=k19 ay
theorem e19 (lp:Lp) (jn:Jn) (aN:t50) (ah:t34) (bh:t49) (bi:t51) (dI:t52) (df:t53) (dC:t54):∀(x:TsS c19.as) (F:TsF c19.fs) (y:TsS c19.cs),mN lp jn aN ah bh bi dI df dC x.1 x.2.1=bo lp jn (cx [(54,⟨[T47],[],[],.one .bool,fun x _ _=>dC x.1⟩),(53,k53 df),(52,k52 dI),(51,k51 bi),(49,k49 bh),(34,k34 ah),(50,k50 aN)] [(32,r32),(92,r92),(112,aU)]) aj 4 19 f19 c19 x F y:=fun x F y=>by kernel_rfl
theorem P1:c19.ok prog 19:=Ctr.of_den (an (aa (aa (aa (aa (aa (aa (aa (q32) (by kernel_rfl) LG) (by kernel_rfl) Ha) (by kernel_rfl) MD) (by kernel_rfl) Nl) (by kernel_rfl) PP) (by kernel_rfl) OY) (by kernel_rfl) Pb)) aw (hl:=aj) (d:=4) func19 rfl (by decide) (e19 lpK jnK aN ah bh bi dI df dC)
def uZ (_:Lp) (_:Jn) (x0:Int):Option (Int×Int) :=
 some (x0,1)
def aL (x0:Int):Option (Int×Int):=uZ lpK jnK x0
abbrev t24:=(Int)->Option (Int×Int)
def k24 (aL:t24):Ctr:=⟨[i64],[],[],.one T47,fun x _ _=>aL x.1⟩
def c24:Ctr:=k24 aL
theorem e24 (lp:Lp) (jn:Jn):∀(x:TsS c24.as) (F:TsF c24.fs) (y:TsS c24.cs),uZ lp jn x.1=bo lp jn (cx [] [(32,r32),(92,r92),(112,aU)]) aj 4 24 f24 c24 x F y:=fun x F y=>by kernel_rfl
theorem Mz:c24.ok prog 24:=Ctr.of_den (an (q32)) aw (hl:=aj) (d:=4) func24 rfl (by decide) (e24 lpK jnK)
def kQ (lp:Lp) (_:Jn) (x0:List Int) (x1:Int) (x2:Int):Option (List Int) :=
 lp (List Int×Int×PUnit) (List Int) (fun (again:List Int×Int×PUnit->Option (List Int)) (x:List Int×Int×PUnit)=>bif decide (x.2.1>=0) then bif decide ((0 : Int)<=IntKind.wrap .i64 (8*x.2.1)) then bif dM (List.length x.1+1) 1 then again (x.1++[IntKind.wrap IntKind.u8 (Int.fdiv x1 (2 ^ min (Int.toNat (IntKind.wrap .i64 (8*x.2.1))) 64))],IntKind.wrap .i64 (x.2.1 - 1),PUnit.unit) else none else none else bif Nat.ble (1 : Nat) x.1.length then some x.1 else none) (x0,IntKind.wrap .i64 (x2 - 1),PUnit.unit)
def cz (x0:List Int) (x1:Int) (x2:Int):Option (List Int):=kQ lpK jnK x0 x1 x2
def a63:ACtr:=⟨[i64,i64],5,(.int .u8),fun l x=>cz l x.1 x.2.1⟩
theorem e63 (lp:Lp) (jn:Jn):∀(l:List a63.e.T) (x:TsS a63.as),kQ lp jn l x.1 x.2.1=KF lp jn (cx [] [(32,r32),(92,r92),(112,aU)]) aj 4 63 f63 a63 l x:=fun l x=>by kernel_rfl
theorem Qv:a63.ok prog 63:=ACtr.of_den (an (q32)) aw (hl:=aj) (d:=4) func63 rfl (by decide) (e63 lpK jnK)
def kP (lp:Lp) (_:Jn) (x0:List Int):Option Int :=
 lp (Int×Int×PUnit) Int (fun (again:Int×Int×PUnit->Option Int) (x:Int×Int×PUnit)=>bif decide (x.2.1<(↑x0.length:Int)) then bif inB x.2.1 x0.length then again (IntKind.wrap IntKind.u32 (IntKind.wrap IntKind.u32 (IntKind.wrap IntKind.u32 (31*x.1)+IntKind.wrap IntKind.u32 (x0.getD x.2.1.toNat (0 : Int)))+1),IntKind.wrap .i64 (x.2.1+1),PUnit.unit) else none else some (IntKind.wrap .i64 x.1)) (0,0,PUnit.unit)
def bL (x0:List Int):Option Int:=kP lpK jnK x0
abbrev t64:=(List Int)->Option (Int)
def k64 (bL:t64):Ctr:=⟨[(.sl (.int .u8))],[],[],.one i64,fun x _ _=>bL x.1⟩
def c64:Ctr:=k64 bL
theorem e64 (lp:Lp) (jn:Jn):∀(x:TsS c64.as) (F:TsF c64.fs) (y:TsS c64.cs),kP lp jn x.1=bo lp jn (cx [] [(32,r32),(92,r92),(112,aU)]) aj 4 64 f64 c64 x F y:=fun x F y=>by kernel_rfl
theorem NI:c64.ok prog 64:=Ctr.of_den (an (q32)) aw (hl:=aj) (d:=4) func64 rfl (by decide) (e64 lpK jnK)
def im (lp:Lp) (jn:Jn) (bh:t49) (bi:t51) (bL:t64) (cz:(List Int)->(Int)->(Int)->Option (List Int)) (x0:(List (Int×Int))×Bool×List (Int×Int)):Option ((List Int)×Int×Unit) :=
 af (bh x0) fun (t:List (Int×Int)×List (Int×Int)×PUnit) =>
 let v4:List Int:=[IntKind.wrap IntKind.u8 (↑t.1.length:Int)];af (bi x0) fun (t_1:Bool)=>bif !t_1 then some ([],1,PUnit.unit) else bif decide ((↑t.2.1.length:Int)>0) then some ([],19,PUnit.unit) else bif decide ((↑t.1.length:Int)>20) then some ([],4,PUnit.unit) else jn (List Int×PUnit) (List Int×Int×PUnit) (fun (x:List Int×PUnit)=>lp (List Int×Int×PUnit) (List Int×Int×PUnit) (fun (again:List Int×Int×PUnit->Option (List Int×Int×PUnit)) (x:List Int×Int×PUnit) =>
 let v9:Int×Int:=t.1.getD x.2.1.toNat (0,0);bif decide (x.2.1<(↑t.1.length:Int)) then bif inB x.2.1 t.1.length then af (cz x.1 v9.1 8) fun (t:List Int)=>af (cz t v9.2 8) fun (t:List Int)=>again (t,IntKind.wrap .i64 (x.2.1+1), PUnit.unit) else none else af (bL x.1) fun (t:Int)=>af (cz x.1 t 4) fun (t:List Int)=>some (t,0,PUnit.unit)) (x.1,0, PUnit.unit)) fun (j:List Int×PUnit->Option (List Int×Int×PUnit))=>bif x0.2.1 then j (84 ::67 ::1 ::v4,PUnit.unit) else j (84 ::(67 : Int) ::0 ::v4,PUnit.unit)
def bc (x0:(List (Int×Int))×Bool×List (Int×Int)):Option ((List Int)×Int×Unit):=im lpK jnK bh bi bL cz x0
abbrev t25:=((List (Int×Int))×Bool×List (Int×Int))->Option ((List Int)×Int×Unit)
def k25 (bc:t25):Ctr:=⟨[T30],[],[],.tup [(.sl (.int .u8)),i64],fun x _ _=>bc x.1⟩
def c25:Ctr:=k25 bc
theorem e25 (lp:Lp) (jn:Jn) (bh:t49) (bi:t51) (bL:t64) (cz:(List Int)->(Int)->(Int)->Option (List Int)):∀(x:TsS c25.as) (F:TsF c25.fs) (y:TsS c25.cs),im lp jn bh bi bL cz x.1=bo lp jn (uG vh ve (MJ [(63,⟨[i64,i64],5,(.int .u8),fun l x=>cz l x.1 x.2.1⟩)] (gj prog shs qa its [(64,k64 bL),(51,k51 bi),(49,k49 bh)] [(32,r32),(92,r92),(112,aU)]))) aj 4 25 f25 c25 x F y:=fun x F y=>by kernel_rfl
theorem Ob:c25.ok prog 25:=Ctr.of_den (an (Iv (aa (aa (aa (q32) (by kernel_rfl) MD) (by kernel_rfl) Nl) (by kernel_rfl) NI) (Dm (by kernel_rfl) Qv (FW)))) aw (hl:=aj) (d:=4) func25 rfl (by decide) (e25 lpK jnK bh bi bL cz)
def mR (_:Lp) (_:Jn) (aL:t24) (x0:Int):Option ((List (ByteArray×Int))×List (ByteArray×(List (ByteArray×Int×Int×Int))×Bool)) :=
 af (aL 1) fun (t:Int×Int) =>
 let v4:ByteArray×Int×Int×Int:=({ data:=#[] },0,t);some ([({ data:=#[(98:UInt8)] },300)],[({ data:=#[(114:UInt8)] },[v4,({ data:=#[(98 : UInt8)] },x0,t),v4],true)])
def dh (x0:Int):Option ((List (ByteArray×Int))×List (ByteArray×(List (ByteArray×Int×Int×Int))×Bool)):=mR lpK jnK aL x0
abbrev t37:=(Int)->Option ((List (ByteArray×Int))×List (ByteArray×(List (ByteArray×Int×Int×Int))×Bool))
def c37:Ctr:=⟨[i64],[],[],.one T25,fun x _ _=>dh x.1⟩
theorem e37 (lp:Lp) (jn:Jn) (aL:t24):∀(x:TsS c37.as) (F:TsF c37.fs) (y:TsS c37.cs),mR lp jn aL x.1=bo lp jn (cx [(24,k24 aL)] [(32,r32),(92,r92),(112,aU)]) aj 4 37 f37 c37 x F y:=fun x F y=>by kernel_rfl
theorem Qo:c37.ok prog 37:=Ctr.of_den (an (aa (q32) (by kernel_rfl) Mz)) aw (hl:=aj) (d:=4) func37 rfl (by decide) (e37 lpK jnK aL)
def uU (_:Lp) (_:Jn) (x0:Bool) (x1:List (Int×Int)):Option ((List (Int×Int))×Bool×List (Int×Int)) :=
 bif x0 then some ([],true,x1) else some (x1,false,[])
def fL (x0:Bool) (x1:List (Int×Int)):Option ((List (Int×Int))×Bool×List (Int×Int)):=uU lpK jnK x0 x1
abbrev t38:=(Bool)->(List (Int×Int))->Option ((List (Int×Int))×Bool×List (Int×Int))
def k38 (fL:t38):Ctr:=⟨[.bool,(.sl T47)],[],[],.one T30,fun x _ _=>fL x.1 x.2.1⟩
def c38:Ctr:=k38 fL
theorem e38 (lp:Lp) (jn:Jn):∀(x:TsS c38.as) (F:TsF c38.fs) (y:TsS c38.cs),uU lp jn x.1 x.2.1=bo lp jn (cx [] [(32,r32),(92,r92),(112,aU)]) aj 4 38 f38 c38 x F y:=fun x F y=>by kernel_rfl
theorem O7:c38.ok prog 38:=Ctr.of_den (an (q32)) aw (hl:=aj) (d:=4) func38 rfl (by decide) (e38 lpK jnK)
def pq (_:Lp) (_:Jn) (aR:t13) (bJ:t15) (ay:t19) (aL:t24) (bc:t25) (dh:t37) (fL:t38):Option Bool :=
 af (dh 2) fun (t:List (ByteArray×Int)×List (ByteArray×List (ByteArray×Int×Int×Int)×Bool))=>af (aR t) fun (t:(List (Int×Int)×Bool × List (Int×Int))×Int×PUnit) =>
 let v4:Bool:=decide (t.2.1=0);
 let v5:Bool:=!v4||v4;af (dh (-2)) fun (t_1:List (ByteArray×Int)×List (ByteArray×List (ByteArray×Int×Int×Int)×Bool))=>af (aR t_1) fun (t_2:(List (Int×Int)×Bool×List (Int×Int))×Int×PUnit)=>af (dh (-2)) fun (t_3:List (ByteArray×Int)×List (ByteArray×List (ByteArray×Int × Int×Int)×Bool))=>af (aL 1) fun (t_4:Int×Int)=>af (fL true [t_4]) fun (t_5:List (Int×Int)×Bool×List (Int×Int))=>af (ay t_3 t_5) fun (t_6:Bool×Int×PUnit)=>af (bc ([],false,[])) fun (t_7:List Int×Int×PUnit)=>af (bif v4 then aL 150 else some (0,(0 : Int))) fun (t_8:Int×Int)=>bif v5 then bif v5 then af (bif v4 then fL false [t_8] else some ([],false,[])) fun (t_9:List (Int×Int)×Bool×List (Int×Int))=>bif v5&&v5 then af (bif v4 then bJ t.1 t_9 else some false) fun (t:Bool) =>
 let v16:Bool:=bif v4 then t else false;
 let v17:Bool:=!v16||v16;
 let v18:Bool:=bif v16 then decide (t_2.2.1=0) else false;
 let v19:Bool:=bif v18 then t_2.1.2.1 else false;
 let v20:Bool:=!v18||v18;
 let v21:Bool:=bif v19 then decide ((↑t_2.1.2.2.length:Int)=1) else false;
 let v22:Bool:=!v19||v19;
 let v23:Bool:=bif v21 then decide (t_6.2.1=0) else false;
 let v24:Bool:=bif v23 then t_6.1 else false;
 let v25:Bool:=bif v24 then decide (t_7.2.1=0) else false;
 let v26:Bool:=!v21||v21;
 let v27:Bool:=!v24||v24;
 let v28:Bool:=!v25||v25;bif v5 then bif v17 then bif v17 then bif v20 then bif v20 then bif v22 then bif v22 then bif v22 then bif v22 then bif v26 then bif v26 then bif !v23 || v23 then bif v27 then bif v27 then bif v28 then bif v28 then bif v28 then some (bif v25 then decide ((↑t_7.1.length:Int)=8) else false) else none else none else none else none else none else none else none else none else none else none else none else none else none else none else none else none else none else none else none else none
def aB:Option Bool:=pq lpK jnK aR bJ ay aL bc dh fL
abbrev t11:=Option (Bool)
def k11 (aB:t11):Ctr:=⟨[],[],[],.one .bool,fun _ _ _=>aB⟩
def c11:Ctr:=k11 aB
theorem e11 (lp:Lp) (jn:Jn) (aR:t13) (bJ:t15) (ay:t19) (aL:t24) (bc:t25) (dh:t37) (fL:t38):∀(x:TsS c11.as) (F:TsF c11.fs) (y:TsS c11.cs),pq lp jn aR bJ ay aL bc dh fL=bo lp jn (cx [(38,k38 fL),(37,⟨[i64],[],[],.one T25,fun x _ _=>dh x.1⟩),(25,k25 bc),(24,k24 aL),(19,k19 ay),(15,k15 bJ),(13,k13 aR)] [(32,r32),(92,r92),(112,aU)]) aj 4 11 f11 c11 x F y:=fun x F y=>by kernel_rfl
theorem OX:c11.ok prog 11:=Ctr.of_den (an (aa (aa (aa (aa (aa (aa (aa (q32) (by kernel_rfl) Qh) (by kernel_rfl) OW) (by kernel_rfl) P1) (by kernel_rfl) Mz) (by kernel_rfl) Ob) (by kernel_rfl) Qo) (by kernel_rfl) O7)) aw (hl:=aj) (d:=4) func11 rfl (by decide) (e11 lpK jnK aR bJ ay aL bc dh fL)
def vr (lp:Lp) (_:Jn) (x0:(List (ByteArray×Int))×List (ByteArray×(List (ByteArray×Int×Int×Int))×Bool)):Option Bool :=
 
 let v3:Bool:=decide ((↑x0.1.length:Int)>9);
 let v4:Bool:=!v3;
 let v5:Bool:=!v4||v4;bif v5 then bif v5 then bif v5 then bif v3||v4 then bif bif v3 then true else decide ((↑x0.2.length:Int)>9) then some false else lp (Int × PUnit) Bool (fun (again:Int×PUnit->Option Bool) (x:Int×PUnit)=>bif decide (x.1<(↑x0.1.length:Int)) then bif inB x.1 x0.1.length then bif decide ((↑(ByteArray.size (x0.1.getD x.1.toNat ({ data:={ toList:=[] } },0)).1):Int)>60) then some false else again (IntKind.wrap .i64 (x.1 + 1),PUnit.unit) else none else lp (Int×PUnit) Bool (fun (again:Int×PUnit->Option Bool) (x:Int×PUnit) =>
 let v10:Bool:=inB x.1 x0.2.length;
 let v11:Bool:=decide ((↑(ByteArray.size (x0.2.getD x.1.toNat ({ data:={ toList:=[] } },[],false)).1):Int)>60);
 let v12:Bool:=!v11;
 let v13:Bool:=!v12;
 let v14:Bool:=v13||v12;bif decide (x.1<(↑x0.2.length:Int)) then bif v10 then bif v14 then bif v14&&(v14&&(v13||v10)) then bif v14 then bif v14 then bif v14 then bif v14 then bif v11||v12 then bif bif v11 then true else decide ((↑(List.length (x0.2.getD x.1.toNat ({ data:={ toList:=[] } },[],false)).2.1):Int) > 13) then some false else lp (Int×PUnit) Bool (fun (again_1:Int×PUnit->Option Bool) (x_1:Int×PUnit)=>bif v10 then bif decide (x_1.1<(↑(List.length (x0.2.getD x.1.toNat ({ data:={ toList:=[] } },[],false)).2.1):Int)) then bif v10 then bif inB x_1.1 (List.length (x0.2.getD x.1.toNat ({ data:={ toList:=[] } },[],false)).2.1) then bif decide ((↑(ByteArray.size (List.getD (x0.2.getD x.1.toNat ({ data:={ toList:=[] } },[],false)).2.1 x_1.1.toNat ({ data:={ toList:=[] } },0,0,0)).1):Int)>60) then some false else again_1 (IntKind.wrap .i64 (x_1.1+1), PUnit.unit) else none else none else again (IntKind.wrap .i64 (x.1+1),PUnit.unit) else none) (0,PUnit.unit) else none else none else none else none else none else none else none else none else some true) (0,PUnit.unit)) (0,PUnit.unit) else none else none else none else none
def ba (x0:(List (ByteArray×Int))×List (ByteArray×(List (ByteArray×Int×Int×Int))×Bool)):Option Bool:=vr lpK jnK x0
abbrev t12:=((List (ByteArray×Int))×List (ByteArray×(List (ByteArray×Int×Int×Int))×Bool))->Option (Bool)
def k12 (ba:t12):Ctr:=⟨[T25],[],[],.one .bool,fun x _ _=>ba x.1⟩
def uM (_:Lp) (_:Jn) (x0:Int):Option Bool :=
 
 let v3:Bool:=decide (x0>=97);
 let v4:Bool:=decide (x0>=65);
 let v5:Bool:=!v3||v3;
 let v6:Bool:=bif v3 then decide (x0<=122) else false;
 let v7:Bool:=!v6;
 let v8:Bool:=!v7;
 let v9:Bool:=v7&&v4;
 let v10:Bool:=v8||v7;bif v5 then bif v5 then bif v10 then bif v10 then bif !v9||v9 then bif (v8||v10)&&(v8||(!v4||(v8||v9))) then bif v6||v7 then some (bif v6 then true else bif v4 then decide (x0<=90) else false) else none else none else none else none else none else none else none
def fV (x0:Int):Option Bool:=uM lpK jnK x0
abbrev t76:=(Int)->Option (Bool)
def vq (_:Lp) (_:Jn) (x0:Int):Option Bool :=
 
 let v3:Bool:=decide (x0>=48);
 let v4:Bool:=!v3||v3;bif v4 then bif v4 then some (bif v3 then decide (x0<=57) else false) else none else none
def nk (x0:Int):Option Bool:=vq lpK jnK x0
abbrev Qk:=(Int)->Option (Bool)
def xI (lp:Lp) (_:Jn) (fV:t76) (nk:Qk) (x0:ByteArray) (x1:Int):Option Int :=
 lp (Int×PUnit) Int (fun (again:Int×PUnit->Option Int) (x:Int×PUnit) =>
 let v6:Bool:=inB x.1 (ByteArray.size x0);
 let v7:Int:=jQ x0 x.1.toNat;
 let v8:Bool:=decide (x.1<(↑(ByteArray.size x0):Int));
 let v9:Bool:=!v8;
 let v10:Bool:=v9||v8;
 let v11:Bool:=v9||v10;bif v10&&(v10&&(v9||v6)) then bif v10 then af (bif v8 then fV v7 else some false) fun (t:Bool) =>
 let v13:Bool:=v8&&!t;
 let v14:Bool:=!v13;
 let v15:Bool:=v14||v13;bif v10 then bif v15&&(v15&&(v14||v6)) then bif v15 then af (bif v13 then nk v7 else some false) fun (t_1:Bool) =>
 let v17:Bool:=bif t then true else t_1;
 let v18:Bool:=v8&&!v17;
 let v19:Bool:=!v18;
 let v20:Bool:=v19||v18;bif v11&&(v9||(t||(v9||v13))) then bif v10 then bif v20&&(v20&&(v19||v6)) then bif v20 then bif v11&&(v9||(v17||(v9||v18))) then bif v10 then bif bif v8 then bif v17 then true else decide (v7=95) else false then again (IntKind.wrap .i64 (x.1+1),PUnit.unit) else some x.1 else none else none else none else none else none else none else none else none else none else none else none) (x1,PUnit.unit)
def qd (x0:ByteArray) (x1:Int):Option Int:=xI lpK jnK fV nk x0 x1
abbrev t77:=(ByteArray)->(Int)->Option (Int)
def uE (_:Lp) (_:Jn) (fV:t76) (qd:t77) (x0:ByteArray):Option Bool :=
 
 let v3:Bool:=decide ((↑(ByteArray.size x0):Int)=0);
 let v4:Bool:=!v3;
 let v5:Bool:=!v4||v4;
 let v6:Bool:=bif v3 then true else decide ((↑(ByteArray.size x0):Int)>20);
 let v7:Bool:=!v6;
 let v8:Bool:=!v7;
 let v9:Bool:=v8||v7;bif v5 then bif v5 then bif v3||v4 then bif v9&&(v8||inB 0 (ByteArray.size x0)) then bif v9 then af (bif v7 then fV (jQ x0 (0 : Nat)) else some false) fun (t:Bool)=>bif v9 then bif v6||v7 then bif bif v6 then true else !t then some false else af (qd x0 0) fun (t:Int)=>some (decide (t = (↑(ByteArray.size x0):Int))) else none else none else none else none else none else none else none
def jp (x0:ByteArray):Option Bool:=uE lpK jnK fV qd x0
abbrev t39:=(ByteArray)->Option (Bool)
def qn (lp:Lp) (_:Jn) (x0:(List (ByteArray×Int))×List (ByteArray×(List (ByteArray×Int×Int×Int))×Bool)) (x1:ByteArray):Option Int :=
 lp (Int×PUnit) Int (fun (again:Int×PUnit->Option Int) (x:Int×PUnit)=>bif decide (x.1<(↑x0.1.length:Int)) then bif inB x.1 x0.1.length then bif List.beq (ByteArray.toList (x0.1.getD x.1.toNat ({ data:={ toList:=[] } },0)).1) (ByteArray.toList x1) then some x.1 else again (IntKind.wrap .i64 (x.1+1),PUnit.unit) else none else some (-1)) (0,PUnit.unit)
def ef (x0:(List (ByteArray×Int))×List (ByteArray×(List (ByteArray×Int×Int×Int))×Bool)) (x1:ByteArray):Option Int:=qn lpK jnK x0 x1
abbrev t40:=((List (ByteArray×Int))×List (ByteArray×(List (ByteArray×Int×Int×Int))×Bool))->(ByteArray)->Option (Int)
def rR (lp:Lp) (_:Jn) (x0:(List (ByteArray×Int))×List (ByteArray×(List (ByteArray×Int×Int×Int))×Bool)) (x1:ByteArray):Option Int :=
 lp (Int×PUnit) Int (fun (again:Int×PUnit->Option Int) (x:Int×PUnit)=>bif decide (x.1<(↑x0.2.length:Int)) then bif inB x.1 x0.2.length then bif List.beq (ByteArray.toList (x0.2.getD x.1.toNat ({ data:={ toList:=[] } },[],false)).1) (ByteArray.toList x1) then some x.1 else again (IntKind.wrap .i64 (x.1+1),PUnit.unit) else none else some (-1)) (0,PUnit.unit)
def jT (x0:(List (ByteArray×Int))×List (ByteArray×(List (ByteArray×Int×Int×Int))×Bool)) (x1:ByteArray):Option Int:=rR lpK jnK x0 x1
abbrev t41:=((List (ByteArray×Int))×List (ByteArray×(List (ByteArray×Int×Int×Int))×Bool))->(ByteArray)->Option (Int)
def me (_:Lp) (_:Jn) (x0:Int×Int) (x1:Int×Int):Option Bool :=
 
 let v4:Bool:=decide (x0.1=x1.1);
 let v5:Bool:=decide (x0.1<x1.1);
 let v6:Bool:=!v5;
 let v7:Bool:=!v6;
 let v8:Bool:=v6&&v4;
 let v9:Bool:=v7||v6;
 let v10:Bool:=!v8||v8;bif v9 then bif v9 then bif v9&&v9 then bif v9 then bif v10 then bif v10 then bif v10&&v10 then bif (v7||v9)&&(v7||(!v4||(v7||v8))) then bif v5 || v6 then some (bif v5 then true else bif v4 then decide (x0.2<x1.2) else false) else none else none else none else none else none else none else none else none else none
def bN (x0:Int×Int) (x1:Int×Int):Option Bool:=me lpK jnK x0 x1
abbrev C7:=(Int×Int)->(Int×Int)->Option (Bool)
def Ou (bN:C7):Ctr:=⟨[jf,jf],[],[],.one .bool,fun x _ _=>bN x.1 x.2.1⟩
def Hq:Ctr:=Ou bN
theorem Qq (lp:Lp) (jn:Jn):∀(x:TsS Hq.as) (F:TsF Hq.fs) (y:TsS Hq.cs),me lp jn x.1 x.2.1=bo lp jn (cx [] [(32,r32),(92,r92),(112,aU)]) aj 4 161 f161 Hq x F y:=fun x F y=>by kernel_rfl
theorem Nu:Hq.ok prog 161:=Ctr.of_den (an (q32)) aw (hl:=aj) (d:=4) func161 rfl (by decide) (Qq lpK jnK)
def lV (_:Lp) (_:Jn) (x0:Int×Int) (x1:Int×Int):Option (Int×Int) :=
 
 let v4:Int:=IntKind.wrap .u64 (x0.1+x1.1);
 let v5:Int:=IntKind.wrap .u64 (x0.2+x1.2);bif decide (v5<x0.2) then some (IntKind.wrap .u64 (v4+1),v5) else some (v4,v5)
def cY (x0:Int×Int) (x1:Int×Int):Option (Int×Int):=lV lpK jnK x0 x1
abbrev JW:=(Int×Int)->(Int×Int)->Option (Int×Int)
def Ma (cY:JW):Ctr:=⟨[jf,jf],[],[],.one jf,fun x _ _=>cY x.1 x.2.1⟩
def DZ:Ctr:=Ma cY
theorem OA (lp:Lp) (jn:Jn):∀(x:TsS DZ.as) (F:TsF DZ.fs) (y:TsS DZ.cs),lV lp jn x.1 x.2.1=bo lp jn (cx [] [(32,r32),(92,r92),(112,aU)]) aj 4 163 f163 DZ x F y:=fun x F y=>by kernel_rfl
theorem Nb:DZ.ok prog 163:=Ctr.of_den (an (q32)) aw (hl:=aj) (d:=4) func163 rfl (by decide) (OA lpK jnK)
def kR (_:Lp) (_:Jn) (x0:Int×Int) (x1:Int×Int):Option (Int×Int) :=
 
 let v4:Int:=IntKind.wrap .u64 (x0.1 - x1.1);
 let v5:Int:=IntKind.wrap .u64 (x0.2 - x1.2);bif decide (x0.2<x1.2) then some (IntKind.wrap .u64 (v4 - 1),v5) else some (v4,v5)
def bG (x0:Int×Int) (x1:Int×Int):Option (Int×Int):=kR lpK jnK x0 x1
abbrev EI:=(Int×Int)->(Int×Int)->Option (Int×Int)
def MZ (bG:EI):Ctr:=⟨[jf,jf],[],[],.one jf,fun x _ _=>bG x.1 x.2.1⟩
def EK:Ctr:=MZ bG
theorem Qm (lp:Lp) (jn:Jn):∀(x:TsS EK.as) (F:TsF EK.fs) (y:TsS EK.cs),kR lp jn x.1 x.2.1=bo lp jn (cx [] [(32,r32),(92,r92),(112,aU)]) aj 4 164 f164 EK x F y:=fun x F y=>by kernel_rfl
theorem NK:EK.ok prog 164:=Ctr.of_den (an (q32)) aw (hl:=aj) (d:=4) func164 rfl (by decide) (Qm lpK jnK)
def my (_:Lp) (_:Jn) (x0:Int×Int):Option (Int×Int) :=
 
 let v3:Int:=2 ^ 1;
 let v4:Bool:=decide ((0:Int)<=1);bif v4 then bif v4 then bif decide ((0:Int)<=63) then some (Int.fdiv x0.1 v3,IntKind.wrap .u64 (Int.fdiv x0.2 v3 + IntKind.wrap .u64 (x0.1*2 ^ 63))) else none else none else none
def dE (x0:Int×Int):Option (Int×Int):=my lpK jnK x0
abbrev ML:=(Int×Int)->Option (Int×Int)
def FY:Ctr:=⟨[jf],[],[],.one jf,fun x _ _=>dE x.1⟩
theorem Pd (lp:Lp) (jn:Jn):∀(x:TsS FY.as) (F:TsF FY.fs) (y:TsS FY.cs),my lp jn x.1=bo lp jn (cx [] [(32,r32),(92,r92),(112,aU)]) aj 4 180 f180 FY x F y:=fun x F y=>by kernel_rfl
theorem N2:FY.ok prog 180:=Ctr.of_den (an (q32)) aw (hl:=aj) (d:=4) func180 rfl (by decide) (Pd lpK jnK)
def od (lp:Lp) (_:Jn) (bN:C7) (cY:JW) (bG:EI) (dE:ML) (x0:Int×Int) (x1:Int×Int):Option (Int×Int) :=
 bif decide (x0.1=0)&&(decide (x0.2=0)&&true) then some x1 else lp (Int×(Int×Int)×(Int×Int)×PUnit) (Int×Int) (fun (again:Int×(Int×Int)×(Int × Int)×PUnit->Option (Int×Int)) (x:Int×(Int×Int)×(Int×Int)×PUnit) =>
 let v6:Bool:=decide (IntKind.wrap .u64 (↑(Nat.land (Int.toNat (x.2.1.2 % Int.ofNat 18446744073709551616)) (Int.toNat (1 % Int.ofNat (18446744073709551616 : Nat)))):Int)=0);
 let v7:Bool:=!v6||v6;bif v7 then bif v7 then bif v7 then bif v7 then bif bif v6 then decide (IntKind.wrap .u64 (↑(Nat.land (Int.toNat (x.2.2.1.2 % Int.ofNat 18446744073709551616)) (Int.toNat (1 % Int.ofNat 18446744073709551616))):Int)=0) else false then af (dE x.2.1) fun (t:Int×Int) => af (dE x.2.2.1) fun (t_1:Int×Int)=>again (IntKind.wrap .i64 (x.1+1),t,t_1,PUnit.unit) else lp ((Int×Int)×(Int×Int)×PUnit) (Int × Int) (fun (again:(Int×Int)×(Int×Int)×PUnit->Option (Int×Int)) (x_1:(Int×Int)×(Int×Int)×PUnit) =>
 let v10:(Int×Int)×PUnit:=(x_1.2.1,PUnit.unit);bif !(decide (x_1.1.1=0)&&(decide (x_1.1.2=0)&&true)) then lp ((Int×Int)×PUnit) (Int×Int) (fun (again_1:(Int×Int)×PUnit->Option (Int×Int)) (x:(Int×Int)×PUnit)=>bif decide (IntKind.wrap .u64 (↑(Nat.land (Int.toNat (x.1.2 % Int.ofNat 18446744073709551616)) (Int.toNat (1 % Int.ofNat 18446744073709551616))):Int)=0) then af (dE x.1) fun (t:Int×Int)=>again_1 (t, PUnit.unit) else lp ((Int×Int)×PUnit) (Int×Int) (fun (again_2:(Int×Int)×PUnit->Option (Int×Int)) (x_2:(Int×Int)×PUnit)=>bif decide (IntKind.wrap .u64 (↑(Nat.land (Int.toNat (x_2.1.2 % Int.ofNat 18446744073709551616)) (Int.toNat (1 % Int.ofNat 18446744073709551616))):Int)=0) then af (dE x_2.1) fun (t:Int×Int)=>again_2 (t,PUnit.unit) else af (bN x.1 x_2.1) fun (t:Bool)=>bif t then af (bG x_2.1 x.1) fun (t:Int × Int)=>again (t,x.1,PUnit.unit) else af (bG x.1 x_2.1) fun (t:Int×Int)=>again (t,x_2.1,PUnit.unit)) v10) (x_1.1,PUnit.unit) else lp (Int×(Int×Int) × PUnit) (Int×Int) (fun (again:Int×(Int×Int)×PUnit->Option (Int×Int)) (x:Int×(Int×Int)×PUnit)=>bif decide (x.1>0) then af (cY x.2.1 x.2.1) fun (t:Int×Int)=>again (IntKind.wrap .i64 (x.1 - 1),t,PUnit.unit) else some x.2.1) (x.1,v10)) (x.2.1,x.2.2.1,PUnit.unit) else none else none else none else none) (0,x0,x1,PUnit.unit)
def dD (x0:Int×Int) (x1:Int×Int):Option (Int×Int):=od lpK jnK bN cY bG dE x0 x1
abbrev Jr:=(Int×Int)->(Int×Int)->Option (Int×Int)
def Ni (dD:Jr):Ctr:=⟨[jf,jf],[],[],.one jf,fun x _ _=>dD x.1 x.2.1⟩
def Fe:Ctr:=Ni dD
theorem O5 (lp:Lp) (jn:Jn) (bN:C7) (cY:JW) (bG:EI) (dE:ML):∀(x:TsS Fe.as) (F:TsF Fe.fs) (y:TsS Fe.cs),od lp jn bN cY bG dE x.1 x.2.1=bo lp jn (cx [(180,⟨[jf],[],[],.one jf,fun x _ _=>dE x.1⟩),(164,MZ bG),(163,Ma cY),(161,Ou bN)] [(32,r32),(92,r92),(112,aU)]) aj 4 152 f152 Fe x F y:=fun x F y=>by kernel_rfl
theorem Ov:Fe.ok prog 152:=Ctr.of_den (an (aa (aa (aa (aa (q32) (by kernel_rfl) Nu) (by kernel_rfl) Nb) (by kernel_rfl) NK) (by kernel_rfl) N2)) aw (hl:=aj) (d:=4) func152 rfl (by decide) (O5 lpK jnK bN cY bG dE)
def lX (_:Lp) (_:Jn) (x0:Int):Option Int :=
 
 let v3:Int:=IntKind.wrap .u64 x0;bif decide (x0<0) then some (IntKind.wrap .u64 (0 - v3)) else some v3
def aP (x0:Int):Option Int:=lX lpK jnK x0
abbrev Dq:=(Int)->Option (Int)
def NA (aP:Dq):Ctr:=⟨[i64],[],[],.one (.int .u64),fun x _ _=>aP x.1⟩
def G0:Ctr:=NA aP
theorem Py (lp:Lp) (jn:Jn):∀(x:TsS G0.as) (F:TsF G0.fs) (y:TsS G0.cs),lX lp jn x.1=bo lp jn (cx [] [(32,r32),(92,r92),(112,aU)]) aj 4 153 f153 G0 x F y:=fun x F y=>by kernel_rfl
theorem M8:G0.ok prog 153:=Ctr.of_den (an (q32)) aw (hl:=aj) (d:=4) func153 rfl (by decide) (Py lpK jnK)
def kW (_:Lp) (_:Jn) (dD:Jr) (aP:Dq) (x0:Int×Int):Option Bool :=
 
 let v3:Bool:=decide (x0.2<1);
 let v4:Bool:=!v3;
 let v5:Bool:=bif v3 then true else decide (x0.2>1152921504606846976);
 let v6:Bool:=!v4||v4;
 let v7:Bool:=!v5;
 let v8:Bool:=bif v5 then true else decide (x0.1<(-1152921504606846976));
 let v9:Bool:=!v8;
 let v10:Bool:=!v7||v7;
 let v11:Bool:=!v9||v9;bif v6 then bif v6 then bif v3||v4 then bif v10 then bif v10 then bif v5||v7 then bif v11 then bif v11 then bif v8||v9 then bif bif v8 then true else decide (x0.1>1152921504606846976) then some false else af (aP x0.1) fun (t:Int)=>af (aP x0.2) fun (t_1:Int)=>af (dD (0, t) (0,t_1)) fun (t:Int×Int)=>some (decide (t.1=0)&&(decide (t.2=1)&&true)) else none else none else none else none else none else none else none else none else none
def cB (x0:Int×Int):Option Bool:=kW lpK jnK dD aP x0
abbrev Io:=(Int×Int)->Option (Bool)
def Oe (cB:Io):Ctr:=⟨[T47],[],[],.one .bool,fun x _ _=>cB x.1⟩
def HS:Ctr:=Oe cB
theorem P5 (lp:Lp) (jn:Jn) (dD:Jr) (aP:Dq):∀(x:TsS HS.as) (F:TsF HS.fs) (y:TsS HS.cs),kW lp jn dD aP x.1=bo lp jn (cx [(153,NA aP),(152,Ni dD)] [(32,r32),(92,r92),(112,aU)]) aj 4 108 f108 HS x F y:=fun x F y=>by kernel_rfl
theorem MU:HS.ok prog 108:=Ctr.of_den (an (aa (aa (q32) (by kernel_rfl) Ov) (by kernel_rfl) M8)) aw (hl:=aj) (d:=4) func108 rfl (by decide) (P5 lpK jnK dD aP)
def qG (_:Lp) (_:Jn) (cB:Io) (x0:Int×Int):Option Bool :=
 af (cB x0) fun (t:Bool) =>
 let v4:Bool:=!t||t;
 let v5:Bool:=bif t then decide (x0.1>=x0.2) else false;
 let v6:Bool:=!v5||v5;bif v4 then bif v4 then bif v4&&v4 then bif v4 then bif v6 then bif v6 then bif v6 then some (bif v5 then decide (x0.1<=100) else false) else none else none else none else none else none else none else none
def je (x0:Int×Int):Option Bool:=qG lpK jnK cB x0
abbrev Qs:=(Int×Int)->Option (Bool)
def yh (_:Lp) (_:Jn) (aL:t24) (ef:t40) (je:Qs) (x0:(List (ByteArray×Int))×List (ByteArray×(List (ByteArray×Int×Int×Int))×Bool)) (x1:ByteArray×Int×Int×Int) (x2:Bool):Option Bool :=
 
 let v5:Bool:=!x2||x2;
 let v6:Bool:=decide (x1.2.1=0);
 let v7:Bool:=decide (x1.2.1=1);
 let v8:Bool:=decide (x1.2.1=2);
 let v9:Bool:=!v7;
 let v10:Bool:=!v8;
 let v11:Bool:=bif v8 then true else v6;
 let v12:Bool:=!v9||v9;
 let v13:Bool:=!v10||v10;
 let v14:Bool:=!v11;
 let v15:Bool:=!v14||v14;bif v5 then af (bif x2 then aL 1 else some (0,0)) fun (t:Int×Int) =>
 let v17:Bool:=bif x2 then !(decide (x1.2.2.1=t.1)&&(decide (x1.2.2.2=t.2)&&true)) else false;
 let v18:Bool:=!v17;
 let v19:Bool:=!v18||v18;bif v5&&v5 then bif v5 then bif v19 then bif v19 then af (bif v18 then je x1.2.2 else some false) fun (t:Bool)=>bif v19 then bif v17||v18 then bif bif v17 then true else !t then some false else bif List.beq (ByteArray.toList x1.1) (ByteArray.toList { data:=#[] }) then some v6 else af (ef x0 x1.1) fun (t:Int)=>bif decide (t<0) then some false else bif x2 then bif v12 then bif v12 then bif v7||v9 then some (bif v7 then true else decide (x1.2.1=(-1 : Int))) else none else none else none else bif v13 then bif v13 then bif v8||v10 then bif v15 then bif v15 then bif v11||v14 then some (bif v11 then true else decide (x1.2.1 = (-2))) else none else none else none else none else none else none else none else none else none else none else none else none else none
def pG (x0:(List (ByteArray×Int))×List (ByteArray×(List (ByteArray×Int×Int×Int))×Bool)) (x1:ByteArray×Int×Int×Int) (x2:Bool):Option Bool:=yh lpK jnK aL ef je x0 x1 x2
abbrev t78:=((List (ByteArray×Int))×List (ByteArray×(List (ByteArray×Int×Int×Int))×Bool))->(ByteArray×Int×Int×Int)->(Bool)->Option (Bool)
def xf (lp:Lp) (_:Jn) (pG:t78) (x0:(List (ByteArray×Int))×List (ByteArray×(List (ByteArray×Int×Int×Int))×Bool)) (x1:ByteArray×(List (ByteArray×Int×Int×Int))×Bool):Option Bool :=
 
 let v4:Bool:=!x1.2.2;
 let v5:Bool:=!v4;
 let v6:Bool:=!v5;
 let v7:Int:=IntKind.wrap .i64 ((↑x1.2.1.length:Int) - 1);
 let v8:Bool:=v6||v5;
 let v9:Bool:=decide ((↑x1.2.1.length:Int)<2);
 let v10:Bool:=!v9;
 let v11:Bool:=!v10||v10;bif v11 then bif v11 then bif v11 then bif v9||v10 then bif bif v9 then true else decide ((↑x1.2.1.length:Int)>10) then some false else lp (Int×PUnit) Bool (fun (again:Int×PUnit->Option Bool) (x:Int×PUnit) =>
 let v14:Bool:=decide (x.1=0);
 let v15:Bool:=!v14;
 let v16:Bool:=!v15||v15;bif decide (x.1<(↑x1.2.1.length:Int)) then bif inB x.1 x1.2.1.length then bif v16 then bif v16 then bif v16 then bif v16 && v16 then bif v14||v15 then af (pG x0 (x1.2.1.getD x.1.toNat ({ data:={ toList:=[] } },0,0,0)) (bif v14 then true else decide (x.1=v7))) fun (t:Bool)=>bif !t then some false else again (IntKind.wrap .i64 (x.1+1),PUnit.unit) else none else none else none else none else none else none else bif v8 then bif v8 then bif v8 then bif v8 then bif v8&&(v8&&(v6||inB v7 x1.2.1.length)) then bif v8 then bif v8 then bif v8 then bif v4||v5 then some (bif v4 then true else List.beq (ByteArray.toList (x1.2.1.getD v7.toNat ({ data:={ toList:=[] } },0,0,0)).1) (ByteArray.toList { data:=#[] })) else none else none else none else none else none else none else none else none else none) (0,PUnit.unit) else none else none else none else none
def pU (x0:(List (ByteArray×Int))×List (ByteArray×(List (ByteArray×Int×Int×Int))×Bool)) (x1:ByteArray×(List (ByteArray×Int×Int×Int))×Bool):Option Bool:=xf lpK jnK pG x0 x1
abbrev t42:=((List (ByteArray×Int))×List (ByteArray×(List (ByteArray×Int×Int×Int))×Bool))->(ByteArray×(List (ByteArray×Int×Int×Int))×Bool)->Option (Bool)
def vg (lp:Lp) (_:Jn) (jp:t39) (ef:t40) (jT:t41) (pU:t42) (x0:(List (ByteArray×Int))×List (ByteArray×(List (ByteArray×Int×Int×Int))×Bool)):Option Bool :=
 
 let v3:Bool:=decide ((↑x0.1.length:Int)<1);
 let v4:Bool:=!v3;
 let v5:Bool:=bif v3 then true else decide ((↑x0.1.length:Int)>6);
 let v6:Bool:=!v4||v4;
 let v7:Bool:=!v5;
 let v8:Bool:=bif v5 then true else decide ((↑x0.2.length:Int)<1);
 let v9:Bool:=!v8;
 let v10:Bool:=!v7||v7;
 let v11:Bool:=!v9||v9;bif v6 then bif v6 then bif v6 then bif v3||v4 then bif v10 then bif v10 then bif v10 then bif v5||v7 then bif v11 then bif v11 then bif v11 then bif v8 || v9 then bif bif v8 then true else decide ((↑x0.2.length:Int)>6) then some false else lp (Int×PUnit) Bool (fun (again:Int×PUnit->Option Bool) (x:Int × PUnit)=>bif decide (x.1<(↑x0.1.length:Int)) then bif inB x.1 x0.1.length then af (jp (x0.1.getD x.1.toNat ({ data:={ toList := [] } },0)).1) fun (t:Bool) =>
 let v15:Bool:=!t;
 let v16:Bool:=!v15;
 let v17:Bool:=!v16||v16;
 let v18:Bool:=v17&&v17;bif v17 then bif v18 then af (bif v16 then ef x0 (x0.1.getD x.1.toNat ({ data:={ toList:=[] } },0)).1 else some 0) fun (t:Int) =>
 let v20:Bool:=bif v15 then true else !decide (t=x.1);
 let v21:Bool:=!v20;
 let v22:Bool:=!v21||v21;
 let v23:Bool:=bif v20 then true else decide ((x0.1.getD x.1.toNat ({ data:={ toList:=[] } },0)).2<0);
 let v24:Bool:=!v23;
 let v25:Bool:=!v24||v24;bif v18 then bif v15||v16 then bif v22 then bif v22 then bif v20||v21 then bif v25 then bif v25 then bif v23||v24 then bif bif v23 then true else decide ((x0.1.getD x.1.toNat ({ data:={ toList:=[] } },0)).2>16777216) then some false else again (IntKind.wrap .i64 (x.1+1), PUnit.unit) else none else none else none else none else none else none else none else none else none else none else none else lp (Int×Int×PUnit) Bool (fun (again:Int×Int × PUnit->Option Bool) (x:Int×Int×PUnit) =>
 let v16:Int×PUnit:=(IntKind.wrap .i64 (x.2.1+1),PUnit.unit);
 let v17:ByteArray×List (ByteArray×Int×Int×Int)×Bool:=x0.2.getD x.2.1.toNat ({ data:={ toList:=[] } },[],false);bif decide (x.2.1<(↑x0.2.length:Int)) then bif inB x.2.1 x0.2.length then af (jp v17.1) fun (t:Bool) =>
 let v19:Bool:=!t;
 let v20:Bool:=!v19;
 let v21:Bool:=!v20||v20;
 let v22:Bool:=v21&&v21;bif v21 then bif v22 then af (bif v20 then jT x0 v17.1 else some 0) fun (t:Int) =>
 let v24:Bool:=bif v19 then true else !decide (t=x.2.1);
 let v25:Bool:=!v24;
 let v26:Bool:=!v25||v25;bif v22 then bif v19||v20 then bif v26 then bif v26&&v26 then af (bif v25 then ef x0 v17.1 else some 0) fun (t:Int) =>
 let v28:Bool:=bif v24 then true else decide (t>=0);
 let v29:Bool:=!v28;
 let v30:Bool:=!v29||v29;bif v26 then bif v24||v25 then bif v30&&v30 then af (bif v29 then pU x0 v17 else some false) fun (t:Bool)=>bif v30 then bif v28||v29 then bif bif v28 then true else !t then some false else bif v17.2.2 then again (IntKind.wrap .i64 (x.1+1),v16) else again (x.1,v16) else none else none else none else none else none else none else none else none else none else none else none else none else some (decide (x.1<=1))) (0,0,PUnit.unit)) (0, PUnit.unit) else none else none else none else none else none else none else none else none else none else none else none else none
def aX (x0:(List (ByteArray×Int))×List (ByteArray×(List (ByteArray×Int×Int×Int))×Bool)):Option Bool:=vg lpK jnK jp ef jT pU x0
abbrev t14:=((List (ByteArray×Int))×List (ByteArray×(List (ByteArray×Int×Int×Int))×Bool))->Option (Bool)
def k14 (aX:t14):Ctr:=⟨[T25],[],[],.one .bool,fun x _ _=>aX x.1⟩
def xB (_:Lp) (_:Jn) (x0:Int):Option Int :=
 some (if IntKind.wrap .i64 (0 - x0)>x0 then IntKind.wrap .i64 (0 - x0) else x0)
def jL (x0:Int):Option Int:=xB lpK jnK x0
abbrev PD:=(Int)->Option (Int)
def sN (lp:Lp) (_:Jn) (jL:PD) (x0:(List Int)×List ((List Int)×Int×Int)):Option (List Int) :=
 lp (Int×Int×PUnit) (List Int) (fun (again:Int×Int×PUnit->Option (List Int)) (x:Int×Int×PUnit)=>bif decide (x.2.1<(↑x0.1.length:Int)) then bif inB x.2.1 x0.1.length then af (jL (x0.1.getD x.2.1.toNat 0)) fun (t:Int)=>again (IntKind.wrap .i64 (x.1+t),IntKind.wrap IntKind.i64 (x.2.1+1),PUnit.unit) else none else lp (List Int×Int×PUnit) (List Int) (fun (again:List Int×Int×PUnit->Option (List Int)) (x:List Int×Int × PUnit) =>
 let v7:Bool:=inB x.2.1 x0.2.length;
 let v8:List Int×Int×Int:=x0.2.getD x.2.1.toNat ([],0,0);bif decide (x.2.1<(↑x0.2.length:Int)) then bif v7 then af (jL v8.2.2) fun (t:Int)=>lp (Int×Int×PUnit) (List Int) (fun (again_1:Int×Int×PUnit->Option (List Int)) (x_1:Int×Int×PUnit)=>bif decide (x_1.2.1 < (↑x0.1.length:Int)) then bif v7 then bif inB x_1.2.1 v8.1.length then af (jL (v8.1.getD x_1.2.1.toNat 0)) fun (t:Int) => again_1 (IntKind.wrap .i64 (x_1.1+t),IntKind.wrap .i64 (x_1.2.1+1),PUnit.unit) else none else none else bif dM (List.length x.1+1) (8 : Nat) then again (x.1++[x_1.1],IntKind.wrap .i64 (x.2.1+1),PUnit.unit) else none) (IntKind.wrap .i64 (1+t),0,PUnit.unit) else none else some x.1) ([x.1],0,PUnit.unit)) (1,0,PUnit.unit)
def kI (x0:(List Int)×List ((List Int)×Int×Int)):Option (List Int):=sN lpK jnK jL x0
abbrev t79:=((List Int)×List ((List Int)×Int×Int))->Option (List Int)
set_option maxRecDepth 100000
def sQ (lp:Lp) (_:Jn) (x0:List Int) (x1:Int):Option (Int×Bool×Unit) :=
 lp (Int×Int×PUnit) (Int×Bool×PUnit) (fun (again:Int×Int×PUnit->Option (Int×Bool×PUnit)) (x:Int×Int×PUnit) =>
 let v6:Bool:=inB x.2.1 x0.length;bif decide (x.2.1<(↑x0.length:Int)) then bif v6 then bif nzB x.1 then bif decide (x0.getD x.2.1.toNat (0 : Int)>IntKind.wrap .i64 (Int.tdiv x1 x.1)) then some (0,false,PUnit.unit) else bif v6 then again (IntKind.wrap .i64 (x.1*x0.getD x.2.1.toNat 0),IntKind.wrap .i64 (x.2.1+1),PUnit.unit) else none else none else none else some (x.1,true,PUnit.unit)) (1,0,PUnit.unit)
def kV (x0:List Int) (x1:Int):Option (Int×Bool×Unit):=sQ lpK jnK x0 x1
abbrev t80:=(List Int)->(Int)->Option (Int×Bool×Unit)
def wO (lp:Lp) (_:Jn) (kI:t79) (kV:t80) (x0:(List Int)×List ((List Int)×Int×Int)):Option Bool :=
 af (kI x0) fun (t:List Int)=>af (kV t 17592186044416) fun (t_1:Int×Bool×PUnit) =>
 let v5:Bool:=!t_1.2.1;
 let v6:Int:=IntKind.wrap .i64 (Int.tdiv 144115188075855872 t_1.1);
 let v7:Bool:=v5||t_1.2.1;lp (Int×Int×PUnit) Bool (fun (again:Int×Int×PUnit->Option Bool) (x:Int×Int×PUnit)=>bif decide (x.2.1<(↑t.length:Int)) then bif inB x.2.1 t.length then again (if t.getD x.2.1.toNat 0>x.1 then t.getD x.2.1.toNat 0 else x.1,IntKind.wrap IntKind.i64 (x.2.1+1),PUnit.unit) else none else bif v7&&(v5||nzB t_1.1) then bif v7&&v7 then bif v7 then some (bif t_1.2.1 then decide (x.1<=v6) else false) else none else none else none) (0,0,PUnit.unit)
def pB (x0:(List Int)×List ((List Int)×Int×Int)):Option Bool:=wO lpK jnK kI kV x0
abbrev t43:=((List Int)×List ((List Int)×Int×Int))->Option (Bool)
def xd (lp:Lp) (_:Jn) (x0:ByteArray×(List (ByteArray×Int×Int×Int))×Bool) (x1:ByteArray):Option Int :=
 lp (Int×Int×PUnit) Int (fun (again:Int×Int×PUnit->Option Int) (x:Int×Int×PUnit) =>
 let v6:Int×PUnit:=(IntKind.wrap .i64 (x.2.1+1),PUnit.unit);
 let v7:Bool:=inB x.2.1 x0.2.1.length;
 let v8:ByteArray×Int×Int×Int:=x0.2.1.getD x.2.1.toNat ({ data:={ toList:=[] } },0,0,0);bif decide (x.2.1<(↑x0.2.1.length:Int)) then bif v7 then bif List.beq (ByteArray.toList v8.1) (ByteArray.toList x1) then bif v7 then again (IntKind.wrap .i64 (x.1+v8.2.1),v6) else none else again (x.1,v6) else none else some x.1) (0,0,PUnit.unit)
def pt (x0:ByteArray×(List (ByteArray×Int×Int×Int))×Bool) (x1:ByteArray):Option Int:=xd lpK jnK x0 x1
abbrev Pw:=(ByteArray×(List (ByteArray×Int×Int×Int))×Bool)->(ByteArray)->Option (Int)
def uc (lp:Lp) (_:Jn) (pt:Pw) (x0:(List (ByteArray×Int))×List (ByteArray×(List (ByteArray×Int×Int×Int))×Bool)):Option (List (List Int)) :=
 lp ((List Nat×List (Option (List Int)))×Int×PUnit) (List (List Int)) (fun (again:(List Nat×List (Option (List Int)))×Int×PUnit->Option (List (List Int))) (x:(List Nat × List (Option (List Int)))×Int×PUnit)=>bif decide (x.2.1<(↑x0.1.length:Int)) then lp (List Int×Int×PUnit) (List (List Int)) (fun (again_1:List Int×Int × PUnit->Option (List (List Int))) (x_1:List Int×Int×PUnit)=>bif decide (x_1.2.1<(↑x0.2.length:Int)) then bif inB x_1.2.1 x0.2.length then bif inB x.2.1 x0.1.length then af (pt (x0.2.getD x_1.2.1.toNat ({ data:={ toList:=[] } },[],false)) (x0.1.getD x.2.1.toNat ({ data:={ toList:=[] } },0)).1) fun (t:Int)=>bif dM (List.length x_1.1+1) 8 then again_1 (x_1.1++[t],IntKind.wrap .i64 (x_1.2.1 + 1),PUnit.unit) else none else none else none else bif dM (List.length x.1.1+1) 24 then again ((x.1.1++[List.length x.1.2+0], x.1.2++[some x_1.1]),IntKind.wrap .i64 (x.2.1+1),PUnit.unit) else none) ([],0,PUnit.unit) else bif List.all x.1.1 fun (x_1:Nat)=>fE x.1.2 x_1 then some (List.map (fun (x_1:Nat)=>bw x.1.2 x_1) x.1.1) else none) (([],[]),0,PUnit.unit)
def ga (x0:(List (ByteArray×Int))×List (ByteArray×(List (ByteArray×Int×Int×Int))×Bool)):Option (List (List Int)):=uc lpK jnK pt x0
abbrev t81:=((List (ByteArray×Int))×List (ByteArray×(List (ByteArray×Int×Int×Int))×Bool))->Option (List (List Int))
def sK (lp:Lp) (_:Jn) (ga:t81) (x0:(List (ByteArray×Int))×List (ByteArray×(List (ByteArray×Int×Int×Int))×Bool)) (x1:List Int):Option ((List Int)×List ((List Int)×Int×Int)) :=
 af (ga x0) fun (t:List (List Int))=>lp (Int×List Int×List (List Int×Int×Int)×PUnit) (List Int×List (List Int×Int×Int)) (fun (again:Int×List Int×List (List Int×Int×Int)×PUnit->Option (List Int×List (List Int×Int×Int))) (x:Int×List Int×List (List Int×Int×Int)×PUnit)=>bif decide (x.1<(↑x0.1.length:Int)) then bif inB x.1 t.length then bif inB x.1 x0.1.length then bif dM (List.length x.2.2.1+1) 40 then again (IntKind.wrap IntKind.i64 (x.1+1),x.2.1,x.2.2.1++[(t.getD x.1.toNat [],3,(x0.1.getD x.1.toNat ({ data:={ toList:=[] } },(0 : Int))).2)],PUnit.unit) else none else none else none else some (x.2.1,x.2.2.1)) (0,x1,[],PUnit.unit)
def fq (x0:(List (ByteArray×Int))×List (ByteArray×(List (ByteArray×Int×Int×Int))×Bool)) (x1:List Int):Option ((List Int)×List ((List Int)×Int×Int)):=sK lpK jnK ga x0 x1
abbrev t44:=((List (ByteArray×Int))×List (ByteArray×(List (ByteArray×Int×Int×Int))×Bool))->(List Int)->Option ((List Int)×List ((List Int)×Int×Int))
def xQ (lp:Lp) (_:Jn) (x0:(List (ByteArray×Int))×List (ByteArray×(List (ByteArray×Int×Int×Int))×Bool)):Option (List Int) :=
 lp (List Int×Int×PUnit) (List Int) (fun (again:List Int×Int×PUnit->Option (List Int)) (x:List Int×Int×PUnit)=>bif decide (x.2.1<(↑x0.2.length:Int)) then bif dM (List.length x.1+1) 8 then again (x.1++[1],IntKind.wrap .i64 (x.2.1+1),PUnit.unit) else none else some x.1) ([],(0 : Int),PUnit.unit)
def iJ (x0:(List (ByteArray×Int))×List (ByteArray×(List (ByteArray×Int×Int×Int))×Bool)):Option (List Int):=xQ lpK jnK x0
abbrev t45:=((List (ByteArray×Int))×List (ByteArray×(List (ByteArray×Int×Int×Int))×Bool))->Option (List Int)
def xb (_:Lp) (_:Jn) (pB:t43) (fq:t44) (iJ:t45) (x0:(List (ByteArray×Int))×List (ByteArray×(List (ByteArray×Int×Int×Int))×Bool)):Option Bool :=
 af (iJ x0) fun (t:List Int)=>af (fq x0 t) fun (t:List Int×List (List Int×Int×Int))=>af (pB t) fun (t:Bool)=>some t
def ip (x0:(List (ByteArray×Int))×List (ByteArray×(List (ByteArray×Int×Int×Int))×Bool)):Option Bool:=xb lpK jnK pB fq iJ x0
abbrev t16:=((List (ByteArray×Int))×List (ByteArray×(List (ByteArray×Int×Int×Int))×Bool))->Option (Bool)
def ma (_:Lp) (_:Jn) (x0:(List (Int×Int))×Bool×List (Int×Int)):Option Bool :=
 
 let v3:Bool:=decide ((↑x0.1.length:Int)>30);
 let v4:Bool:=!v3;
 let v5:Bool:=!v4||v4;bif v5 then bif v5 then bif v5 then bif v3||v4 then some (bif v3 then true else decide ((↑x0.2.2.length:Int)>30)) else none else none else none else none
def aK (x0:(List (Int×Int))×Bool×List (Int×Int)):Option Bool:=ma lpK jnK x0
abbrev t17:=((List (Int×Int))×Bool×List (Int×Int))->Option (Bool)
def k17 (aK:t17):Ctr:=⟨[T30],[],[],.one .bool,fun x _ _=>aK x.1⟩
def c17:Ctr:=k17 aK
theorem e17 (lp:Lp) (jn:Jn):∀(x:TsS c17.as) (F:TsF c17.fs) (y:TsS c17.cs),ma lp jn x.1=bo lp jn (cx [] [(32,r32),(92,r92),(112,aU)]) aj 4 17 f17 c17 x F y:=fun x F y=>by kernel_rfl
theorem PZ:c17.ok prog 17:=Ctr.of_den (an (q32)) aw (hl:=aj) (d:=4) func17 rfl (by decide) (e17 lpK jnK)
def nF (lp:Lp) (_:Jn) (cB:Io) (x0:List (Int×Int)):Option Bool :=
 lp (Int×PUnit) Bool (fun (again:Int×PUnit->Option Bool) (x:Int×PUnit)=>bif decide (x.1<(↑x0.length:Int)) then bif inB x.1 x0.length then af (cB (x0.getD x.1.toNat (0,0))) fun (t:Bool)=>bif !t then some false else again (IntKind.wrap .i64 (x.1+1),PUnit.unit) else none else some true) (0,PUnit.unit)
def du (x0:List (Int×Int)):Option Bool:=nF lpK jnK cB x0
abbrev t70:=(List (Int×Int))->Option (Bool)
def k70 (du:t70):Ctr:=⟨[(.sl T47)],[],[],.one .bool,fun x _ _=>du x.1⟩
def c70:Ctr:=k70 du
theorem e70 (lp:Lp) (jn:Jn) (cB:Io):∀(x:TsS c70.as) (F:TsF c70.fs) (y:TsS c70.cs),nF lp jn cB x.1=bo lp jn (cx [(108,Oe cB)] [(32,r32),(92,r92),(112,aU)]) aj 4 70 f70 c70 x F y:=fun x F y=>by kernel_rfl
theorem Pa:c70.ok prog 70:=Ctr.of_den (an (aa (q32) (by kernel_rfl) MU)) aw (hl:=aj) (d:=4) func70 rfl (by decide) (e70 lpK jnK cB)
def kL (_:Lp) (_:Jn) (x0:(List (Int×Int))×Bool×List (Int×Int)):Option (List (Int×Int)) :=
 bif x0.2.1 then some x0.1 else some x0.2.2
def ey (x0:(List (Int×Int))×Bool×List (Int×Int)):Option (List (Int×Int)):=kL lpK jnK x0
abbrev t71:=((List (Int×Int))×Bool×List (Int×Int))->Option (List (Int×Int))
def c71:Ctr:=⟨[T30],[],[],.one (.sl T47),fun x _ _=>ey x.1⟩
theorem e71 (lp:Lp) (jn:Jn):∀(x:TsS c71.as) (F:TsF c71.fs) (y:TsS c71.cs),kL lp jn x.1=bo lp jn (cx [] [(32,r32),(92,r92),(112,aU)]) aj 4 71 f71 c71 x F y:=fun x F y=>by kernel_rfl
theorem P8:c71.ok prog 71:=Ctr.of_den (an (q32)) aw (hl:=aj) (d:=4) func71 rfl (by decide) (e71 lpK jnK)
def kN (_:Lp) (_:Jn) (du:t70) (ey:t71) (x0:(List (Int×Int))×Bool×List (Int×Int)):Option Int :=
 af (du x0.1) fun (t:Bool) =>
 let v4:Bool:=!t;
 let v5:Bool:=!v4;
 let v6:Bool:=!v5||v5;bif v6 then bif v6 then af (bif v5 then du x0.2.2 else some false) fun (t:Bool)=>bif v6 then bif v4||v5 then bif bif v4 then true else !t then some 1 else af (ey x0) fun (t:List (Int×Int))=>bif decide ((↑t.length:Int)>0) then some 19 else some 0 else none else none else none else none
def cC (x0:(List (Int×Int))×Bool×List (Int×Int)):Option Int:=kN lpK jnK du ey x0
abbrev t31:=((List (Int×Int))×Bool×List (Int×Int))->Option (Int)
def k31 (cC:t31):Ctr:=⟨[T30],[],[],.one i64,fun x _ _=>cC x.1⟩
def c31:Ctr:=k31 cC
theorem e31 (lp:Lp) (jn:Jn) (du:t70) (ey:t71):∀(x:TsS c31.as) (F:TsF c31.fs) (y:TsS c31.cs),kN lp jn du ey x.1=bo lp jn (cx [(71,⟨[T30],[],[],.one (.sl T47),fun x _ _=>ey x.1⟩),(70,k70 du)] [(32,r32),(92,r92),(112,aU)]) aj 4 31 f31 c31 x F y:=fun x F y=>by kernel_rfl
theorem OM:c31.ok prog 31:=Ctr.of_den (an (aa (aa (q32) (by kernel_rfl) Pa) (by kernel_rfl) P8)) aw (hl:=aj) (d:=4) func31 rfl (by decide) (e31 lpK jnK du ey)
def xu (_:Lp) (_:Jn) (x0:(List (Int×Int))×Bool×List (Int×Int)):Option (List (Int×Int)) :=
 bif x0.2.1 then some x0.2.2 else some x0.1
def px (x0:(List (Int×Int))×Bool×List (Int×Int)):Option (List (Int×Int)):=xu lpK jnK x0
abbrev t46:=((List (Int×Int))×Bool×List (Int×Int))->Option (List (Int×Int))
def zh (_:Lp) (_:Jn) (x0:Int) (x1:Int):Option (Int×Int) :=
 
 let v4:Int:=2 ^ 32;
 let v5:Int:=Int.fdiv x0 v4;
 let v6:Int:=Int.fdiv x1 v4;
 let v7:Bool:=decide ((0:Int)<=32);
 let v8:Int:=IntKind.wrap .u64 (↑(Nat.land (Int.toNat (x1 % Int.ofNat 18446744073709551616)) (Int.toNat (4294967295 % Int.ofNat 18446744073709551616))) : Int);
 let v9:Int:=IntKind.wrap .u64 (↑(Nat.land (Int.toNat (x0 % Int.ofNat 18446744073709551616)) (Int.toNat (4294967295 % Int.ofNat 18446744073709551616))) : Int);
 let v10:Int:=IntKind.wrap .u64 (v9*v8);
 let v11:Int:=IntKind.wrap .u64 (IntKind.wrap .u64 (v5*v8)+Int.fdiv v10 v4);
 let v12:Int:=IntKind.wrap .u64 (IntKind.wrap .u64 (v9*v6)+IntKind.wrap .u64 (↑(Nat.land (Int.toNat (v11 % Int.ofNat 18446744073709551616)) (Int.toNat (4294967295 % Int.ofNat 18446744073709551616))):Int));bif v7 then bif v7 then bif v7 then bif v7 then bif v7 then bif v7 then some (IntKind.wrap .u64 (IntKind.wrap .u64 (IntKind.wrap .u64 (v5*v6)+Int.fdiv v11 v4)+Int.fdiv v12 v4),IntKind.wrap .u64 (IntKind.wrap .u64 (v12*v4)+IntKind.wrap IntKind.u64 (↑(Nat.land (Int.toNat (v10 % Int.ofNat 18446744073709551616)) (Int.toNat (4294967295 % Int.ofNat 18446744073709551616))):Int))) else none else none else none else none else none else none
def eE (x0:Int) (x1:Int):Option (Int×Int):=zh lpK jnK x0 x1
abbrev L2:=(Int)->(Int)->Option (Int×Int)
def yQ (lp:Lp) (_:Jn) (bN:C7) (bG:EI) (x0:Int×Int) (x1:Int×Int):Option ((Int×Int)×(Int×Int)×Unit) :=
 
 let v4:Bool:=nzB x1.2;
 let v5:Int:=2 ^ 63;
 let v6:Int:=2 ^ 1;
 let v7:Bool:=decide (x0.1=0);
 let v8:Bool:=decide ((0:Int)<=63);
 let v9:Bool:=decide ((0:Int)<=1);
 let v10:Bool:=!v7||v7;bif v10 then bif v10 then bif v10 then bif bif v7 then decide (x1.1=0) else false then bif v4 then bif v4 then some ((0,IntKind.wrap IntKind.u64 (Int.tdiv x0.2 x1.2)),(0,Int.tmod x0.2 x1.2),PUnit.unit) else none else none else lp (Int×(Int×Int)×(Int×Int)×(Int×Int)×PUnit) ((Int×Int) × (Int×Int)×PUnit) (fun (again:Int×(Int×Int)×(Int×Int)×(Int×Int)×PUnit->Option ((Int×Int)×(Int×Int)×PUnit)) (x:Int×(Int×Int)×(Int×Int)×(Int × Int)×PUnit) =>
 let v13:Int:=IntKind.wrap .i64 (x.1+1);
 let v14:Int:=IntKind.wrap .u64 (x.2.2.1.2*v6);
 let v15:Int:=IntKind.wrap .u64 (IntKind.wrap .u64 (x.2.2.1.1*v6)+Int.fdiv x.2.2.1.2 v5);
 let v16:Bool:=decide (Int.fdiv x.2.2.2.1.1 v5>0);
 let v17:Bool:=!v16;
 let v18:Int×Int:=(IntKind.wrap .u64 (IntKind.wrap .u64 (x.2.1.1*v6)+Int.fdiv x.2.1.2 v5),IntKind.wrap .u64 (x.2.1.2*v6));
 let v19:Int×Int:=(IntKind.wrap .u64 (IntKind.wrap .u64 (x.2.2.2.1.1*v6)+Int.fdiv x.2.2.2.1.2 v5),IntKind.wrap .u64 (IntKind.wrap IntKind.u64 (x.2.2.2.1.2*v6)+Int.fdiv x.2.1.1 v5));
 let v20:Bool:=!v17||v17;bif decide (x.1<128) then bif v8 then bif v9 then bif v8 then bif v9 then bif v8 then bif v9 then bif v8 then bif v9 then bif v9 then bif v8 then bif v9 then bif v20&&v20 then af (bif v17 then bN v19 x1 else some false) fun (t:Bool)=>bif v20 then bif v16||v17 then bif bif v16 then true else !t then af (bG v19 x1) fun (t:Int×Int)=>again (v13,v18,(v15,IntKind.wrap .u64 (v14+1)),t,PUnit.unit) else again (v13,v18,(v15,v14),v19,PUnit.unit) else none else none else none else none else none else none else none else none else none else none else none else none else none else none else some (x.2.2.1,x.2.2.2.1, PUnit.unit)) (0,x0,(0,0),(0,0),PUnit.unit) else none else none else none
def oo (x0:Int×Int) (x1:Int×Int):Option ((Int×Int)×(Int×Int)×Unit):=yQ lpK jnK bN bG x0 x1
abbrev O0:=(Int×Int)->(Int×Int)->Option ((Int×Int)×(Int×Int)×Unit)
def wJ (_:Lp) (_:Jn) (dD:Jr) (oo:O0) (x0:Int×Int) (x1:Bool) (x2:Int×Int):Option ((Int×Int)×Int×Unit) :=
 bif decide (x2.1=0)&&(decide (x2.2=0)&&true) then some ((0,0),16,PUnit.unit) else af (dD x0 x2) fun (t:Int×Int)=>af (oo x0 t) fun (t_1:(Int×Int)×(Int×Int)×PUnit) =>
 let v7:Int:=IntKind.wrap .i64 t_1.1.2;
 let v8:Bool:=decide (t_1.1.1>0);
 let v9:Bool:=!v8;
 let v10:Bool:=bif v8 then true else decide (t_1.1.2>1152921504606846976);
 let v11:Bool:=!v9||v9;
 let v12:Bool:=!v10;
 let v13:Bool:=!v12||v12;af (oo x2 t) fun (t:(Int×Int)×(Int×Int)×PUnit) =>
 let v15:Int:=IntKind.wrap .i64 t.1.2;
 let v16:Bool:=bif v10 then true else decide (t.1.1>0);
 let v17:Bool:=!v16;
 let v18:Bool:=!v17||v17;bif v11 then bif v11 then bif v8||v9 then bif v13 then bif v13 then bif v10||v12 then bif v18 then bif v18 then bif v16||v17 then bif bif v16 then true else decide (t.1.2>1152921504606846976) then some ((0,0),5,PUnit.unit) else bif x1 then some ((IntKind.wrap .i64 (0 - v7), v15),0,PUnit.unit) else some ((v7,v15),0,PUnit.unit) else none else none else none else none else none else none else none else none else none
def fM (x0:Int×Int) (x1:Bool) (x2:Int×Int):Option ((Int×Int)×Int×Unit):=wJ lpK jnK dD oo x0 x1 x2
abbrev Nh:=(Int×Int)->(Bool)->(Int×Int)->Option ((Int×Int)×Int×Unit)
def vj (_:Lp) (_:Jn) (aP:Dq) (eE:L2) (fM:Nh) (x0:Int×Int) (x1:Int×Int):Option ((Int×Int)×Int×Unit) :=
 af (aP x0.1) fun (t:Int)=>af (aP x1.1) fun (t_1:Int)=>af (eE t t_1) fun (t:Int×Int)=>af (aP x0.2) fun (t_2:Int)=>af (aP x1.2) fun (t_3:Int)=>af (eE t_2 t_3) fun (t_4:Int×Int)=>af (fM t (!decide (decide (x0.1<0)=decide (x1.1<0))) t_4) fun (t:(Int×Int)×Int×PUnit)=>some (t.1,t.2.1,PUnit.unit)
def gw (x0:Int×Int) (x1:Int×Int):Option ((Int×Int)×Int×Unit):=vj lpK jnK aP eE fM x0 x1
abbrev N0:=(Int×Int)->(Int×Int)->Option ((Int×Int)×Int×Unit)
def zz (_:Lp) (_:Jn) (bN:C7) (cY:JW) (bG:EI) (aP:Dq) (eE:L2) (fM:Nh) (x0:Int×Int) (x1:Int×Int):Option ((Int×Int)×Int×Unit) :=
 
 let v4:Bool:=decide (x0.1<0);af (aP x0.1) fun (t:Int)=>af (aP x1.2) fun (t_1:Int)=>af (eE t t_1) fun (t:Int×Int)=>af (aP x1.1) fun (t_2:Int)=>af (aP x0.2) fun (t_3:Int)=>af (eE t_2 t_3) fun (t_4:Int×Int)=>af (aP x0.2) fun (t_5:Int)=>af (aP x1.2) fun (t_6:Int)=>af (eE t_5 t_6) fun (t_7:Int×Int)=>bif decide (v4=decide (x1.1<0)) then af (cY t t_4) fun (t:Int×Int) =>af (fM t v4 t_7) fun (t:(Int×Int)×Int×PUnit)=>some (t.1,t.2.1,PUnit.unit) else af (bN t t_4) fun (t_8:Bool)=>bif t_8 then af (bG t_4 t) fun (t:Int×Int)=>af (fM t (decide (x1.1<0)) t_7) fun (t:(Int×Int)×Int×PUnit)=>some (t.1,t.2.1,PUnit.unit) else af (bG t t_4) fun (t:Int×Int)=>af (fM t v4 t_7) fun (t:(Int×Int)×Int×PUnit)=>some (t.1,t.2.1,PUnit.unit)
def fU (x0:Int×Int) (x1:Int×Int):Option ((Int×Int)×Int×Unit):=zz lpK jnK bN cY bG aP eE fM x0 x1
abbrev K3:=(Int×Int)->(Int×Int)->Option ((Int×Int)×Int×Unit)
def yU (lp:Lp) (_:Jn) (aL:t24) (gw:N0) (fU:K3) (x0:List Int) (x1:List (Int×Int)):Option ((Int×Int)×Int×Unit) :=
 af (aL 0) fun (t:Int×Int)=>lp (Int×(Int×Int)×(Int×Int)×PUnit) ((Int×Int)×Int×PUnit) (fun (again:Int×(Int×Int)×(Int×Int)×PUnit->Option ((Int×Int)×Int×PUnit)) (x:Int×(Int×Int)×(Int×Int)×PUnit)=>bif decide (x.1<(↑x0.length:Int)) then bif inB x.1 x0.length then af (aL (x0.getD x.1.toNat 0)) fun (t:Int×Int)=>bif inB x.1 x1.length then af (gw t (x1.getD x.1.toNat (0,0))) fun (t:(Int×Int)×Int×PUnit)=>bif !decide (t.2.1=0) then some ((0,0),t.2.1,PUnit.unit) else af (fU x.2.2.1 t.1) fun (t:(Int × Int)×Int×PUnit)=>bif !decide (t.2.1=0) then some ((0,0),t.2.1,PUnit.unit) else again (IntKind.wrap .i64 (x.1+1), x.2.1,t.1,PUnit.unit) else none else none else some (x.2.2.1,0,PUnit.unit)) (0,(0,0),t,PUnit.unit)
def jG (x0:List Int) (x1:List (Int×Int)):Option ((Int×Int)×Int×Unit):=yU lpK jnK aL gw fU x0 x1
abbrev t83:=(List Int)->(List (Int×Int))->Option ((Int×Int)×Int×Unit)
def uV (lp:Lp) (_:Jn) (x0:(List Int)×List ((List Int)×Int×Int)) (x1:Int):Option (List Int) :=
 lp (List Int×Int×PUnit) (List Int) (fun (again:List Int×Int×PUnit->Option (List Int)) (x:List Int×Int×PUnit)=>bif decide (x.2.1<(↑x0.2.length:Int)) then bif inB x.2.1 x0.2.length then bif inB x1 (List.length (x0.2.getD x.2.1.toNat ([],0,0)).1) then bif dM (List.length x.1+(1 : Nat)) 8 then again (x.1++[List.getD (x0.2.getD x.2.1.toNat ([],0,0)).1 x1.toNat 0],IntKind.wrap .i64 (x.2.1 + 1),PUnit.unit) else none else none else none else some x.1) ([],0,PUnit.unit)
def mr (x0:(List Int)×List ((List Int)×Int×Int)) (x1:Int):Option (List Int):=uV lpK jnK x0 x1
abbrev Pz:=((List Int)×List ((List Int)×Int×Int))->(Int)->Option (List Int)
def yS (_:Lp) (_:Jn) (bN:C7) (aP:Dq) (eE:L2) (x0:Int×Int) (x1:Int×Int):Option Int :=
 
 let v4:Bool:=decide (x0.1<0);
 let v5:Bool:=decide (x0.1>=0);
 let v6:Bool:=!v4||v4;
 let v7:Bool:=!v5||v5;af (aP x0.1) fun (t:Int)=>af (aP x1.2) fun (t_1:Int)=>af (eE t t_1) fun (t:Int×Int)=>af (aP x1.1) fun (t_2:Int)=>af (aP x0.2) fun (t_3:Int)=>af (eE t_2 t_3) fun (t_4:Int×Int)=>bif v6 then bif v6 then bif v6 then bif bif v4 then decide (x1.1>=0) else false then some (-1) else bif v7 then bif v7 then bif v7 then bif bif v5 then decide (x1.1<0) else false then some 1 else bif decide (t.1=t_4.1)&&(decide (t.2=t_4.2)&&true) then some 0 else af (bN t t_4) fun (t:Bool)=>bif decide (t=v5) then some (-1) else some 1 else none else none else none else none else none else none
def jJ (x0:Int×Int) (x1:Int×Int):Option Int:=yS lpK jnK bN aP eE x0 x1
abbrev Nm:=(Int×Int)->(Int×Int)->Option (Int)
def vk (lp:Lp) (_:Jn) (aL:t24) (jG:t83) (mr:Pz) (jJ:Nm) (x0:(List Int)×List ((List Int)×Int×Int)) (x1:List (Int×Int)) (x2:List Int):Option (Bool×Int×Unit) :=
 lp (Bool×Int×PUnit) (Bool×Int×PUnit) (fun (again:Bool×Int×PUnit->Option (Bool×Int×PUnit)) (x:Bool×Int×PUnit) =>
 let v7:Bool:=!x.1;
 let v8:Bool:=v7||x.1;bif decide (x.2.1<(↑x2.length:Int)) then af (mr x0 x.2.1) fun (t:List Int)=>af (jG t x1) fun (t:(Int×Int) × Int×PUnit)=>bif !decide (t.2.1=0) then some (false,t.2.1,PUnit.unit) else bif v8&&(v8&&(v7||inB x.2.1 x2.length)) then bif v8 then bif v8 then af (bif x.1 then aL (x2.getD x.2.1.toNat 0) else some (0,0)) fun (t_1:Int×Int)=>bif v8&&v8 then af (bif x.1 then jJ t.1 t_1 else some 0) fun (t:Int)=>bif v8 then bif v8 then again (bif x.1 then decide (t<=0) else false,IntKind.wrap .i64 (x.2.1+(1 : Int)),PUnit.unit) else none else none else none else none else none else none else some (x.1,0,PUnit.unit)) (true,0,PUnit.unit)
def nq (x0:(List Int)×List ((List Int)×Int×Int)) (x1:List (Int×Int)) (x2:List Int):Option (Bool×Int×Unit):=vk lpK jnK aL jG mr jJ x0 x1 x2
abbrev t82:=((List Int)×List ((List Int)×Int×Int))->(List (Int×Int))->(List Int)->Option (Bool×Int×Unit)
def uA (lp:Lp) (_:Jn) (x0:(List Int)×List ((List Int)×Int×Int)):Option (List Int) :=
 lp (List Int×Int×PUnit) (List Int) (fun (again:List Int×Int×PUnit->Option (List Int)) (x:List Int×Int×PUnit)=>bif decide (x.2.1<(↑x0.2.length:Int)) then bif inB x.2.1 x0.2.length then bif dM (List.length x.1+1) 8 then again (x.1++[(x0.2.getD x.2.1.toNat ([],0,(0 : Int))).2.2],IntKind.wrap .i64 (x.2.1+1),PUnit.unit) else none else none else some x.1) ([],0,PUnit.unit)
def mg (x0:(List Int)×List ((List Int)×Int×Int)):Option (List Int):=uA lpK jnK x0
abbrev t84:=((List Int)×List ((List Int)×Int×Int))->Option (List Int)
def xU (_:Lp) (_:Jn) (aL:t24) (jJ:Nm) (x0:Int×Int):Option Int :=
 af (aL 0) fun (t:Int×Int)=>af (jJ x0 t) fun (t:Int)=>some t
def gv (x0:Int×Int):Option Int:=xU lpK jnK aL jJ x0
abbrev t85:=(Int×Int)->Option (Int)
def uB (lp:Lp) (_:Jn) (gv:t85) (x0:(List Int)×List ((List Int)×Int×Int)) (x1:List (Int×Int)):Option Bool :=
 lp (Int×PUnit) Bool (fun (again:Int×PUnit->Option Bool) (x:Int×PUnit) =>
 let v6:Bool:=inB x.1 x1.length;
 let v7:Bool:=inB x.1 x0.2.length;
 let v8:Bool:=decide ((x0.2.getD x.1.toNat ([],0,0)).2.1=1);
 let v9:Bool:=decide ((x0.2.getD x.1.toNat ([],0,0)).2.1=2);
 let v10:Bool:=!v8;
 let v11:Bool:=v10||v8;bif decide (x.1<(↑x1.length:Int)) then bif v7 then bif v11&&(v11&&(v10||v6)) then bif v11 then bif v11 then af (bif v8 then gv (x1.getD x.1.toNat (0,0)) else some 0) fun (t:Int) =>
 let v13:Bool:=bif v8 then decide (t>0) else false;
 let v14:Bool:=!v13;
 let v15:Bool:=!v14;
 let v16:Bool:=v14&&v9;
 let v17:Bool:=!v16;
 let v18:Bool:=v15||v14;
 let v19:Bool:=v17||v16;bif v11 then bif v11 then bif v18 then bif v18&&(v18&&(v15||v7)) then bif v18 then bif v18 then bif v18 then bif v18 then bif v19&&(v19&&(v17 || v6)) then bif v19 then bif v19 then af (bif v16 then gv (x1.getD x.1.toNat (0,0)) else some 0) fun (t:Int)=>bif v19 then bif (v15 || v18)&&(v15||(!v9||(v15||v16))) then bif v13||v14 then bif bif v13 then true else bif v9 then decide (t<0) else false then some false else again (IntKind.wrap IntKind.i64 (x.1+1),PUnit.unit) else none else none else none else none else none else none else none else none else none else none else none else none else none else none else none else none else none else none else some true) (0,PUnit.unit)
def mm (x0:(List Int)×List ((List Int)×Int×Int)) (x1:List (Int×Int)):Option Bool:=uB lpK jnK gv x0 x1
abbrev t86:=((List Int)×List ((List Int)×Int×Int))->(List (Int×Int))->Option (Bool)
def sO (_:Lp) (_:Jn) (jG:t83) (nq:t82) (mg:t84) (gv:t85) (mm:t86) (x0:(List Int)×List ((List Int)×Int×Int)) (x1:List (Int×Int)):Option (Bool×Int×Unit) :=
 bif decide (0<=(↑x0.1.length:Int))&&dM (Int.toNat (↑x0.1.length:Int)) 8 then af (nq x0 x1 (List.replicate (Int.toNat (↑x0.1.length:Int)) 0)) fun (t:Bool×Int×PUnit) =>
 let v5:Bool:=!t.1||t.1;bif !decide (t.2.1=0) then some (false,t.2.1,PUnit.unit) else af (mg x0) fun (t_1:List Int)=>af (jG t_1 x1) fun (t_2:(Int×Int)×Int×PUnit)=>bif !decide (t_2.2.1=0) then some (false,t_2.2.1,PUnit.unit) else bif v5 then af (bif t.1 then gv t_2.1 else some 0) fun (t_3:Int) =>
 let v9:Bool:=bif t.1 then decide (t_3>0) else false;
 let v10:Bool:=!v9||v9;bif v5 then bif v5 then bif v10&&v10 then af (bif v9 then mm x0 x1 else some false) fun (t:Bool)=>bif v10 then some (bif v9 then t else false,0,PUnit.unit) else none else none else none else none else none else none
def kU (x0:(List Int)×List ((List Int)×Int×Int)) (x1:List (Int×Int)):Option (Bool×Int×Unit):=sO lpK jnK jG nq mg gv mm x0 x1
abbrev t47:=((List Int)×List ((List Int)×Int×Int))->(List (Int×Int))->Option (Bool×Int×Unit)
def vm (_:Lp) (_:Jn) (aX:t14) (du:t70) (x0:(List (ByteArray×Int))×List (ByteArray×(List (ByteArray×Int×Int×Int))×Bool)) (x1:List (Int×Int)):Option Int :=
 af (aX x0) fun (t:Bool) =>
 let v5:Bool:=!t;
 let v6:Bool:=!v5;
 let v7:Bool:=!v6||v6;bif v7 then af (bif v6 then du x1 else some false) fun (t:Bool)=>bif v7 then bif v5||v6 then bif bif v5 then true else !t then some 1 else bif !decide ((↑x1.length:Int)=(↑x0.2.length:Int)) then some 3 else some 0 else none else none else none
def nR (x0:(List (ByteArray×Int))×List (ByteArray×(List (ByteArray×Int×Int×Int))×Bool)) (x1:List (Int×Int)):Option Int:=vm lpK jnK aX du x0 x1
abbrev Po:=((List (ByteArray×Int))×List (ByteArray×(List (ByteArray×Int×Int×Int))×Bool))->(List (Int×Int))->Option (Int)
def zf (lp:Lp) (_:Jn) (aL:t24) (gw:N0) (fU:K3) (x0:List Int) (x1:List (Int×Int)):Option ((Int×Int)×Int×Unit) :=
 af (aL 0) fun (t:Int×Int)=>lp (Int×(Int×Int)×(Int×Int)×PUnit) ((Int×Int)×Int×PUnit) (fun (again:Int×(Int×Int)×(Int×Int)×PUnit->Option ((Int×Int)×Int×PUnit)) (x:Int×(Int×Int)×(Int×Int)×PUnit)=>bif decide (x.1<(↑x1.length:Int)) then bif inB x.1 x0.length then af (aL (x0.getD x.1.toNat 0)) fun (t:Int×Int)=>bif inB x.1 x1.length then af (gw t (x1.getD x.1.toNat (0,0))) fun (t:(Int×Int)×Int×PUnit)=>bif !decide (t.2.1=0) then some ((0,0),t.2.1,PUnit.unit) else af (fU x.2.2.1 t.1) fun (t:(Int × Int)×Int×PUnit)=>bif !decide (t.2.1=0) then some ((0,0),t.2.1,PUnit.unit) else again (IntKind.wrap .i64 (x.1+1), x.2.1,t.1,PUnit.unit) else none else none else some (x.2.2.1,0,PUnit.unit)) (0,(0,0),t,PUnit.unit)
def rr (x0:List Int) (x1:List (Int×Int)):Option ((Int×Int)×Int×Unit):=zf lpK jnK aL gw fU x0 x1
abbrev P6:=(List Int)->(List (Int×Int))->Option ((Int×Int)×Int×Unit)
def yC (_:Lp) (_:Jn) (x0:Int×Int):Option (Int×Int) :=
 some (IntKind.wrap .i64 (0 - x0.1),x0.2)
def ru (x0:Int×Int):Option (Int×Int):=yC lpK jnK x0
abbrev PV:=(Int×Int)->Option (Int×Int)
def zC (_:Lp) (_:Jn) (fU:K3) (ru:PV) (x0:Int×Int) (x1:Int×Int):Option ((Int×Int)×Int×Unit) :=
 af (ru x1) fun (t:Int×Int)=>af (fU x0 t) fun (t:(Int×Int)×Int×PUnit)=>some (t.1,t.2.1,PUnit.unit)
def rN (x0:Int×Int) (x1:Int×Int):Option ((Int×Int)×Int×Unit):=zC lpK jnK fU ru x0 x1
abbrev O8:=(Int×Int)->(Int×Int)->Option ((Int×Int)×Int×Unit)
def qt (lp:Lp) (_:Jn) (aL:t24) (ga:t81) (nR:Po) (rr:P6) (rN:O8) (x0:(List (ByteArray×Int))×List (ByteArray×(List (ByteArray×Int×Int×Int))×Bool)) (x1:List (Int×Int)):Option ((List (Int×Int))×Int×Unit) :=
 af (nR x0 x1) fun (t:Int)=>bif !decide (t=0) then some ([],t,PUnit.unit) else af (ga x0) fun (t:List (List Int))=>lp (List (Int×Int)×Int × PUnit) (List (Int×Int)×Int×PUnit) (fun (again:List (Int×Int)×Int×PUnit->Option (List (Int×Int)×Int×PUnit)) (x:List (Int×Int)×Int×PUnit)=>bif decide (x.2.1<(↑x0.1.length:Int)) then bif inB x.2.1 t.length then af (rr (t.getD x.2.1.toNat []) x1) fun (t:(Int×Int)×Int×PUnit) =>bif !decide (t.2.1=0) then some ([],t.2.1,PUnit.unit) else bif inB x.2.1 x0.1.length then af (aL (x0.1.getD x.2.1.toNat ({ data:={ toList:=[] } },0)).2) fun (t_1:Int×Int)=>af (rN t_1 t.1) fun (t:(Int×Int)×Int×PUnit)=>bif !decide (t.2.1=0) then some ([],t.2.1,PUnit.unit) else bif dM (List.length x.1+1) 16 then again (x.1++[t.1],IntKind.wrap .i64 (x.2.1+1),PUnit.unit) else none else none else none else some (x.1,0,PUnit.unit)) ([],0,PUnit.unit)
def jd (x0:(List (ByteArray×Int))×List (ByteArray×(List (ByteArray×Int×Int×Int))×Bool)) (x1:List (Int×Int)):Option ((List (Int×Int))×Int×Unit):=qt lpK jnK aL ga nR rr rN x0 x1
abbrev t87:=((List (ByteArray×Int))×List (ByteArray×(List (ByteArray×Int×Int×Int))×Bool))->(List (Int×Int))->Option ((List (Int×Int))×Int×Unit)
def vo (lp:Lp) (_:Jn) (aL:t24) (jd:t87) (x0:(List (ByteArray×Int))×List (ByteArray×(List (ByteArray×Int×Int×Int))×Bool)) (x1:List (Int×Int)):Option (Bool×Int×Unit) :=
 af (jd x0 x1) fun (t:List (Int×Int)×Int×PUnit)=>bif !decide (t.2.1=0) then some (false,t.2.1,PUnit.unit) else lp (Int×PUnit) (Bool×Int × PUnit) (fun (again:Int×PUnit->Option (Bool×Int×PUnit)) (x:Int×PUnit) =>
 let v7:Int×Int:=t.1.getD x.1.toNat (0,0);bif decide (x.1<(↑t.1.length:Int)) then bif inB x.1 t.1.length then af (aL 0) fun (t:Int×Int)=>bif !(decide (v7.1=t.1)&&(decide (v7.2=t.2)&&true)) then some (false,0,PUnit.unit) else again (IntKind.wrap IntKind.i64 (x.1+1),PUnit.unit) else none else some (true,0,PUnit.unit)) (0,PUnit.unit)
def np (x0:(List (ByteArray×Int))×List (ByteArray×(List (ByteArray×Int×Int×Int))×Bool)) (x1:List (Int×Int)):Option (Bool×Int×Unit):=vo lpK jnK aL jd x0 x1
abbrev t48:=((List (ByteArray×Int))×List (ByteArray×(List (ByteArray×Int×Int×Int))×Bool))->(List (Int×Int))->Option (Bool×Int×Unit)
def vp (lp:Lp) (jn:Jn) (aX:t14) (fq:t44) (iJ:t45) (cC:t31) (px:t46) (kU:t47) (np:t48) (x0:(List (ByteArray×Int))×List (ByteArray×(List (ByteArray×Int×Int×Int))×Bool)) (x1:(List (Int×Int))×Bool×List (Int×Int)):Option (Bool×Int×Unit) :=
 af (aX x0) fun (t:Bool)=>bif !t then some (false,1,PUnit.unit) else af (cC x1) fun (t:Int)=>bif !decide (t=0) then some (false,t, PUnit.unit) else af (px x1) fun (t:List (Int×Int))=>jn (Int×PUnit) (Bool×Int×PUnit) (fun (x:Int×PUnit)=>bif !decide ((↑t.length:Int)=x.1) then some (false,3,PUnit.unit) else bif x1.2.1 then af (iJ x0) fun (t_1:List Int)=>af (fq x0 t_1) fun (t_2:List Int×List (List Int×Int × Int))=>af (kU t_2 t) fun (t:Bool×Int×PUnit)=>some (t.1,t.2.1,PUnit.unit) else af (np x0 t) fun (t_1:Bool×Int×PUnit)=>bif !decide (t_1.2.1=0) then some (false,t_1.2.1,PUnit.unit) else lp (Bool×Int×PUnit) (Bool×Int×PUnit) (fun (again:Bool×Int×PUnit->Option (Bool×Int×PUnit)) (x : Bool×Int×PUnit) =>
 let v11:Bool:=!x.1;
 let v12:Bool:=v11||x.1;bif decide (x.2.1<(↑t.length:Int)) then bif v12&&(v12&&(v11||inB x.2.1 t.length)) then bif v12 then bif v12 then bif v12 then bif v12 then again (bif x.1 then decide ((t.getD x.2.1.toNat (0,0)).1>=0) else false,IntKind.wrap .i64 (x.2.1+1), PUnit.unit) else none else none else none else none else none else some (x.1,0,PUnit.unit)) (t_1.1,0,PUnit.unit)) fun (j:Int×PUnit->Option (Bool×Int × PUnit))=>bif x1.2.1 then j ((↑x0.1.length:Int),PUnit.unit) else j ((↑x0.2.length:Int),PUnit.unit)
def cP (x0:(List (ByteArray×Int))×List (ByteArray×(List (ByteArray×Int×Int×Int))×Bool)) (x1:(List (Int×Int))×Bool×List (Int×Int)):Option (Bool×Int×Unit):=vp lpK jnK aX fq iJ cC px kU np x0 x1
abbrev t18:=((List (ByteArray×Int))×List (ByteArray×(List (ByteArray×Int×Int×Int))×Bool))->((List (Int×Int))×Bool×List (Int×Int))->Option (Bool×Int×Unit)
def k18 (cP:t18):Ctr:=⟨[T25,T30],[],[],.tup [.bool,i64],fun x _ _=>cP x.1 x.2.1⟩
def ic (_:Lp) (_:Jn) (aR:t13) (bJ:t15) (aB:t11) (ba:t12) (aX:t14) (ip:t16) (aK:t17) (cP:t18) (x0:(List (ByteArray×Int))×List (ByteArray×(List (ByteArray×Int×Int×Int))×Bool)):Option Bool :=
 af aB fun (t:Bool)=>bif !t then some false else af (ba x0) fun (t:Bool)=>bif !t then some true else af (aR x0) fun (t:(List (Int×Int) × Bool×List (Int×Int))×Int×PUnit) =>
 let v6:Bool:=decide (t.2.1=1);
 let v7:Bool:=decide (t.2.1=5);
 let v8:Bool:=!decide (t.2.1=0);
 let v9:Bool:=!v8;
 let v10:Bool:=!v6||v6;
 let v11:Bool:=!v7||v7;af (aX x0) fun (t_1:Bool)=>bif !t_1 then bif v10&&v10 then af (bif v6 then bJ t.1 ([],false,[]) else some false) fun (t : Bool)=>bif v10 then some (bif v6 then t else false) else none else none else af (ip x0) fun (t_2:Bool)=>bif !t_2 then bif v11&&v11 then af (bif v7 then bJ t.1 ([],false,[]) else some false) fun (t:Bool)=>bif v11 then some (bif v7 then t else false) else none else none else bif !v9||v9 then af (bif v9 then aK t.1 else some false) fun (t_3:Bool)=>bif v8||v9 then bif bif v8 then true else t_3 then some false else af (cP x0 t.1) fun (t:Bool×Int×PUnit) =>
 let v16:Bool:=decide (t.2.1=0);
 let v17:Bool:=bif v16 then t.1 else false;
 let v18:Bool:=!v17;bif !v16||v16 then bif !v18||v18 then bif v17||v18 then some (bif v17 then true else decide (t.2.1=5)) else none else none else none else none else none
def oP (x0:(List (ByteArray×Int))×List (ByteArray×(List (ByteArray×Int×Int×Int))×Bool)):Option Bool:=ic lpK jnK aR bJ aB ba aX ip aK cP x0
def c3:Ctr:=⟨[T25],[],[],.one .bool,fun x _ _=>oP x.1⟩
theorem e3 (lp:Lp) (jn:Jn) (aR:t13) (bJ:t15) (aB:t11) (ba:t12) (aX:t14) (ip:t16) (aK:t17) (cP:t18):∀(x:TsS c3.as) (F:TsF c3.fs) (y:TsS c3.cs),ic lp jn aR bJ aB ba aX ip aK cP x.1=bo lp jn (cx [(18,k18 cP),(17,k17 aK),(16,⟨[T25],[],[],.one .bool,fun x _ _=>ip x.1⟩),(14,k14 aX),(12,k12 ba),(11,k11 aB),(15,k15 bJ),(13,k13 aR)] [(32,r32),(92,r92),(112,aU)]) aj 4 3 f3 c3 x F y:=fun x F y=>by kernel_rfl
def ig (_:Lp) (_:Jn) (ay:t19) (aB:t11) (ba:t12) (aK:t17) (cP:t18) (x0:(List (ByteArray×Int))×List (ByteArray×(List (ByteArray×Int×Int×Int))×Bool)) (x1:(List (Int×Int))×Bool×List (Int×Int)):Option Bool :=
 af aB fun (t:Bool)=>bif !t then some false else af (ba x0) fun (t:Bool) =>
 let v6:Bool:=!t;
 let v7:Bool:=!v6;bif !v7||v7 then af (bif v7 then aK x1 else some false) fun (t:Bool)=>bif v6||v7 then bif bif v6 then true else t then some true else af (ay x0 x1) fun (t:Bool×Int×PUnit)=>af (cP x0 x1) fun (t_1:Bool×Int×PUnit) =>
 let v11:Bool:=decide (t.1=t_1.1);
 let v12:Bool:=!v11||v11;bif v12&&v12 then bif v12 then some (bif v11 then decide (t.2.1=t_1.2.1) else false) else none else none else none else none
def oO (x0:(List (ByteArray×Int))×List (ByteArray×(List (ByteArray×Int×Int×Int))×Bool)) (x1:(List (Int×Int))×Bool×List (Int×Int)):Option Bool:=ig lpK jnK ay aB ba aK cP x0 x1
def c4:Ctr:=⟨[T25,T30],[],[],.one .bool,fun x _ _=>oO x.1 x.2.1⟩
theorem e4 (lp:Lp) (jn:Jn) (ay:t19) (aB:t11) (ba:t12) (aK:t17) (cP:t18):∀(x:TsS c4.as) (F:TsF c4.fs) (y:TsS c4.cs),ig lp jn ay aB ba aK cP x.1 x.2.1=bo lp jn (cx [(18,k18 cP),(17,k17 aK),(12,k12 ba),(11,k11 aB),(19,k19 ay)] [(32,r32),(92,r92),(112,aU)]) aj 4 4 f4 c4 x F y:=fun x F y=>by kernel_rfl
def gM (_:Lp) (_:Jn) (cN:t20) (bR:t21) (aR:t13) (ay:t19) (aB:t11) (ba:t12) (aX:t14) (aK:t17) (x0:(List (ByteArray×Int))×List (ByteArray×(List (ByteArray×Int×Int×Int))×Bool)) (x1:(List (Int×Int))×Bool×List (Int×Int)):Option Bool :=
 af aB fun (t:Bool)=>bif !t then some false else af (ba x0) fun (t:Bool) =>
 let v6:Bool:=!t;
 let v7:Bool:=!v6;
 let v8:Bool:=!v7||v7;bif v8 then af (bif v7 then aX x0 else some false) fun (t:Bool) =>
 let v10:Bool:=bif v6 then true else !t;
 let v11:Bool:=!v10;bif v8 then bif v6||v7 then bif !v11||v11 then af (bif v11 then aK x1 else some false) fun (t:Bool)=>bif v10||v11 then bif bif v10 then true else t then some true else af (aR x0) fun (t:(List (Int×Int)×Bool×List (Int×Int))×Int×PUnit) =>
 let v14:Bool:=!t.1.2.1;
 let v15:Bool:=v14||t.1.2.1;
 let v16:Bool:=v14||v15;bif !decide (t.2.1=0) then some (decide (t.2.1=5)) else af (cN x0) fun (t_1:List (Int×Int)×Int×PUnit) =>
 let v18:Bool:=!decide (t_1.2.1=22);
 let v19:Bool:=!decide (t_1.2.1=0);
 let v20:Bool:=t.1.2.1&&!v18;
 let v21:Bool:=bif v18 then true else !decide ((↑t_1.1.length:Int)=0);
 let v22:Bool:=t.1.2.1&&!v21;
 let v23:Bool:=!v20||v20;af (bR x0) fun (t_2:List (Int×Int)×Int×PUnit) =>
 let v25:Bool:=bif v19 then true else !decide (t_2.2.1=12);
 let v26:Bool:=bif t.1.2.1 then bif v21 then true else !decide (t_2.2.1=0) else false;
 let v27:Bool:=!v26;
 let v28:Bool:=!v27;
 let v29:Bool:=v27&&v14;
 let v30:Bool:=!v29;
 let v31:Bool:=v29&&!v19;
 let v32:Bool:=v29&&!v25;
 let v33:Bool:=v28||v27;
 let v34:Bool:=v30||v29;
 let v35:Bool:=v30||v34;
 let v36:Bool:=!v32||v32;bif v15 then bif v15 then bif v23 then bif v23 then bif v16&&(v14||(v18||(v14||v20))) then bif v15 then bif !v22||v22 then bif v16&&(v14||(v21 || (v14||v22))) then bif v15 then bif v33 then bif v33 then bif v33 then bif v34 then bif v34 then bif !v31||v31 then bif v35&&(v30||(v19||(v30||v31))) then bif v34 then bif v36 then bif v36 then bif v35&&(v30||(v25||(v30||v32))) then bif (v28||v33)&&(v28||(!v14||(v28||v29))) then bif v26||v27 then bif bif v26 then true else bif v14 then bif v25 then true else !decide ((↑t_2.1.length:Int)=0) else false then some false else af (ay x0 t.1) fun (t_3:Bool×Int×PUnit) =>
 let v38:Bool:=!decide (t_3.2.1=5);
 let v39:Bool:=!decide (t_3.2.1=0);
 let v40:Bool:=!v38;
 let v41:Bool:=v40||v38;
 let v42:Bool:=v38&&!v39;bif v41 then bif v41 then bif !v42||v42 then bif (v40||v41)&&(v40||(v39||(v40||v42))) then bif v41 then bif bif v38 then bif v39 then true else !t_3.1 else false then some false else af (ay x0 x1) fun (t_4:Bool×Int×PUnit) =>
 let v44:Bool:=!decide (t_4.2.1=0);
 let v45:Bool:=!v44;
 let v46:Bool:=bif v44 then true else !t_4.1;
 let v47:Bool:=!v46;
 let v48:Bool:=!v47||v47;bif !v45||v45 then bif v44||v45 then bif v48 then bif v48 then bif v48&&v48 then bif v46||v47 then some (bif v46 then true else decide (x1.2.1 = t.1.2.1)) else none else none else none else none else none else none else none else none else none else none else none else none else none else none else none else none else none else none else none else none else none else none else none else none else none else none else none else none else none else none else none else none else none else none else none else none else none else none
def nl (x0:(List (ByteArray×Int))×List (ByteArray×(List (ByteArray×Int×Int×Int))×Bool)) (x1:(List (Int×Int))×Bool×List (Int×Int)):Option Bool:=gM lpK jnK cN bR aR ay aB ba aX aK x0 x1
def c5:Ctr:=⟨[T25,T30],[],[],.one .bool,fun x _ _=>nl x.1 x.2.1⟩
theorem e5 (lp:Lp) (jn:Jn) (cN:t20) (bR:t21) (aR:t13) (ay:t19) (aB:t11) (ba:t12) (aX:t14) (aK:t17):∀(x:TsS c5.as) (F:TsF c5.fs) (y:TsS c5.cs),gM lp jn cN bR aR ay aB ba aX aK x.1 x.2.1=bo lp jn (cx [(17,k17 aK),(14,k14 aX),(12,k12 ba),(11,k11 aB),(19,k19 ay),(13,k13 aR),(21,k21 bR),(20,k20 cN)] [(32,r32),(92,r92),(112,aU)]) aj 4 5 f5 c5 x F y:=fun x F y=>by kernel_rfl
def xO (lp:Lp) (_:Jn) (x0:(List (ByteArray×Int))×List (ByteArray×(List (ByteArray×Int×Int×Int))×Bool)):Option ((List (ByteArray×Int))×List (ByteArray×(List (ByteArray×Int×Int×Int))×Bool)) :=
 
 let v3:List (ByteArray×List (ByteArray×Int×Int×Int)×Bool):=[];bif dM (0+List.length x0.1) 24 then lp (Int×List (ByteArray×Int)×List (ByteArray × List (ByteArray×Int×Int×Int)×Bool)×PUnit) (List (ByteArray×Int)×List (ByteArray×List (ByteArray×Int×Int×Int)×Bool)) (fun (again:Int×List (ByteArray×Int) × List (ByteArray×List (ByteArray×Int×Int×Int)×Bool)×PUnit->Option (List (ByteArray×Int)×List (ByteArray×List (ByteArray×Int×Int×Int)×Bool))) (x:Int×List (ByteArray×Int)×List (ByteArray×List (ByteArray×Int×Int×Int)×Bool)×PUnit) =>
 let v6:ByteArray×List (ByteArray×Int×Int×Int)×Bool:=x0.2.getD x.1.toNat ({ data:={ toList:=[] } },[],false);bif decide (x.1<(↑x0.2.length : Int)) then bif inB x.1 x0.2.length then bif dM (0+List.length v6.2.1) 40 then bif dM (List.length x.2.2.1+1) 48 then again (IntKind.wrap .i64 (x.1+1),x.2.1,x.2.2.1++v6 ::v3,PUnit.unit) else none else none else none else some (x.2.1,x.2.2.1)) (0,x0.1, v3,PUnit.unit) else none
def iH (x0:(List (ByteArray×Int))×List (ByteArray×(List (ByteArray×Int×Int×Int))×Bool)):Option ((List (ByteArray×Int))×List (ByteArray×(List (ByteArray×Int×Int×Int))×Bool)):=xO lpK jnK x0
def iQ (lp:Lp) (jn:Jn) (bU:t23) (ay:t19) (aL:t24) (aB:t11) (ba:t12) (aX:t14) (aK:t17) (iH:((List (ByteArray×Int))×List (ByteArray×(List (ByteArray×Int×Int×Int))×Bool))->Option ((List (ByteArray×Int))×List (ByteArray×(List (ByteArray×Int×Int×Int))×Bool))) (x0:(List (ByteArray×Int))×List (ByteArray×(List (ByteArray×Int×Int×Int))×Bool)) (x1:(List (Int×Int))×Bool×List (Int×Int)):Option Bool :=
 af aB fun (t:Bool)=>bif !t then some false else af (ba x0) fun (t:Bool) =>
 let v6:Bool:=!t;
 let v7:Bool:=!v6;
 let v8:Bool:=!v7||v7;bif v8 then af (bif v7 then aX x0 else some false) fun (t:Bool) =>
 let v10:Bool:=bif v6 then true else !t;
 let v11:Bool:=!v10;bif v8 then bif v6||v7 then bif !v11||v11 then af (bif v11 then aK x1 else some false) fun (t:Bool)=>bif v10||v11 then bif bif v10 then true else t then some true else af (ay x0 x1) fun (t:Bool×Int×PUnit) =>
 let v14:Bool:=!decide (t.2.1=0);
 let v15:Bool:=!v14;bif !v15||v15 then bif v14||v15 then bif bif v14 then true else !t.1 then some true else af (iH x0) fun (t:List (ByteArray×Int)×List (ByteArray×List (ByteArray×Int×Int×Int)×Bool))=>lp (Int×List (ByteArray×Int)×PUnit) Bool (fun (again:Int×List (ByteArray×Int)×PUnit->Option Bool) (x:Int × List (ByteArray×Int)×PUnit) =>
 let v19:Bool:=inB x.1 x.2.1.length;
 let v20:Bool:=Nat.ble (Nat.succ x.1.toNat) x.2.1.length;
 let v21:ByteArray×Int:=x.2.1.getD x.1.toNat ({ data:={ toList:=[] } },0);
 let v22:List (ByteArray×Int)×List (ByteArray×List (ByteArray×Int×Int×Int)×Bool):=(x.2.1,t.2);bif decide (x.1<(↑t.1.length:Int)) then bif v19 then bif v20 then bif v19 then bif v20 then again (IntKind.wrap .i64 (x.1+1),x.2.1.set x.1.toNat (v21.1,IntKind.wrap .i64 (v21.2*(2 : Int))),PUnit.unit) else none else none else none else none else af (aX v22) fun (t:Bool)=>bif !t then some true else jn (List (Int×Int)×Bool×List (Int×Int) × PUnit) Bool (fun (x:List (Int×Int)×Bool×List (Int×Int)×PUnit)=>af (ay v22 (x.1,x.2.1,x.2.2.1)) fun (t:Bool×Int×PUnit) =>
 let v26:Bool:=decide (t.2.1=5);
 let v27:Bool:=decide (t.2.1=0);
 let v28:Bool:=!v26;
 let v29:Bool:=!v28;
 let v30:Bool:=v29||v28;bif v30 then bif v30 then bif (v29||v30)&&(v29||(!v27||(v29||v28&&v27))) then bif v26||v28 then some (bif v26 then true else bif v27 then t.1 else false) else none else none else none else none) fun (j:List (Int×Int)×Bool×List (Int×Int)×PUnit->Option Bool)=>bif !x1.2.1 then lp (Int×List (Int×Int)×Bool × List (Int×Int)×PUnit) Bool (fun (again:Int×List (Int×Int)×Bool×List (Int×Int)×PUnit->Option Bool) (x:Int×List (Int×Int)×Bool×List (Int×Int)×PUnit) =>
 let v27:Bool×List (Int×Int)×PUnit:=(x.2.2.1,x.2.2.2.1,PUnit.unit);bif decide (x.1<(↑x1.1.length:Int)) then bif inB x.1 x1.1.length then af (aL 2) fun (t:Int×Int)=>af (bU (x1.1.getD x.1.toNat (0,0)) t) fun (t:(Int×Int)×Int×PUnit)=>bif !decide (t.2.1=0) then some (decide (t.2.1=5)) else bif dM (List.length x.2.1+1) 16 then again (IntKind.wrap .i64 (x.1+1), x.2.1++[t.1],v27) else none else none else j (x.2.1,v27)) (0,[],x1.2.1,x1.2.2,PUnit.unit) else none) (0,t.1,PUnit.unit) else none else none else none else none else none else none else none
def pM (x0:(List (ByteArray×Int))×List (ByteArray×(List (ByteArray×Int×Int×Int))×Bool)) (x1:(List (Int×Int))×Bool×List (Int×Int)):Option Bool:=iQ lpK jnK bU ay aL aB ba aX aK iH x0 x1
def c6:Ctr:=⟨[T25,T30],[],[],.one .bool,fun x _ _=>pM x.1 x.2.1⟩
theorem e6 (lp:Lp) (jn:Jn) (bU:t23) (ay:t19) (aL:t24) (aB:t11) (ba:t12) (aX:t14) (aK:t17) (iH:((List (ByteArray×Int))×List (ByteArray×(List (ByteArray×Int×Int×Int))×Bool))->Option ((List (ByteArray×Int))×List (ByteArray×(List (ByteArray×Int×Int×Int))×Bool))):∀(x:TsS c6.as) (F:TsF c6.fs) (y:TsS c6.cs),iQ lp jn bU ay aL aB ba aX aK iH x.1 x.2.1=bo lp jn (uG vh ve (PE [(22,⟨[T25],45,T45,(.sl T72),fun x=>iH x.1⟩)] (gj prog shs qa its [(17,k17 aK),(14,k14 aX),(12,k12 ba),(11,k11 aB),(24,k24 aL),(19,k19 ay),(23,k23 bU)] [(32,r32),(92,r92),(112,aU)]))) aj 4 6 f6 c6 x F y:=fun x F y=>by kernel_rfl
def kM (lp:Lp) (_:Jn) (x0:List Int):Option Int :=
 lp (Int×Int×PUnit) Int (fun (again:Int×Int×PUnit->Option Int) (x:Int×Int×PUnit)=>bif decide (x.2.1<(↑x0.length:Int)) then bif inB x.2.1 x0.length then bif decide ((0:Int)<=8) then again (IntKind.wrap .i64 (↑(Nat.lor (Int.toNat (IntKind.wrap .i64 (x.1*2 ^ 8) % Int.ofNat 18446744073709551616)) (Int.toNat (IntKind.wrap .i64 (x0.getD x.2.1.toNat 0) % Int.ofNat 18446744073709551616))):Int),IntKind.wrap IntKind.i64 (x.2.1+1),PUnit.unit) else none else none else some x.1) (0,0,PUnit.unit)
def dx (x0:List Int):Option Int:=kM lpK jnK x0
abbrev t68:=(List Int)->Option (Int)
def c68:Ctr:=⟨[(.sl (.int .u8))],[],[],.one i64,fun x _ _=>dx x.1⟩
theorem e68 (lp:Lp) (jn:Jn):∀(x:TsS c68.as) (F:TsF c68.fs) (y:TsS c68.cs),kM lp jn x.1=bo lp jn (cx [] [(32,r32),(92,r92),(112,aU)]) aj 4 68 f68 c68 x F y:=fun x F y=>by kernel_rfl
theorem OH:c68.ok prog 68:=Ctr.of_den (an (q32)) aw (hl:=aj) (d:=4) func68 rfl (by decide) (e68 lpK jnK)
def io (lp:Lp) (_:Jn) (al:t58) (bL:t64) (dx:t68) (x0:List Int):Option (((List (Int×Int))×Bool×List (Int×Int))×Int×Unit) :=
 
 let v3:Bool:=inB 2 x0.length;
 let v4:Bool:=inB 3 x0.length;
 let v5:Int:=IntKind.wrap .i64 ((↑x0.length:Int) - 4);
 let v6:Bool:=!decide (x0.getD 0 0=84);
 let v7:Bool:=!v6;
 let v8:Bool:=!v7;
 let v9:Bool:=bif v6 then true else !decide (x0.getD 1 0=67);
 let v10:Bool:=v8||v7;
 let v11:Bool:=!v9;
 let v12:Bool:=!v11;
 let v13:Bool:=bif v9 then true else decide (x0.getD 2 0>1);
 let v14:Bool:=!v13;
 let v15:Bool:=!v14;
 let v16:Bool:=bif v13 then true else decide (x0.getD 3 0>20);
 let v17:Bool:=v12||v11;
 let v18:Bool:=!v16;
 let v19:Bool:=!v18;
 let v20:Bool:=v15||v14;
 let v21:Bool:=v19||v18;bif decide ((↑x0.length:Int)>1048576) then some (([],false,[]),4,PUnit.unit) else bif decide ((↑x0.length:Int)<(8 : Int)) then some (([],false,[]),8,PUnit.unit) else bif inB 0 x0.length then bif v10&&(v8||inB 1 x0.length) then bif v10 then bif v10 then bif v6||v7 then bif v17&&(v12||v3) then bif v17 then bif v17 then bif v9||v11 then bif v20&&(v15||v4) then bif v20 then bif v20 then bif v13||v14 then bif v21&&(v19 || v4) then bif v21 then bif v21 then bif v21 then bif v21 then bif v21&&v21 then bif v16||v18 then bif bif v16 then true else !decide ((↑x0.length:Int)=IntKind.wrap IntKind.i64 (8+IntKind.wrap .i64 (16*IntKind.wrap .i64 (x0.getD 3 0)))) then some (([],false,[]),7,PUnit.unit) else bif slB v5 (↑x0.length:Int) x0.length then af (dx (List.drop v5.toNat (List.take (Int.toNat (↑x0.length:Int)) x0))) fun (t:Int)=>bif slB 0 v5 x0.length then af (bL (List.drop 0 (List.take v5.toNat x0))) fun (t_1:Int)=>bif !decide (t=t_1) then some (([],false,[]),(18 : Int),PUnit.unit) else lp (List (Int×Int)×Int×(List (Int×Int)×Bool×List (Int×Int))×PUnit) ((List (Int×Int)×Bool×List (Int×Int))×Int×PUnit) (fun (again:List (Int×Int)×Int×(List (Int×Int)×Bool×List (Int×Int))×PUnit->Option ((List (Int×Int)×Bool×List (Int×Int))×Int×PUnit)) (x:List (Int×Int)×Int×(List (Int × Int)×Bool×List (Int×Int))×PUnit) =>
 let v26:Int:=IntKind.wrap .i64 (x.2.1+8);
 let v27:Int:=IntKind.wrap .i64 (x.2.1+16);bif decide (x.2.1<v5) then bif slB x.2.1 v26 x0.length then af (dx (List.drop x.2.1.toNat (List.take v26.toNat x0))) fun (t:Int)=>bif slB v26 v27 x0.length then af (dx (List.drop v26.toNat (List.take v27.toNat x0))) fun (t_2:Int) =>
 let v30:Int×Int:=(t,t_2);af (al v30) fun (t:Bool)=>bif !t then some (([],false,[]),1,PUnit.unit) else bif dM (List.length x.1+1) (16 : Nat) then again (x.1++[v30],v27,x.2.2.1,PUnit.unit) else none else none else none else bif v3 then bif decide (x0.getD 2 0=1) then some (([], true,x.1),0,PUnit.unit) else some ((x.1,false,[]),0,PUnit.unit) else none) ([],4,([],false,[]),PUnit.unit) else none else none else none else none else none else none else none else none else none else none else none else none else none else none else none else none else none else none else none else none else none else none
def ce (x0:List Int):Option (((List (Int×Int))×Bool×List (Int×Int))×Int×Unit):=io lpK jnK al bL dx x0
abbrev t29:=(List Int)->Option (((List (Int×Int))×Bool×List (Int×Int))×Int×Unit)
def k29 (ce:t29):Ctr:=⟨[(.sl (.int .u8))],[],[],.tup [T30,i64],fun x _ _=>ce x.1⟩
def c29:Ctr:=k29 ce
theorem e29 (lp:Lp) (jn:Jn) (al:t58) (bL:t64) (dx:t68):∀(x:TsS c29.as) (F:TsF c29.fs) (y:TsS c29.cs),io lp jn al bL dx x.1=bo lp jn (cx [(68,⟨[(.sl (.int .u8))],[],[],.one i64,fun x _ _=>dx x.1⟩),(64,k64 bL),(58,k58 al)] [(32,r32),(92,r92),(112,aU)]) aj 4 29 f29 c29 x F y:=fun x F y=>by kernel_rfl
theorem Pf:c29.ok prog 29:=Ctr.of_den (an (aa (aa (aa (q32) (by kernel_rfl) xw) (by kernel_rfl) NI) (by kernel_rfl) OH)) aw (hl:=aj) (d:=4) func29 rfl (by decide) (e29 lpK jnK al bL dx)
def fj (_:Lp) (_:Jn) (bc:t25) (aB:t11) (aK:t17) (cC:t31) (ce:t29) (cG:t32) (x0:(List (Int×Int))×Bool×List (Int×Int)) (x1:Int) (x2:Int):Option Bool :=
 af aB fun (t:Bool)=>bif !t then some false else af (aK x0) fun (t:Bool) =>
 let v7:Bool:=!t;
 let v8:Bool:=!v7||v7;bif v8 then af (bif v7 then cC x0 else some 0) fun (t_1:Int) =>
 let v10:Bool:=bif t then true else !decide (t_1=0);
 let v11:Bool:=!v10;bif v8 then bif t||v7 then bif !v11||v11 then bif v10||v11 then bif bif v10 then true else decide (x2=0) then some true else af (bc x0) fun (t:List Int×Int×PUnit) =>
 let v13:Bool:=decide ((↑t.1.length:Int)<8);
 let v14:Bool:=!v13;
 let v15:Bool:=!v14||v14;bif !decide (t.2.1=0) then some (decide (t.2.1=4)) else bif v15 then bif v15 then bif v13||v14 then bif bif v13 then true else decide ((↑t.1.length:Int)>400) then some false else af (cG t.1) fun (t:List Int) =>
 let v17:Int:=Int.tmod (IntKind.wrap .i64 x1) (↑t.length:Int);
 let v18:Bool:=inB v17 t.length;
 let v19:Bool:=Nat.ble (Nat.succ v17.toNat) t.length;bif nzB (↑t.length:Int) then bif v18 then bif v19 then bif v18 then bif v19 then af (ce (t.set v17.toNat (IntKind.wrap IntKind.u8 (↑(Nat.xor (Int.toNat (t.getD v17.toNat 0 % Int.ofNat 256)) (Int.toNat (x2 % Int.ofNat 256))) : Int)))) fun (t:(List (Int×Int)×Bool×List (Int×Int))×Int×PUnit)=>some !decide (t.2.1=0) else none else none else none else none else none else none else none else none else none else none else none else none else none
def fR (x0:(List (Int×Int))×Bool×List (Int×Int)) (x1:Int) (x2:Int):Option Bool:=fj lpK jnK bc aB aK cC ce cG x0 x1 x2
def c9:Ctr:=⟨[T30,(.int .u16),(.int .u8)],[],[],.one .bool,fun x _ _=>fR x.1 x.2.1 x.2.2.1⟩
theorem e9 (lp:Lp) (jn:Jn) (bc:t25) (aB:t11) (aK:t17) (cC:t31) (ce:t29) (cG:t32):∀(x:TsS c9.as) (F:TsF c9.fs) (y:TsS c9.cs),fj lp jn bc aB aK cC ce cG x.1 x.2.1 x.2.2.1=bo lp jn (cx [(29,k29 ce),(31,k31 cC),(17,k17 aK),(11,k11 aB),(25,k25 bc)] [(32,⟨[(.sl (.int .u8))],5,(.int .u8),fun x=>cG x.1⟩),(92,r92),(112,aU)]) aj 4 9 f9 c9 x F y:=fun x F y=>by kernel_rfl
theorem ok9:c9.ok prog 9:=Ctr.of_den (an (aa (aa (aa (aa (aa (q32) (by kernel_rfl) Ob) (by kernel_rfl) OX) (by kernel_rfl) PZ) (by kernel_rfl) OM) (by kernel_rfl) Pf)) aw (hl:=aj) (d:=4) func9 rfl (by decide) (e9 lpK jnK bc aB aK cC ce cG)
end
end Go.Proofs.YtegbncajloeepaaGreat

namespace Go.Proofs.YtegbncajloeepaaGreat
open Tryz Dn Dn.Sh
set_option maxRecDepth 100000
end Go.Proofs.YtegbncajloeepaaGreat

namespace Go.Proofs.YtegbncajloeepaaGreat
namespace Dn
section
variable {T R α σ:Type}
theorem aA {t:T} {k:T->Option R}:af (some t) k=k t:=rfl
theorem zx {F:(α->Option R)->α->Option R} {g:α->Option R} (I:α->Prop) (μ:α->Nat)
  (h:∀x rec,I x->(∀y,I y->μ y<μ x->rec y=g y)->F rec x=g x):∀{n:Nat} {x:α},I x->μ x<n->jO F n x=g x
 | 0,x,_,hn=>by omega
 | n+1,x,hx,hn=>by
  rw[kg]
  exact h x _ hx fun y hy hlt=>zx I μ h hy (by omega)
theorem jM {F:(α->Option R)->α->Option R} {g:α->Option R} (I:α->Prop) (μ:α->Nat)
  (h:∀x rec,I x->(∀y,I y->μ y<μ x->rec y=g y)->F rec x=g x) {x:α} (hx:I x) (hn:μ x<1180591620717411303424):lpK α R F x=g x:=zx I μ h hx hn
theorem da {x:Int} (h1: -9223372036854775808<=x) (h2:x<9223372036854775808):IntKind.wrap .i64 x=x:=by
 rw[IntKind.wrap_i64];omega
def upF (b:Nat->σ->(σ->Option R)->Option R) (f:σ->Option R):Nat->Nat->σ->Option R
 | 0,_,s=>f s
 | k+1,i,s=>b i s (upF b f k (i+1))
theorem HW {F:(α->Option R)->α->Option R} (n:Nat) (hn:n<=1180591620717411303423) (enc:Nat->σ->α) (b:Nat->σ->(σ->Option R)->Option R) (f:σ->Option R)
  (hb:∀again (i:Nat) s,i<n->F again (enc i s)=b i s (fun s'=>again (enc (i+1) s'))) (hf:∀again s,F again (enc n s)=f s) (s:σ) :
  jO F K0 (enc 0 s)=upF b f n 0 s:=by
 have key:∀(k:Nat) (i:Nat) (m:Nat) (s:σ),i+k=n->k<m->jO F m (enc i s)=upF b f k i s:=by
  intro k
  induction k with
  | zero =>
   intro i m s h1 h2
   obtain ⟨m,rfl⟩:∃m',m=m'+1:=⟨m - 1,by omega⟩
   have:i=n:=by omega
   subst this
   simp only[kg,hf,upF]
  | succ k ih =>
   intro i m s h1 h2
   obtain ⟨m,rfl⟩:∃m',m=m'+1:=⟨m - 1,by omega⟩
   simp only[kg,upF]
   rw[hb _ _ _ (by omega)]
   congr 1
   funext s'
   exact ih (i+1) m s' (by omega) (by omega)
 exact key n 0 K0 s (by omega) (by unfold K0;omega)
theorem ol {i n:Nat}:inB (i:Int) n=decide (i<n):=by
 rw[Bool.eq_iff_iff,gK,decide_eq_true_iff];omega
theorem rB {i:Int} {n:Nat} (h1:0<=i) (h2:i<n):inB i n=true:=gK.2 ⟨h1,h2⟩
theorem LQ {n:Int} (h:n≠0):nzB n=true:=sX.2 h
theorem vc {lo hi:Int} {n:Nat} (h1:0<=lo) (h2:lo<=hi) (h3:hi<=n):slB lo hi n=true:=oy.2 ⟨h1,h2,h3⟩
theorem oA {n k:Nat} (h:n*k<=140737488355328):dM n k=true:=jb.2 h
theorem cT0 {α:Sort _} {c:Bool} (h:c=true) (a b:α):cond c a b=a:=by subst h;rfl
theorem cT {α:Sort _} (a b:α):cond true a b=a:=cT0 (Eq.trans rfl rfl) a b
theorem cF0 {α:Sort _} {c:Bool} (h:c=false) (a b:α):cond c a b=b:=by subst h;rfl
theorem cF {α:Sort _} (a b:α):cond false a b=b:=cF0 (Eq.trans rfl rfl) a b
theorem yP {b:Bool}:(b||!b)=true:=by cases b<;>rfl
theorem mw {b:Bool}:(!b||b)=true:=by cases b<;>rfl
theorem Bh {b:Bool} {c:Bool}:(bif b then c else false)=(b&&c):=by cases b<;>rfl
theorem eq {l:List α} {d:α} {i:Nat} (h:i<l.length):l.getD i d=l[i]:=by simp[List.getD,h]
end
end Dn
end Go.Proofs.YtegbncajloeepaaGreat

namespace Go.Proofs.YtegbncajloeepaaGreat
open Tryz Dn Dn.Sh
end Go.Proofs.YtegbncajloeepaaGreat

namespace Go.Proofs.YtegbncajloeepaaGreat
namespace Dn
abbrev Fq:=Int×Int
def okF (a:Fq):Prop:=(1<=a.2/\a.2<=1152921504606846976)/\(-1152921504606846976<=a.1/\a.1<=1152921504606846976)/\Nat.gcd a.1.natAbs a.2.natAbs=1
instance (a:Fq):Decidable (okF a):=by unfold okF;infer_instance
def Kz (q:Rat):Prop:=q.num.natAbs<=1152921504606846976/\q.den<=1152921504606846976
instance (q:Rat):Decidable (Kz q):=by unfold Kz;infer_instance
end Dn
end Go.Proofs.YtegbncajloeepaaGreat

namespace Go.Proofs.YtegbncajloeepaaGreat
open Tryz Dn Dn.Sh
theorem AG {x:Int} (h1:0<=x) (h2:x<18446744073709551616):IntKind.wrap .u64 x=x:=by
 rw[IntKind.wrap_u64];omega
theorem I7 {x:Int} (h1: -9223372036854775808<=x) (h2:x<9223372036854775808):av x=some (x.natAbs:Int):=by
 simp only[av,mz]
 by_cases h:x<0
 ·simp only[h,decide_true,cond_true]
  rw[IntKind.wrap_u64,IntKind.wrap_u64]
  congr 1;omega
 ·simp only[h,decide_false,cond_false]
  rw[AG (by omega) (by omega)]
  congr 1;omega
theorem LV (m n:Nat) (hn:n<18446744073709551616):aV (m:Int) (n:Int)=some ((Nat.gcd m n:Nat):Int):=by
 simp only[aV,nH]
 refine jM (g:=fun x=>some ((Nat.gcd x.1.toNat x.2.1.toNat:Nat):Int)) (I:=fun (x:Int×Int×PUnit)=>0<=x.1/\0<=x.2.1) (μ:=fun (x:Int×Int×PUnit)=>x.2.1.toNat) (x:=((m:Int),(n:Int),PUnit.unit)) ?_ ⟨Int.natCast_nonneg _,Int.natCast_nonneg _⟩ (by simp only;omega)
 rintro ⟨a,b,_⟩ rec ⟨h1,h2⟩ hrec
 simp only at h1 h2 ⊢
 by_cases hb:b=0
 ·subst hb
  simp only[decide_true,Bool.not_true,cond_false,Int.toNat_zero,Nat.gcd_zero_right]
  congr 1;omega
 ·rw[z8 hb,LQ hb,Int.tmod_eq_emod_of_nonneg h1]
  simp only[Bool.not_false,cT]
  have h3:0<=a % b:=Int.emod_nonneg _ hb
  have h4:a % b<b:=Int.emod_lt_of_pos _ (by omega)
  rw[hrec _ ⟨by simp only;omega,by simp only;omega⟩ (by simp only;omega)]
  simp only
  congr 2
  rw[Int.toNat_emod h1 h2,Nat.gcd_comm a.toNat,Nat.gcd_rec b.toNat a.toNat,Nat.gcd_comm]
theorem zP {a:Fq}:al a=some (decide (okF a)):=by
 simp only[al,kX,mw,Bool.and_self,cond_true,Bh]
 unfold okF
 by_cases h1:1<=a.2
 ·by_cases h2:a.2<=1152921504606846976
  ·by_cases h3: -1152921504606846976<=a.1
   ·by_cases h4:a.1<=1152921504606846976
    ·have e:IntKind.wrap .u64 a.2=((a.2.natAbs:Nat):Int):=by rw[AG (by omega) (by omega)];omega
     simp only[ge_iff_le,h1,h2,h3,h4,decide_true,Bool.and_self,cond_true]
     rw[I7 (by omega) (by omega),aA,e,LV _ _ (by omega),aA]
     congr 1
     rw[Bool.eq_iff_iff]
     simp only[Bool.true_and,decide_eq_true_eq,true_and]
     generalize Nat.gcd a.1.natAbs a.2.natAbs=g
     omega
    ·simp[aA,h4]
   ·simp[aA,h3]
  ·simp[aA,h2]
 ·simp[aA,h1]
end Go.Proofs.YtegbncajloeepaaGreat
