/- r30m: the shapes of its types, and the places of its loops. -/
import Derived.Test.YtmoiiokmfanlgaaGreatProg
import Derived.KernelRfl
import Derived.Test.YtmoiiokmfanlgaaGreatMgL

namespace Go.Proofs.YtmoiiokmfanlgaaGreat
open Tryz Dn Dn.Sh
abbrev i64:Sh:=.int .i64
abbrev T48:Sh:=.agg (.pair .str (.pair i64 (.pair i64 (.pair i64 (.pair i64 (.pair i64 i64))))))
abbrev T64:Sh:=.agg (.pair .str (.pair i64 i64))
abbrev T44:Sh:=.agg (.pair .str (.pair i64 (.pair i64 (.pair i64 (.pair i64 (.pair (.sl i64) (.pair i64 (.pair i64 (.pair i64 (.pair i64 (.pair i64 (.pair (.sl T48) (.sl T64)))))))))))))
abbrev T96:Sh:=.agg (.pair .str (.pair i64 (.pair i64 i64)))
abbrev T25:Sh:=.agg (.pair .str (.pair i64 (.pair (.sl T44) (.sl T96))))
abbrev T36:Sh:=.agg (.pair i64 i64)
abbrev T78:Sh:=.agg (.pair i64 i64)
abbrev T118:Sh:=.agg (.pair (.int .u64) (.int .u64))
def shs:TypeId→Option Sh
 | 3=>some i64
 | 9=>some .str
 | 36=>some T36
 | 44=>some T44
 | 48=>some T48
 | 64=>some T64
 | 78=>some T78
 | 96=>some T96
 | _=>none
def loops119:Nat→Option Hd
 | 8=>some ⟨[(8,false,[.d i64])],[],[(7,none,.row 36 T36)]⟩
 | _=>none
def joins119:Nat→Option Hd
 | 1000002=>some ⟨[],[],[]⟩
 | 1000005=>some ⟨[],[],[]⟩
 | _=>none
def loops107:Nat→Option Hd
 | 2=>some ⟨[(3,false,[.d i64])],[],[]⟩
 | _=>none
def loops100:Nat→Option Hd
 | 4=>some ⟨[(5,false,[.d i64])],[],[]⟩
 | _=>none
def loops140:Nat→Option Hd
 | 3=>some ⟨[(11,false,[.d i64])],[],[(5,none,.x (.set 176 .str))]⟩
 | _=>none
def loops159:Nat→Option Hd
 | 2=>some ⟨[(8,false,[.d i64])],[],[]⟩
 | _=>none
def loops101:Nat→Option Hd
 | 4=>some ⟨[(16,false,[.d i64])],[],[]⟩
 | _=>none
def loops147:Nat→Option Hd
 | 3=>some ⟨[(11,false,[.d i64])],[],[(5,none,.x (.set 176 .str))]⟩
 | _=>none
def loops102:Nat→Option Hd
 | 5=>some ⟨[(3,false,[.d i64]),(15,false,[.d i64])],[],[]⟩
 | _=>none
def loops62:Nat→Option Hd
 | 3=>some ⟨[(3,false,[.d i64]),(11,false,[.d i64])],[],[]⟩
 | _=>none
def loops149:Nat→Option Hd
 | 2=>some ⟨[(8,false,[.d i64])],[],[]⟩
 | _=>none
def loops63:Nat→Option Hd
 | 5=>some ⟨[(3,false,[.d i64]),(11,false,[.d i64])],[],[]⟩
 | _=>none
def loops31:Nat→Option Hd
 | 7=>some ⟨[(6,false,[.d i64]),(21,false,[.d i64])],[],[]⟩
 | _=>none
def loops50:Nat→Option Hd
 | 2=>some ⟨[(8,false,[.d i64])],[],[]⟩
 | _=>none
def loops151:Nat→Option Hd
 | 2=>some ⟨[(8,false,[.d i64])],[],[]⟩
 | _=>none
def loops65:Nat→Option Hd
 | 4=>some ⟨[(10,false,[.d i64])],[],[]⟩
 | _=>none
def loops32:Nat→Option Hd
 | 4=>some ⟨[(34,false,[.d i64])],[],[]⟩
 | _=>none
def loops152:Nat→Option Hd
 | 2=>some ⟨[(8,false,[.d i64])],[],[]⟩
 | _=>none
def loops91:Nat→Option Hd
 | 1=>some ⟨[(0,false,[.d (.int .u64)]),(1,false,[.d (.int .u64)])],[],[]⟩
 | _=>none
def joins163:Nat→Option Hd
 | 1000002=>some ⟨[(0,false,[.d (.int .u64)]),(2,false,[.d i64])],[],[]⟩
 | 1000005=>some ⟨[(0,false,[.d (.int .u64)]),(2,false,[.d i64])],[],[]⟩
 | _=>none
def loops139:Nat→Option Hd
 | 17=>some ⟨[(15,false,[.d (.int .u64)]),(16,false,[.d (.int .u64)])],[],[]⟩
 | 24=>some ⟨[(16,false,[.d (.int .u64)]),(18,false,[.d (.int .u64)])],[],[]⟩
 | _=>none
def joins139:Nat→Option Hd
 | 0=>some ⟨[(15,false,[.d (.int .u64)])],[],[]⟩
 | 2=>some ⟨[(18,false,[.d (.int .u64)])],[],[]⟩
 | 1000002=>some ⟨[],[],[]⟩
 | 1000004=>some ⟨[],[],[]⟩
 | _=>none
def joins60:Nat→Option Hd
 | 1000008=>some ⟨[(9,false,[.d .bool])],[(10,[.d T118])],[]⟩
 | 1000010=>some ⟨[(9,false,[.d .bool])],[(10,[.d T118])],[]⟩
 | _=>none
def loops121:Nat→Option Hd
 | 3=>some ⟨[],[(5,[.d i64])],[]⟩
 | _=>none
def loops73:Nat→Option Hd
 | 3=>some ⟨[(21,false,[.d i64])],[(4,[.row 36 T36]),(5,[.d i64])],[]⟩
 | 9=>some ⟨[(33,false,[.d i64])],[(4,[.row 36 T36]),(5,[.d i64])],[(6,some 0,.row 36 T36)]⟩
 | 16=>some ⟨[],[(4,[.row 36 T36]),(5,[.d i64]),(12,[.d i64])],[(6,some 0,.row 36 T36)]⟩
 | _=>none
def loops12:Nat→Option Hd
 | 5=>some ⟨[(4,false,[.row 78 T78]),(20,false,[.d i64])],[],[]⟩
 | 12=>some ⟨[(9,false,[.row 3 i64]),(35,false,[.d i64])],[],[]⟩
 | _=>none
def loops14:Nat→Option Hd
 | 4=>some ⟨[(13,false,[.d i64])],[],[]⟩
 | _=>none
def loops131:Nat→Option Hd
 | 1=>some ⟨[(8,false,[.d i64])],[],[(0,none,.row 3 i64)]⟩
 | 4=>some ⟨[(9,false,[.d i64])],[],[(0,none,.row 3 i64)]⟩
 | _=>none
def loops162:Nat→Option Hd
 | 1=>some ⟨[(10,false,[.d i64])],[],[(0,none,.row 3 i64)]⟩
 | _=>none
def loops157:Nat→Option Hd
 | 2=>some ⟨[(10,false,[.d i64]),(11,false,[.d i64])],[],[(0,none,.row 3 i64)]⟩
 | _=>none
def loops82:Nat→Option Hd
 | 2=>some ⟨[(7,false,[.d i64]),(8,false,[.d i64])],[],[(0,none,.row 3 i64)]⟩
 | 7=>some ⟨[(6,false,[.d i64])],[],[]⟩
 | 9=>some ⟨[(7,false,[.d i64]),(8,false,[.d i64])],[],[]⟩
 | _=>none
def loops16:Nat→Option Hd
 | 5=>some ⟨[(4,false,[.row 3 i64]),(12,false,[.d i64])],[],[]⟩
 | _=>none
def loops46:Nat→Option Hd
 | 2=>some ⟨[(8,false,[.d i64])],[],[]⟩
 | _=>none
def loops48:Nat→Option Hd
 | 3=>some ⟨[(3,false,[.d i64]),(9,false,[.d i64])],[],[]⟩
 | _=>none
def loops49:Nat→Option Hd
 | 3=>some ⟨[(3,false,[.d i64]),(9,false,[.d i64])],[],[]⟩
 | _=>none
def loops26:Nat→Option Hd
 | 4=>some ⟨[(13,false,[.d i64])],[],[]⟩
 | _=>none
def loops35:Nat→Option Hd
 | 4=>some ⟨[(5,false,[.d i64])],[],[]⟩
 | 9=>some ⟨[(6,false,[.d i64])],[],[]⟩
 | _=>none
def loops40:Nat→Option Hd
 | 4=>some ⟨[(5,false,[.d i64])],[],[]⟩
 | 9=>some ⟨[(6,false,[.d i64])],[],[]⟩
 | _=>none
def loops28:Nat→Option Hd
 | 2=>some ⟨[(5,false,[.d i64])],[],[]⟩
 | _=>none
def loops85:Nat→Option Hd
 | 1=>some ⟨[(1,false,[.d i64])],[],[]⟩
 | _=>none
def loops55:Nat→Option Hd
 | 4=>some ⟨[(3,false,[.d i64])],[],[]⟩
 | 10=>some ⟨[(5,false,[.d i64])],[],[]⟩
 | _=>none
def loops88:Nat→Option Hd
 | 4=>some ⟨[(3,false,[.d i64])],[],[]⟩
 | 9=>some ⟨[(4,false,[.d i64])],[],[]⟩
 | _=>none
def loops89:Nat→Option Hd
 | 5=>some ⟨[(3,false,[.d i64]),(4,false,[.d i64])],[],[]⟩
 | 11=>some ⟨[(5,false,[.d i64])],[],[]⟩
 | _=>none
def loops56:Nat→Option Hd
 | 6=>some ⟨[(3,false,[.d i64])],[],[]⟩
 | _=>none
def loops25:Nat→Option Hd
 | 4=>some ⟨[(3,false,[.d i64])],[],[]⟩
 | _=>none
def loops21:Nat→Option Hd
 | 3=>some ⟨[(4,false,[.d i64])],[(3,[.d .str,.d i64,.row 44 T44,.row 96 T96])],[]⟩
 | _=>none
def loops22:Nat→Option Hd
 | 1=>some ⟨[(2,false,[.d i64]),(3,false,[.d i64])],[],[(0,none,.row 44 T44)]⟩
 | _=>none
def loops5:Nat→Option Hd
 | 6=>some ⟨[(23,false,[.d i64])],[],[]⟩
 | 18=>some ⟨[(10,false,[.d i64])],[],[]⟩
 | _=>none
def thaws5:Nat→List Nat
 | 2000013=>[5]
 | _=>[]
def hints:FuncId→Hint
 | 119=>{loop:=loops119,join:=joins119}
 | 107=>{loop:=loops107}
 | 100=>{loop:=loops100}
 | 140=>{loop:=loops140}
 | 159=>{loop:=loops159}
 | 101=>{loop:=loops101}
 | 147=>{loop:=loops147}
 | 102=>{loop:=loops102}
 | 62=>{loop:=loops62}
 | 149=>{loop:=loops149}
 | 63=>{loop:=loops63}
 | 31=>{loop:=loops31}
 | 50=>{loop:=loops50}
 | 151=>{loop:=loops151}
 | 65=>{loop:=loops65}
 | 32=>{loop:=loops32}
 | 152=>{loop:=loops152}
 | 91=>{loop:=loops91}
 | 163=>{join:=joins163}
 | 139=>{loop:=loops139,join:=joins139}
 | 60=>{join:=joins60}
 | 121=>{loop:=loops121}
 | 73=>{loop:=loops73}
 | 12=>{loop:=loops12}
 | 14=>{loop:=loops14}
 | 131=>{loop:=loops131}
 | 162=>{loop:=loops162}
 | 157=>{loop:=loops157}
 | 82=>{loop:=loops82}
 | 16=>{loop:=loops16}
 | 46=>{loop:=loops46}
 | 48=>{loop:=loops48}
 | 49=>{loop:=loops49}
 | 26=>{loop:=loops26}
 | 35=>{loop:=loops35}
 | 40=>{loop:=loops40}
 | 28=>{loop:=loops28}
 | 85=>{loop:=loops85}
 | 55=>{loop:=loops55}
 | 88=>{loop:=loops88}
 | 89=>{loop:=loops89}
 | 56=>{loop:=loops56}
 | 25=>{loop:=loops25}
 | 21=>{loop:=loops21}
 | 22=>{loop:=loops22}
 | 5=>{loop:=loops5,thaw:=thaws5}
 | _=>{}
def inls:List Nat:=[123,131,162,157,82,44,21,22]
end Go.Proofs.YtmoiiokmfanlgaaGreat
