/- toph: the shapes of its types, and the places of its loops. -/
import Derived.Test.YtlfdhaiigdllcaaGreatDoorProg
import Derived.KernelRfl
import Derived.Test.YtlfdhaiigdllcaaGreatDoorMgM

namespace Go.Proofs.YtlfdhaiigdllcaaGreatDoor
open Tryz Dn Dn.Sh
abbrev i64:Sh:=.int .i64
abbrev T27:Sh:=.agg (.pair .str (.pair i64 (.pair i64 (.pair i64 (.pair i64 (.pair i64 i64))))))
abbrev T86:Sh:=.agg (.pair .str (.pair i64 i64))
abbrev T35:Sh:=.agg (.pair .str (.pair i64 (.pair i64 (.pair i64 (.pair i64 (.pair (.sl i64) (.pair i64 (.pair i64 (.pair i64 (.pair i64 (.pair i64 (.pair (.sl T27) (.sl T86)))))))))))))
abbrev T68:Sh:=.agg (.pair .str (.pair i64 (.pair i64 i64)))
abbrev T25:Sh:=.agg (.pair .str (.pair i64 (.pair (.sl T35) (.sl T68))))
abbrev T43:Sh:=.agg (.pair .str (.pair .bool i64))
abbrev T50:Sh:=.agg (.pair i64 i64)
abbrev T115:Sh:=.agg (.pair .str (.pair i64 (.pair i64 (.pair i64 i64))))
abbrev T113:Sh:=.agg (.pair .str (.pair .str (.pair i64 (.pair i64 (.pair (.sl T115) (.pair i64 i64))))))
abbrev T116:Sh:=.agg (.pair .str .str)
abbrev T64:Sh:=.agg (.pair (.sl T113) (.sl T116))
abbrev T89:Sh:=.agg (.pair i64 i64)
abbrev T136:Sh:=.agg (.pair (.int .u64) (.int .u64))
def shs:TypeId->Option Sh
 | 3=>some i64
 | 4=>some .bool
 | 9=>some .str
 | 27=>some T27
 | 35=>some T35
 | 43=>some T43
 | 50=>some T50
 | 68=>some T68
 | 86=>some T86
 | 89=>some T89
 | 113=>some T113
 | 115=>some T115
 | 116=>some T116
 | _=>none
def loops113:Nat->Option Hd
 | 8=>some ⟨[(8,false,[.d i64])],[],[(7,none,.row 50 T50)]⟩
 | _=>none
def joins113:Nat->Option Hd
 | 1000002=>some ⟨[],[],[]⟩
 | 1000005=>some ⟨[],[],[]⟩
 | _=>none
def loops99:Nat->Option Hd
 | 2=>some ⟨[(3,false,[.d i64])],[],[]⟩
 | _=>none
def loops63:Nat->Option Hd
 | 4=>some ⟨[(5,false,[.d i64])],[],[]⟩
 | _=>none
def loops66:Nat->Option Hd
 | 2=>some ⟨[(8,false,[.d i64])],[],[]⟩
 | _=>none
def loops100:Nat->Option Hd
 | 3=>some ⟨[(11,false,[.d i64])],[],[(5,none,.x (.set 180 .str))]⟩
 | _=>none
def loops64:Nat->Option Hd
 | 4=>some ⟨[(16,false,[.d i64])],[],[]⟩
 | _=>none
def loops103:Nat->Option Hd
 | 3=>some ⟨[(11,false,[.d i64])],[],[(5,none,.x (.set 180 .str))]⟩
 | _=>none
def loops65:Nat->Option Hd
 | 5=>some ⟨[(3,false,[.d i64]),(15,false,[.d i64])],[],[]⟩
 | _=>none
def loops36:Nat->Option Hd
 | 3=>some ⟨[(3,false,[.d i64]),(11,false,[.d i64])],[],[]⟩
 | _=>none
def loops33:Nat->Option Hd
 | 2=>some ⟨[(2,false,[.d i64]),(3,false,[.d i64]),(9,false,[.d i64])],[],[]⟩
 | _=>none
def loops34:Nat->Option Hd
 | 5=>some ⟨[(12,false,[.d i64])],[],[(3,none,.x (.map 128 .str .bool))]⟩
 | _=>none
def loops136:Nat->Option Hd
 | 2=>some ⟨[(8,false,[.d i64])],[],[]⟩
 | _=>none
def loops16:Nat->Option Hd
 | 8=>some ⟨[],[],[]⟩
 | _=>none
def loops72:Nat->Option Hd
 | 2=>some ⟨[(8,false,[.d i64])],[],[]⟩
 | _=>none
def loops130:Nat->Option Hd
 | 2=>some ⟨[(8,false,[.d i64])],[],[]⟩
 | _=>none
def loops71:Nat->Option Hd
 | 4=>some ⟨[(10,false,[.d i64])],[],[]⟩
 | _=>none
def loops37:Nat->Option Hd
 | 4=>some ⟨[(34,false,[.d i64])],[],[]⟩
 | _=>none
def loops125:Nat->Option Hd
 | 2=>some ⟨[(8,false,[.d i64])],[],[]⟩
 | _=>none
def loops51:Nat->Option Hd
 | 5=>some ⟨[(3,false,[.d i64]),(22,false,[.d i64])],[],[]⟩
 | 11=>some ⟨[(71,false,[.d i64])],[],[]⟩
 | _=>none
def joins141:Nat->Option Hd
 | 1000002=>some ⟨[(0,false,[.d (.int .u64)]),(2,false,[.d i64])],[],[]⟩
 | 1000005=>some ⟨[(0,false,[.d (.int .u64)]),(2,false,[.d i64])],[],[]⟩
 | _=>none
def loops17:Nat->Option Hd
 | 6=>some ⟨[(40,false,[.d i64])],[],[]⟩
 | 11=>some ⟨[(59,false,[.d i64])],[],[]⟩
 | 15=>some ⟨[(92,false,[.d i64])],[],[]⟩
 | 20=>some ⟨[(117,false,[.d i64])],[],[]⟩
 | 26=>some ⟨[(135,false,[.d i64])],[],[]⟩
 | 37=>some ⟨[(173,false,[.d i64])],[],[]⟩
 | 43=>some ⟨[(195,false,[.d i64])],[],[]⟩
 | _=>none
def joins17:Nat->Option Hd
 | 1000032=>some ⟨[(17,false,[.row 9 .str])],[],[]⟩
 | 1000034=>some ⟨[(17,false,[.row 9 .str])],[],[]⟩
 | _=>none
def loops18:Nat->Option Hd
 | 4=>some ⟨[(13,false,[.d i64])],[],[]⟩
 | _=>none
def loops19:Nat->Option Hd
 | 4=>some ⟨[(5,false,[.d i64])],[],[]⟩
 | 9=>some ⟨[(6,false,[.d i64])],[],[]⟩
 | _=>none
def loops5:Nat->Option Hd
 | 4=>some ⟨[(5,false,[.d i64])],[],[]⟩
 | 9=>some ⟨[(6,false,[.d i64])],[],[]⟩
 | _=>none
def loops56:Nat->Option Hd
 | 1=>some ⟨[(1,false,[.d i64])],[],[]⟩
 | _=>none
def loops21:Nat->Option Hd
 | 4=>some ⟨[(3,false,[.d i64])],[],[]⟩
 | 10=>some ⟨[(5,false,[.d i64])],[],[]⟩
 | _=>none
def loops59:Nat->Option Hd
 | 4=>some ⟨[(3,false,[.d i64])],[],[]⟩
 | 9=>some ⟨[(4,false,[.d i64])],[],[]⟩
 | _=>none
def loops60:Nat->Option Hd
 | 5=>some ⟨[(3,false,[.d i64]),(4,false,[.d i64])],[],[]⟩
 | 11=>some ⟨[(5,false,[.d i64])],[],[]⟩
 | _=>none
def loops22:Nat->Option Hd
 | 6=>some ⟨[(3,false,[.d i64])],[],[]⟩
 | _=>none
def loops23:Nat->Option Hd
 | 2=>some ⟨[(5,false,[.d i64])],[],[]⟩
 | _=>none
def loops6:Nat->Option Hd
 | 4=>some ⟨[(3,false,[.d i64])],[],[]⟩
 | _=>none
def loops11:Nat->Option Hd
 | 8=>some ⟨[(50,false,[.d i64])],[(7,[.d .str,.d i64,.row 35 T35,.row 68 T68])],[]⟩
 | _=>none
def loops131:Nat->Option Hd
 | 2=>some ⟨[(8,false,[.d i64])],[],[]⟩
 | _=>none
def loops74:Nat->Option Hd
 | 5=>some ⟨[(3,false,[.d i64]),(11,false,[.d i64])],[],[]⟩
 | _=>none
def loops41:Nat->Option Hd
 | 7=>some ⟨[(6,false,[.d i64]),(21,false,[.d i64])],[],[]⟩
 | _=>none
def loops132:Nat->Option Hd
 | 2=>some ⟨[(8,false,[.d i64])],[],[]⟩
 | _=>none
def loops78:Nat->Option Hd
 | 1=>some ⟨[(0,false,[.d (.int .u64)]),(1,false,[.d (.int .u64)])],[],[]⟩
 | _=>none
def loops121:Nat->Option Hd
 | 17=>some ⟨[(15,false,[.d (.int .u64)]),(16,false,[.d (.int .u64)])],[],[]⟩
 | 24=>some ⟨[(16,false,[.d (.int .u64)]),(18,false,[.d (.int .u64)])],[],[]⟩
 | _=>none
def joins121:Nat->Option Hd
 | 0=>some ⟨[(15,false,[.d (.int .u64)])],[],[]⟩
 | 2=>some ⟨[(18,false,[.d (.int .u64)])],[],[]⟩
 | 1000002=>some ⟨[],[],[]⟩
 | 1000004=>some ⟨[],[],[]⟩
 | _=>none
def joins46:Nat->Option Hd
 | 1000008=>some ⟨[(9,false,[.d .bool])],[(10,[.d T136])],[]⟩
 | 1000010=>some ⟨[(9,false,[.d .bool])],[(10,[.d T136])],[]⟩
 | _=>none
def loops134:Nat->Option Hd
 | 1=>some ⟨[(8,false,[.d i64])],[],[]⟩
 | _=>none
def loops115:Nat->Option Hd
 | 3=>some ⟨[],[(5,[.d i64])],[]⟩
 | _=>none
def loops76:Nat->Option Hd
 | 3=>some ⟨[(21,false,[.d i64])],[(4,[.row 50 T50]),(5,[.d i64])],[]⟩
 | 9=>some ⟨[(33,false,[.d i64])],[(4,[.row 50 T50]),(5,[.d i64])],[(6,some 0,.row 50 T50)]⟩
 | 16=>some ⟨[],[(4,[.row 50 T50]),(5,[.d i64]),(12,[.d i64])],[(6,some 0,.row 50 T50)]⟩
 | _=>none
def loops12:Nat->Option Hd
 | 5=>some ⟨[(4,false,[.row 89 T89]),(20,false,[.d i64])],[],[]⟩
 | 12=>some ⟨[(9,false,[.row 3 i64]),(35,false,[.d i64])],[],[]⟩
 | _=>none
def loops77:Nat->Option Hd
 | 2=>some ⟨[(8,false,[.d i64])],[],[]⟩
 | _=>none
def loops13:Nat->Option Hd
 | 7=>some ⟨[(20,false,[.d i64])],[(2,[.d T50]),(4,[.d T50])],[]⟩
 | _=>none
def hints:FuncId->Hint
 | 113=>{loop:=loops113,join:=joins113}
 | 99=>{loop:=loops99}
 | 63=>{loop:=loops63}
 | 66=>{loop:=loops66}
 | 100=>{loop:=loops100}
 | 64=>{loop:=loops64}
 | 103=>{loop:=loops103}
 | 65=>{loop:=loops65}
 | 36=>{loop:=loops36}
 | 33=>{loop:=loops33}
 | 34=>{loop:=loops34}
 | 136=>{loop:=loops136}
 | 16=>{loop:=loops16}
 | 72=>{loop:=loops72}
 | 130=>{loop:=loops130}
 | 71=>{loop:=loops71}
 | 37=>{loop:=loops37}
 | 125=>{loop:=loops125}
 | 51=>{loop:=loops51}
 | 141=>{join:=joins141}
 | 17=>{loop:=loops17,join:=joins17}
 | 18=>{loop:=loops18}
 | 19=>{loop:=loops19}
 | 5=>{loop:=loops5}
 | 56=>{loop:=loops56}
 | 21=>{loop:=loops21}
 | 59=>{loop:=loops59}
 | 60=>{loop:=loops60}
 | 22=>{loop:=loops22}
 | 23=>{loop:=loops23}
 | 6=>{loop:=loops6}
 | 11=>{loop:=loops11}
 | 131=>{loop:=loops131}
 | 74=>{loop:=loops74}
 | 41=>{loop:=loops41}
 | 132=>{loop:=loops132}
 | 78=>{loop:=loops78}
 | 121=>{loop:=loops121,join:=joins121}
 | 46=>{join:=joins46}
 | 134=>{loop:=loops134}
 | 115=>{loop:=loops115}
 | 76=>{loop:=loops76}
 | 12=>{loop:=loops12}
 | 77=>{loop:=loops77}
 | 13=>{loop:=loops13}
 | _=>{}
def inls:List Nat:=[31,134,117]
end Go.Proofs.YtlfdhaiigdllcaaGreatDoor
