/- r15: the shapes of its types, and the places of its loops. r15: what its functions answer (printed by a program), and that they do. r15: what its functions answer (printed by a program), and that they do; part 2. -/
import Derived.Test.YtfknoaclabfdlaaGreatProg
import Derived.KernelRfl
import Derived.Test.YtfknoaclabfdlaaGreatMgL

namespace Go.Proofs.YtfknoaclabfdlaaGreat
open Tryz Dn Dn.Sh
abbrev i64:Sh:=.int .i64
abbrev T66:Sh:=.agg (.pair .str i64)
abbrev T49:Sh:=.agg (.pair i64 i64)
abbrev T134:Sh:=.agg (.pair .str (.pair i64 T49))
abbrev T75:Sh:=.agg (.pair .str (.pair (.sl T134) .bool))
abbrev T25:Sh:=.agg (.pair (.sl T66) (.sl T75))
abbrev T86:Sh:=.agg (.pair (.sl i64) (.pair i64 i64))
abbrev T32:Sh:=.agg (.pair (.sl i64) (.sl T86))
abbrev T96:Sh:=.agg (.pair T49 (.pair (.sl T49) (.sl T49)))
abbrev T116:Sh:=.agg (.pair (.int .u64) (.int .u64))
abbrev T139:Sh:=.agg i64
abbrev T148:Sh:=.agg (.pair (.int .u64) (.int .u64))
abbrev T156:Sh:=.agg (.pair (.sl (.sl i64)) (.pair i64 (.pair (.sl i64) (.pair (.sl i64) (.pair (.sl i64) (.pair i64 i64))))))
abbrev T205:Sh:=.agg (.pair .bool (.pair (.int .u64) (.int .u64)))
def shs:TypeId→Option Sh
 | 3=>some i64
 | 4=>some .bool
 | 5=>some (.int .u8)
 | 9=>some .str
 | 29=>some (.sl i64)
 | 49=>some T49
 | 66=>some T66
 | 75=>some T75
 | 86=>some T86
 | 134=>some T134
 | _=>none
def loops161:Nat→Option Hd
 | 2=>some ⟨[(3,false,[.d i64])],[],[]⟩
 | _=>none
def loops167:Nat→Option Hd
 | 2=>some ⟨[(8,false,[.d i64])],[],[]⟩
 | _=>none
def loops75:Nat→Option Hd
 | 1=>some ⟨[(0,false,[.d (.int .u64)]),(1,false,[.d (.int .u64)])],[],[]⟩
 | _=>none
def loops117:Nat→Option Hd
 | 5=>some ⟨[(17,false,[.d i64])],[],[]⟩
 | _=>none
def loops59:Nat→Option Hd
 | 6=>some ⟨[(27,false,[.d i64])],[],[(3,some 0,.x (.map 158 .str .bool))]⟩
 | 13=>some ⟨[(7,false,[.d i64]),(46,false,[.d i64])],[],[(3,some 0,.x (.map 158 .str .bool))]⟩
 | _=>none
def loops87:Nat→Option Hd
 | 5=>some ⟨[(20,false,[.d i64])],[],[(4,none,.x (.tab 29 .ref 3 i64))]⟩
 | 10=>some ⟨[(34,false,[.d i64])],[],[(4,none,.x (.tab 29 .ref 3 i64))]⟩
 | 13=>some ⟨[(42,false,[.d i64])],[],[(4,none,.x (.tab 29 .ref 3 i64))]⟩
 | _=>none
def loops88:Nat→Option Hd
 | 5=>some ⟨[(4,false,[.row 3 i64]),(13,false,[.d i64])],[],[]⟩
 | _=>none
def loops45:Nat→Option Hd
 | 9=>some ⟨[(34,false,[.d i64])],[(9,[.d (.sl i64),.row 86 T86])],[]⟩
 | _=>none
def loops46:Nat→Option Hd
 | 8=>some ⟨[(8,false,[.d i64])],[],[(7,none,.row 3 i64)]⟩
 | _=>none
def joins46:Nat→Option Hd
 | 1000002=>some ⟨[],[],[]⟩
 | 1000005=>some ⟨[],[],[]⟩
 | _=>none
def loops173:Nat→Option Hd
 | 2=>some ⟨[(8,false,[.d i64])],[],[]⟩
 | _=>none
def loops174:Nat→Option Hd
 | 2=>some ⟨[(8,false,[.d i64])],[],[]⟩
 | _=>none
def loops74:Nat→Option Hd
 | 2=>some ⟨[(8,false,[.d i64])],[],[]⟩
 | _=>none
def joins181:Nat→Option Hd
 | 1000002=>some ⟨[(0,false,[.d (.int .u64)]),(2,false,[.d i64])],[],[]⟩
 | 1000005=>some ⟨[(0,false,[.d (.int .u64)]),(2,false,[.d i64])],[],[]⟩
 | _=>none
def loops125:Nat→Option Hd
 | 17=>some ⟨[(15,false,[.d (.int .u64)]),(16,false,[.d (.int .u64)])],[],[]⟩
 | 24=>some ⟨[(16,false,[.d (.int .u64)]),(18,false,[.d (.int .u64)])],[],[]⟩
 | _=>none
def joins125:Nat→Option Hd
 | 0=>some ⟨[(15,false,[.d (.int .u64)])],[],[]⟩
 | 2=>some ⟨[(18,false,[.d (.int .u64)])],[],[]⟩
 | 1000002=>some ⟨[],[],[]⟩
 | 1000004=>some ⟨[],[],[]⟩
 | _=>none
def joins35:Nat→Option Hd
 | 1000008=>some ⟨[(9,false,[.d .bool])],[(10,[.d T116])],[]⟩
 | 1000010=>some ⟨[(9,false,[.d .bool])],[(10,[.d T116])],[]⟩
 | _=>none
def loops95:Nat→Option Hd
 | 3=>some ⟨[(15,false,[.d i64])],[(0,[.d T139]),(6,[.d T49]),(7,[.d T49])],[]⟩
 | _=>none
def joins95:Nat→Option Hd
 | 1000007=>some ⟨[(11,false,[.d i64])],[(10,[.d T49])],[]⟩
 | _=>none
def joins39:Nat→Option Hd
 | 1000009=>some ⟨[],[(6,[.d T116]),(7,[.d T116])],[]⟩
 | _=>none
def loops145:Nat→Option Hd
 | 3=>some ⟨[(5,false,[.row 3 i64]),(11,false,[.d i64])],[],[]⟩
 | _=>none
def loops93:Nat→Option Hd
 | 3=>some ⟨[(9,false,[.d .bool]),(14,false,[.d i64])],[(0,[.d T139])],[]⟩
 | _=>none
def loops96:Nat→Option Hd
 | 3=>some ⟨[(3,false,[.row 3 i64]),(9,false,[.d i64])],[],[]⟩
 | _=>none
def loops97:Nat→Option Hd
 | 2=>some ⟨[(10,false,[.d i64])],[],[]⟩
 | _=>none
def loops154:Nat→Option Hd
 | 3=>some ⟨[(5,false,[.d i64]),(14,false,[.d i64])],[],[]⟩
 | _=>none
def loops156:Nat→Option Hd
 | 5=>some ⟨[(3,false,[.d i64]),(4,false,[.d i64])],[],[]⟩
 | _=>none
def joins156:Nat→Option Hd
 | 1000002=>some ⟨[],[],[]⟩
 | _=>none
def loops108:Nat→Option Hd
 | 4=>some ⟨[(4,false,[.row 3 i64]),(18,false,[.d i64])],[],[]⟩
 | 10=>some ⟨[(7,false,[.d i64]),(34,false,[.d i64])],[],[]⟩
 | _=>none
def loops109:Nat→Option Hd
 | 4=>some ⟨[(5,false,[.d i64]),(24,false,[.d i64])],[],[]⟩
 | 12=>some ⟨[(9,false,[.d i64]),(51,false,[.d i64])],[(46,[.x (.tab 29 .ref 3 i64),.d i64,.row 3 i64,.row 3 i64,.row 3 i64,.d i64,.d i64])],[]⟩
 | 28=>some ⟨[(95,false,[.d i64])],[],[(12,none,.row 3 i64)]⟩
 | _=>none
def joins109:Nat→Option Hd
 | 1000019=>some ⟨[(9,false,[.d i64])],[],[(12,none,.row 3 i64)]⟩
 | 1000022=>some ⟨[(9,false,[.d i64])],[],[(12,none,.row 3 i64)]⟩
 | 1000026=>some ⟨[(13,false,[.d i64])],[],[(12,none,.row 3 i64)]⟩
 | _=>none
def loops126:Nat→Option Hd
 | 3=>some ⟨[(5,false,[.d i64]),(13,false,[.d i64])],[],[]⟩
 | _=>none
def joins176:Nat→Option Hd
 | 1000008=>some ⟨[(10,false,[.d .bool])],[(2,[.d T205]),(3,[.d T205])],[]⟩
 | _=>none
def loops157:Nat→Option Hd
 | 2=>some ⟨[(29,false,[.d i64])],[],[(0,some 0,.x (.tab 29 .ref 3 i64))]⟩
 | 7=>some ⟨[(43,false,[.d i64])],[],[(0,some 0,.x (.tab 29 .ref 3 i64))]⟩
 | 17=>some ⟨[(98,false,[.d i64])],[],[(0,some 0,.x (.tab 29 .ref 3 i64))]⟩
 | 20=>some ⟨[(104,false,[.d i64])],[],[(0,some 0,.x (.tab 29 .ref 3 i64))]⟩
 | _=>none
def loops158:Nat→Option Hd
 | 3=>some ⟨[(5,false,[.d i64]),(14,false,[.d i64])],[],[]⟩
 | _=>none
def loops110:Nat→Option Hd
 | 1=>some ⟨[],[(0,[.x (.tab 29 .ref 3 i64),.d i64,.row 3 i64,.row 3 i64,.row 3 i64,.d i64,.d i64])],[]⟩
 | 3=>some ⟨[(3,false,[.d i64]),(4,false,[.d i64])],[],[]⟩
 | 12=>some ⟨[(44,false,[.d i64])],[(0,[.x (.tab 29 .ref 3 i64),.d i64,.row 3 i64,.row 3 i64,.row 3 i64,.d i64,.d i64])],[]⟩
 | 15=>some ⟨[(6,false,[.d i64])],[(0,[.x (.tab 29 .ref 3 i64),.d i64,.row 3 i64,.row 3 i64,.row 3 i64,.d i64,.d i64])],[]⟩
 | _=>none
def loops159:Nat→Option Hd
 | 3=>some ⟨[(5,false,[.d i64]),(21,false,[.d i64])],[],[]⟩
 | _=>none
def loops111:Nat→Option Hd
 | 1=>some ⟨[],[(0,[.x (.tab 29 .ref 3 i64),.d i64,.row 3 i64,.row 3 i64,.row 3 i64,.d i64,.d i64])],[]⟩
 | 3=>some ⟨[(3,false,[.d i64]),(4,false,[.d i64])],[],[]⟩
 | _=>none
def loops58:Nat→Option Hd
 | 14=>some ⟨[(6,false,[.d i64]),(43,false,[.d i64])],[],[(7,none,.row 3 i64)]⟩
 | 22=>some ⟨[(94,false,[.d i64])],[(5,[.d T49,.row 49 T49,.row 49 T49])],[]⟩
 | 27=>some ⟨[(110,false,[.d i64])],[(5,[.d T49,.row 49 T49,.row 49 T49])],[]⟩
 | 31=>some ⟨[(13,false,[.d i64]),(118,false,[.d i64])],[],[]⟩
 | _=>none
def loops60:Nat→Option Hd
 | 2=>some ⟨[(8,false,[.d i64])],[],[]⟩
 | _=>none
def loops21:Nat→Option Hd
 | 5=>some ⟨[(4,false,[.row 9 .str]),(16,false,[.d i64])],[],[]⟩
 | _=>none
def loops43:Nat→Option Hd
 | 3=>some ⟨[(11,false,[.d i64])],[(3,[.d (.sl T66),.row 75 T75])],[]⟩
 | _=>none
def loops44:Nat→Option Hd
 | 4=>some ⟨[(3,false,[.d i64])],[],[]⟩
 | 9=>some ⟨[(4,false,[.d i64])],[],[]⟩
 | 14=>some ⟨[(5,false,[.d i64])],[],[]⟩
 | _=>none
def loops22:Nat→Option Hd
 | 2=>some ⟨[(5,false,[.d i64])],[],[]⟩
 | _=>none
def loops99:Nat→Option Hd
 | 1=>some ⟨[(1,false,[.d i64])],[],[]⟩
 | _=>none
def loops49:Nat→Option Hd
 | 2=>some ⟨[(5,false,[.d i64])],[],[]⟩
 | _=>none
def loops102:Nat→Option Hd
 | 4=>some ⟨[(5,false,[.d i64])],[(2,[.d T148]),(3,[.d T148])],[]⟩
 | 6=>some ⟨[],[(2,[.d T148]),(3,[.d T148])],[]⟩
 | 7=>some ⟨[],[(2,[.d T148])],[]⟩
 | 9=>some ⟨[],[(3,[.d T148])],[]⟩
 | 14=>some ⟨[(5,false,[.d i64])],[(3,[.d T148])],[]⟩
 | _=>none
def loops50:Nat→Option Hd
 | 4=>some ⟨[(5,false,[.d i64])],[],[]⟩
 | _=>none
def loops13:Nat→Option Hd
 | 4=>some ⟨[(3,false,[.d i64])],[],[]⟩
 | 11=>some ⟨[(5,false,[.d i64]),(6,false,[.d i64])],[],[]⟩
 | _=>none
def loops14:Nat→Option Hd
 | 4=>some ⟨[(5,false,[.d i64])],[],[]⟩
 | 9=>some ⟨[(6,false,[.d i64])],[],[]⟩
 | 15=>some ⟨[(9,false,[.d i64])],[],[]⟩
 | _=>none
def loops101:Nat→Option Hd
 | 3=>some ⟨[(5,false,[.d i64]),(6,false,[.d i64])],[],[]⟩
 | _=>none
def loops51:Nat→Option Hd
 | 3=>some ⟨[(3,false,[.x (.tab 29 .ref 3 i64)]),(4,false,[.d i64])],[],[]⟩
 | 7=>some ⟨[(5,false,[.row 3 i64]),(6,false,[.d i64])],[],[]⟩
 | _=>none
def loops15:Nat→Option Hd
 | 4=>some ⟨[(7,false,[.d i64])],[(5,[.d (.sl i64),.row 86 T86])],[]⟩
 | _=>none
def loops16:Nat→Option Hd
 | 3=>some ⟨[(3,false,[.row 3 i64]),(4,false,[.d i64])],[],[]⟩
 | _=>none
def loops17:Nat→Option Hd
 | 2=>some ⟨[(3,false,[.d i64])],[],[]⟩
 | _=>none
def loops164:Nat→Option Hd
 | 5=>some ⟨[(8,false,[.d i64])],[(2,[.d T148]),(6,[.d T148]),(7,[.d T148])],[]⟩
 | _=>none
def loops54:Nat→Option Hd
 | 3=>some ⟨[(7,false,[.d i64])],[(4,[.d T49]),(6,[.d T49])],[]⟩
 | _=>none
def loops104:Nat→Option Hd
 | 3=>some ⟨[(5,false,[.row 3 i64]),(6,false,[.d i64])],[],[]⟩
 | _=>none
def loops53:Nat→Option Hd
 | 3=>some ⟨[(8,false,[.d .bool]),(9,false,[.d i64])],[],[]⟩
 | _=>none
def loops55:Nat→Option Hd
 | 3=>some ⟨[(3,false,[.row 3 i64]),(4,false,[.d i64])],[],[]⟩
 | _=>none
def loops57:Nat→Option Hd
 | 2=>some ⟨[(5,false,[.d i64])],[],[]⟩
 | _=>none
def loops118:Nat→Option Hd
 | 3=>some ⟨[(3,false,[.d i64]),(4,false,[.d i64])],[],[]⟩
 | 8=>some ⟨[(5,false,[.row 3 i64]),(6,false,[.d i64])],[],[]⟩
 | 12=>some ⟨[(7,false,[.d i64]),(8,false,[.d i64])],[],[]⟩
 | _=>none
def loops119:Nat→Option Hd
 | 3=>some ⟨[(6,false,[.d i64]),(7,false,[.d i64])],[],[]⟩
 | _=>none
def loops63:Nat→Option Hd
 | 5=>some ⟨[(6,false,[.d i64]),(7,false,[.d i64])],[],[]⟩
 | _=>none
def loops120:Nat→Option Hd
 | 3=>some ⟨[(8,false,[.d i64])],[],[(3,some 0,.x (.tab 29 .ref 3 i64))]⟩
 | 8=>some ⟨[(10,false,[.d i64])],[],[(3,some 0,.x (.tab 29 .ref 3 i64))]⟩
 | _=>none
def loops66:Nat→Option Hd
 | 2=>some ⟨[],[(1,[.x (.tab 29 .ref 3 i64),.row 3 i64,.d i64,.d i64]),(2,[.x (.tab 29 .ref 3 i64),.row 3 i64,.d i64,.d i64])],[]⟩
 | 3=>some ⟨[(5,false,[.d i64])],[],[]⟩
 | 9=>some ⟨[(6,false,[.d i64]),(8,false,[.d i64])],[],[]⟩
 | _=>none
def loops69:Nat→Option Hd
 | 1=>some ⟨[(4,false,[.d i64])],[],[(0,none,.row 3 i64)]⟩
 | _=>none
def loops67:Nat→Option Hd
 | 5=>some ⟨[(7,false,[.d i64])],[(5,[.x (.tab 29 .ref 3 i64),.row 3 i64,.d i64,.d i64])],[(6,none,.row 3 i64)]⟩
 | 16=>some ⟨[(9,false,[.d i64])],[],[(8,none,.row 3 i64)]⟩
 | 20=>some ⟨[(10,false,[.d i64])],[],[(6,none,.row 3 i64)]⟩
 | _=>none
def joins67:Nat→Option Hd
 | 1000010=>some ⟨[],[],[(8,none,.row 3 i64)]⟩
 | 1000012=>some ⟨[],[],[(8,none,.row 3 i64)]⟩
 | 1000015=>some ⟨[],[],[(8,none,.row 3 i64)]⟩
 | _=>none
def loops68:Nat→Option Hd
 | 2=>some ⟨[(3,false,[.d i64])],[(1,[.x (.tab 29 .ref 3 i64),.row 3 i64,.d i64,.d i64])],[]⟩
 | 6=>some ⟨[(4,false,[.d i64])],[],[]⟩
 | 11=>some ⟨[(5,false,[.d i64])],[],[(1,some 0,.x (.tab 29 .ref 3 i64))]⟩
 | _=>none
def loops26:Nat→Option Hd
 | 9=>some ⟨[(9,false,[.d i64])],[],[(4,some 0,.x (.tab 29 .ref 3 i64))]⟩
 | 13=>some ⟨[(10,false,[.d i64]),(11,false,[.d i64])],[],[]⟩
 | _=>none
def loops27:Nat→Option Hd
 | 7=>some ⟨[(20,false,[.d i64])],[(2,[.d T49]),(4,[.d T49])],[]⟩
 | _=>none
def loops28:Nat→Option Hd
 | 3=>some ⟨[(4,false,[.row 9 .str]),(5,false,[.d i64])],[],[]⟩
 | _=>none
def loops29:Nat→Option Hd
 | 4=>some ⟨[(13,false,[.d i64])],[],[]⟩
 | _=>none
def joins4:Nat→Option Hd
 | 1000023=>some ⟨[],[],[]⟩
 | _=>none
def loops31:Nat→Option Hd
 | 3=>some ⟨[(4,false,[.d i64])],[(3,[.row 66 T66,.row 75 T75])],[]⟩
 | _=>none
def loops5:Nat→Option Hd
 | 7=>some ⟨[(39,false,[.d i64])],[],[]⟩
 | _=>none
def joins5:Nat→Option Hd
 | 1000014=>some ⟨[],[],[]⟩
 | _=>none
def loops83:Nat→Option Hd
 | 10=>some ⟨[(5,false,[.row 49 T49]),(20,false,[.d i64])],[],[]⟩
 | _=>none
def loops38:Nat→Option Hd
 | 2=>some ⟨[(3,false,[.d i64])],[],[]⟩
 | _=>none
def loops86:Nat→Option Hd
 | 2=>some ⟨[(8,false,[.d i64])],[],[]⟩
 | _=>none
def loops7:Nat→Option Hd
 | 25=>some ⟨[(123,false,[.d i64])],[],[]⟩
 | _=>none
def joins7:Nat→Option Hd
 | 1000020=>some ⟨[],[],[]⟩
 | _=>none
def loops182:Nat→Option Hd
 | 2=>some ⟨[(8,false,[.d i64])],[],[]⟩
 | _=>none
def joins172:Nat→Option Hd
 | 1000007=>some ⟨[(12,false,[.d (.int .u64)]),(13,false,[.d (.int .u64)]),(18,false,[.d .bool])],[],[]⟩
 | 1000008=>some ⟨[(12,false,[.d (.int .u64)]),(13,false,[.d (.int .u64)]),(14,false,[.d (.int .u64)]),(15,false,[.d (.int .u64)]),(18,false,[.d .bool])],[],[]⟩
 | _=>none
def loops135:Nat→Option Hd
 | 3=>some ⟨[(20,false,[.d i64])],[(5,[.x (.tab 29 .ref 3 i64),.d i64,.row 3 i64,.row 3 i64,.d .bool])],[]⟩
 | 9=>some ⟨[(40,false,[.d i64])],[(5,[.x (.tab 29 .ref 3 i64),.d i64,.row 3 i64,.row 3 i64,.d .bool])],[]⟩
 | 14=>some ⟨[(10,false,[.d i64]),(11,false,[.d i64])],[],[]⟩
 | 19=>some ⟨[(10,false,[.d i64])],[(5,[.x (.tab 29 .ref 3 i64),.d i64,.row 3 i64,.row 3 i64,.d .bool])],[]⟩
 | 26=>some ⟨[(130,false,[.d i64])],[],[(5,some 0,.x (.tab 29 .ref 3 i64))]⟩
 | 31=>some ⟨[(144,false,[.d i64])],[],[(5,some 0,.x (.tab 29 .ref 3 i64))]⟩
 | _=>none
def loops89:Nat→Option Hd
 | 10=>some ⟨[(7,false,[.x (.tab 29 .ref 3 i64)]),(37,false,[.d i64])],[],[]⟩
 | 16=>some ⟨[(64,false,[.d i64])],[],[]⟩
 | 25=>some ⟨[(13,false,[.row 49 T49]),(80,false,[.d i64])],[],[]⟩
 | _=>none
def loops42:Nat→Option Hd
 | 4=>some ⟨[(13,false,[.d i64])],[],[]⟩
 | _=>none
def loops8:Nat→Option Hd
 | 16=>some ⟨[(9,false,[.row 9 .str]),(59,false,[.d i64])],[],[]⟩
 | _=>none
def joins8:Nat→Option Hd
 | 1000019=>some ⟨[(9,false,[.row 9 .str])],[],[]⟩
 | _=>none
def hints:FuncId→Hint
 | 161=>{loop:=loops161}
 | 167=>{loop:=loops167}
 | 75=>{loop:=loops75}
 | 117=>{loop:=loops117}
 | 59=>{loop:=loops59}
 | 87=>{loop:=loops87}
 | 88=>{loop:=loops88}
 | 45=>{loop:=loops45}
 | 46=>{loop:=loops46,join:=joins46}
 | 173=>{loop:=loops173}
 | 174=>{loop:=loops174}
 | 74=>{loop:=loops74}
 | 181=>{join:=joins181}
 | 125=>{loop:=loops125,join:=joins125}
 | 35=>{join:=joins35}
 | 95=>{loop:=loops95,join:=joins95}
 | 39=>{join:=joins39}
 | 145=>{loop:=loops145}
 | 93=>{loop:=loops93}
 | 96=>{loop:=loops96}
 | 97=>{loop:=loops97}
 | 154=>{loop:=loops154}
 | 156=>{loop:=loops156,join:=joins156}
 | 108=>{loop:=loops108}
 | 109=>{loop:=loops109,join:=joins109}
 | 126=>{loop:=loops126}
 | 176=>{join:=joins176}
 | 157=>{loop:=loops157}
 | 158=>{loop:=loops158}
 | 110=>{loop:=loops110}
 | 159=>{loop:=loops159}
 | 111=>{loop:=loops111}
 | 58=>{loop:=loops58}
 | 60=>{loop:=loops60}
 | 21=>{loop:=loops21}
 | 43=>{loop:=loops43}
 | 44=>{loop:=loops44}
 | 22=>{loop:=loops22}
 | 99=>{loop:=loops99}
 | 49=>{loop:=loops49}
 | 102=>{loop:=loops102}
 | 50=>{loop:=loops50}
 | 13=>{loop:=loops13}
 | 14=>{loop:=loops14}
 | 101=>{loop:=loops101}
 | 51=>{loop:=loops51}
 | 15=>{loop:=loops15}
 | 16=>{loop:=loops16}
 | 17=>{loop:=loops17}
 | 164=>{loop:=loops164}
 | 54=>{loop:=loops54}
 | 104=>{loop:=loops104}
 | 53=>{loop:=loops53}
 | 55=>{loop:=loops55}
 | 57=>{loop:=loops57}
 | 118=>{loop:=loops118}
 | 119=>{loop:=loops119}
 | 63=>{loop:=loops63}
 | 120=>{loop:=loops120}
 | 66=>{loop:=loops66}
 | 69=>{loop:=loops69}
 | 67=>{loop:=loops67,join:=joins67}
 | 68=>{loop:=loops68}
 | 26=>{loop:=loops26}
 | 27=>{loop:=loops27}
 | 28=>{loop:=loops28}
 | 29=>{loop:=loops29}
 | 4=>{join:=joins4}
 | 31=>{loop:=loops31}
 | 5=>{loop:=loops5,join:=joins5}
 | 83=>{loop:=loops83}
 | 38=>{loop:=loops38}
 | 86=>{loop:=loops86}
 | 7=>{loop:=loops7,join:=joins7}
 | 182=>{loop:=loops182}
 | 172=>{join:=joins172}
 | 135=>{loop:=loops135}
 | 89=>{loop:=loops89}
 | 42=>{loop:=loops42}
 | 8=>{loop:=loops8,join:=joins8}
 | _=>{}
def lits (p : String) : Bool := p == "program.go:104" || p == "ref.go:45"
def tabs:TypeId→Option XP
 | 87=>some (.tab 29 .ref 3 i64)
 | 88=>some (.tab 29 .ref 3 i64)
 | _=>none
def inls:List Nat:=[115,174,141,142,93,109,157,110,111,120,66,69,67,68]
def its:List (Nat×ICtr):=[]
theorem itsOk:ItsOk prog its:=itsOk_nil
end Go.Proofs.YtfknoaclabfdlaaGreat

namespace Go.Proofs.YtfknoaclabfdlaaGreat
open Tryz Dn Dn.Sh
set_option maxRecDepth 100000
theorem hmix:prog.follows .mixedOrders=true:=by kernel_rfl
theorem inlsOk:inlOk prog inls=true:=by kernel_rfl
theorem q0:(ctxOf prog shs inls its [] []).ok:=ctxOf_nil inlsOk itsOk
noncomputable abbrev cx (l) (r):=ctxT tabs lits (ctxOf prog shs inls its l r)
noncomputable def slices_Clone_134_b (_:Lp) (_:Jn) (x0:List Int):Option (List Int) :=
 bif fitB (0+List.length x0) 8 then some x0 else none
noncomputable def slices_Clone_134 (x0:List Int):Option (List Int):=slices_Clone_134_b lpK jnK x0
abbrev t134:=(List Int)→Option (List Int)
noncomputable def k134 (slices_Clone_134:t134):RCtr:=⟨[(.sl i64)],3,i64,fun x=>slices_Clone_134 x.1⟩
noncomputable def r134:RCtr:=k134 slices_Clone_134
theorem e134 (lp:Lp) (jn:Jn):∀x:TsS r134.as,slices_Clone_134_b lp jn x.1=runR lp jn (cx [] []) hints 4 134 f134 r134.t r134.e (initN r134.as x true):=fun x=>by kernel_rfl
theorem okr134:r134.ok prog 134:=RCtr.of_den_nil (c:=r134) (ctxT_ok (q0)) hmix (hl:=hints) (d:=4) rfl func134 rfl (by decide) (e134 lpK jnK) fun x h=>by
 obtain ⟨l,u⟩:=x
 simp only at h
 subst h
 kernel_rfl
theorem q134:(ctxOf prog shs inls its [] [(134,r134)]).ok:=ctxOf_row q0 (by kernel_rfl) okr134
noncomputable def reeving_within_b (_:Lp) (_:Jn) (x0:Int) (x1:Int) (x2:Int):Option Bool :=
 
 let v5:Bool:=decide (x0≥x1);
 let v6:Bool:=!v5||v5;bif v6&&v6 then bif v6 then some (bif v5 then decide (x0≤x2) else false) else none else none
noncomputable def reeving_within (x0:Int) (x1:Int) (x2:Int):Option Bool:=reeving_within_b lpK jnK x0 x1 x2
abbrev t114:=(Int)→(Int)→(Int)→Option (Bool)
noncomputable def k114 (reeving_within:t114):Ctr:=⟨[i64,i64,i64],[],[],.one .bool,fun x _ _=>reeving_within x.1 x.2.1 x.2.2.1⟩
noncomputable def c114:Ctr:=k114 reeving_within
theorem e114 (lp:Lp) (jn:Jn):∀(x:TsS c114.as) (F:TsF c114.fs) (y:TsS c114.cs),reeving_within_b lp jn x.1 x.2.1 x.2.2.1=runC lp jn (cx [] [(134,r134)]) hints 4 114 f114 c114 x F y:=fun x F y=>by kernel_rfl
theorem ok114:c114.ok prog 114:=Ctr.of_den (ctxT_ok (q134)) hmix (hl:=hints) (d:=4) func114 rfl (by decide) (e114 lpK jnK)
noncomputable def decimal_letter_b (_:Lp) (_:Jn) (x0:Int):Option Bool :=
 
 let v3:Bool:=decide (x0≥97);
 let v4:Bool:=decide (x0≥65);
 let v5:Bool:=!v3||v3;
 let v6:Bool:=bif v3 then decide (x0≤122) else false;
 let v7:Bool:=!v6;
 let v8:Bool:=!v7;
 let v9:Bool:=v7&&v4;
 let v10:Bool:=v8||v7;bif v5 then bif v5 then bif v10 then bif v10 then bif !v9||v9 then bif (v8||v10)&&(v8||(!v4||(v8||v9))) then bif v6||v7 then some (bif v6 then
  true else bif v4 then decide (x0≤90) else false) else none else none else none else none else none else none else none
noncomputable def decimal_letter (x0:Int):Option Bool:=decimal_letter_b lpK jnK x0
abbrev t160:=(Int)→Option (Bool)
noncomputable def k160 (decimal_letter:t160):Ctr:=⟨[(.int .u8)],[],[],.one .bool,fun x _ _=>decimal_letter x.1⟩
noncomputable def c160:Ctr:=k160 decimal_letter
theorem e160 (lp:Lp) (jn:Jn):∀(x:TsS c160.as) (F:TsF c160.fs) (y:TsS c160.cs),decimal_letter_b lp jn x.1=runC lp jn (cx [] [(134,r134)]) hints 4 160 f160 c160 x F y:=fun x F y=>by kernel_rfl
theorem ok160:c160.ok prog 160:=Ctr.of_den (ctxT_ok (q134)) hmix (hl:=hints) (d:=4) func160 rfl (by decide) (e160 lpK jnK)
noncomputable def decimal_digit_b (_:Lp) (_:Jn) (x0:Int):Option Bool :=
 
 let v3:Bool:=decide (x0≥48);
 let v4:Bool:=!v3||v3;bif v4 then bif v4 then some (bif v3 then decide (x0≤57) else false) else none else none
noncomputable def decimal_digit (x0:Int):Option Bool:=decimal_digit_b lpK jnK x0
abbrev t179:=(Int)→Option (Bool)
noncomputable def c179:Ctr:=⟨[(.int .u8)],[],[],.one .bool,fun x _ _=>decimal_digit x.1⟩
theorem e179 (lp:Lp) (jn:Jn):∀(x:TsS c179.as) (F:TsF c179.fs) (y:TsS c179.cs),decimal_digit_b lp jn x.1=runC lp jn (cx [] [(134,r134)]) hints 4 179 f179 c179 x F y:=fun x F y=>by kernel_rfl
theorem ok179:c179.ok prog 179:=Ctr.of_den (ctxT_ok (q134)) hmix (hl:=hints) (d:=4) func179 rfl (by decide) (e179 lpK jnK)
noncomputable def decimal_word_b (lp:Lp) (_:Jn) (decimal_letter:t160) (decimal_digit:t179) (x0:ByteArray):Option Int :=
 lp (Int×PUnit) Int (fun (again:Int×PUnit→Option Int) (x:Int×PUnit) =>
 let v5:Bool:=inB x.1 (ByteArray.size x0);
 let v6:Int:=byteAt x0 (Int.toNat x.1);
 let v7:Bool:=decide (x.1<(↑(ByteArray.size x0):Int));
 let v8:Bool:=!v7;
 let v9:Bool:=v8||v7;
 let v10:Bool:=v8||v9;bif v9&&(v9&&(v8||v5)) then bif v9 then obind (bif v7 then decimal_letter v6 else some false) fun (t:Bool) =>
 let v12:Bool:=v7&&!t;
 let v13:Bool:=!v12;
 let v14:Bool:=v13||v12;bif v9 then bif v14&&(v14&&(v13||v5)) then bif v14 then obind (bif v12 then decimal_digit v6 else some false) fun (t_1:Bool) =>
 let v16:Bool:=bif t then true else t_1;
 let v17:Bool:=v7&&!v16;
 let v18:Bool:=!v17;
 let v19:Bool:=v18||v17;bif v10&&(v8||(t||(v8||v12))) then bif v9 then bif v19&&(v19&&(v18||v5)) then bif v19 then bif v10&&(v8||(v16||(v8||v17))) then bif v9
  then bif bif v7 then bif v16 then true else decide (v6=95) else false then again (IntKind.wrap .i64 (x.1+1),PUnit.unit) else some x.1 else none else none
  else none else none else none else none else none else none else none else none else none) (0,PUnit.unit)
noncomputable def decimal_word (x0:ByteArray):Option Int:=decimal_word_b lpK jnK decimal_letter decimal_digit x0
abbrev t161:=(ByteArray)→Option (Int)
noncomputable def c161:Ctr:=⟨[.str],[],[],.one i64,fun x _ _=>decimal_word x.1⟩
theorem e161 (lp:Lp) (jn:Jn) (decimal_letter:t160) (decimal_digit:t179):∀(x:TsS c161.as) (F:TsF c161.fs) (y:TsS c161.cs),decimal_word_b lp jn decimal_letter decimal_digit x.1=runC lp jn (cx [(179,⟨[(.int .u8)],[],[],.one .bool,fun x _ _=>decimal_digit x.1⟩),(160,k160 decimal_letter)] [(134,r134)]) hints 4 161 f161 c161 x F y:=fun x F y=>by kernel_rfl
theorem ok161:c161.ok prog 161:=Ctr.of_den (ctxT_ok (ctxOf_cons (ctxOf_cons (q134) (by kernel_rfl) ok160) (by kernel_rfl) ok179)) hmix (hl:=hints) (d:=4) func161 rfl (by decide) (e161 lpK jnK decimal_letter decimal_digit)
noncomputable def decimal_IsName_b (_:Lp) (_:Jn) (decimal_letter:t160) (decimal_word:t161) (x0:ByteArray):Option Bool :=
 
 let v3:Bool:=!List.beq (ByteArray.toList x0) (ByteArray.toList { data:=#[] });
 let v4:Bool:=!v3||v3;
 let v5:Bool:=bif v3 then decide ((↑(ByteArray.size x0):Int)≤20) else false;
 let v6:Bool:=!v5;
 let v7:Bool:=v6||v5;bif v4 then bif v4 then bif v4 then bif v7&&(v6||inB 0 (ByteArray.size x0)) then bif v7 then obind (bif v5 then decimal_letter (byteAt x0 0)
  else some false) fun (t:Bool) =>
 let v9:Bool:=bif v5 then t else false;
 let v10:Bool:=!v9||v9;bif v7 then bif v10 then obind (bif v9 then decimal_word x0 else some 0) fun (t:Int)=>bif v10 then bif v10&&v10 then bif v10 then some (bif v9
  then decide (t=(↑(ByteArray.size x0):Int)) else false) else none else none else none else none else none else none else none else none else none else none
noncomputable def decimal_IsName (x0:ByteArray):Option Bool:=decimal_IsName_b lpK jnK decimal_letter decimal_word x0
abbrev t116:=(ByteArray)→Option (Bool)
noncomputable def c116:Ctr:=⟨[.str],[],[],.one .bool,fun x _ _=>decimal_IsName x.1⟩
theorem e116 (lp:Lp) (jn:Jn) (decimal_letter:t160) (decimal_word:t161):∀(x:TsS c116.as) (F:TsF c116.fs) (y:TsS c116.cs),decimal_IsName_b lp jn decimal_letter decimal_word x.1=runC lp jn (cx [(161,⟨[.str],[],[],.one i64,fun x _ _=>decimal_word x.1⟩),(160,k160 decimal_letter)] [(134,r134)]) hints 4 116 f116 c116 x F y:=fun x F y=>by kernel_rfl
theorem ok116:c116.ok prog 116:=Ctr.of_den (ctxT_ok (ctxOf_cons (ctxOf_cons (q134) (by kernel_rfl) ok160) (by kernel_rfl) ok161)) hmix (hl:=hints) (d:=4) func116 rfl (by decide) (e116 lpK jnK decimal_letter decimal_word)
noncomputable def slices_IndexFunc_167_b (lp:Lp) (_:Jn) (x0:List (ByteArray×Int)) (f0:(((ByteArray×Int)×Unit)→Option Bool)):Option Int :=
 lp (Int×PUnit) Int (fun (again:Int×PUnit→Option Int) (x:Int×PUnit)=>bif decide (x.1<(↑(List.length x0):Int)) then bif inB x.1 (List.length x0) then obind (f0
  (List.getD x0 (Int.toNat x.1) ({ data:={ toList:=[] } },0),PUnit.unit)) fun (t:Bool)=>bif t then some x.1 else again (IntKind.wrap .i64 (x.1+1),
  PUnit.unit) else none else some (-1)) (0,PUnit.unit)
noncomputable def slices_IndexFunc_167 (x0:List (ByteArray×Int)) (f0:(((ByteArray×Int)×Unit)→Option Bool)):Option Int:=slices_IndexFunc_167_b lpK jnK x0 f0
abbrev t167:=(List (ByteArray×Int))→((((ByteArray×Int)×Unit)→Option Bool))→Option (Int)
noncomputable def k167 (slices_IndexFunc_167:t167):Ctr:=⟨[(.sl T66)],[([T66],.bool)],[],.one i64,fun x F _=>slices_IndexFunc_167 x.1 F.1⟩
noncomputable def c167:Ctr:=k167 slices_IndexFunc_167
theorem e167 (lp:Lp) (jn:Jn):∀(x:TsS c167.as) (F:TsF c167.fs) (y:TsS c167.cs),slices_IndexFunc_167_b lp jn x.1 F.1=runC lp jn (cx [] [(134,r134)]) hints 4 167 f167 c167 x F y:=fun x F y=>by kernel_rfl
theorem ok167:c167.ok prog 167:=Ctr.of_den (ctxT_ok (q134)) hmix (hl:=hints) (d:=4) func167 rfl (by decide) (e167 lpK jnK)
noncomputable def reeving_find_1_b (_:Lp) (_:Jn) (x0:ByteArray×Int) (y0:ByteArray):Option Bool :=
 some (List.beq (ByteArray.toList x0.1) (ByteArray.toList y0))
noncomputable def reeving_find_1 (x0:ByteArray×Int) (y0:ByteArray):Option Bool:=reeving_find_1_b lpK jnK x0 y0
abbrev t168:=(ByteArray×Int)→(ByteArray)→Option (Bool)
noncomputable def c168:Ctr:=⟨[T66],[],[.str],.one .bool,fun x _ y=>reeving_find_1 x.1 y.1⟩
theorem e168 (lp:Lp) (jn:Jn):∀(x:TsS c168.as) (F:TsF c168.fs) (y:TsS c168.cs),reeving_find_1_b lp jn x.1 y.1=runC lp jn (cx [] [(134,r134)]) hints 4 168 f168 c168 x F y:=fun x F y=>by kernel_rfl
theorem ok168:c168.ok prog 168:=Ctr.of_den (ctxT_ok (q134)) hmix (hl:=hints) (d:=4) func168 rfl (by decide) (e168 lpK jnK)
noncomputable def reeving_find_b (_:Lp) (_:Jn) (slices_IndexFunc_167:t167) (reeving_find_1:t168) (x0:(List (ByteArray×Int))×List (ByteArray×(List (ByteArray×Int×Int×Int))×Bool)) (x1:ByteArray):Option Int :=
 obind (slices_IndexFunc_167 x0.1 fun (x:(ByteArray×Int)×PUnit)=>reeving_find_1 x.1 x1) fun (t:Int)=>some t
noncomputable def reeving_find (x0:(List (ByteArray×Int))×List (ByteArray×(List (ByteArray×Int×Int×Int))×Bool)) (x1:ByteArray):Option Int:=reeving_find_b lpK jnK slices_IndexFunc_167 reeving_find_1 x0 x1
abbrev t131:=((List (ByteArray×Int))×List (ByteArray×(List (ByteArray×Int×Int×Int))×Bool))→(ByteArray)→Option (Int)
noncomputable def k131 (reeving_find:t131):Ctr:=⟨[T25,.str],[],[],.one i64,fun x _ _=>reeving_find x.1 x.2.1⟩
noncomputable def c131:Ctr:=k131 reeving_find
theorem e131 (lp:Lp) (jn:Jn) (slices_IndexFunc_167:t167) (reeving_find_1:t168):∀(x:TsS c131.as) (F:TsF c131.fs) (y:TsS c131.cs),reeving_find_b lp jn slices_IndexFunc_167 reeving_find_1 x.1 x.2.1=runC lp jn (cx [(168,⟨[T66],[],[.str],.one .bool,fun x _ y=>reeving_find_1 x.1 y.1⟩),(167,k167 slices_IndexFunc_167)] [(134,r134)]) hints 4 131 f131 c131 x F y:=fun x F y=>by kernel_rfl
theorem ok131:c131.ok prog 131:=Ctr.of_den (ctxT_ok (ctxOf_cons (ctxOf_cons (q134) (by kernel_rfl) ok167) (by kernel_rfl) ok168)) hmix (hl:=hints) (d:=4) func131 rfl (by decide) (e131 lpK jnK slices_IndexFunc_167 reeving_find_1)
noncomputable def ratio_gcd_b (lp:Lp) (_:Jn) (x0:Int) (x1:Int):Option Int :=
 lp (Int×Int×PUnit) Int (fun (again:Int×Int×PUnit→Option Int) (x:Int×Int×PUnit)=>bif !decide (x.2.1=0) then bif nzB x.2.1 then again (x.2.1,
  Int.tmod x.1 x.2.1,PUnit.unit) else none else some x.1) (x0,x1,PUnit.unit)
noncomputable def ratio_gcd (x0:Int) (x1:Int):Option Int:=ratio_gcd_b lpK jnK x0 x1
abbrev t75:=(Int)→(Int)→Option (Int)
noncomputable def k75 (ratio_gcd:t75):Ctr:=⟨[(.int .u64),(.int .u64)],[],[],.one (.int .u64),fun x _ _=>ratio_gcd x.1 x.2.1⟩
noncomputable def c75:Ctr:=k75 ratio_gcd
theorem e75 (lp:Lp) (jn:Jn):∀(x:TsS c75.as) (F:TsF c75.fs) (y:TsS c75.cs),ratio_gcd_b lp jn x.1 x.2.1=runC lp jn (cx [] [(134,r134)]) hints 4 75 f75 c75 x F y:=fun x F y=>by kernel_rfl
theorem ok75:c75.ok prog 75:=Ctr.of_den (ctxT_ok (q134)) hmix (hl:=hints) (d:=4) func75 rfl (by decide) (e75 lpK jnK)
noncomputable def ratio_size_b (_:Lp) (_:Jn) (x0:Int):Option Int :=
 
 let v3:Int:=IntKind.wrap .u64 x0;bif decide (x0<0) then some (IntKind.wrap .u64 (0 - v3)) else some v3
noncomputable def ratio_size (x0:Int):Option Int:=ratio_size_b lpK jnK x0
abbrev t77:=(Int)→Option (Int)
noncomputable def k77 (ratio_size:t77):Ctr:=⟨[i64],[],[],.one (.int .u64),fun x _ _=>ratio_size x.1⟩
noncomputable def c77:Ctr:=k77 ratio_size
theorem e77 (lp:Lp) (jn:Jn):∀(x:TsS c77.as) (F:TsF c77.fs) (y:TsS c77.cs),ratio_size_b lp jn x.1=runC lp jn (cx [] [(134,r134)]) hints 4 77 f77 c77 x F y:=fun x F y=>by kernel_rfl
theorem ok77:c77.ok prog 77:=Ctr.of_den (ctxT_ok (q134)) hmix (hl:=hints) (d:=4) func77 rfl (by decide) (e77 lpK jnK)
noncomputable def ratio_Valid_b (_:Lp) (_:Jn) (ratio_gcd:t75) (ratio_size:t77) (x0:Int×Int):Option Bool :=
 
 let v3:Bool:=decide (x0.2≥1);
 let v4:Bool:=!v3||v3;
 let v5:Bool:=bif v3 then decide (x0.2≤1152921504606846976) else false;
 let v6:Bool:=bif v5 then decide (x0.1≥(-1152921504606846976)) else false;
 let v7:Bool:=!v5||v5;
 let v8:Bool:=bif v6 then decide (x0.1≤1152921504606846976) else false;
 let v9:Bool:=!v6||v6;
 let v10:Bool:=!v8||v8;bif v4 then bif v4 then bif v4 then bif v7 then bif v7 then bif v7 then bif v9 then bif v9 then bif v9 then bif v10 then bif v10 then obind (bif v8 then
  ratio_size x0.1 else some 0) fun (t:Int)=>bif v10 then bif v10 then bif v10&&v10 then obind (bif v8 then ratio_gcd t (IntKind.wrap .u64 x0.2) else some (0 :
  Int)) fun (t:Int)=>bif v10 then bif v10 then some (bif v8 then decide (t=1) else false) else none else none else none else none else none else none else none else none
  else none else none else none else none else none else none else none else none
noncomputable def ratio_Valid (x0:Int×Int):Option Bool:=ratio_Valid_b lpK jnK ratio_gcd ratio_size x0
abbrev t72:=(Int×Int)→Option (Bool)
noncomputable def k72 (ratio_Valid:t72):Ctr:=⟨[T49],[],[],.one .bool,fun x _ _=>ratio_Valid x.1⟩
noncomputable def c72:Ctr:=k72 ratio_Valid
theorem e72 (lp:Lp) (jn:Jn) (ratio_gcd:t75) (ratio_size:t77):∀(x:TsS c72.as) (F:TsF c72.fs) (y:TsS c72.cs),ratio_Valid_b lp jn ratio_gcd ratio_size x.1=runC lp jn (cx [(77,k77 ratio_size),(75,k75 ratio_gcd)] [(134,r134)]) hints 4 72 f72 c72 x F y:=fun x F y=>by kernel_rfl
theorem ok72:c72.ok prog 72:=Ctr.of_den (ctxT_ok (ctxOf_cons (ctxOf_cons (q134) (by kernel_rfl) ok75) (by kernel_rfl) ok77)) hmix (hl:=hints) (d:=4) func72 rfl (by decide) (e72 lpK jnK ratio_gcd ratio_size)
noncomputable def reeving_lossy_b (_:Lp) (_:Jn) (ratio_Valid:t72) (x0:Int×Int):Option Bool :=
 obind (ratio_Valid x0) fun (t:Bool) =>
 let v4:Bool:=!t||t;
 let v5:Bool:=bif t then decide (x0.1≥x0.2) else false;
 let v6:Bool:=!v5||v5;bif v4 then bif v4 then bif v4&&v4 then bif v4 then bif v6 then bif v6 then bif v6 then some (bif v5 then decide (x0.1≤100) else false) else none
  else none else none else none else none else none else none
noncomputable def reeving_lossy (x0:Int×Int):Option Bool:=reeving_lossy_b lpK jnK ratio_Valid x0
abbrev t180:=(Int×Int)→Option (Bool)
noncomputable def c180:Ctr:=⟨[T49],[],[],.one .bool,fun x _ _=>reeving_lossy x.1⟩
theorem e180 (lp:Lp) (jn:Jn) (ratio_Valid:t72):∀(x:TsS c180.as) (F:TsF c180.fs) (y:TsS c180.cs),reeving_lossy_b lp jn ratio_Valid x.1=runC lp jn (cx [(72,k72 ratio_Valid)] [(134,r134)]) hints 4 180 f180 c180 x F y:=fun x F y=>by kernel_rfl
theorem ok180:c180.ok prog 180:=Ctr.of_den (ctxT_ok (ctxOf_cons (q134) (by kernel_rfl) ok72)) hmix (hl:=hints) (d:=4) func180 rfl (by decide) (e180 lpK jnK ratio_Valid)
noncomputable def reeving_hold_b (_:Lp) (_:Jn) (reeving_find:t131) (reeving_lossy:t180) (x0:(List (ByteArray×Int))×List (ByteArray×(List (ByteArray×Int×Int×Int))×Bool)) (x1:ByteArray×Int×Int×Int) (x2:Bool):Option Bool :=
 
 let v5:Bool:=!x2;
 let v6:Bool:=v5||x2;
 let v7:Bool:=decide (x1.2.1=0);
 let v8:Bool:=decide (x1.2.1=1);
 let v9:Bool:=decide (x1.2.1=2);
 let v10:Bool:=!v8;
 let v11:Bool:=!v9;
 let v12:Bool:=bif v9 then true else v7;
 let v13:Bool:=!v10||v10;
 let v14:Bool:=!v11||v11;
 let v15:Bool:=!v12;
 let v16:Bool:=bif x2 then !(decide (x1.2.2.1=1)&&(decide (x1.2.2.2=1)&&true)) else false;
 let v17:Bool:=!v16;
 let v18:Bool:=!v17;
 let v19:Bool:=v17&&v5;
 let v20:Bool:=!v15||v15;
 let v21:Bool:=v18||v17;
 let v22:Bool:=!v19||v19;bif v6 then bif v6&&v6 then bif v6 then bif v21 then bif v21 then bif v22 then bif v22 then obind (bif v19 then reeving_lossy x1.2.2 else some false)
  fun (t:Bool)=>bif v22 then bif (v18||v21)&&(v18||(!v5||(v18||v19))) then bif v16||v17 then bif bif v16 then true else bif v5 then !t else false then some false else bif
  List.beq (ByteArray.toList x1.1) (ByteArray.toList { data:=#[] }) then some v7 else obind (reeving_find x0 x1.1) fun (t:Int)=>bif decide (t<0) then some false else
  bif x2 then bif v13 then bif v13 then bif v8||v10 then some (bif v8 then true else decide (x1.2.1=(-1))) else none else none else none else bif v14 then bif v14 then bif
  v9||v11 then bif v20 then bif v20 then bif v12||v15 then some (bif v12 then true else decide (x1.2.1=(-2))) else none else none else none else none else none else none
  else none else none else none else none else none else none else none else none else none else none
noncomputable def reeving_hold (x0:(List (ByteArray×Int))×List (ByteArray×(List (ByteArray×Int×Int×Int))×Bool)) (x1:ByteArray×Int×Int×Int) (x2:Bool):Option Bool:=reeving_hold_b lpK jnK reeving_find reeving_lossy x0 x1 x2
abbrev t162:=((List (ByteArray×Int))×List (ByteArray×(List (ByteArray×Int×Int×Int))×Bool))→(ByteArray×Int×Int×Int)→(Bool)→Option (Bool)
noncomputable def k162 (reeving_hold:t162):Ctr:=⟨[T25,T134,.bool],[],[],.one .bool,fun x _ _=>reeving_hold x.1 x.2.1 x.2.2.1⟩
noncomputable def c162:Ctr:=k162 reeving_hold
theorem e162 (lp:Lp) (jn:Jn) (reeving_find:t131) (reeving_lossy:t180):∀(x:TsS c162.as) (F:TsF c162.fs) (y:TsS c162.cs),reeving_hold_b lp jn reeving_find reeving_lossy x.1 x.2.1 x.2.2.1=runC lp jn (cx [(180,⟨[T49],[],[],.one .bool,fun x _ _=>reeving_lossy x.1⟩),(131,k131 reeving_find)] [(134,r134)]) hints 4 162 f162 c162 x F y:=fun x F y=>by kernel_rfl
theorem ok162:c162.ok prog 162:=Ctr.of_den (ctxT_ok (ctxOf_cons (ctxOf_cons (q134) (by kernel_rfl) ok131) (by kernel_rfl) ok180)) hmix (hl:=hints) (d:=4) func162 rfl (by decide) (e162 lpK jnK reeving_find reeving_lossy)
noncomputable def reeving_rope_b (lp:Lp) (_:Jn) (reeving_within:t114) (reeving_hold:t162) (x0:(List (ByteArray×Int))×List (ByteArray×(List (ByteArray×Int×Int×Int))×Bool)) (x1:ByteArray×(List (ByteArray×Int×Int×Int))×Bool):Option Bool :=
 
 let v4:Bool:=!x1.2.2;
 let v5:Bool:=!v4;
 let v6:Bool:=!v5;
 let v7:Int:=IntKind.wrap .i64 ((↑(List.length x1.2.1):Int) - 1);
 let v8:Bool:=v6||v5;obind (reeving_within (↑(List.length x1.2.1):Int) 2 10) fun (t:Bool)=>bif !t then some false else lp (Int×PUnit) Bool (fun (again :
  Int×PUnit→Option Bool) (x:Int×PUnit) =>
 let v12:Bool:=decide (x.1=0);
 let v13:Bool:=!v12;
 let v14:Bool:=!v13||v13;bif decide (x.1<(↑(List.length x1.2.1):Int)) then bif inB x.1 (List.length x1.2.1) then bif v14 then bif v14&&v14 then bif v12||v13 then
  obind (reeving_hold x0 (List.getD x1.2.1 (Int.toNat x.1) ({ data:={ toList:=[] } },0,0,0)) (bif v12 then true else decide (x.1=v7))) fun (t :
  Bool)=>bif !t then some false else again (IntKind.wrap .i64 (x.1+1),PUnit.unit) else none else none else none else none else bif v8 then bif v8 then bif v8&&(v8
  && (v6||inB v7 (List.length x1.2.1))) then bif v8 then bif v8 then bif v8 then bif v4||v5 then some (bif v4 then true else List.beq (ByteArray.toList (List.getD x1.2.1
  (Int.toNat v7) ({ data:={ toList:=[] } },0,0,0)).1) (ByteArray.toList { data:=#[] })) else none else none else none else none else none else none else
  none) (0,PUnit.unit)
noncomputable def reeving_rope (x0:(List (ByteArray×Int))×List (ByteArray×(List (ByteArray×Int×Int×Int))×Bool)) (x1:ByteArray×(List (ByteArray×Int×Int×Int))×Bool):Option Bool:=reeving_rope_b lpK jnK reeving_within reeving_hold x0 x1
abbrev t117:=((List (ByteArray×Int))×List (ByteArray×(List (ByteArray×Int×Int×Int))×Bool))→(ByteArray×(List (ByteArray×Int×Int×Int))×Bool)→Option (Bool)
noncomputable def c117:Ctr:=⟨[T25,T75],[],[],.one .bool,fun x _ _=>reeving_rope x.1 x.2.1⟩
theorem e117 (lp:Lp) (jn:Jn) (reeving_within:t114) (reeving_hold:t162):∀(x:TsS c117.as) (F:TsF c117.fs) (y:TsS c117.cs),reeving_rope_b lp jn reeving_within reeving_hold x.1 x.2.1=runC lp jn (cx [(162,k162 reeving_hold),(114,k114 reeving_within)] [(134,r134)]) hints 4 117 f117 c117 x F y:=fun x F y=>by kernel_rfl
theorem ok117:c117.ok prog 117:=Ctr.of_den (ctxT_ok (ctxOf_cons (ctxOf_cons (q134) (by kernel_rfl) ok114) (by kernel_rfl) ok162)) hmix (hl:=hints) (d:=4) func117 rfl (by decide) (e117 lpK jnK reeving_within reeving_hold)
noncomputable def reeving_Valid_b (lp:Lp) (_:Jn) (reeving_within:t114) (decimal_IsName:t116) (reeving_rope:t117) (x0:(List (ByteArray×Int))×List (ByteArray×(List (ByteArray×Int×Int×Int))×Bool)):Option Bool :=
 obind (reeving_within (↑(List.length x0.1):Int) 1 6) fun (t:Bool) =>
 let v4:Bool:=!t;
 let v5:Bool:=!v4;
 let v6:Bool:=!v5||v5;bif v6 then bif v6 then bif v6 then obind (bif v5 then reeving_within (↑(List.length x0.2):Int) 1 6 else some false) fun (t:Bool)=>bif
  v6 then bif v4||v5 then bif bif v4 then true else !t then some false else lp (Int×List (ByteArray×Bool)×PUnit) Bool (fun (again:Int×List (ByteArray×Bool)×PUnit→Option
  Bool) (x:Int×List (ByteArray×Bool)×PUnit) =>
 let v10:ByteArray×Int:=List.getD x0.1 (Int.toNat x.1) ({ data:={ toList:=[] } },0);bif decide (x.1<(↑(List.length x0.1):Int)) then bif inB x.1
  (List.length x0.1) then obind (decimal_IsName v10.1) fun (t:Bool) =>
 let v12:Bool:=!t||t;bif v12&&v12 then bif v12 then bif v12 then bif (!!!bif t then !getM str Sh.bool v10.1 false x.2.1 else false)||!!bif t then !getM str Sh.bool v10.1
  false x.2.1 else false then bif (!!!bif t then !getM str Sh.bool v10.1 false x.2.1 else false)||!!bif t then !getM str Sh.bool v10.1 false x.2.1 else false then obind
  (bif !!bif t then !getM str Sh.bool v10.1 false x.2.1 else false then reeving_within v10.2 0 16777216 else some false) fun (t_1:Bool)=>bif (!!!bif t then
  !getM str Sh.bool v10.1 false x.2.1 else false)||!!bif t then !getM str Sh.bool v10.1 false x.2.1 else false then bif (!bif t then !getM str Sh.bool v10.1 false
  x.2.1 else false)||!!bif t then !getM str Sh.bool v10.1 false x.2.1 else false then bif bif !bif t then !getM str Sh.bool v10.1 false x.2.1 else false then true else
  !t_1 then some false else again (IntKind.wrap .i64 (x.1+1),putM str Sh.bool v10.1 true x.2.1,PUnit.unit) else none else none else none else none else none
  else none else none else none else lp (Int×Int×List (ByteArray×Bool)×PUnit) Bool (fun (again:Int×Int×List (ByteArray×Bool)×PUnit→Option Bool) (x:Int×Int×List
  (ByteArray×Bool)×PUnit) =>
 let v13:ByteArray×List (ByteArray×Int×Int×Int)×Bool:=List.getD x0.2 (Int.toNat x.2.1) ({ data:={ toList:=[] } },[],false);bif decide (x.2.1<(↑(List.length
  x0.2):Int)) then bif inB x.2.1 (List.length x0.2) then obind (decimal_IsName v13.1) fun (t:Bool) =>
 let v15:Bool:=!t||t;bif v15&&v15 then bif v15 then bif v15 then bif ((!!!bif t then !getM str Sh.bool v13.1 false x.2.2.1 else false)||!!bif t then !getM str Sh.bool
  v13.1 false x.2.2.1 else false)&&((!!!bif t then !getM str Sh.bool v13.1 false x.2.2.1 else false)||!!bif t then !getM str Sh.bool v13.1 false x.2.2.1 else
  false) then obind (bif !!bif t then !getM str Sh.bool v13.1 false x.2.2.1 else false then reeving_rope x0 v13 else some false) fun (t_1:Bool)=>bif (!!!bif t then !getM str
  Sh.bool v13.1 false x.2.2.1 else false)||!!bif t then !getM str Sh.bool v13.1 false x.2.2.1 else false then bif (!bif t then !getM str Sh.bool v13.1 false
  x.2.2.1 else false)||!!bif t then !getM str Sh.bool v13.1 false x.2.2.1 else false then bif bif !bif t then !getM str Sh.bool v13.1 false x.2.2.1 else false then
  true else !t_1 then some false else bif v13.2.2 then again (IntKind.wrap .i64 (x.1+1),IntKind.wrap .i64 (x.2.1+1),putM str Sh.bool v13.1
  true x.2.2.1,PUnit.unit) else again (x.1,IntKind.wrap .i64 (x.2.1+1),putM str Sh.bool v13.1 true x.2.2.1,PUnit.unit) else none else none else
  none else none else none else none else none else some (decide (x.1≤1))) (0,0,x.2.1,PUnit.unit)) (0,[],PUnit.unit) else none else none else
  none else none else none
noncomputable def reeving_Valid (x0:(List (ByteArray×Int))×List (ByteArray×(List (ByteArray×Int×Int×Int))×Bool)):Option Bool:=reeving_Valid_b lpK jnK reeving_within decimal_IsName reeving_rope x0
abbrev t59:=((List (ByteArray×Int))×List (ByteArray×(List (ByteArray×Int×Int×Int))×Bool))→Option (Bool)
noncomputable def k59 (reeving_Valid:t59):Ctr:=⟨[T25],[],[],.one .bool,fun x _ _=>reeving_Valid x.1⟩
noncomputable def c59:Ctr:=k59 reeving_Valid
theorem e59 (lp:Lp) (jn:Jn) (reeving_within:t114) (decimal_IsName:t116) (reeving_rope:t117):∀(x:TsS c59.as) (F:TsF c59.fs) (y:TsS c59.cs),reeving_Valid_b lp jn reeving_within decimal_IsName reeving_rope x.1=runC lp jn (cx [(117,⟨[T25,T75],[],[],.one .bool,fun x _ _=>reeving_rope x.1 x.2.1⟩),(116,⟨[.str],[],[],.one .bool,fun x _ _=>decimal_IsName x.1⟩),(114,k114 reeving_within)] [(134,r134)]) hints 4 59 f59 c59 x F y:=fun x F y=>by kernel_rfl
theorem ok59:c59.ok prog 59:=Ctr.of_den (ctxT_ok (ctxOf_cons (ctxOf_cons (ctxOf_cons (q134) (by kernel_rfl) ok114) (by kernel_rfl) ok116) (by kernel_rfl) ok117)) hmix (hl:=hints) (d:=4) func59 rfl (by decide) (e59 lpK jnK reeving_within decimal_IsName reeving_rope)
noncomputable def reeving_Matrix_b (lp:Lp) (_:Jn) (reeving_find:t131) (reeving_Valid:t59) (x0:(List (ByteArray×Int))×List (ByteArray×(List (ByteArray×Int×Int×Int))×Bool)):Option ((List (List Int))×Int×Unit) :=
 obind (reeving_Valid x0) fun (t:Bool)=>bif !t then some ([],1,PUnit.unit) else bif decide (0≤(↑(List.length x0.1):Int))&&fitB (Int.toNat (↑(List.length x0.1)
  : Int)) 24 then lp (Int×(List Nat×List (Option (List Int)))×PUnit) (List (List Int)×Int×PUnit) (fun (again:Int×(List Nat×List (Option (List Int)))×PUnit →
  Option (List (List Int)×Int×PUnit)) (x:Int×(List Nat×List (Option (List Int)))×PUnit)=>bif decide (x.1<(↑(List.length (Nat.brecOn (motive:=fun (x:Nat)=>Nat→List Nat) (Int.toNat (↑(List.length x0.1):Int)) (fun (x:Nat) (f:Nat.below (motive:=fun (x:Nat)=>Nat→List (T ref)) x) (x_1:Nat)=>(match (motive:=(x:Nat)→Nat→Nat.below (motive:=fun (x:Nat)=>Nat→List (T ref)) x→List Nat) x,x_1 with | 0,x=>fun (_:PUnit)=>[] | Nat.succ n,k=>fun (x:(Nat→List Nat) ×' Nat.rec PUnit (fun (n:Nat) (n_ih:Type)=>(fun (x:Nat)=>Nat→List (T ref)) n ×' n_ih) n)=>(k+0) ::x.1 (k+1)) f) 0)):Int)) then bif decide (0 ≤
  (↑(List.length x0.2):Int))&&fitB (Int.toNat (↑(List.length x0.2):Int)) 8 then bif inB x.1 (List.length x.2.1.1) then bif Nat.ble (Nat.succ (Int.toNat x.1))
  (List.length x.2.1.1) then again (IntKind.wrap .i64 (x.1+1),(List.set x.2.1.1 (Int.toNat x.1) (List.length x.2.1.2),x.2.1.2++[some
  (List.replicate (Int.toNat (↑(List.length x0.2):Int)) 0)]),PUnit.unit) else none else none else none else lp (Int×(List Nat×List (Option (List Int)))×PUnit) (List
  (List Int)×Int×PUnit) (fun (again:Int×(List Nat×List (Option (List Int)))×PUnit→Option (List (List Int)×Int×PUnit)) (x:Int×(List Nat×List (Option (List Int))) ×
  PUnit)=>bif decide (x.1<(↑(List.length x0.2):Int)) then bif inB x.1 (List.length x0.2) then lp (Int×(List Nat×List (Option (List Int)))×PUnit) (List (List Int)×Int
  × PUnit) (fun (again_1:Int×(List Nat×List (Option (List Int)))×PUnit→Option (List (List Int)×Int×PUnit)) (x_1:Int×(List Nat×List (Option (List Int)))×PUnit) =>
 let v10:Int:=IntKind.wrap .i64 (x_1.1+1);
 let v11:(List Nat×List (Option (List Int)))×PUnit:=(x_1.2.1,PUnit.unit);
 let v12:ByteArray×Int×Int×Int:=List.getD (List.getD x0.2 (Int.toNat x.1) ({ data:={ toList:=[] } },[],false)).2.1 (Int.toNat x_1.1) ({ data:={ toList:=[] }
  },0,0,0);bif decide (x_1.1<(↑(List.length (List.getD x0.2 (Int.toNat x.1) ({ data:={ toList:=[] } },[],false)).2.1):Int)) then bif inB
  x_1.1 (List.length (List.getD x0.2 (Int.toNat x.1) ({ data:={ toList:=[] } },[],false)).2.1) then obind (reeving_find x0 v12.1) fun (t:Int)=>bif decide (t≥(0 :
  Int)) then bif inB t (List.length x_1.2.1.1) then bif Nat.ble (Nat.succ (Int.toNat t)) (List.length x_1.2.1.1) then bif inB x.1 (List.length (rowD x_1.2.1.2
  (List.getD x_1.2.1.1 (Int.toNat t) 0))) then bif Nat.ble (Nat.succ (Int.toNat x.1)) (List.length (rowD x_1.2.1.2 (List.getD x_1.2.1.1 (Int.toNat t) (0 :
  Nat)))) then bif inB x.1 (List.length (rowD x_1.2.1.2 (List.getD x_1.2.1.1 (Int.toNat t) 0))) then bif Nat.ble (Nat.succ (Int.toNat x.1)) (List.length (rowD
  x_1.2.1.2 (List.getD x_1.2.1.1 (Int.toNat t) 0))) then again_1 (v10,(x_1.2.1.1,List.set x_1.2.1.2 (List.getD x_1.2.1.1 (Int.toNat t) 0)
  (some (List.set (rowD x_1.2.1.2 (List.getD x_1.2.1.1 (Int.toNat t) 0)) (Int.toNat x.1) (IntKind.wrap .i64 (List.getD (rowD x_1.2.1.2 (List.getD
  x_1.2.1.1 (Int.toNat t) 0)) (Int.toNat x.1) 0+v12.2.1))))),PUnit.unit) else none else none else none else none else none else none else again_1 (v10,v11)
  else none else again (IntKind.wrap .i64 (x.1+1),v11)) (0,x.2.1,PUnit.unit) else none else bif List.all x.2.1.1 fun (x_1:Nat)=>liveB
  x.2.1.2 x_1 then some (List.map (fun (x_1:Nat)=>rowD x.2.1.2 x_1) x.2.1.1,0,PUnit.unit) else none) (0,x.2.1,PUnit.unit)) (0,
  (Nat.brecOn (motive:=fun (x:Nat)=>Nat→List Nat) (Int.toNat (↑(List.length x0.1):Int)) (fun (x:Nat) (f:Nat.below (motive:=fun (x:Nat)=>Nat→List (T ref)) x) (x_1:Nat)=>(match (motive:=(x:Nat)→Nat→Nat.below (motive:=fun (x:Nat)=>Nat→List (T ref)) x→List Nat) x,x_1 with | 0,x=>fun (_:PUnit)=>[] | Nat.succ n,k=>fun (x:(Nat→List Nat) ×' Nat.rec PUnit (fun (n:Nat) (n_ih:Type)=>(fun (x:Nat)=>Nat→List (T ref)) n ×' n_ih) n)=>(k+0) ::x.1 (k+1)) f) 0,List.replicate (Int.toNat (↑(List.length x0.1):Int)) (some [])),PUnit.unit) else none
noncomputable def reeving_Matrix (x0:(List (ByteArray×Int))×List (ByteArray×(List (ByteArray×Int×Int×Int))×Bool)):Option ((List (List Int))×Int×Unit):=reeving_Matrix_b lpK jnK reeving_find reeving_Valid x0
abbrev t87:=((List (ByteArray×Int))×List (ByteArray×(List (ByteArray×Int×Int×Int))×Bool))→Option ((List (List Int))×Int×Unit)
noncomputable def k87 (reeving_Matrix:t87):Ctr:=⟨[T25],[],[],.tup [(.sl (.sl i64)),i64],fun x _ _=>reeving_Matrix x.1⟩
noncomputable def c87:Ctr:=k87 reeving_Matrix
theorem e87 (lp:Lp) (jn:Jn) (reeving_find:t131) (reeving_Valid:t59):∀(x:TsS c87.as) (F:TsF c87.fs) (y:TsS c87.cs),reeving_Matrix_b lp jn reeving_find reeving_Valid x.1=runC lp jn (cx [(59,k59 reeving_Valid),(131,k131 reeving_find)] [(134,r134)]) hints 4 87 f87 c87 x F y:=fun x F y=>by kernel_rfl
theorem ok87:c87.ok prog 87:=Ctr.of_den (ctxT_ok (ctxOf_cons (ctxOf_cons (q134) (by kernel_rfl) ok131) (by kernel_rfl) ok59)) hmix (hl:=hints) (d:=4) func87 rfl (by decide) (e87 lpK jnK reeving_find reeving_Valid)
noncomputable def reeving_Weights_b (lp:Lp) (_:Jn) (reeving_Valid:t59) (x0:(List (ByteArray×Int))×List (ByteArray×(List (ByteArray×Int×Int×Int))×Bool)):Option ((List Int)×Int×Unit) :=
 obind (reeving_Valid x0) fun (t:Bool)=>bif !t then some ([],1,PUnit.unit) else lp (List Int×Int×PUnit) (List Int×Int×PUnit) (fun (again:List Int×Int×PUnit →
  Option (List Int×Int×PUnit)) (x:List Int×Int×PUnit)=>bif decide (x.2.1<(↑(List.length x0.1):Int)) then bif inB x.2.1 (List.length x0.1) then bif fitB
  (List.length x.1+1) 8 then again (x.1++[(List.getD x0.1 (Int.toNat x.2.1) ({ data:={ toList:=[] } },0)).2],IntKind.wrap .i64
  (x.2.1+1),PUnit.unit) else none else none else some (x.1,0,PUnit.unit)) ([],0,PUnit.unit)
noncomputable def reeving_Weights (x0:(List (ByteArray×Int))×List (ByteArray×(List (ByteArray×Int×Int×Int))×Bool)):Option ((List Int)×Int×Unit):=reeving_Weights_b lpK jnK reeving_Valid x0
abbrev t88:=((List (ByteArray×Int))×List (ByteArray×(List (ByteArray×Int×Int×Int))×Bool))→Option ((List Int)×Int×Unit)
noncomputable def k88 (reeving_Weights:t88):Ctr:=⟨[T25],[],[],.tup [(.sl i64),i64],fun x _ _=>reeving_Weights x.1⟩
noncomputable def c88:Ctr:=k88 reeving_Weights
theorem e88 (lp:Lp) (jn:Jn) (reeving_Valid:t59):∀(x:TsS c88.as) (F:TsF c88.fs) (y:TsS c88.cs),reeving_Weights_b lp jn reeving_Valid x.1=runC lp jn (cx [(59,k59 reeving_Valid)] [(134,r134)]) hints 4 88 f88 c88 x F y:=fun x F y=>by kernel_rfl
theorem ok88:c88.ok prog 88:=Ctr.of_den (ctxT_ok (ctxOf_cons (q134) (by kernel_rfl) ok59)) hmix (hl:=hints) (d:=4) func88 rfl (by decide) (e88 lpK jnK reeving_Valid)
noncomputable def slack_made_b (lp:Lp) (_:Jn) (reeving_Matrix:t87) (reeving_Weights:t88) (x0:(List (ByteArray×Int))×List (ByteArray×(List (ByteArray×Int×Int×Int))×Bool)) (x1:List Int):Option (((List Int)×List ((List Int)×Int×Int))×Int×Unit) :=
 obind (reeving_Matrix x0) fun (t:List (List Int)×Int×PUnit)=>bif !decide (t.2.1=0) then some (([],[]),t.2.1,PUnit.unit) else obind (reeving_Weights x0) fun (t_1
  : List Int×Int×PUnit)=>bif !decide (t_1.2.1=0) then some (([],[]),t_1.2.1,PUnit.unit) else lp (Int×List Int×List (List Int×Int×Int)×PUnit) ((List
  Int×List (List Int×Int×Int))×Int×PUnit) (fun (again:Int×List Int×List (List Int×Int×Int)×PUnit→Option ((List Int×List (List Int×Int×Int))×Int×PUnit))
  (x:Int×List Int×List (List Int×Int×Int)×PUnit)=>bif decide (x.1<(↑(List.length t.1):Int)) then bif inB x.1 (List.length t.1) then bif inB x.1 (List.length
  t_1.1) then bif fitB (List.length x.2.2.1+1) 40 then again (IntKind.wrap .i64 (x.1+1),x.2.1,x.2.2.1++[(List.getD t.1
  (Int.toNat x.1) [],3,List.getD t_1.1 (Int.toNat x.1) 0)],PUnit.unit) else none else none else none else some ((x.2.1,x.2.2.1),0,
  PUnit.unit)) (0,x1,[],PUnit.unit)
noncomputable def slack_made (x0:(List (ByteArray×Int))×List (ByteArray×(List (ByteArray×Int×Int×Int))×Bool)) (x1:List Int):Option (((List Int)×List ((List Int)×Int×Int))×Int×Unit):=slack_made_b lpK jnK reeving_Matrix reeving_Weights x0 x1
abbrev t45:=((List (ByteArray×Int))×List (ByteArray×(List (ByteArray×Int×Int×Int))×Bool))→(List Int)→Option (((List Int)×List ((List Int)×Int×Int))×Int×Unit)
noncomputable def k45 (slack_made:t45):Ctr:=⟨[T25,(.sl i64)],[],[],.tup [T32,i64],fun x _ _=>slack_made x.1 x.2.1⟩
noncomputable def c45:Ctr:=k45 slack_made
theorem e45 (lp:Lp) (jn:Jn) (reeving_Matrix:t87) (reeving_Weights:t88):∀(x:TsS c45.as) (F:TsF c45.fs) (y:TsS c45.cs),slack_made_b lp jn reeving_Matrix reeving_Weights x.1 x.2.1=runC lp jn (cx [(88,k88 reeving_Weights),(87,k87 reeving_Matrix)] [(134,r134)]) hints 4 45 f45 c45 x F y:=fun x F y=>by kernel_rfl
theorem ok45:c45.ok prog 45:=Ctr.of_den (ctxT_ok (ctxOf_cons (ctxOf_cons (q134) (by kernel_rfl) ok87) (by kernel_rfl) ok88)) hmix (hl:=hints) (d:=4) func45 rfl (by decide) (e45 lpK jnK reeving_Matrix reeving_Weights)
noncomputable def bits_Mul64_b (_:Lp) (_:Jn) (x0:Int) (x1:Int):Option (Int×Int×Unit) :=
 
 let v4:Int:=2 ^ 32;
 let v5:Int:=Int.fdiv x0 v4;
 let v6:Int:=Int.fdiv x1 v4;
 let v7:Bool:=decide ((0:Int)≤32);
 let v8:Int:=IntKind.wrap .u64 (↑(Nat.land (Int.toNat (x1 % Int.ofNat 18446744073709551616)) (Int.toNat (4294967295 % Int.ofNat 18446744073709551616))) :
  Int);
 let v9:Int:=IntKind.wrap .u64 (↑(Nat.land (Int.toNat (x0 % Int.ofNat 18446744073709551616)) (Int.toNat (4294967295 % Int.ofNat 18446744073709551616))) :
  Int);
 let v10:Int:=IntKind.wrap .u64 (IntKind.wrap .u64 (v5*v8)+Int.fdiv (IntKind.wrap .u64 (v9*v8)) v4);bif v7 then bif v7 then bif v7 then bif v7 then bif v7
  then some (IntKind.wrap .u64 (IntKind.wrap .u64 (IntKind.wrap .u64 (v5*v6)+Int.fdiv v10 v4)+Int.fdiv (IntKind.wrap .u64 (IntKind.wrap .u64
  (↑(Nat.land (Int.toNat (v10 % Int.ofNat 18446744073709551616)) (Int.toNat (4294967295 % Int.ofNat 18446744073709551616))):Int)+IntKind.wrap .u64 (v9 *
  v6))) v4),IntKind.wrap .u64 (x0*x1),PUnit.unit) else none else none else none else none else none
noncomputable def bits_Mul64 (x0:Int) (x1:Int):Option (Int×Int×Unit):=bits_Mul64_b lpK jnK x0 x1
abbrev t122:=(Int)→(Int)→Option (Int×Int×Unit)
noncomputable def k122 (bits_Mul64:t122):Ctr:=⟨[(.int .u64),(.int .u64)],[],[],.tup [(.int .u64),(.int .u64)],fun x _ _=>bits_Mul64 x.1 x.2.1⟩
noncomputable def c122:Ctr:=k122 bits_Mul64
theorem e122 (lp:Lp) (jn:Jn):∀(x:TsS c122.as) (F:TsF c122.fs) (y:TsS c122.cs),bits_Mul64_b lp jn x.1 x.2.1=runC lp jn (cx [] [(134,r134)]) hints 4 122 f122 c122 x F y:=fun x F y=>by kernel_rfl
theorem ok122:c122.ok prog 122:=Ctr.of_den (ctxT_ok (q134)) hmix (hl:=hints) (d:=4) func122 rfl (by decide) (e122 lpK jnK)
noncomputable def bits_Mul32_b (_:Lp) (_:Jn) (x0:Int) (x1:Int):Option (Int×Int×Unit) :=
 
 let v4:Int:=IntKind.wrap .u64 (IntKind.wrap .u64 x0*IntKind.wrap .u64 x1);bif decide ((0:Int)≤32) then some (IntKind.wrap IntKind.u32 (Int.fdiv v4
  (2 ^ 32)),IntKind.wrap IntKind.u32 v4,PUnit.unit) else none
noncomputable def bits_Mul32 (x0:Int) (x1:Int):Option (Int×Int×Unit):=bits_Mul32_b lpK jnK x0 x1
noncomputable def k137 (bits_Mul32:(Int)→(Int)→Option (Int×Int×Unit)):Ctr:=⟨[(.int .u32),(.int .u32)],[],[],.tup [(.int .u32),(.int .u32)],fun x _ _=>bits_Mul32 x.1 x.2.1⟩
noncomputable def c137:Ctr:=k137 bits_Mul32
theorem e137 (lp:Lp) (jn:Jn):∀(x:TsS c137.as) (F:TsF c137.fs) (y:TsS c137.cs),bits_Mul32_b lp jn x.1 x.2.1=runC lp jn (cx [] [(134,r134)]) hints 4 137 f137 c137 x F y:=fun x F y=>by kernel_rfl
theorem ok137:c137.ok prog 137:=Ctr.of_den (ctxT_ok (q134)) hmix (hl:=hints) (d:=4) func137 rfl (by decide) (e137 lpK jnK)
noncomputable def bits_Mul_b (_:Lp) (_:Jn) (bits_Mul64:t122) (_:(Int)→(Int)→Option (Int×Int×Unit)) (x0:Int) (x1:Int):Option (Int×Int×Unit) :=
 obind (bits_Mul64 x0 x1) fun (t:Int×Int×PUnit)=>some (t.1,t.2.1,PUnit.unit)
noncomputable def bits_Mul (x0:Int) (x1:Int):Option (Int×Int×Unit):=bits_Mul_b lpK jnK bits_Mul64 bits_Mul32 x0 x1
abbrev t90:=(Int)→(Int)→Option (Int×Int×Unit)
noncomputable def k90 (bits_Mul:t90):Ctr:=⟨[(.int .u64),(.int .u64)],[],[],.tup [(.int .u64),(.int .u64)],fun x _ _=>bits_Mul x.1 x.2.1⟩
noncomputable def c90:Ctr:=k90 bits_Mul
theorem e90 (lp:Lp) (jn:Jn) (bits_Mul64:t122) (bits_Mul32:(Int)→(Int)→Option (Int×Int×Unit)):∀(x:TsS c90.as) (F:TsF c90.fs) (y:TsS c90.cs),bits_Mul_b lp jn bits_Mul64 bits_Mul32 x.1 x.2.1=runC lp jn (cx [(137,k137 bits_Mul32),(122,k122 bits_Mul64)] [(134,r134)]) hints 4 90 f90 c90 x F y:=fun x F y=>by kernel_rfl
theorem ok90:c90.ok prog 90:=Ctr.of_den (ctxT_ok (ctxOf_cons (ctxOf_cons (q134) (by kernel_rfl) ok122) (by kernel_rfl) ok137)) hmix (hl:=hints) (d:=4) func90 rfl (by decide) (e90 lpK jnK bits_Mul64 bits_Mul32)
noncomputable def slices_Repeat_46_b (lp:Lp) (jn:Jn) (bits_Mul:t90) (x0:List Int) (x1:Int):Option (List Int) :=
 jn PUnit (List Int) (fun (_:PUnit)=>obind (bits_Mul (IntKind.wrap .u64 (↑(List.length x0):Int)) (IntKind.wrap .u64 x1)) fun (t:Int×Int×PUnit) =>
 let v6:List Int:=List.take (Int.toNat (IntKind.wrap .i64 t.2.1)) x0;
 let v7:List Int:=List.replicate (Int.toNat (IntKind.wrap .i64 t.2.1)) 0;
 let v8:Bool:=decide (t.1>0);
 let v9:Bool:=!v8;bif !v9||v9 then bif v8||v9 then jn PUnit (List Int) (fun (_:PUnit)=>bif decide (0≤IntKind.wrap .i64 t.2.1)&&fitB (Int.toNat
  (IntKind.wrap .i64 t.2.1)) 8 then lp (Int×List Int×PUnit) (List Int) (fun (again:Int×List Int×PUnit→Option (List Int)) (x:Int×List Int×PUnit) =>
 let v13:List Int:=List.take (Int.toNat x.1) x.2.1;
 let v14:List Int:=List.take (Int.toNat (↑(List.length x.2.1):Int) - Int.toNat x.1) (List.drop 0 v13);bif decide (x.1<(↑(List.length x.2.1):Int)) then bif
  slB x.1 (↑(List.length x.2.1):Int) (List.length x.2.1) then bif slB 0 x.1 (List.length x.2.1) then bif Nat.ble (Int.toNat x.1) (Int.toNat (↑(List.length
  x.2.1):Int))&&(Nat.ble (Int.toNat (↑(List.length x.2.1):Int)) (List.length x.2.1)&&Nat.ble (Int.toNat x.1) (List.length x.2.1)) then again (IntKind.wrap
  IntKind.i64 (x.1+(↑(List.length v14):Int)),v13++v14++List.drop (Int.toNat x.1+List.length v14) x.2.1,PUnit.unit) else none else none else none else some x.2.1)
  ((↑(List.length v6):Int),List.take 0 v7++v6++List.drop (0+List.length v6) v7,PUnit.unit) else none) fun (j:PUnit→Option (List Int))=>bif bif v8 then true
  else decide (t.2.1>9223372036854775807) then none else j PUnit.unit else none else none) fun (j:PUnit→Option (List Int))=>bif decide (x1<0) then none else
  j PUnit.unit
noncomputable def slices_Repeat_46 (x0:List Int) (x1:Int):Option (List Int):=slices_Repeat_46_b lpK jnK bits_Mul x0 x1
abbrev t46:=(List Int)→(Int)→Option (List Int)
noncomputable def k46 (slices_Repeat_46:t46):Ctr:=⟨[(.sl i64),i64],[],[],.one (.sl i64),fun x _ _=>slices_Repeat_46 x.1 x.2.1⟩
noncomputable def c46:Ctr:=k46 slices_Repeat_46
theorem e46 (lp:Lp) (jn:Jn) (bits_Mul:t90):∀(x:TsS c46.as) (F:TsF c46.fs) (y:TsS c46.cs),slices_Repeat_46_b lp jn bits_Mul x.1 x.2.1=runC lp jn (cx [(90,k90 bits_Mul)] [(134,r134)]) hints 4 46 f46 c46 x F y:=fun x F y=>by kernel_rfl
theorem ok46:c46.ok prog 46:=Ctr.of_den (ctxT_ok (ctxOf_cons (q134) (by kernel_rfl) ok90)) hmix (hl:=hints) (d:=4) func46 rfl (by decide) (e46 lpK jnK bits_Mul)
noncomputable def slack_Program_b (_:Lp) (_:Jn) (slack_made:t45) (slices_Repeat_46:t46) (x0:(List (ByteArray×Int))×List (ByteArray×(List (ByteArray×Int×Int×Int))×Bool)):Option (((List Int)×List ((List Int)×Int×Int))×Int×Unit) :=
 obind (slices_Repeat_46 [1] (↑(List.length x0.2):Int)) fun (t:List Int)=>obind (slack_made x0 t) fun (t:(List Int×List (List Int×Int×Int))×Int×PUnit)=>some
  (t.1,t.2.1,PUnit.unit)
noncomputable def slack_Program (x0:(List (ByteArray×Int))×List (ByteArray×(List (ByteArray×Int×Int×Int))×Bool)):Option (((List Int)×List ((List Int)×Int×Int))×Int×Unit):=slack_Program_b lpK jnK slack_made slices_Repeat_46 x0
abbrev t11:=((List (ByteArray×Int))×List (ByteArray×(List (ByteArray×Int×Int×Int))×Bool))→Option (((List Int)×List ((List Int)×Int×Int))×Int×Unit)
noncomputable def k11 (slack_Program:t11):Ctr:=⟨[T25],[],[],.tup [T32,i64],fun x _ _=>slack_Program x.1⟩
noncomputable def c11:Ctr:=k11 slack_Program
theorem e11 (lp:Lp) (jn:Jn) (slack_made:t45) (slices_Repeat_46:t46):∀(x:TsS c11.as) (F:TsF c11.fs) (y:TsS c11.cs),slack_Program_b lp jn slack_made slices_Repeat_46 x.1=runC lp jn (cx [(46,k46 slices_Repeat_46),(45,k45 slack_made)] [(134,r134)]) hints 4 11 f11 c11 x F y:=fun x F y=>by kernel_rfl
theorem ok11:c11.ok prog 11:=Ctr.of_den (ctxT_ok (ctxOf_cons (ctxOf_cons (q134) (by kernel_rfl) ok45) (by kernel_rfl) ok46)) hmix (hl:=hints) (d:=4) func11 rfl (by decide) (e11 lpK jnK slack_made slices_Repeat_46)
noncomputable def program_Valid_1_1_b (_:Lp) (_:Jn) (x0:Int) (y0:Int):Option Bool :=
 
 let v4:Bool:=decide (x0<IntKind.wrap .i64 (0 - y0));
 let v5:Bool:=!v4;
 let v6:Bool:=!v5||v5;bif v6&&v6 then bif v4||v5 then some (bif v4 then true else decide (x0>y0)) else none else none
noncomputable def program_Valid_1_1 (x0:Int) (y0:Int):Option Bool:=program_Valid_1_1_b lpK jnK x0 y0
abbrev t139:=(Int)→(Int)→Option (Bool)
noncomputable def c139:Ctr:=⟨[i64],[],[i64],.one .bool,fun x _ y=>program_Valid_1_1 x.1 y.1⟩
theorem e139 (lp:Lp) (jn:Jn):∀(x:TsS c139.as) (F:TsF c139.fs) (y:TsS c139.cs),program_Valid_1_1_b lp jn x.1 y.1=runC lp jn (cx [] [(134,r134)]) hints 4 139 f139 c139 x F y:=fun x F y=>by kernel_rfl
theorem ok139:c139.ok prog 139:=Ctr.of_den (ctxT_ok (q134)) hmix (hl:=hints) (d:=4) func139 rfl (by decide) (e139 lpK jnK)
noncomputable def program_Valid_1_b (_:Lp) (_:Jn) (program_Valid_1_1:t139) (x0:Int):Option ((Int×Unit)→Option Bool) :=
 some fun (x:Int×PUnit)=>program_Valid_1_1 x.1 x0
noncomputable def program_Valid_1 (x0:Int):Option ((Int×Unit)→Option Bool):=program_Valid_1_b lpK jnK program_Valid_1_1 x0
abbrev t138:=(Int)→Option ((Int×Unit)→Option Bool)
noncomputable def g138:FCtr:=⟨[i64],[i64],.bool,fun x=>program_Valid_1 x.1⟩
theorem e138 (lp:Lp) (jn:Jn) (program_Valid_1_1:t139):∀x:TsS g138.as,program_Valid_1_b lp jn program_Valid_1_1 x.1=runF lp jn (cx [(139,⟨[i64],[],[i64],.one .bool,fun x _ y=>program_Valid_1_1 x.1 y.1⟩)] [(134,r134)]) hints 4 138 f138 g138 x:=fun x=>by kernel_rfl
theorem okg138:g138.ok prog 138:=FCtr.of_den (ctxT_ok (ctxOf_cons (q134) (by kernel_rfl) ok139)) hmix (hl:=hints) (d:=4) func138 rfl (by decide) (e138 lpK jnK program_Valid_1_1)
noncomputable def slices_IndexFunc_173_b (lp:Lp) (_:Jn) (x0:List Int) (f0:((Int×Unit)→Option Bool)):Option Int :=
 lp (Int×PUnit) Int (fun (again:Int×PUnit→Option Int) (x:Int×PUnit)=>bif decide (x.1<(↑(List.length x0):Int)) then bif inB x.1 (List.length x0) then obind (f0
  (List.getD x0 (Int.toNat x.1) 0,PUnit.unit)) fun (t:Bool)=>bif t then some x.1 else again (IntKind.wrap .i64 (x.1+1),PUnit.unit) else none else some
  (-1)) (0,PUnit.unit)
noncomputable def slices_IndexFunc_173 (x0:List Int) (f0:((Int×Unit)→Option Bool)):Option Int:=slices_IndexFunc_173_b lpK jnK x0 f0
abbrev t173:=(List Int)→(((Int×Unit)→Option Bool))→Option (Int)
noncomputable def k173 (slices_IndexFunc_173:t173):Ctr:=⟨[(.sl i64)],[([i64],.bool)],[],.one i64,fun x F _=>slices_IndexFunc_173 x.1 F.1⟩
noncomputable def c173:Ctr:=k173 slices_IndexFunc_173
theorem e173 (lp:Lp) (jn:Jn):∀(x:TsS c173.as) (F:TsF c173.fs) (y:TsS c173.cs),slices_IndexFunc_173_b lp jn x.1 F.1=runC lp jn (cx [] [(134,r134)]) hints 4 173 f173 c173 x F y:=fun x F y=>by kernel_rfl
theorem ok173:c173.ok prog 173:=Ctr.of_den (ctxT_ok (q134)) hmix (hl:=hints) (d:=4) func173 rfl (by decide) (e173 lpK jnK)
noncomputable def slices_ContainsFunc_140_b (_:Lp) (_:Jn) (slices_IndexFunc_173:t173) (x0:List Int) (f0:((Int×Unit)→Option Bool)):Option Bool :=
 obind (slices_IndexFunc_173 x0 f0) fun (t:Int)=>some (decide (t≥0))
noncomputable def slices_ContainsFunc_140 (x0:List Int) (f0:((Int×Unit)→Option Bool)):Option Bool:=slices_ContainsFunc_140_b lpK jnK slices_IndexFunc_173 x0 f0
abbrev t140:=(List Int)→(((Int×Unit)→Option Bool))→Option (Bool)
noncomputable def k140 (slices_ContainsFunc_140:t140):Ctr:=⟨[(.sl i64)],[([i64],.bool)],[],.one .bool,fun x F _=>slices_ContainsFunc_140 x.1 F.1⟩
noncomputable def c140:Ctr:=k140 slices_ContainsFunc_140
theorem e140 (lp:Lp) (jn:Jn) (slices_IndexFunc_173:t173):∀(x:TsS c140.as) (F:TsF c140.fs) (y:TsS c140.cs),slices_ContainsFunc_140_b lp jn slices_IndexFunc_173 x.1 F.1=runC lp jn (cx [(173,k173 slices_IndexFunc_173)] [(134,r134)]) hints 4 140 f140 c140 x F y:=fun x F y=>by kernel_rfl
theorem ok140:c140.ok prog 140:=Ctr.of_den (ctxT_ok (ctxOf_cons (q134) (by kernel_rfl) ok173)) hmix (hl:=hints) (d:=4) func140 rfl (by decide) (e140 lpK jnK slices_IndexFunc_173)
noncomputable def slices_IndexFunc_174_b (lp:Lp) (_:Jn) (x0:List ((List Int)×Int×Int)) (f0:((((List Int)×Int×Int)×Unit)→Option Bool)):Option Int :=
 lp (Int×PUnit) Int (fun (again:Int×PUnit→Option Int) (x:Int×PUnit)=>bif decide (x.1<(↑(List.length x0):Int)) then bif inB x.1 (List.length x0) then obind (f0
  (List.getD x0 (Int.toNat x.1) ([],0,0),PUnit.unit)) fun (t:Bool)=>bif t then some x.1 else again (IntKind.wrap .i64 (x.1+1),PUnit.unit)
  else none else some (-1)) (0,PUnit.unit)
noncomputable def slices_IndexFunc_174 (x0:List ((List Int)×Int×Int)) (f0:((((List Int)×Int×Int)×Unit)→Option Bool)):Option Int:=slices_IndexFunc_174_b lpK jnK x0 f0
abbrev t174:=(List ((List Int)×Int×Int))→(((((List Int)×Int×Int)×Unit)→Option Bool))→Option (Int)
noncomputable def k174 (slices_IndexFunc_174:t174):Ctr:=⟨[(.sl T86)],[([T86],.bool)],[],.one i64,fun x F _=>slices_IndexFunc_174 x.1 F.1⟩
noncomputable def c174:Ctr:=k174 slices_IndexFunc_174
theorem e174 (lp:Lp) (jn:Jn):∀(x:TsS c174.as) (F:TsF c174.fs) (y:TsS c174.cs),slices_IndexFunc_174_b lp jn x.1 F.1=runC lp jn (cx [] [(134,r134)]) hints 4 174 f174 c174 x F y:=fun x F y=>by kernel_rfl
theorem ok174:c174.ok prog 174:=Ctr.of_den (ctxT_ok (q134)) hmix (hl:=hints) (d:=4) func174 rfl (by decide) (e174 lpK jnK)
noncomputable def slices_ContainsFunc_141_b (_:Lp) (_:Jn) (slices_IndexFunc_174:t174) (x0:List ((List Int)×Int×Int)) (f0:((((List Int)×Int×Int)×Unit)→Option Bool)):Option Bool :=
 obind (slices_IndexFunc_174 x0 f0) fun (t:Int)=>some (decide (t≥0))
noncomputable def slices_ContainsFunc_141 (x0:List ((List Int)×Int×Int)) (f0:((((List Int)×Int×Int)×Unit)→Option Bool)):Option Bool:=slices_ContainsFunc_141_b lpK jnK slices_IndexFunc_174 x0 f0
noncomputable def k141 (slices_ContainsFunc_141:(List ((List Int)×Int×Int))→(((((List Int)×Int×Int)×Unit)→Option Bool))→Option (Bool)):Ctr:=⟨[(.sl T86)],[([T86],.bool)],[],.one .bool,fun x F _=>slices_ContainsFunc_141 x.1 F.1⟩
noncomputable def c141:Ctr:=k141 slices_ContainsFunc_141
theorem e141 (lp:Lp) (jn:Jn) (slices_IndexFunc_174:t174):∀(x:TsS c141.as) (F:TsF c141.fs) (y:TsS c141.cs),slices_ContainsFunc_141_b lp jn slices_IndexFunc_174 x.1 F.1=runC lp jn (cx [(174,k174 slices_IndexFunc_174)] [(134,r134)]) hints 4 141 f141 c141 x F y:=fun x F y=>by kernel_rfl
theorem ok141:c141.ok prog 141:=Ctr.of_den (ctxT_ok (ctxOf_cons (q134) (by kernel_rfl) ok174)) hmix (hl:=hints) (d:=4) func141 rfl (by decide) (e141 lpK jnK slices_IndexFunc_174)
noncomputable def program_Valid_b (lp:Lp) (_:Jn) (slices_ContainsFunc_140:t140) (_:(List ((List Int)×Int×Int))→(((((List Int)×Int×Int)×Unit)→Option Bool))→Option (Bool)) (program_Valid_1:t138) (x0:(List Int)×List ((List Int)×Int×Int)):Option Bool :=
 
 let v3:Bool:=decide ((↑(List.length x0.1):Int)<1);
 let v4:Bool:=!v3;
 let v5:Bool:=bif v3 then true else decide ((↑(List.length x0.1):Int)>12);
 let v6:Bool:=!v4||v4;
 let v7:Bool:=!v5;
 let v8:Bool:=bif v5 then true else decide ((↑(List.length x0.2):Int)>6);
 let v9:Bool:=!v8;
 let v10:Bool:=!v7||v7;
 let v11:Bool:=!v9||v9;bif v6 then bif v6 then bif v6 then bif v3||v4 then bif v10 then bif v10 then bif v10 then bif v5||v7 then bif v11 then bif v11 then obind (bif v9 then
  program_Valid_1 1048576 else some fun (_:Int×PUnit)=>none) fun (t:Int×PUnit→Option Bool)=>bif v11&&v11 then obind (bif v9 then slices_ContainsFunc_140 x0.1 t
  else some false) fun (t:Bool)=>bif v8||v9 then bif bif v8 then true else t then some false else lp (Int×PUnit) Bool (fun (again:Int×PUnit→Option Bool) (x:Int×PUnit) =>
 let v16:List Int×Int×Int:=List.getD x0.2 (Int.toNat x.1) ([],0,0);
 let v17:Bool:=decide (v16.2.1<1);
 let v18:Bool:=decide (v16.2.1>3);
 let v19:Bool:=!decide ((↑(List.length v16.1):Int)=(↑(List.length x0.1):Int));
 let v20:Bool:=!v19;
 let v21:Bool:=!v20||v20;bif decide (x.1<(↑(List.length x0.2):Int)) then bif inB x.1 (List.length x0.2) then bif v21 then bif v21 then obind (bif v20 then
  program_Valid_1 1048576 else some fun (_:Int×PUnit)=>none) fun (t:Int×PUnit→Option Bool)=>bif v21&&v21 then obind (bif v20 then slices_ContainsFunc_140 v16.1 t
  else some false) fun (t:Bool) =>
 let v24:Bool:=bif v19 then true else t;
 let v25:Bool:=!v24;
 let v26:Bool:=bif v24 then true else v17;
 let v27:Bool:=!v26;
 let v28:Bool:=bif v26 then true else v18;
 let v29:Bool:=!v25||v25;
 let v30:Bool:=!v28;
 let v31:Bool:=!v27||v27;
 let v32:Bool:=!v30||v30;bif v19||v20 then bif v29 then bif v29 then bif v24||v25 then bif v31 then bif v31 then bif v26||v27 then bif v32 then obind (bif v30 then
  program_Valid_1 1073741824 else some fun (_:Int×PUnit)=>none) fun (t:Int×PUnit→Option Bool)=>bif v32 then bif v32&&v32 then obind (bif v30 then t (v16.2.2,
  PUnit.unit) else some false) fun (t:Bool)=>bif v28||v30 then bif bif v28 then true else t then some !decide (x.1≥0) else again (IntKind.wrap .i64 (x.1+(1 :
  Int)),PUnit.unit) else none else none else none else none else none else none else none else none else none else none else none else none else none else none else none else some
  !decide ((-1:Int)≥0)) (0,PUnit.unit) else none else none else none else none else none else none else none else none else none else none else none else none
noncomputable def program_Valid (x0:(List Int)×List ((List Int)×Int×Int)):Option Bool:=program_Valid_b lpK jnK slices_ContainsFunc_140 slices_ContainsFunc_141 program_Valid_1 x0
abbrev t91:=((List Int)×List ((List Int)×Int×Int))→Option (Bool)
noncomputable def k91 (program_Valid:t91):Ctr:=⟨[T32],[],[],.one .bool,fun x _ _=>program_Valid x.1⟩
noncomputable def c91:Ctr:=k91 program_Valid
theorem e91 (lp:Lp) (jn:Jn) (slices_ContainsFunc_140:t140) (slices_ContainsFunc_141:(List ((List Int)×Int×Int))→(((((List Int)×Int×Int)×Unit)→Option Bool))→Option (Bool)) (program_Valid_1:t138):∀(x:TsS c91.as) (F:TsF c91.fs) (y:TsS c91.cs),program_Valid_b lp jn slices_ContainsFunc_140 slices_ContainsFunc_141 program_Valid_1 x.1=runC lp jn (ctxT tabs lits (ctxG [(138,⟨[i64],[i64],.bool,fun x=>program_Valid_1 x.1⟩)] (ctxOf prog shs inls its [(141,k141 slices_ContainsFunc_141),(140,k140 slices_ContainsFunc_140)] [(134,r134)]))) hints 4 91 f91 c91 x F y:=fun x F y=>by kernel_rfl
theorem ok91:c91.ok prog 91:=Ctr.of_den (ctxT_ok (ctxG_ok (ctxOf_cons (ctxOf_cons (q134) (by kernel_rfl) ok140) (by kernel_rfl) ok141) (fcOk_cons (by kernel_rfl) okg138 (fcOk_nil)))) hmix (hl:=hints) (d:=4) func91 rfl (by decide) (e91 lpK jnK slices_ContainsFunc_140 slices_ContainsFunc_141 program_Valid_1)
noncomputable def slices_IndexFunc_74_b (lp:Lp) (_:Jn) (x0:List (Int×Int)) (f0:(((Int×Int)×Unit)→Option Bool)):Option Int :=
 lp (Int×PUnit) Int (fun (again:Int×PUnit→Option Int) (x:Int×PUnit)=>bif decide (x.1<(↑(List.length x0):Int)) then bif inB x.1 (List.length x0) then obind (f0
  (List.getD x0 (Int.toNat x.1) (0,0),PUnit.unit)) fun (t:Bool)=>bif t then some x.1 else again (IntKind.wrap .i64 (x.1+1),PUnit.unit) else
  none else some (-1)) (0,PUnit.unit)
noncomputable def slices_IndexFunc_74 (x0:List (Int×Int)) (f0:(((Int×Int)×Unit)→Option Bool)):Option Int:=slices_IndexFunc_74_b lpK jnK x0 f0
abbrev t74:=(List (Int×Int))→((((Int×Int)×Unit)→Option Bool))→Option (Int)
noncomputable def k74 (slices_IndexFunc_74:t74):Ctr:=⟨[(.sl T49)],[([T49],.bool)],[],.one i64,fun x F _=>slices_IndexFunc_74 x.1 F.1⟩
noncomputable def c74:Ctr:=k74 slices_IndexFunc_74
theorem e74 (lp:Lp) (jn:Jn):∀(x:TsS c74.as) (F:TsF c74.fs) (y:TsS c74.cs),slices_IndexFunc_74_b lp jn x.1 F.1=runC lp jn (cx [] [(134,r134)]) hints 4 74 f74 c74 x F y:=fun x F y=>by kernel_rfl
theorem ok74:c74.ok prog 74:=Ctr.of_den (ctxT_ok (q134)) hmix (hl:=hints) (d:=4) func74 rfl (by decide) (e74 lpK jnK)
noncomputable def slices_ContainsFunc_32_b (_:Lp) (_:Jn) (slices_IndexFunc_74:t74) (x0:List (Int×Int)) (f0:(((Int×Int)×Unit)→Option Bool)):Option Bool :=
 obind (slices_IndexFunc_74 x0 f0) fun (t:Int)=>some (decide (t≥0))
noncomputable def slices_ContainsFunc_32 (x0:List (Int×Int)) (f0:(((Int×Int)×Unit)→Option Bool)):Option Bool:=slices_ContainsFunc_32_b lpK jnK slices_IndexFunc_74 x0 f0
abbrev t32:=(List (Int×Int))→((((Int×Int)×Unit)→Option Bool))→Option (Bool)
noncomputable def k32 (slices_ContainsFunc_32:t32):Ctr:=⟨[(.sl T49)],[([T49],.bool)],[],.one .bool,fun x F _=>slices_ContainsFunc_32 x.1 F.1⟩
noncomputable def c32:Ctr:=k32 slices_ContainsFunc_32
theorem e32 (lp:Lp) (jn:Jn) (slices_IndexFunc_74:t74):∀(x:TsS c32.as) (F:TsF c32.fs) (y:TsS c32.cs),slices_ContainsFunc_32_b lp jn slices_IndexFunc_74 x.1 F.1=runC lp jn (cx [(74,k74 slices_IndexFunc_74)] [(134,r134)]) hints 4 32 f32 c32 x F y:=fun x F y=>by kernel_rfl
theorem ok32:c32.ok prog 32:=Ctr.of_den (ctxT_ok (ctxOf_cons (q134) (by kernel_rfl) ok74)) hmix (hl:=hints) (d:=4) func32 rfl (by decide) (e32 lpK jnK slices_IndexFunc_74)
noncomputable def program_right_1_b (_:Lp) (_:Jn) (ratio_Valid:t72) (x0:Int×Int):Option Bool :=
 obind (ratio_Valid x0) fun (t:Bool)=>some !t
noncomputable def program_right_1 (x0:Int×Int):Option Bool:=program_right_1_b lpK jnK ratio_Valid x0
abbrev t143:=(Int×Int)→Option (Bool)
noncomputable def c143:Ctr:=⟨[T49],[],[],.one .bool,fun x _ _=>program_right_1 x.1⟩
theorem e143 (lp:Lp) (jn:Jn) (ratio_Valid:t72):∀(x:TsS c143.as) (F:TsF c143.fs) (y:TsS c143.cs),program_right_1_b lp jn ratio_Valid x.1=runC lp jn (cx [(72,k72 ratio_Valid)] [(134,r134)]) hints 4 143 f143 c143 x F y:=fun x F y=>by kernel_rfl
theorem ok143:c143.ok prog 143:=Ctr.of_den (ctxT_ok (ctxOf_cons (q134) (by kernel_rfl) ok72)) hmix (hl:=hints) (d:=4) func143 rfl (by decide) (e143 lpK jnK ratio_Valid)
noncomputable def program_right_b (_:Lp) (_:Jn) (slices_ContainsFunc_32:t32) (program_right_1:t143) (x0:List (Int×Int)):Option Bool :=
 obind (slices_ContainsFunc_32 x0 fun (x:(Int×Int)×PUnit)=>program_right_1 x.1) fun (t:Bool)=>some !t
noncomputable def program_right (x0:List (Int×Int)):Option Bool:=program_right_b lpK jnK slices_ContainsFunc_32 program_right_1 x0
abbrev t92:=(List (Int×Int))→Option (Bool)
noncomputable def c92:Ctr:=⟨[(.sl T49)],[],[],.one .bool,fun x _ _=>program_right x.1⟩
theorem e92 (lp:Lp) (jn:Jn) (slices_ContainsFunc_32:t32) (program_right_1:t143):∀(x:TsS c92.as) (F:TsF c92.fs) (y:TsS c92.cs),program_right_b lp jn slices_ContainsFunc_32 program_right_1 x.1=runC lp jn (cx [(143,⟨[T49],[],[],.one .bool,fun x _ _=>program_right_1 x.1⟩),(32,k32 slices_ContainsFunc_32)] [(134,r134)]) hints 4 92 f92 c92 x F y:=fun x F y=>by kernel_rfl
theorem ok92:c92.ok prog 92:=Ctr.of_den (ctxT_ok (ctxOf_cons (ctxOf_cons (q134) (by kernel_rfl) ok32) (by kernel_rfl) ok143)) hmix (hl:=hints) (d:=4) func92 rfl (by decide) (e92 lpK jnK slices_ContainsFunc_32 program_right_1)
noncomputable def ratio_product_b (_:Lp) (_:Jn) (bits_Mul64:t122) (x0:Int) (x1:Int):Option (Int×Int) :=
 obind (bits_Mul64 x0 x1) fun (t:Int×Int×PUnit)=>some (t.1,t.2.1)
noncomputable def ratio_product (x0:Int) (x1:Int):Option (Int×Int):=ratio_product_b lpK jnK bits_Mul64 x0 x1
abbrev t76:=(Int)→(Int)→Option (Int×Int)
noncomputable def k76 (ratio_product:t76):Ctr:=⟨[(.int .u64),(.int .u64)],[],[],.one T116,fun x _ _=>ratio_product x.1 x.2.1⟩
noncomputable def c76:Ctr:=k76 ratio_product
theorem e76 (lp:Lp) (jn:Jn) (bits_Mul64:t122):∀(x:TsS c76.as) (F:TsF c76.fs) (y:TsS c76.cs),ratio_product_b lp jn bits_Mul64 x.1 x.2.1=runC lp jn (cx [(122,k122 bits_Mul64)] [(134,r134)]) hints 4 76 f76 c76 x F y:=fun x F y=>by kernel_rfl
theorem ok76:c76.ok prog 76:=Ctr.of_den (ctxT_ok (ctxOf_cons (q134) (by kernel_rfl) ok122)) hmix (hl:=hints) (d:=4) func76 rfl (by decide) (e76 lpK jnK bits_Mul64)
noncomputable def ratio_plus_b (_:Lp) (_:Jn) (x0:Int×Int) (x1:Int×Int):Option (Int×Int) :=
 bif decide ((0:Int)≤0)&&decide ((0:Int)≤1) then bif decide (0≤addC x0.2 x1.2 0)&&decide (addC x0.2 x1.2 0≤1) then
  some (addO x0.1 x1.1 (addC x0.2 x1.2 0),addO x0.2 x1.2 0) else none else none
noncomputable def ratio_plus (x0:Int×Int) (x1:Int×Int):Option (Int×Int):=ratio_plus_b lpK jnK x0 x1
abbrev t78:=(Int×Int)→(Int×Int)→Option (Int×Int)
noncomputable def c78:Ctr:=⟨[T116,T116],[],[],.one T116,fun x _ _=>ratio_plus x.1 x.2.1⟩
theorem e78 (lp:Lp) (jn:Jn):∀(x:TsS c78.as) (F:TsF c78.fs) (y:TsS c78.cs),ratio_plus_b lp jn x.1 x.2.1=runC lp jn (cx [] [(134,r134)]) hints 4 78 f78 c78 x F y:=fun x F y=>by kernel_rfl
theorem ok78:c78.ok prog 78:=Ctr.of_den (ctxT_ok (q134)) hmix (hl:=hints) (d:=4) func78 rfl (by decide) (e78 lpK jnK)
noncomputable def ratio_less_b (_:Lp) (_:Jn) (x0:Int×Int) (x1:Int×Int):Option Bool :=
 
 let v4:Bool:=decide (x0.1=x1.1);
 let v5:Bool:=decide (x0.1<x1.1);
 let v6:Bool:=!v5;
 let v7:Bool:=!v6;
 let v8:Bool:=v6&&v4;
 let v9:Bool:=v7||v6;
 let v10:Bool:=!v8||v8;bif v9 then bif v9 then bif v9&&v9 then bif v9 then bif v10 then bif v10 then bif v10&&v10 then bif (v7||v9)&&(v7||(!v4||(v7||v8))) then bif v5
  || v6 then some (bif v5 then true else bif v4 then decide (x0.2<x1.2) else false) else none else none else none else none else none else none else none else none else none
noncomputable def ratio_less (x0:Int×Int) (x1:Int×Int):Option Bool:=ratio_less_b lpK jnK x0 x1
abbrev t79:=(Int×Int)→(Int×Int)→Option (Bool)
noncomputable def k79 (ratio_less:t79):Ctr:=⟨[T116,T116],[],[],.one .bool,fun x _ _=>ratio_less x.1 x.2.1⟩
noncomputable def c79:Ctr:=k79 ratio_less
theorem e79 (lp:Lp) (jn:Jn):∀(x:TsS c79.as) (F:TsF c79.fs) (y:TsS c79.cs),ratio_less_b lp jn x.1 x.2.1=runC lp jn (cx [] [(134,r134)]) hints 4 79 f79 c79 x F y:=fun x F y=>by kernel_rfl
theorem ok79:c79.ok prog 79:=Ctr.of_den (ctxT_ok (q134)) hmix (hl:=hints) (d:=4) func79 rfl (by decide) (e79 lpK jnK)
noncomputable def ratio_minus_b (_:Lp) (_:Jn) (x0:Int×Int) (x1:Int×Int):Option (Int×Int) :=
 bif decide ((0:Int)≤0)&&decide ((0:Int)≤1) then bif decide (0≤subC x0.2 x1.2 0)&&decide (subC x0.2 x1.2 0≤1) then
  some (subO x0.1 x1.1 (subC x0.2 x1.2 0),subO x0.2 x1.2 0) else none else none
noncomputable def ratio_minus (x0:Int×Int) (x1:Int×Int):Option (Int×Int):=ratio_minus_b lpK jnK x0 x1
abbrev t80:=(Int×Int)→(Int×Int)→Option (Int×Int)
noncomputable def c80:Ctr:=⟨[T116,T116],[],[],.one T116,fun x _ _=>ratio_minus x.1 x.2.1⟩
theorem e80 (lp:Lp) (jn:Jn):∀(x:TsS c80.as) (F:TsF c80.fs) (y:TsS c80.cs),ratio_minus_b lp jn x.1 x.2.1=runC lp jn (cx [] [(134,r134)]) hints 4 80 f80 c80 x F y:=fun x F y=>by kernel_rfl
theorem ok80:c80.ok prog 80:=Ctr.of_den (ctxT_ok (q134)) hmix (hl:=hints) (d:=4) func80 rfl (by decide) (e80 lpK jnK)
noncomputable def bits_Len64_b (_:Lp) (jn:Jn) (x0:Int):Option Int :=
 jn (Int×Int×PUnit) Int (fun (x:Int×Int×PUnit)=>jn (Int×Int×PUnit) Int (fun (x:Int×Int×PUnit) =>
 let v5:Int:=IntKind.wrap IntKind.u8 x.1;
 let v6:Int:=IntKind.wrap IntKind.u8 (Int.fdiv x.1 (2 ^ 8));bif decide (x.1≥256) then bif decide ((0:Int)≤8) then bif inB v6 256 then
  some (IntKind.wrap .i64 (IntKind.wrap .i64 (x.2.1+8)+IntKind.wrap .i64 (byteAt { data:=List.toArray (List.append (List.append [(0:UInt8),(1 :
  UInt8),(2:UInt8),(2:UInt8),(3:UInt8),(3:UInt8),(3:UInt8),(3:UInt8),(4:UInt8),(4:UInt8),(4:UInt8),(4:UInt8),(4:UInt8),(4:UInt8),(4:UInt8),(4 :
  UInt8),(5:UInt8),(5:UInt8),(5:UInt8),(5:UInt8),(5:UInt8),(5:UInt8),(5:UInt8),(5:UInt8),(5:UInt8),(5:UInt8),(5:UInt8),(5:UInt8),(5:UInt8),(5 :
  UInt8),(5:UInt8),(5:UInt8),(6:UInt8),(6:UInt8),(6:UInt8),(6:UInt8),(6:UInt8),(6:UInt8),(6:UInt8),(6:UInt8),(6:UInt8),(6:UInt8),(6:UInt8),(6 :
  UInt8),(6:UInt8),(6:UInt8),(6:UInt8),(6:UInt8),(6:UInt8),(6:UInt8),(6:UInt8),(6:UInt8),(6:UInt8),(6:UInt8),(6:UInt8),(6:UInt8),(6:UInt8),(6 :
  UInt8),(6:UInt8),(6:UInt8),(6:UInt8),(6:UInt8),(6:UInt8),(6:UInt8)] [(7:UInt8),(7:UInt8),(7:UInt8),(7:UInt8),(7:UInt8),(7:UInt8),(7:UInt8),(7 :
  UInt8),(7:UInt8),(7:UInt8),(7:UInt8),(7:UInt8),(7:UInt8),(7:UInt8),(7:UInt8),(7:UInt8),(7:UInt8),(7:UInt8),(7:UInt8),(7:UInt8),(7:UInt8),(7 :
  UInt8),(7:UInt8),(7:UInt8),(7:UInt8),(7:UInt8),(7:UInt8),(7:UInt8),(7:UInt8),(7:UInt8),(7:UInt8),(7:UInt8),(7:UInt8),(7:UInt8),(7:UInt8),(7 :
  UInt8),(7:UInt8),(7:UInt8),(7:UInt8),(7:UInt8),(7:UInt8),(7:UInt8),(7:UInt8),(7:UInt8),(7:UInt8),(7:UInt8),(7:UInt8),(7:UInt8),(7:UInt8),(7 :
  UInt8),(7:UInt8),(7:UInt8),(7:UInt8),(7:UInt8),(7:UInt8),(7:UInt8),(7:UInt8),(7:UInt8),(7:UInt8),(7:UInt8),(7:UInt8),(7:UInt8),(7:UInt8),(7 :
  UInt8)]) (List.append [(8:UInt8),(8:UInt8),(8:UInt8),(8:UInt8),(8:UInt8),(8:UInt8),(8:UInt8),(8:UInt8),(8:UInt8),(8:UInt8),(8:UInt8),(8:UInt8),(8 :
  UInt8),(8:UInt8),(8:UInt8),(8:UInt8),(8:UInt8),(8:UInt8),(8:UInt8),(8:UInt8),(8:UInt8),(8:UInt8),(8:UInt8),(8:UInt8),(8:UInt8),(8:UInt8),(8 :
  UInt8),(8:UInt8),(8:UInt8),(8:UInt8),(8:UInt8),(8:UInt8),(8:UInt8),(8:UInt8),(8:UInt8),(8:UInt8),(8:UInt8),(8:UInt8),(8:UInt8),(8:UInt8),(8 :
  UInt8),(8:UInt8),(8:UInt8),(8:UInt8),(8:UInt8),(8:UInt8),(8:UInt8),(8:UInt8),(8:UInt8),(8:UInt8),(8:UInt8),(8:UInt8),(8:UInt8),(8:UInt8),(8 :
  UInt8),(8:UInt8),(8:UInt8),(8:UInt8),(8:UInt8),(8:UInt8),(8:UInt8),(8:UInt8),(8:UInt8),(8:UInt8)] [(8:UInt8),(8:UInt8),(8:UInt8),(8:UInt8),(8 :
  UInt8),(8:UInt8),(8:UInt8),(8:UInt8),(8:UInt8),(8:UInt8),(8:UInt8),(8:UInt8),(8:UInt8),(8:UInt8),(8:UInt8),(8:UInt8),(8:UInt8),(8:UInt8),(8 :
  UInt8),(8:UInt8),(8:UInt8),(8:UInt8),(8:UInt8),(8:UInt8),(8:UInt8),(8:UInt8),(8:UInt8),(8:UInt8),(8:UInt8),(8:UInt8),(8:UInt8),(8:UInt8),(8 :
  UInt8),(8:UInt8),(8:UInt8),(8:UInt8),(8:UInt8),(8:UInt8),(8:UInt8),(8:UInt8),(8:UInt8),(8:UInt8),(8:UInt8),(8:UInt8),(8:UInt8),(8:UInt8),(8 :
  UInt8),(8:UInt8),(8:UInt8),(8:UInt8),(8:UInt8),(8:UInt8),(8:UInt8),(8:UInt8),(8:UInt8),(8:UInt8),(8:UInt8),(8:UInt8),(8:UInt8),(8:UInt8),(8 :
  UInt8),(8:UInt8),(8:UInt8),(8:UInt8)])) } (Int.toNat v6)))) else none else none else bif inB v5 256 then some (IntKind.wrap .i64 (x.2.1+IntKind.wrap
  IntKind.i64 (byteAt { data:=List.toArray (List.append (List.append [(0:UInt8),(1:UInt8),(2:UInt8),(2:UInt8),(3:UInt8),(3:UInt8),(3:UInt8),(3:UInt8),(4 :
  UInt8),(4:UInt8),(4:UInt8),(4:UInt8),(4:UInt8),(4:UInt8),(4:UInt8),(4:UInt8),(5:UInt8),(5:UInt8),(5:UInt8),(5:UInt8),(5:UInt8),(5:UInt8),(5 :
  UInt8),(5:UInt8),(5:UInt8),(5:UInt8),(5:UInt8),(5:UInt8),(5:UInt8),(5:UInt8),(5:UInt8),(5:UInt8),(6:UInt8),(6:UInt8),(6:UInt8),(6:UInt8),(6 :
  UInt8),(6:UInt8),(6:UInt8),(6:UInt8),(6:UInt8),(6:UInt8),(6:UInt8),(6:UInt8),(6:UInt8),(6:UInt8),(6:UInt8),(6:UInt8),(6:UInt8),(6:UInt8),(6 :
  UInt8),(6:UInt8),(6:UInt8),(6:UInt8),(6:UInt8),(6:UInt8),(6:UInt8),(6:UInt8),(6:UInt8),(6:UInt8),(6:UInt8),(6:UInt8),(6:UInt8),(6:UInt8)] [(7 :
  UInt8),(7:UInt8),(7:UInt8),(7:UInt8),(7:UInt8),(7:UInt8),(7:UInt8),(7:UInt8),(7:UInt8),(7:UInt8),(7:UInt8),(7:UInt8),(7:UInt8),(7:UInt8),(7 :
  UInt8),(7:UInt8),(7:UInt8),(7:UInt8),(7:UInt8),(7:UInt8),(7:UInt8),(7:UInt8),(7:UInt8),(7:UInt8),(7:UInt8),(7:UInt8),(7:UInt8),(7:UInt8),(7 :
  UInt8),(7:UInt8),(7:UInt8),(7:UInt8),(7:UInt8),(7:UInt8),(7:UInt8),(7:UInt8),(7:UInt8),(7:UInt8),(7:UInt8),(7:UInt8),(7:UInt8),(7:UInt8),(7 :
  UInt8),(7:UInt8),(7:UInt8),(7:UInt8),(7:UInt8),(7:UInt8),(7:UInt8),(7:UInt8),(7:UInt8),(7:UInt8),(7:UInt8),(7:UInt8),(7:UInt8),(7:UInt8),(7 :
  UInt8),(7:UInt8),(7:UInt8),(7:UInt8),(7:UInt8),(7:UInt8),(7:UInt8),(7:UInt8)]) (List.append [(8:UInt8),(8:UInt8),(8:UInt8),(8:UInt8),(8:UInt8),(8 :
  UInt8),(8:UInt8),(8:UInt8),(8:UInt8),(8:UInt8),(8:UInt8),(8:UInt8),(8:UInt8),(8:UInt8),(8:UInt8),(8:UInt8),(8:UInt8),(8:UInt8),(8:UInt8),(8 :
  UInt8),(8:UInt8),(8:UInt8),(8:UInt8),(8:UInt8),(8:UInt8),(8:UInt8),(8:UInt8),(8:UInt8),(8:UInt8),(8:UInt8),(8:UInt8),(8:UInt8),(8:UInt8),(8 :
  UInt8),(8:UInt8),(8:UInt8),(8:UInt8),(8:UInt8),(8:UInt8),(8:UInt8),(8:UInt8),(8:UInt8),(8:UInt8),(8:UInt8),(8:UInt8),(8:UInt8),(8:UInt8),(8 :
  UInt8),(8:UInt8),(8:UInt8),(8:UInt8),(8:UInt8),(8:UInt8),(8:UInt8),(8:UInt8),(8:UInt8),(8:UInt8),(8:UInt8),(8:UInt8),(8:UInt8),(8:UInt8),(8 :
  UInt8),(8:UInt8),(8:UInt8)] [(8:UInt8),(8:UInt8),(8:UInt8),(8:UInt8),(8:UInt8),(8:UInt8),(8:UInt8),(8:UInt8),(8:UInt8),(8:UInt8),(8:UInt8),(8 :
  UInt8),(8:UInt8),(8:UInt8),(8:UInt8),(8:UInt8),(8:UInt8),(8:UInt8),(8:UInt8),(8:UInt8),(8:UInt8),(8:UInt8),(8:UInt8),(8:UInt8),(8:UInt8),(8 :
  UInt8),(8:UInt8),(8:UInt8),(8:UInt8),(8:UInt8),(8:UInt8),(8:UInt8),(8:UInt8),(8:UInt8),(8:UInt8),(8:UInt8),(8:UInt8),(8:UInt8),(8:UInt8),(8 :
  UInt8),(8:UInt8),(8:UInt8),(8:UInt8),(8:UInt8),(8:UInt8),(8:UInt8),(8:UInt8),(8:UInt8),(8:UInt8),(8:UInt8),(8:UInt8),(8:UInt8),(8:UInt8),(8 :
  UInt8),(8:UInt8),(8:UInt8),(8:UInt8),(8:UInt8),(8:UInt8),(8:UInt8),(8:UInt8),(8:UInt8),(8:UInt8),(8:UInt8)])) } (Int.toNat v5)))) else none) fun (j:Int ×
  Int×PUnit→Option Int)=>bif decide (x.1≥65536) then bif decide ((0:Int)≤16) then j (Int.fdiv x.1 (2 ^ 16),IntKind.wrap .i64
  (x.2.1+16),PUnit.unit) else none else j (x.1,x.2.1,PUnit.unit)) fun (j:Int×Int×PUnit→Option Int)=>bif decide (x0≥4294967296) then bif decide
  (0≤32) then j (Int.fdiv x0 (2 ^ 32),32,PUnit.unit) else none else j (x0,0,PUnit.unit)
noncomputable def bits_Len64 (x0:Int):Option Int:=bits_Len64_b lpK jnK x0
abbrev t181:=(Int)→Option (Int)
noncomputable def c181:Ctr:=⟨[(.int .u64)],[],[],.one i64,fun x _ _=>bits_Len64 x.1⟩
theorem e181 (lp:Lp) (jn:Jn):∀(x:TsS c181.as) (F:TsF c181.fs) (y:TsS c181.cs),bits_Len64_b lp jn x.1=runC lp jn (cx [] [(134,r134)]) hints 4 181 f181 c181 x F y:=fun x F y=>by kernel_rfl
theorem ok181:c181.ok prog 181:=Ctr.of_den (ctxT_ok (q134)) hmix (hl:=hints) (d:=4) func181 rfl (by decide) (e181 lpK jnK)
noncomputable def bits_LeadingZeros64_b (_:Lp) (_:Jn) (bits_Len64:t181) (x0:Int):Option Int :=
 obind (bits_Len64 x0) fun (t:Int)=>some (IntKind.wrap .i64 (64 - t))
noncomputable def bits_LeadingZeros64 (x0:Int):Option Int:=bits_LeadingZeros64_b lpK jnK bits_Len64 x0
abbrev t165:=(Int)→Option (Int)
noncomputable def c165:Ctr:=⟨[(.int .u64)],[],[],.one i64,fun x _ _=>bits_LeadingZeros64 x.1⟩
theorem e165 (lp:Lp) (jn:Jn) (bits_Len64:t181):∀(x:TsS c165.as) (F:TsF c165.fs) (y:TsS c165.cs),bits_LeadingZeros64_b lp jn bits_Len64 x.1=runC lp jn (cx [(181,⟨[(.int .u64)],[],[],.one i64,fun x _ _=>bits_Len64 x.1⟩)] [(134,r134)]) hints 4 165 f165 c165 x F y:=fun x F y=>by kernel_rfl
theorem ok165:c165.ok prog 165:=Ctr.of_den (ctxT_ok (ctxOf_cons (q134) (by kernel_rfl) ok181)) hmix (hl:=hints) (d:=4) func165 rfl (by decide) (e165 lpK jnK bits_Len64)
noncomputable def bits_Div64_b (lp:Lp) (jn:Jn) (bits_LeadingZeros64:t165) (x0:Int) (x1:Int) (x2:Int):Option (Int×Int×Unit) :=
 
 let v5:Bool:=nzB x2;
 let v6:Int:=2 ^ 32;
 let v7:Bool:=decide ((0:Int)≤32);jn PUnit (Int×Int×PUnit) (fun (_:PUnit)=>jn PUnit (Int×Int×PUnit) (fun (_:PUnit)=>bif decide (x0=0) then bif v5
  then bif v5 then some (IntKind.wrap .u64 (Int.tdiv x1 x2),Int.tmod x1 x2,PUnit.unit) else none else none else obind (bits_LeadingZeros64 x2) fun (t:Int) =>
 let v11:Int:=IntKind.wrap .u64 t;
 let v12:Bool:=decide (0≤v11);
 let v13:Int:=2 ^ min (Int.toNat v11) 64;
 let v14:Int:=IntKind.wrap .u64 (x2*v13);
 let v15:Int:=IntKind.wrap .u64 (x1*v13);
 let v16:Int:=Int.fdiv v14 v6;
 let v17:Int:=Int.fdiv v15 v6;
 let v18:Bool:=nzB v16;
 let v19:Int:=IntKind.wrap .u64 (↑(Nat.land (Int.toNat (v15 % Int.ofNat 18446744073709551616)) (Int.toNat (4294967295 % Int.ofNat 18446744073709551616)))
  : Int);
 let v20:Int:=IntKind.wrap .u64 (↑(Nat.land (Int.toNat (v14 % Int.ofNat 18446744073709551616)) (Int.toNat (4294967295 % Int.ofNat 18446744073709551616)))
  : Int);
 let v21:Int:=IntKind.wrap .u64 (↑(Nat.lor (Int.toNat (IntKind.wrap .u64 (x0*v13) % Int.ofNat 18446744073709551616)) (Int.toNat (Int.fdiv x1 (2 ^ min
  (Int.toNat (IntKind.wrap .u64 (64 - v11))) 64) % Int.ofNat 18446744073709551616))):Int);
 let v22:Int:=IntKind.wrap .u64 (Int.tdiv v21 v16);bif v12 then bif v7 then bif v12 then bif decide (0≤IntKind.wrap .u64 (64 - v11)) then bif v12 then
  bif v7 then bif v18 then jn (Int×PUnit) (Int×Int×PUnit) (fun (x:Int×PUnit) =>
 let v24:Int:=IntKind.wrap .u64 (IntKind.wrap .u64 (IntKind.wrap .u64 (v21*4294967296)+v17) - IntKind.wrap .u64 (x.1*v14));
 let v25:Int:=IntKind.wrap .u64 (Int.tdiv v24 v16);bif v18 then jn (Int×PUnit) (Int×Int×PUnit) (fun (x_1:Int×PUnit)=>bif v12 then some (IntKind.wrap .u64
  (IntKind.wrap .u64 (x.1*4294967296)+x_1.1),Int.fdiv (IntKind.wrap .u64 (IntKind.wrap .u64 (IntKind.wrap .u64 (v24*4294967296) +
  v19) - IntKind.wrap .u64 (x_1.1*v14))) v13,PUnit.unit) else none) fun (j:Int×PUnit→Option (Int×Int×PUnit))=>lp (Int×Int×PUnit) (Int×Int×PUnit) (fun
  (again:Int×Int×PUnit→Option (Int×Int×PUnit)) (x:Int×Int×PUnit) =>
 let v29:Int×PUnit:=(IntKind.wrap .u64 (x.2.1 - 1),PUnit.unit);
 let v30:Bool:=decide (x.2.1≥4294967296);
 let v31:Bool:=!v30;
 let v32:Bool:=!v31||v31;
 let v33:Bool:=v32&&v32;bif v33 then bif v32 then bif v33 then bif v33 then bif v30||v31 then bif bif v30 then true else decide (IntKind.wrap .u64 (x.2.1*v20) >
  IntKind.wrap .u64 (IntKind.wrap .u64 (4294967296*x.1)+v19)) then bif decide (IntKind.wrap .u64 (x.1+v16)≥4294967296) then j v29 else
  again (IntKind.wrap .u64 (x.1+v16),v29) else j (x.2.1,PUnit.unit) else none else none else none else none else none) (IntKind.wrap .u64 (v24 - IntKind.wrap
  IntKind.u64 (v25*v16)),v25,PUnit.unit) else none) fun (j:Int×PUnit→Option (Int×Int×PUnit))=>lp (Int×Int×PUnit) (Int×Int×PUnit) (fun (again:Int×Int×PUnit →
  Option (Int×Int×PUnit)) (x:Int×Int×PUnit) =>
 let v26:Int:=IntKind.wrap .u64 (x.1 - 1);
 let v27:Bool:=decide (x.1≥4294967296);
 let v28:Bool:=!v27;
 let v29:Bool:=!v28||v28;
 let v30:Bool:=v29&&v29;bif v30 then bif v29 then bif v30 then bif v30 then bif v27||v28 then bif bif v27 then true else decide (IntKind.wrap .u64 (x.1*v20) >
  IntKind.wrap .u64 (IntKind.wrap .u64 (4294967296*x.2.1)+v17)) then bif decide (IntKind.wrap .u64 (x.2.1+v16)≥4294967296) then j
  (v26,PUnit.unit) else again (v26,IntKind.wrap .u64 (x.2.1+v16),PUnit.unit) else j (x.1,PUnit.unit) else none else none else none else none else none) (v22,
  IntKind.wrap .u64 (v21 - IntKind.wrap .u64 (v22*v16)),PUnit.unit) else none else none else none else none else none else none else none) fun (j:PUnit→Option (Int ×
  Int×PUnit))=>bif decide (x2≤x0) then none else j PUnit.unit) fun (j:PUnit→Option (Int×Int×PUnit))=>bif decide (x2=0) then none else j PUnit.unit
noncomputable def bits_Div64 (x0:Int) (x1:Int) (x2:Int):Option (Int×Int×Unit):=bits_Div64_b lpK jnK bits_LeadingZeros64 x0 x1 x2
abbrev t125:=(Int)→(Int)→(Int)→Option (Int×Int×Unit)
noncomputable def k125 (bits_Div64:t125):Ctr:=⟨[(.int .u64),(.int .u64),(.int .u64)],[],[],.tup [(.int .u64),(.int .u64)],fun x _ _=>bits_Div64 x.1 x.2.1 x.2.2.1⟩
noncomputable def c125:Ctr:=k125 bits_Div64
theorem e125 (lp:Lp) (jn:Jn) (bits_LeadingZeros64:t165):∀(x:TsS c125.as) (F:TsF c125.fs) (y:TsS c125.cs),bits_Div64_b lp jn bits_LeadingZeros64 x.1 x.2.1 x.2.2.1=runC lp jn (cx [(165,⟨[(.int .u64)],[],[],.one i64,fun x _ _=>bits_LeadingZeros64 x.1⟩)] [(134,r134)]) hints 4 125 f125 c125 x F y:=fun x F y=>by kernel_rfl
theorem ok125:c125.ok prog 125:=Ctr.of_den (ctxT_ok (ctxOf_cons (q134) (by kernel_rfl) ok165)) hmix (hl:=hints) (d:=4) func125 rfl (by decide) (e125 lpK jnK bits_LeadingZeros64)
noncomputable def ratio_over_b (_:Lp) (_:Jn) (bits_Div64:t125) (x0:Int×Int) (x1:Int):Option ((Int×Int)×Int×Unit) :=
 
 let v4:Bool:=nzB x1;bif v4 then obind (bits_Div64 (Int.tmod x0.1 x1) x0.2 x1) fun (t:Int×Int×PUnit)=>bif v4 then some ((IntKind.wrap .u64 (Int.tdiv x0.1 x1),
  t.1),t.2.1,PUnit.unit) else none else none
noncomputable def ratio_over (x0:Int×Int) (x1:Int):Option ((Int×Int)×Int×Unit):=ratio_over_b lpK jnK bits_Div64 x0 x1
abbrev t81:=(Int×Int)→(Int)→Option ((Int×Int)×Int×Unit)
noncomputable def k81 (ratio_over:t81):Ctr:=⟨[T116,(.int .u64)],[],[],.tup [T116,(.int .u64)],fun x _ _=>ratio_over x.1 x.2.1⟩
noncomputable def c81:Ctr:=k81 ratio_over
theorem e81 (lp:Lp) (jn:Jn) (bits_Div64:t125):∀(x:TsS c81.as) (F:TsF c81.fs) (y:TsS c81.cs),ratio_over_b lp jn bits_Div64 x.1 x.2.1=runC lp jn (cx [(125,k125 bits_Div64)] [(134,r134)]) hints 4 81 f81 c81 x F y:=fun x F y=>by kernel_rfl
theorem ok81:c81.ok prog 81:=Ctr.of_den (ctxT_ok (ctxOf_cons (q134) (by kernel_rfl) ok125)) hmix (hl:=hints) (d:=4) func81 rfl (by decide) (e81 lpK jnK bits_Div64)
noncomputable def ratio_signed_b (_:Lp) (_:Jn) (x0:Bool) (x1:Int) (x2:Int):Option ((Int×Int)×Int×Unit) :=
 
 let v5:Int:=IntKind.wrap .i64 x1;
 let v6:Int:=IntKind.wrap .i64 x2;
 let v7:Bool:=decide (x1>1152921504606846976);
 let v8:Bool:=!v7;bif !v8||v8 then bif v7||v8 then bif bif v7 then true else decide (x2>1152921504606846976) then some ((0,0),5,PUnit.unit)
  else bif x0 then some ((IntKind.wrap .i64 (0 - v5),v6),0,PUnit.unit) else some ((v5,v6),0,PUnit.unit) else none else none
noncomputable def ratio_signed (x0:Bool) (x1:Int) (x2:Int):Option ((Int×Int)×Int×Unit):=ratio_signed_b lpK jnK x0 x1 x2
abbrev t82:=(Bool)→(Int)→(Int)→Option ((Int×Int)×Int×Unit)
noncomputable def k82 (ratio_signed:t82):Ctr:=⟨[.bool,(.int .u64),(.int .u64)],[],[],.tup [T49,i64],fun x _ _=>ratio_signed x.1 x.2.1 x.2.2.1⟩
noncomputable def c82:Ctr:=k82 ratio_signed
theorem e82 (lp:Lp) (jn:Jn):∀(x:TsS c82.as) (F:TsF c82.fs) (y:TsS c82.cs),ratio_signed_b lp jn x.1 x.2.1 x.2.2.1=runC lp jn (cx [] [(134,r134)]) hints 4 82 f82 c82 x F y:=fun x F y=>by kernel_rfl
theorem ok82:c82.ok prog 82:=Ctr.of_den (ctxT_ok (q134)) hmix (hl:=hints) (d:=4) func82 rfl (by decide) (e82 lpK jnK)
noncomputable def ratio_Add_b (_:Lp) (jn:Jn) (ratio_gcd:t75) (ratio_size:t77) (ratio_Valid:t72) (ratio_product:t76) (ratio_plus:t78) (ratio_less:t79) (ratio_minus:t80) (ratio_over:t81) (ratio_signed:t82) (x0:Int×Int) (x1:Int×Int):Option ((Int×Int)×Int×Unit) :=
 
 let v4:Int:=IntKind.wrap .u64 x0.2;
 let v5:Int:=IntKind.wrap .u64 x1.2;
 let v6:Bool:=decide (x0.1<0);obind (ratio_Valid x0) fun (t:Bool) =>
 let v8:Bool:=!t;
 let v9:Bool:=!v8;
 let v10:Bool:=!v9||v9;bif v10 then obind (bif v9 then ratio_Valid x1 else some false) fun (t:Bool)=>bif v10 then bif v8||v9 then bif bif v8 then true else !t then some (((0 :
  Int),0),1,PUnit.unit) else obind (ratio_gcd v4 v5) fun (t:Int) =>
 let v13:Bool:=nzB t;
 let v14:Int:=IntKind.wrap .u64 (Int.tdiv v4 t);obind (ratio_size x0.1) fun (t_1:Int)=>bif v13 then obind (ratio_product t_1 (IntKind.wrap .u64 (Int.tdiv v5 t)))
  fun (t_2:Int×Int)=>obind (ratio_size x1.1) fun (t_3:Int)=>bif v13 then obind (ratio_product t_3 v14) fun (t_4:Int×Int)=>jn (Bool×(Int×Int)×PUnit) ((Int×Int) ×
  Int×PUnit) (fun (x:Bool×(Int×Int)×PUnit)=>bif decide (x.2.1.1=0)&&(decide (x.2.1.2=0)&&true) then some ((0,1),(0 :
  Int),PUnit.unit) else obind (ratio_over x.2.1 t) fun (t_5:(Int×Int)×Int×PUnit)=>obind (ratio_gcd t t_5.2.1) fun (t:Int)=>obind (ratio_over x.2.1 t) fun (t_6 :
  (Int×Int)×Int×PUnit) =>
 let v23:Bool:=decide (t_6.1.1>0);
 let v24:Bool:=!v23;
 let v25:Bool:=!v24||v24;bif v13 then bif nzB t then obind (ratio_product v14 (IntKind.wrap .u64 (Int.tdiv v5 t))) fun (t:Int×Int)=>bif v25 then bif v25 then bif v23 ||
  v24 then bif bif v23 then true else decide (t.1>0) then some ((0,0),5,PUnit.unit) else obind (ratio_signed x.1 t_6.1.2 t.2) fun (t:(Int
  × Int)×Int×PUnit)=>some (t.1,t.2.1,PUnit.unit) else none else none else none else none else none) fun (j:Bool×(Int×Int)×PUnit→Option ((Int×Int)×Int×PUnit))
  =>bif decide (v6=decide (x1.1<0)) then obind (ratio_plus t_2 t_4) fun (t:Int×Int)=>j (v6,t,PUnit.unit) else obind (ratio_less t_2 t_4) fun (t:Bool)=>jn (Bool
  × (Int×Int)×PUnit) ((Int×Int)×Int×PUnit) (fun (x:Bool×(Int×Int)×PUnit)=>j (x.1,x.2.1,PUnit.unit)) fun (j:Bool×(Int×Int)×PUnit→Option ((Int×Int) ×
  Int×PUnit))=>bif t then obind (ratio_minus t_4 t_2) fun (t:Int×Int)=>j (!v6,t,PUnit.unit) else obind (ratio_minus t_2 t_4) fun (t:Int×Int)=>j (v6,t,PUnit.unit) else
  none else none else none else none else none
noncomputable def ratio_Add (x0:Int×Int) (x1:Int×Int):Option ((Int×Int)×Int×Unit):=ratio_Add_b lpK jnK ratio_gcd ratio_size ratio_Valid ratio_product ratio_plus ratio_less ratio_minus ratio_over ratio_signed x0 x1
abbrev t35:=(Int×Int)→(Int×Int)→Option ((Int×Int)×Int×Unit)
noncomputable def k35 (ratio_Add:t35):Ctr:=⟨[T49,T49],[],[],.tup [T49,i64],fun x _ _=>ratio_Add x.1 x.2.1⟩
noncomputable def c35:Ctr:=k35 ratio_Add
theorem e35 (lp:Lp) (jn:Jn) (ratio_gcd:t75) (ratio_size:t77) (ratio_Valid:t72) (ratio_product:t76) (ratio_plus:t78) (ratio_less:t79) (ratio_minus:t80) (ratio_over:t81) (ratio_signed:t82):∀(x:TsS c35.as) (F:TsF c35.fs) (y:TsS c35.cs),ratio_Add_b lp jn ratio_gcd ratio_size ratio_Valid ratio_product ratio_plus ratio_less ratio_minus ratio_over ratio_signed x.1 x.2.1=runC lp jn (cx [(82,k82 ratio_signed),(81,k81 ratio_over),(80,⟨[T116,T116],[],[],.one T116,fun x _ _=>ratio_minus x.1 x.2.1⟩),(79,k79 ratio_less),(78,⟨[T116,T116],[],[],.one T116,fun x _ _=>ratio_plus x.1 x.2.1⟩),(76,k76 ratio_product),(72,k72 ratio_Valid),(77,k77 ratio_size),(75,k75 ratio_gcd)] [(134,r134)]) hints 4 35 f35 c35 x F y:=fun x F y=>by kernel_rfl
theorem ok35:c35.ok prog 35:=Ctr.of_den (ctxT_ok (ctxOf_cons (ctxOf_cons (ctxOf_cons (ctxOf_cons (ctxOf_cons (ctxOf_cons (ctxOf_cons (ctxOf_cons (ctxOf_cons (q134) (by kernel_rfl) ok75) (by kernel_rfl) ok77) (by kernel_rfl) ok72) (by kernel_rfl) ok76) (by kernel_rfl) ok78) (by kernel_rfl) ok79) (by kernel_rfl) ok80) (by kernel_rfl) ok81) (by kernel_rfl) ok82)) hmix (hl:=hints) (d:=4) func35 rfl (by decide) (e35 lpK jnK ratio_gcd ratio_size ratio_Valid ratio_product ratio_plus ratio_less ratio_minus ratio_over ratio_signed)
noncomputable def ratio_Mul_b (_:Lp) (_:Jn) (ratio_gcd:t75) (ratio_size:t77) (ratio_Valid:t72) (ratio_product:t76) (ratio_signed:t82) (x0:Int×Int) (x1:Int×Int):Option ((Int×Int)×Int×Unit) :=
 
 let v4:Int:=IntKind.wrap .u64 x1.2;
 let v5:Int:=IntKind.wrap .u64 x0.2;obind (ratio_Valid x0) fun (t:Bool) =>
 let v7:Bool:=!t;
 let v8:Bool:=!v7;
 let v9:Bool:=!v8||v8;bif v9 then obind (bif v8 then ratio_Valid x1 else some false) fun (t:Bool)=>bif v9 then bif v7||v8 then bif bif v7 then true else !t then some (((0 :
  Int),0),1,PUnit.unit) else obind (ratio_size x0.1) fun (t:Int)=>obind (ratio_gcd t v4) fun (t:Int) =>
 let v13:Bool:=nzB t;obind (ratio_size x1.1) fun (t_1:Int)=>obind (ratio_gcd t_1 v5) fun (t_2:Int) =>
 let v16:Bool:=nzB t_2;obind (ratio_size x0.1) fun (t_3:Int)=>bif v13 then obind (ratio_size x1.1) fun (t_4:Int)=>bif v16 then obind (ratio_product (IntKind.wrap
  IntKind.u64 (Int.tdiv t_3 t)) (IntKind.wrap .u64 (Int.tdiv t_4 t_2))) fun (t_5:Int×Int) =>
 let v20:Bool:=decide (t_5.1>0);
 let v21:Bool:=decide (t_5.2>0);
 let v22:Bool:=!v20;
 let v23:Bool:=!v21||v21;
 let v24:Bool:=!v22||v22;bif v16 then bif v13 then obind (ratio_product (IntKind.wrap .u64 (Int.tdiv v5 t_2)) (IntKind.wrap .u64 (Int.tdiv v4 t))) fun (t:Int×Int)
  =>bif v24 then bif v24 then bif v20||v22 then bif bif v20 then true else decide (t.1>0) then some ((0,0),5,PUnit.unit) else bif v23 then bif
  v23 then bif v23 then bif v23 then bif v23&&v23 then bif v23 then obind (ratio_signed (bif v21 then !decide (decide (x0.1<0)=decide (x1.1<0)) else false)
  t_5.2 t.2) fun (t:(Int×Int)×Int×PUnit)=>some (t.1,t.2.1,PUnit.unit) else none else none else none else none else none else none else none else none else none else
  none else none else none else none else none else none else none
noncomputable def ratio_Mul (x0:Int×Int) (x1:Int×Int):Option ((Int×Int)×Int×Unit):=ratio_Mul_b lpK jnK ratio_gcd ratio_size ratio_Valid ratio_product ratio_signed x0 x1
abbrev t146:=(Int×Int)→(Int×Int)→Option ((Int×Int)×Int×Unit)
noncomputable def k146 (ratio_Mul:t146):Ctr:=⟨[T49,T49],[],[],.tup [T49,i64],fun x _ _=>ratio_Mul x.1 x.2.1⟩
noncomputable def c146:Ctr:=k146 ratio_Mul
theorem e146 (lp:Lp) (jn:Jn) (ratio_gcd:t75) (ratio_size:t77) (ratio_Valid:t72) (ratio_product:t76) (ratio_signed:t82):∀(x:TsS c146.as) (F:TsF c146.fs) (y:TsS c146.cs),ratio_Mul_b lp jn ratio_gcd ratio_size ratio_Valid ratio_product ratio_signed x.1 x.2.1=runC lp jn (cx [(82,k82 ratio_signed),(76,k76 ratio_product),(72,k72 ratio_Valid),(77,k77 ratio_size),(75,k75 ratio_gcd)] [(134,r134)]) hints 4 146 f146 c146 x F y:=fun x F y=>by kernel_rfl
theorem ok146:c146.ok prog 146:=Ctr.of_den (ctxT_ok (ctxOf_cons (ctxOf_cons (ctxOf_cons (ctxOf_cons (ctxOf_cons (q134) (by kernel_rfl) ok75) (by kernel_rfl) ok77) (by kernel_rfl) ok72) (by kernel_rfl) ok76) (by kernel_rfl) ok82)) hmix (hl:=hints) (d:=4) func146 rfl (by decide) (e146 lpK jnK ratio_gcd ratio_size ratio_Valid ratio_product ratio_signed)
noncomputable def program_sums_of_b (lp:Lp) (jn:Jn) (ratio_Add:t35) (ratio_Mul:t146) (x0:Int) (x1:List Int) (x2:List (Int×Int)):Option (Int×(Int×Int)) :=
 lp (Int×Int×(Int×Int)×(Int×Int)×PUnit) (Int×Int×Int) (fun (again:Int×Int×(Int×Int)×(Int×Int)×PUnit→Option (Int×Int×Int)) (x:Int×Int×(Int×Int) ×
  (Int×Int)×PUnit)=>bif decide (x.1<(↑(List.length x1):Int)) then bif inB x.1 (List.length x1) then bif inB x.1 (List.length x2) then obind (ratio_Mul (List.getD x1
  (Int.toNat x.1) 0,1) (List.getD x2 (Int.toNat x.1) (0,0))) fun (t:(Int×Int)×Int×PUnit)=>jn (Int×(Int×Int)×PUnit) (Int×Int×Int)
  (fun (x_1:Int×(Int×Int)×PUnit)=>bif !decide (x_1.1=0) then some (x_1.1,0,1) else again (IntKind.wrap .i64 (x.1+1),
  x.2.1,x.2.2.1,x_1.2.1,PUnit.unit)) fun (j:Int×(Int×Int)×PUnit→Option (Int×Int×Int))=>bif decide (t.2.1=0) then obind (ratio_Add
  x.2.2.2.1 t.1) fun (t:(Int×Int)×Int×PUnit)=>j (t.2.1,t.1,PUnit.unit) else j (t.2.1,t.1,PUnit.unit) else none else none else some (x.2.1,
  x.2.2.2.1)) (0,x0,(0,0),(0,1),PUnit.unit)
noncomputable def program_sums_of (x0:Int) (x1:List Int) (x2:List (Int×Int)):Option (Int×(Int×Int)):=program_sums_of_b lpK jnK ratio_Add ratio_Mul x0 x1 x2
abbrev t95:=(Int)→(List Int)→(List (Int×Int))→Option (Int×(Int×Int))
noncomputable def k95 (program_sums_of:t95):MCtr:=⟨T139,[(.sl i64),(.sl T49)],.one T49,fun x y=>program_sums_of x y.1 y.2.1⟩
noncomputable def m95:MCtr:=k95 program_sums_of
theorem e95 (lp:Lp) (jn:Jn) (ratio_Add:t35) (ratio_Mul:t146):∀(x:m95.s.T) (y:TsS m95.as),program_sums_of_b lp jn ratio_Add ratio_Mul x y.1 y.2.1=runM lp jn (cx [(146,k146 ratio_Mul),(35,k35 ratio_Add)] [(134,r134)]) hints 4 95 f95 m95 x y:=fun x y=>by kernel_rfl
theorem ok95:m95.ok prog 95:=MCtr.of_den (ctxT_ok (ctxOf_cons (ctxOf_cons (q134) (by kernel_rfl) ok35) (by kernel_rfl) ok146)) hmix (hl:=hints) (d:=4) func95 rfl (by decide) rfl (e95 lpK jnK ratio_Add ratio_Mul)
noncomputable def ratio_Cmp_b (_:Lp) (jn:Jn) (ratio_size:t77) (ratio_Valid:t72) (ratio_product:t76) (ratio_less:t79) (x0:Int×Int) (x1:Int×Int):Option (Int×Int×Unit) :=
 
 let v4:Bool:=decide (x0.1<0);obind (ratio_Valid x0) fun (t:Bool) =>
 let v6:Bool:=!t;
 let v7:Bool:=!v6;
 let v8:Bool:=!v7||v7;bif v8 then obind (bif v7 then ratio_Valid x1 else some false) fun (t:Bool)=>bif v8 then bif v6||v7 then bif bif v6 then true else !t then some ((0 :
  Int),1,PUnit.unit) else obind (ratio_size x0.1) fun (t:Int)=>obind (ratio_product t (IntKind.wrap .u64 x1.2)) fun (t:Int×Int)=>obind (ratio_size x1.1)
  fun (t_1:Int)=>obind (ratio_product t_1 (IntKind.wrap .u64 x0.2)) fun (t_2:Int×Int)=>bif !decide (v4=decide (x1.1<0)) then bif v4 then some ((-1),
  0,PUnit.unit) else some (1,0,PUnit.unit) else jn ((Int×Int)×(Int×Int)×PUnit) (Int×Int×PUnit) (fun (x:(Int×Int)×(Int×Int)×PUnit)=>obind
  (ratio_less x.1 x.2.1) fun (t:Bool)=>bif t then some ((-1),0,PUnit.unit) else obind (ratio_less x.2.1 x.1) fun (t:Bool)=>bif t then some (1,
  0,PUnit.unit) else some (0,0,PUnit.unit)) fun (j:(Int×Int)×(Int×Int)×PUnit→Option (Int×Int×PUnit))=>bif v4 then j (t_2,t,PUnit.unit) else
  j (t,t_2,PUnit.unit) else none else none else none
noncomputable def ratio_Cmp (x0:Int×Int) (x1:Int×Int):Option (Int×Int×Unit):=ratio_Cmp_b lpK jnK ratio_size ratio_Valid ratio_product ratio_less x0 x1
abbrev t39:=(Int×Int)→(Int×Int)→Option (Int×Int×Unit)
noncomputable def k39 (ratio_Cmp:t39):Ctr:=⟨[T49,T49],[],[],.tup [i64,i64],fun x _ _=>ratio_Cmp x.1 x.2.1⟩
noncomputable def c39:Ctr:=k39 ratio_Cmp
theorem e39 (lp:Lp) (jn:Jn) (ratio_size:t77) (ratio_Valid:t72) (ratio_product:t76) (ratio_less:t79):∀(x:TsS c39.as) (F:TsF c39.fs) (y:TsS c39.cs),ratio_Cmp_b lp jn ratio_size ratio_Valid ratio_product ratio_less x.1 x.2.1=runC lp jn (cx [(79,k79 ratio_less),(76,k76 ratio_product),(72,k72 ratio_Valid),(77,k77 ratio_size)] [(134,r134)]) hints 4 39 f39 c39 x F y:=fun x F y=>by kernel_rfl
theorem ok39:c39.ok prog 39:=Ctr.of_den (ctxT_ok (ctxOf_cons (ctxOf_cons (ctxOf_cons (ctxOf_cons (q134) (by kernel_rfl) ok77) (by kernel_rfl) ok72) (by kernel_rfl) ok76) (by kernel_rfl) ok79)) hmix (hl:=hints) (d:=4) func39 rfl (by decide) (e39 lpK jnK ratio_size ratio_Valid ratio_product ratio_less)
noncomputable def program_cmp_b (_:Lp) (_:Jn) (ratio_Cmp:t39) (x0:Int×Int) (x1:Int):Option Int :=
 obind (ratio_Cmp x0 (x1,1)) fun (t:Int×Int×PUnit)=>some t.1
noncomputable def program_cmp (x0:Int×Int) (x1:Int):Option Int:=program_cmp_b lpK jnK ratio_Cmp x0 x1
abbrev t144:=(Int×Int)→(Int)→Option (Int)
noncomputable def c144:Ctr:=⟨[T49,i64],[],[],.one i64,fun x _ _=>program_cmp x.1 x.2.1⟩
theorem e144 (lp:Lp) (jn:Jn) (ratio_Cmp:t39):∀(x:TsS c144.as) (F:TsF c144.fs) (y:TsS c144.cs),program_cmp_b lp jn ratio_Cmp x.1 x.2.1=runC lp jn (cx [(39,k39 ratio_Cmp)] [(134,r134)]) hints 4 144 f144 c144 x F y:=fun x F y=>by kernel_rfl
theorem ok144:c144.ok prog 144:=Ctr.of_den (ctxT_ok (ctxOf_cons (q134) (by kernel_rfl) ok39)) hmix (hl:=hints) (d:=4) func144 rfl (by decide) (e144 lpK jnK ratio_Cmp)
noncomputable def program_column_b (lp:Lp) (_:Jn) (x0:(List Int)×List ((List Int)×Int×Int)) (x1:Int):Option (List Int) :=
 lp (List Int×Int×PUnit) (List Int) (fun (again:List Int×Int×PUnit→Option (List Int)) (x:List Int×Int×PUnit)=>bif decide (x.2.1<(↑(List.length x0.2):Int)) then
  bif inB x.2.1 (List.length x0.2) then bif inB x1 (List.length (List.getD x0.2 (Int.toNat x.2.1) ([],0,0)).1) then bif fitB (List.length x.1+(1 :
  Nat)) 8 then again (x.1++[List.getD (List.getD x0.2 (Int.toNat x.2.1) ([],0,0)).1 (Int.toNat x1) 0],IntKind.wrap .i64 (x.2.1 +
  1),PUnit.unit) else none else none else none else some x.1) ([],0,PUnit.unit)
noncomputable def program_column (x0:(List Int)×List ((List Int)×Int×Int)) (x1:Int):Option (List Int):=program_column_b lpK jnK x0 x1
abbrev t145:=((List Int)×List ((List Int)×Int×Int))→(Int)→Option (List Int)
noncomputable def c145:Ctr:=⟨[T32,i64],[],[],.one (.sl i64),fun x _ _=>program_column x.1 x.2.1⟩
theorem e145 (lp:Lp) (jn:Jn):∀(x:TsS c145.as) (F:TsF c145.fs) (y:TsS c145.cs),program_column_b lp jn x.1 x.2.1=runC lp jn (cx [] [(134,r134)]) hints 4 145 f145 c145 x F y:=fun x F y=>by kernel_rfl
theorem ok145:c145.ok prog 145:=Ctr.of_den (ctxT_ok (q134)) hmix (hl:=hints) (d:=4) func145 rfl (by decide) (e145 lpK jnK)
noncomputable def program_Refutes_1_b (_:Lp) (_:Jn) (_:Int):Option Int :=
 some 0
noncomputable def program_Refutes_1 (x0:Int):Option Int:=program_Refutes_1_b lpK jnK x0
abbrev t94:=(Int)→Option (Int)
noncomputable def c94:Ctr:=⟨[i64],[],[],.one i64,fun x _ _=>program_Refutes_1 x.1⟩
theorem e94 (lp:Lp) (jn:Jn):∀(x:TsS c94.as) (F:TsF c94.fs) (y:TsS c94.cs),program_Refutes_1_b lp jn x.1=runC lp jn (cx [] [(134,r134)]) hints 4 94 f94 c94 x F y:=fun x F y=>by kernel_rfl
theorem ok94:c94.ok prog 94:=Ctr.of_den (ctxT_ok (q134)) hmix (hl:=hints) (d:=4) func94 rfl (by decide) (e94 lpK jnK)
noncomputable def program_rights_b (lp:Lp) (_:Jn) (x0:(List Int)×List ((List Int)×Int×Int)):Option (List Int) :=
 lp (List Int×Int×PUnit) (List Int) (fun (again:List Int×Int×PUnit→Option (List Int)) (x:List Int×Int×PUnit)=>bif decide (x.2.1<(↑(List.length x0.2):Int)) then
  bif inB x.2.1 (List.length x0.2) then bif fitB (List.length x.1+1) 8 then again (x.1++[(List.getD x0.2 (Int.toNat x.2.1) ([],0,(0 :
  Int))).2.2],IntKind.wrap .i64 (x.2.1+1),PUnit.unit) else none else none else some x.1) ([],0,PUnit.unit)
noncomputable def program_rights (x0:(List Int)×List ((List Int)×Int×Int)):Option (List Int):=program_rights_b lpK jnK x0
abbrev t96:=((List Int)×List ((List Int)×Int×Int))→Option (List Int)
noncomputable def c96:Ctr:=⟨[T32],[],[],.one (.sl i64),fun x _ _=>program_rights x.1⟩
theorem e96 (lp:Lp) (jn:Jn):∀(x:TsS c96.as) (F:TsF c96.fs) (y:TsS c96.cs),program_rights_b lp jn x.1=runC lp jn (cx [] [(134,r134)]) hints 4 96 f96 c96 x F y:=fun x F y=>by kernel_rfl
theorem ok96:c96.ok prog 96:=Ctr.of_den (ctxT_ok (q134)) hmix (hl:=hints) (d:=4) func96 rfl (by decide) (e96 lpK jnK)
noncomputable def program_signed_b (lp:Lp) (_:Jn) (x0:(List Int)×List ((List Int)×Int×Int)) (x1:List (Int×Int)):Option Bool :=
 lp (Int×PUnit) Bool (fun (again:Int×PUnit→Option Bool) (x:Int×PUnit) =>
 let v6:Bool:=inB x.1 (List.length x1);
 let v7:Bool:=decide ((List.getD x0.2 (Int.toNat x.1) ([],0,0)).2.1=1);
 let v8:Bool:=decide ((List.getD x0.2 (Int.toNat x.1) ([],0,0)).2.1=2);
 let v9:Bool:=!v7;
 let v10:Bool:=bif v7 then decide ((List.getD x1 (Int.toNat x.1) (0,0)).1>0) else false;
 let v11:Bool:=!v10;
 let v12:Bool:=!v11;
 let v13:Bool:=v9||v7;
 let v14:Bool:=v11&&v8;
 let v15:Bool:=!v14;
 let v16:Bool:=v12||v11;
 let v17:Bool:=v15||v14;bif decide (x.1<(↑(List.length x0.2):Int)) then bif inB x.1 (List.length x0.2) then bif v13&&(v13&&(v9||v6)) then bif v13 then bif v13 then
  bif v13 then bif v13 then bif v16 then bif v16 then bif v16 then bif v17&&(v17&&(v15||v6)) then bif v17 then bif v17 then bif v17 then bif (v12||v16)&&(v12||(!v8||(v12 ||
  v14))) then bif v10||v11 then bif bif v10 then true else bif v8 then decide ((List.getD x1 (Int.toNat x.1) (0,0)).1<0) else false then some false else
  again (IntKind.wrap .i64 (x.1+1),PUnit.unit) else none else none else none else none else none else none else none else none else none else none else none else none
  else none else none else none else some true) (0,PUnit.unit)
noncomputable def program_signed (x0:(List Int)×List ((List Int)×Int×Int)) (x1:List (Int×Int)):Option Bool:=program_signed_b lpK jnK x0 x1
abbrev t97:=((List Int)×List ((List Int)×Int×Int))→(List (Int×Int))→Option (Bool)
noncomputable def c97:Ctr:=⟨[T32,(.sl T49)],[],[],.one .bool,fun x _ _=>program_signed x.1 x.2.1⟩
theorem e97 (lp:Lp) (jn:Jn):∀(x:TsS c97.as) (F:TsF c97.fs) (y:TsS c97.cs),program_signed_b lp jn x.1 x.2.1=runC lp jn (cx [] [(134,r134)]) hints 4 97 f97 c97 x F y:=fun x F y=>by kernel_rfl
theorem ok97:c97.ok prog 97:=Ctr.of_den (ctxT_ok (q134)) hmix (hl:=hints) (d:=4) func97 rfl (by decide) (e97 lpK jnK)
noncomputable def program_Refutes_b (lp:Lp) (_:Jn) (program_Valid:t91) (program_right:t92) (program_cmp:t144) (program_column:t145) (program_Refutes_1:t94) (program_rights:t96) (program_signed:t97) (program_sums_of:t95) (x0:(List Int)×List ((List Int)×Int×Int)) (x1:List (Int×Int)):Option (Bool×Int×Unit) :=
 obind (program_Valid x0) fun (t:Bool) =>
 let v5:Bool:=!t;
 let v6:Bool:=!v5;
 let v7:Bool:=!v6||v6;bif v7 then obind (bif v6 then program_right x1 else some false) fun (t:Bool)=>bif v7 then bif v5||v6 then bif bif v5 then true else !t then some (false,
  1,PUnit.unit) else bif !decide ((↑(List.length x1):Int)=(↑(List.length x0.2):Int)) then some (false,3,PUnit.unit) else lp (Bool×Int×Int×PUnit) (Bool ×
  Int×PUnit) (fun (again:Bool×Int×Int×PUnit→Option (Bool×Int×PUnit)) (x:Bool×Int×Int×PUnit)=>bif decide (x.2.1<(↑(List.length x0.1):Int)) then obind
  (program_column x0 x.2.1) fun (t:List Int)=>obind (program_sums_of x.2.2.1 t x1) fun (t:Int×Int×Int)=>obind (program_Refutes_1 x.2.1) fun (t_1:Int)=>obind
  (program_cmp t.2 t_1) fun (t_2:Int) =>
 let v15:Bool:=decide (t_2≤0);bif !v15||v15 then again (bif v15 then x.1 else false,IntKind.wrap .i64 (x.2.1+1),t.1,PUnit.unit) else none else
  obind (program_rights x0) fun (t:List Int)=>obind (program_sums_of x.2.2.1 t x1) fun (t:Int×Int×Int) =>
 let v13:Bool:=decide (t.2.1>0);
 let v14:Bool:=!v13||v13;bif v14&&v14 then obind (bif v13 then program_signed x0 x1 else some false) fun (t_1:Bool) =>
 let v16:Bool:=bif v13 then t_1 else false;
 let v17:Bool:=bif v16 then x.1 else false;
 let v18:Bool:=!v17||v17;bif v14 then bif !v16||v16 then bif v18 then bif v18 then bif v18 then some (bif v17 then decide (t.1=0) else false,t.1,PUnit.unit) else
  none else none else none else none else none else none) (true,0,0,PUnit.unit) else none else none else none
noncomputable def program_Refutes (x0:(List Int)×List ((List Int)×Int×Int)) (x1:List (Int×Int)):Option (Bool×Int×Unit):=program_Refutes_b lpK jnK program_Valid program_right program_cmp program_column program_Refutes_1 program_rights program_signed program_sums_of x0 x1
abbrev t47:=((List Int)×List ((List Int)×Int×Int))→(List (Int×Int))→Option (Bool×Int×Unit)
noncomputable def k47 (program_Refutes:t47):Ctr:=⟨[T32,(.sl T49)],[],[],.tup [.bool,i64],fun x _ _=>program_Refutes x.1 x.2.1⟩
noncomputable def c47:Ctr:=k47 program_Refutes
theorem e47 (lp:Lp) (jn:Jn) (program_Valid:t91) (program_right:t92) (program_cmp:t144) (program_column:t145) (program_Refutes_1:t94) (program_rights:t96) (program_signed:t97) (program_sums_of:t95):∀(x:TsS c47.as) (F:TsF c47.fs) (y:TsS c47.cs),program_Refutes_b lp jn program_Valid program_right program_cmp program_column program_Refutes_1 program_rights program_signed program_sums_of x.1 x.2.1=runC lp jn (ctxT tabs lits (ctxP [] [(95,k95 program_sums_of)] (ctxOf prog shs inls its [(97,⟨[T32,(.sl T49)],[],[],.one .bool,fun x _ _=>program_signed x.1 x.2.1⟩),(96,⟨[T32],[],[],.one (.sl i64),fun x _ _=>program_rights x.1⟩),(94,⟨[i64],[],[],.one i64,fun x _ _=>program_Refutes_1 x.1⟩),(145,⟨[T32,i64],[],[],.one (.sl i64),fun x _ _=>program_column x.1 x.2.1⟩),(144,⟨[T49,i64],[],[],.one i64,fun x _ _=>program_cmp x.1 x.2.1⟩),(92,⟨[(.sl T49)],[],[],.one .bool,fun x _ _=>program_right x.1⟩),(91,k91 program_Valid)] [(134,r134)]))) hints 4 47 f47 c47 x F y:=fun x F y=>by kernel_rfl
theorem ok47:c47.ok prog 47:=Ctr.of_den (ctxT_ok (ctxP_ok (ctxOf_cons (ctxOf_cons (ctxOf_cons (ctxOf_cons (ctxOf_cons (ctxOf_cons (ctxOf_cons (q134) (by kernel_rfl) ok91) (by kernel_rfl) ok92) (by kernel_rfl) ok144) (by kernel_rfl) ok145) (by kernel_rfl) ok94) (by kernel_rfl) ok96) (by kernel_rfl) ok97) (pcOk_nil) (mcOk_cons (by kernel_rfl) ok95 (mcOk_nil)))) hmix (hl:=hints) (d:=4) func47 rfl (by decide) (e47 lpK jnK program_Valid program_right program_cmp program_column program_Refutes_1 program_rights program_signed program_sums_of)
noncomputable def slack_Proves_b (_:Lp) (_:Jn) (slack_Program:t11) (program_Refutes:t47) (x0:(List (ByteArray×Int))×List (ByteArray×(List (ByteArray×Int×Int×Int))×Bool)) (x1:List (Int×Int)):Option (Bool×Int×Unit) :=
 obind (slack_Program x0) fun (t:(List Int×List (List Int×Int×Int))×Int×PUnit)=>bif !decide (t.2.1=0) then some (false,t.2.1,PUnit.unit) else obind
  (program_Refutes t.1 x1) fun (t:Bool×Int×PUnit)=>some (t.1,t.2.1,PUnit.unit)
noncomputable def slack_Proves (x0:(List (ByteArray×Int))×List (ByteArray×(List (ByteArray×Int×Int×Int))×Bool)) (x1:List (Int×Int)):Option (Bool×Int×Unit):=slack_Proves_b lpK jnK slack_Program program_Refutes x0 x1
abbrev t12:=((List (ByteArray×Int))×List (ByteArray×(List (ByteArray×Int×Int×Int))×Bool))→(List (Int×Int))→Option (Bool×Int×Unit)
noncomputable def k12 (slack_Proves:t12):Ctr:=⟨[T25,(.sl T49)],[],[],.tup [.bool,i64],fun x _ _=>slack_Proves x.1 x.2.1⟩
noncomputable def c12:Ctr:=k12 slack_Proves
theorem e12 (lp:Lp) (jn:Jn) (slack_Program:t11) (program_Refutes:t47):∀(x:TsS c12.as) (F:TsF c12.fs) (y:TsS c12.cs),slack_Proves_b lp jn slack_Program program_Refutes x.1 x.2.1=runC lp jn (cx [(47,k47 program_Refutes),(11,k11 slack_Program)] [(134,r134)]) hints 4 12 f12 c12 x F y:=fun x F y=>by kernel_rfl
theorem ok12:c12.ok prog 12:=Ctr.of_den (ctxT_ok (ctxOf_cons (ctxOf_cons (q134) (by kernel_rfl) ok11) (by kernel_rfl) ok47)) hmix (hl:=hints) (d:=4) func12 rfl (by decide) (e12 lpK jnK slack_Program program_Refutes)
noncomputable def program_size_b (_:Lp) (_:Jn) (x0:Int):Option Int :=
 
 let v3:Int:=IntKind.wrap .u64 x0;bif decide (x0<0) then some (IntKind.wrap .u64 (0 - v3)) else some v3
noncomputable def program_size (x0:Int):Option Int:=program_size_b lpK jnK x0
abbrev t155:=(Int)→Option (Int)
noncomputable def k155 (program_size:t155):Ctr:=⟨[i64],[],[],.one (.int .u64),fun x _ _=>program_size x.1⟩
noncomputable def c155:Ctr:=k155 program_size
theorem e155 (lp:Lp) (jn:Jn):∀(x:TsS c155.as) (F:TsF c155.fs) (y:TsS c155.cs),program_size_b lp jn x.1=runC lp jn (cx [] [(134,r134)]) hints 4 155 f155 c155 x F y:=fun x F y=>by kernel_rfl
theorem ok155:c155.ok prog 155:=Ctr.of_den (ctxT_ok (q134)) hmix (hl:=hints) (d:=4) func155 rfl (by decide) (e155 lpK jnK)
noncomputable def program_fits_1_b (lp:Lp) (_:Jn) (program_size:t155) (x0:List Int) (x1:Int):Option Int :=
 obind (program_size x1) fun (t:Int)=>lp (Int×Int×PUnit) Int (fun (again:Int×Int×PUnit→Option Int) (x:Int×Int×PUnit)=>bif decide (x.2.1<(↑(List.length x0) :
  Int)) then bif inB x.2.1 (List.length x0) then obind (program_size (List.getD x0 (Int.toNat x.2.1) 0)) fun (t:Int)=>again (IntKind.wrap .i64 (x.1 +
  IntKind.wrap .i64 t),IntKind.wrap .i64 (x.2.1+1),PUnit.unit) else none else some x.1) (IntKind.wrap .i64 (1+IntKind.wrap .i64 t),
  0,PUnit.unit)
noncomputable def program_fits_1 (x0:List Int) (x1:Int):Option Int:=program_fits_1_b lpK jnK program_size x0 x1
abbrev t154:=(List Int)→(Int)→Option (Int)
noncomputable def c154:Ctr:=⟨[(.sl i64),i64],[],[],.one i64,fun x _ _=>program_fits_1 x.1 x.2.1⟩
theorem e154 (lp:Lp) (jn:Jn) (program_size:t155):∀(x:TsS c154.as) (F:TsF c154.fs) (y:TsS c154.cs),program_fits_1_b lp jn program_size x.1 x.2.1=runC lp jn (cx [(155,k155 program_size)] [(134,r134)]) hints 4 154 f154 c154 x F y:=fun x F y=>by kernel_rfl
theorem ok154:c154.ok prog 154:=Ctr.of_den (ctxT_ok (ctxOf_cons (q134) (by kernel_rfl) ok155)) hmix (hl:=hints) (d:=4) func154 rfl (by decide) (e154 lpK jnK program_size)
noncomputable def slices_Max_156_b (lp:Lp) (jn:Jn) (x0:List Int):Option Int :=
 jn PUnit Int (fun (_:PUnit)=>bif inB 0 (List.length x0) then lp (Int×Int×PUnit) Int (fun (again:Int×Int×PUnit→Option Int) (x:Int×Int×PUnit)=>bif decide
  (x.2.1<(↑(List.length x0):Int)) then bif inB x.2.1 (List.length x0) then again (if List.getD x0 (Int.toNat x.2.1) 0>x.1 then List.getD x0 (Int.toNat
  x.2.1) 0 else x.1,IntKind.wrap .i64 (x.2.1+1),PUnit.unit) else none else some x.1) (List.getD x0 0 0,1,PUnit.unit) else
  none) fun (j:PUnit→Option Int)=>bif decide ((↑(List.length x0):Int)<1) then none else j PUnit.unit
noncomputable def slices_Max_156 (x0:List Int):Option Int:=slices_Max_156_b lpK jnK x0
abbrev t156:=(List Int)→Option (Int)
noncomputable def c156:Ctr:=⟨[(.sl i64)],[],[],.one i64,fun x _ _=>slices_Max_156 x.1⟩
theorem e156 (lp:Lp) (jn:Jn):∀(x:TsS c156.as) (F:TsF c156.fs) (y:TsS c156.cs),slices_Max_156_b lp jn x.1=runC lp jn (cx [] [(134,r134)]) hints 4 156 f156 c156 x F y:=fun x F y=>by kernel_rfl
theorem ok156:c156.ok prog 156:=Ctr.of_den (ctxT_ok (q134)) hmix (hl:=hints) (d:=4) func156 rfl (by decide) (e156 lpK jnK)
noncomputable def program_fits_b (lp:Lp) (_:Jn) (program_fits_1:t154) (slices_Max_156:t156) (x0:(List Int)×List ((List Int)×Int×Int)):Option Bool :=
 obind (program_fits_1 x0.1 0) fun (t:Int)=>lp (List Int×Int×PUnit) Bool (fun (again:List Int×Int×PUnit→Option Bool) (x:List Int×Int×PUnit) =>
 let v6:List Int×Int×Int:=List.getD x0.2 (Int.toNat x.2.1) ([],0,0);bif decide (x.2.1<(↑(List.length x0.2):Int)) then bif inB x.2.1
  (List.length x0.2) then obind (program_fits_1 v6.1 v6.2.2) fun (t:Int)=>bif fitB (List.length x.1+1) 8 then again (x.1++[t],IntKind.wrap .i64
  (x.2.1+1),PUnit.unit) else none else none else lp (Int×Int×PUnit) Bool (fun (again:Int×Int×PUnit→Option Bool) (x_1:Int×Int×PUnit) =>
 let v9:Int:=List.getD x.1 (Int.toNat x_1.2.1) 0;bif decide (x_1.2.1<(↑(List.length x.1):Int)) then bif inB x_1.2.1 (List.length x.1) then bif Nat.ble
  (Nat.succ (Int.toNat x_1.2.1)) (List.length x.1) then bif nzB v9 then bif decide (x_1.1>IntKind.wrap .i64 (Int.tdiv 17592186044416 v9)) then some false else
  again (IntKind.wrap .i64 (x_1.1*v9),IntKind.wrap .i64 (x_1.2.1+1),PUnit.unit) else none else none else none else obind (slices_Max_156 x.1) fun (t :
  Int)=>bif nzB t then some (decide (x_1.1≤IntKind.wrap .i64 (Int.tdiv 144115188075855872 t))) else none) (1,0,PUnit.unit)) ([t],0,
  PUnit.unit)
noncomputable def program_fits (x0:(List Int)×List ((List Int)×Int×Int)):Option Bool:=program_fits_b lpK jnK program_fits_1 slices_Max_156 x0
abbrev t108:=((List Int)×List ((List Int)×Int×Int))→Option (Bool)
noncomputable def k108 (program_fits:t108):Ctr:=⟨[T32],[],[],.one .bool,fun x _ _=>program_fits x.1⟩
noncomputable def c108:Ctr:=k108 program_fits
theorem e108 (lp:Lp) (jn:Jn) (program_fits_1:t154) (slices_Max_156:t156):∀(x:TsS c108.as) (F:TsF c108.fs) (y:TsS c108.cs),program_fits_b lp jn program_fits_1 slices_Max_156 x.1=runC lp jn (cx [(156,⟨[(.sl i64)],[],[],.one i64,fun x _ _=>slices_Max_156 x.1⟩),(154,⟨[(.sl i64),i64],[],[],.one i64,fun x _ _=>program_fits_1 x.1 x.2.1⟩)] [(134,r134)]) hints 4 108 f108 c108 x F y:=fun x F y=>by kernel_rfl
theorem ok108:c108.ok prog 108:=Ctr.of_den (ctxT_ok (ctxOf_cons (ctxOf_cons (q134) (by kernel_rfl) ok154) (by kernel_rfl) ok156)) hmix (hl:=hints) (d:=4) func108 rfl (by decide) (e108 lpK jnK program_fits_1 slices_Max_156)
noncomputable def program_table_artificial_b (lp:Lp) (_:Jn) (x0:(List (List Int))×Int×(List Int)×(List Int)×(List Int)×Int×Int) (x1:Int):Option Int :=
 lp (Int×Int×PUnit) Int (fun (again:Int×Int×PUnit→Option Int) (x:Int×Int×PUnit) =>
 let v6:Int×PUnit:=(IntKind.wrap .i64 (x.2.1+1),PUnit.unit);
 let v7:List Int:=List.getD x0.1 (Int.toNat x.2.1) [];bif decide (x.2.1<(↑(List.length x0.1):Int)) then bif inB x.2.1 (List.length x0.1) then bif inB x.2.1
  (List.length x0.2.2.1) then bif decide (List.getD x0.2.2.1 (Int.toNat x.2.1) 0≥x0.2.2.2.2.2.1) then bif inB x1 (List.length v7) then again
  (IntKind.wrap .i64 (x.1+List.getD v7 (Int.toNat x1) 0),v6) else none else again (x.1,v6) else none else none else some x.1) (0,0,PUnit.unit)
noncomputable def program_table_artificial (x0:(List (List Int))×Int×(List Int)×(List Int)×(List Int)×Int×Int) (x1:Int):Option Int:=program_table_artificial_b lpK jnK x0 x1
abbrev t126:=((List (List Int))×Int×(List Int)×(List Int)×(List Int)×Int×Int)→(Int)→Option (Int)
noncomputable def k126 (program_table_artificial:t126):PCtr:=⟨T156,[i64],.one i64,fun x y=>program_table_artificial x y.1⟩
noncomputable def p126:PCtr:=k126 program_table_artificial
theorem e126 (lp:Lp) (jn:Jn):∀(x:p126.s.T) (y:TsS p126.as),program_table_artificial_b lp jn x y.1=runP lp jn (cx [] [(134,r134)]) hints 4 126 f126 p126 x y:=fun x y=>by kernel_rfl
theorem ok126:p126.ok prog 126:=PCtr.of_den (ctxT_ok (q134)) hmix (hl:=hints) (d:=4) func126 rfl (by decide) (e126 lpK jnK)
noncomputable def program_times_b (_:Lp) (_:Jn) (bits_Mul64:t122) (program_size:t155) (x0:Int) (x1:Int):Option (Bool×Int×Int) :=
 
 let v4:Bool:=!decide (decide (x0<0)=decide (x1<0));
 let v5:Bool:=!v4;
 let v6:Bool:=v5||v4;obind (program_size x0) fun (t:Int)=>obind (program_size x1) fun (t_1:Int)=>obind (bits_Mul64 t t_1) fun (t:Int×Int×PUnit) =>
 let v10:Bool:=!decide (t.1=0);
 let v11:Bool:=v4&&!v10;bif v6 then bif v6 then bif !v11||v11 then bif (v5||v6)&&(v5||(v10||(v5||v11))) then bif v6 then some (bif v4 then bif v10 then true else !decide
  (t.2.1=0) else false,t.1,t.2.1) else none else none else none else none else none
noncomputable def program_times (x0:Int) (x1:Int):Option (Bool×Int×Int):=program_times_b lpK jnK bits_Mul64 program_size x0 x1
abbrev t175:=(Int)→(Int)→Option (Bool×Int×Int)
noncomputable def k175 (program_times:t175):Ctr:=⟨[i64,i64],[],[],.one T205,fun x _ _=>program_times x.1 x.2.1⟩
noncomputable def c175:Ctr:=k175 program_times
theorem e175 (lp:Lp) (jn:Jn) (bits_Mul64:t122) (program_size:t155):∀(x:TsS c175.as) (F:TsF c175.fs) (y:TsS c175.cs),program_times_b lp jn bits_Mul64 program_size x.1 x.2.1=runC lp jn (cx [(155,k155 program_size),(122,k122 bits_Mul64)] [(134,r134)]) hints 4 175 f175 c175 x F y:=fun x F y=>by kernel_rfl
theorem ok175:c175.ok prog 175:=Ctr.of_den (ctxT_ok (ctxOf_cons (ctxOf_cons (q134) (by kernel_rfl) ok122) (by kernel_rfl) ok155)) hmix (hl:=hints) (d:=4) func175 rfl (by decide) (e175 lpK jnK bits_Mul64 program_size)
noncomputable def program_product_cmpSize_b (_:Lp) (_:Jn) (x0:Bool×Int×Int) (x1:Bool×Int×Int):Option Int :=
 
 let v4:Bool:=decide (x0.2.1=x1.2.1);
 let v5:Bool:=!v4;
 let v6:Bool:=v5||v4;
 let v7:Bool:=!v5||v5;
 let v8:Bool:=bif v5 then decide (x0.2.1<x1.2.1) else false;
 let v9:Bool:=!v8;
 let v10:Bool:=!v9;
 let v11:Bool:=v9&&v4;
 let v12:Bool:=v10||v9;
 let v13:Bool:=!v11||v11;bif v7 then bif v7 then bif v7&&v7 then bif v7 then bif v12 then bif v12 then bif v12&&v12 then bif v12 then bif v13 then bif v13 then bif v13&&v13
  then bif (v10||v12)&&(v10||(v5||(v10||v11))) then bif v8||v9 then bif bif v8 then true else bif v4 then decide (x0.2.2<x1.2.2) else false then some (-1) else
  bif v6 then bif v6 then bif v6&&v6 then bif v6 then bif bif v4 then decide (x0.2.2=x1.2.2) else false then some 0 else some 1 else none else none else none
  else none else none else none else none else none else none else none else none else none else none else none else none else none else none
noncomputable def program_product_cmpSize (x0:Bool×Int×Int) (x1:Bool×Int×Int):Option Int:=program_product_cmpSize_b lpK jnK x0 x1
abbrev t184:=(Bool×Int×Int)→(Bool×Int×Int)→Option (Int)
noncomputable def k184 (program_product_cmpSize:t184):Ctr:=⟨[T205,T205],[],[],.one i64,fun x _ _=>program_product_cmpSize x.1 x.2.1⟩
noncomputable def c184:Ctr:=k184 program_product_cmpSize
theorem e184 (lp:Lp) (jn:Jn):∀(x:TsS c184.as) (F:TsF c184.fs) (y:TsS c184.cs),program_product_cmpSize_b lp jn x.1 x.2.1=runC lp jn (cx [] [(134,r134)]) hints 4 184 f184 c184 x F y:=fun x F y=>by kernel_rfl
theorem ok184:c184.ok prog 184:=Ctr.of_den (ctxT_ok (q134)) hmix (hl:=hints) (d:=4) func184 rfl (by decide) (e184 lpK jnK)
noncomputable def program_product_minus_b (_:Lp) (jn:Jn) (program_product_cmpSize:t184) (x0:Bool×Int×Int) (x1:Bool×Int×Int):Option (Bool×Int×Int) :=
 
 let v4:Bool:=!x0.1;
 let v5:Bool:=!x1.1;
 let v6:Bool:=!v4;
 let v7:Bool:=v4&&v5;
 let v8:Bool:=v6||v4;
 let v9:Bool:=!v7;
 let v10:Bool:=v9||v7;
 let v11:Bool:=!decide (x1.2.1=0);
 let v12:Bool:=v7&&!v11;
 let v13:Bool:=decide ((0:Int)≤0)&&decide ((0:Int)≤1);
 let v14:Bool:=!v12||v12;bif !decide (x0.1=x1.1) then bif v13 then bif decide (0≤addC x0.2.2 x1.2.2 0)&&decide (addC x0.2.2 x1.2.2 (0 :
  Int)≤1) then bif v8 then bif v8 then bif v8 then bif v10 then bif v10 then bif v10 then bif v14 then bif v14 then bif (v9||v10)&&(v9||(v11||(v9||v12))) then bif (v6
  || v8)&&(v6||(!v5||(v6||v7))) then bif x0.1||v4 then some (bif x0.1 then true else bif v5 then bif v11 then true else !decide (x1.2.2=0) else false,addO
  x0.2.1 x1.2.1 (addC x0.2.2 x1.2.2 0),addO x0.2.2 x1.2.2 0) else none else none else none else none else none else none else none else none else
  none else none else none else none else none else obind (program_product_cmpSize x0 x1) fun (t:Int)=>jn (Bool×(Bool×Int×Int)×(Bool×Int×Int)×PUnit) (Bool×Int×Int)
  (fun (x:Bool×(Bool×Int×Int)×(Bool×Int×Int)×PUnit) =>
 let v17:Bool:=!x.1;
 let v18:Bool:=v17||x.1;
 let v19:Bool:=!decide (subO x.2.1.2.1 x.2.2.1.2.1 (subC x.2.1.2.2 x.2.2.1.2.2 0)=0);
 let v20:Bool:=x.1&&!v19;bif v13 then bif decide (0≤subC x.2.1.2.2 x.2.2.1.2.2 0)&&decide (subC x.2.1.2.2 x.2.2.1.2.2 (0 :
  Int)≤1) then bif v18 then bif v18 then bif !v20||v20 then bif (v17||v18)&&(v17||(v19||(v17||v20))) then bif v18 then some (bif x.1 then bif v19 then true else
  !decide (subO x.2.1.2.2 x.2.2.1.2.2 0=0) else false,subO x.2.1.2.1 x.2.2.1.2.1 (subC x.2.1.2.2 x.2.2.1.2.2 (0 :
  Int)),subO x.2.1.2.2 x.2.2.1.2.2 0) else none else none else none else none else none else none else none) fun (j:Bool×(Bool×Int×Int)×(Bool×Int ×
  Int)×PUnit→Option (Bool×Int×Int))=>bif decide (t<0) then j (v4,x1,x0,PUnit.unit) else j (x0.1,x0,x1,PUnit.unit)
noncomputable def program_product_minus (x0:Bool×Int×Int) (x1:Bool×Int×Int):Option (Bool×Int×Int):=program_product_minus_b lpK jnK program_product_cmpSize x0 x1
abbrev t176:=(Bool×Int×Int)→(Bool×Int×Int)→Option (Bool×Int×Int)
noncomputable def k176 (program_product_minus:t176):Ctr:=⟨[T205,T205],[],[],.one T205,fun x _ _=>program_product_minus x.1 x.2.1⟩
noncomputable def c176:Ctr:=k176 program_product_minus
theorem e176 (lp:Lp) (jn:Jn) (program_product_cmpSize:t184):∀(x:TsS c176.as) (F:TsF c176.fs) (y:TsS c176.cs),program_product_minus_b lp jn program_product_cmpSize x.1 x.2.1=runC lp jn (cx [(184,k184 program_product_cmpSize)] [(134,r134)]) hints 4 176 f176 c176 x F y:=fun x F y=>by kernel_rfl
theorem ok176:c176.ok prog 176:=Ctr.of_den (ctxT_ok (ctxOf_cons (q134) (by kernel_rfl) ok184)) hmix (hl:=hints) (d:=4) func176 rfl (by decide) (e176 lpK jnK program_product_cmpSize)
noncomputable def program_product_over_b (_:Lp) (_:Jn) (bits_Div64:t125) (x0:Bool×Int×Int) (x1:Int):Option Int :=
 obind (bits_Div64 x0.2.1 x0.2.2 (IntKind.wrap .u64 x1)) fun (t:Int×Int×PUnit) =>
 let v5:Int:=IntKind.wrap .i64 t.1;bif x0.1 then some (IntKind.wrap .i64 (0 - v5)) else some v5
noncomputable def program_product_over (x0:Bool×Int×Int) (x1:Int):Option Int:=program_product_over_b lpK jnK bits_Div64 x0 x1
abbrev t177:=(Bool×Int×Int)→(Int)→Option (Int)
noncomputable def c177:Ctr:=⟨[T205,i64],[],[],.one i64,fun x _ _=>program_product_over x.1 x.2.1⟩
theorem e177 (lp:Lp) (jn:Jn) (bits_Div64:t125):∀(x:TsS c177.as) (F:TsF c177.fs) (y:TsS c177.cs),program_product_over_b lp jn bits_Div64 x.1 x.2.1=runC lp jn (cx [(125,k125 bits_Div64)] [(134,r134)]) hints 4 177 f177 c177 x F y:=fun x F y=>by kernel_rfl
theorem ok177:c177.ok prog 177:=Ctr.of_den (ctxT_ok (ctxOf_cons (q134) (by kernel_rfl) ok125)) hmix (hl:=hints) (d:=4) func177 rfl (by decide) (e177 lpK jnK bits_Div64)
noncomputable def program_table_pivot_b (lp:Lp) (_:Jn) (program_times:t175) (program_product_minus:t176) (program_product_over:t177) (x0:List Nat×List (Option (List Int))) (x1:Int) (x2:List Int) (x3:List Int) (x4:List Int) (x5:Int) (x6:Int) (x7:Int) (x8:Int):Option ((List Nat×List (Option (List Int)))×Int×(List Int)×(List Int)×(List Int)×Int×Int×Unit) :=
 
 let v11:List Int×List Int×List Int×Int×Int×PUnit:=(List.set x2 (Int.toNat x7) x8,x3,x4,x5,x6,PUnit.unit);bif inB x7 (List.length x0.1) then bif Nat.ble (Nat.succ
  (Int.toNat x7)) (List.length x0.1) then bif inB x8 (List.length (rowD x0.2 (List.getD x0.1 (Int.toNat x7) 0))) then bif Nat.ble (Nat.succ (Int.toNat x8)) (List.length
  (rowD x0.2 (List.getD x0.1 (Int.toNat x7) 0))) then lp (Int×(List Nat×List (Option (List Int)))×PUnit) ((List Nat×List (Option (List Int)))×Int×List Int×List
  Int×List Int×Int×Int×PUnit) (fun (again:Int×(List Nat×List (Option (List Int)))×PUnit→Option ((List Nat×List (Option (List Int)))×Int×List Int×List Int×List
  Int×Int×Int×PUnit)) (x:Int×(List Nat×List (Option (List Int)))×PUnit) =>
 let v14:Int:=IntKind.wrap .i64 (x.1+1);
 let v15:(List Nat×List (Option (List Int)))×PUnit:=(x.2.1,PUnit.unit);
 let v16:Int×(List Nat×List (Option (List Int)))×PUnit:=(0,v15);bif decide (x.1<(↑(List.length x0.1):Int)) then bif inB x.1 (List.length x.2.1.1) then
  bif Nat.ble (Nat.succ (Int.toNat x.1)) (List.length x.2.1.1) then bif decide (x.1=x7) then again (v14,v15) else bif inB x8 (List.length (rowD x.2.1.2 (List.getD
  x.2.1.1 (Int.toNat x.1) 0))) then bif Nat.ble (Nat.succ (Int.toNat x8)) (List.length (rowD x.2.1.2 (List.getD x.2.1.1 (Int.toNat x.1) 0))) then bif
  liveB x.2.1.2 (List.getD x.2.1.1 (Int.toNat x.1) 0) then lp (Int×(List Nat×List (Option (List Int)))×PUnit) ((List Nat×List (Option (List Int)))×Int ×
  List Int×List Int×List Int×Int×Int×PUnit) (fun (again_1:Int×(List Nat×List (Option (List Int)))×PUnit→Option ((List Nat×List (Option (List Int)))×Int×List Int
  × List Int×List Int×Int×Int×PUnit)) (x_1:Int×(List Nat×List (Option (List Int)))×PUnit)=>bif decide (x_1.1<(↑(List.length (rowD x.2.1.2 (List.getD
  x.2.1.1 (Int.toNat x.1) 0))):Int)) then bif inB x_1.1 (List.length (rowD x_1.2.1.2 (List.getD x.2.1.1 (Int.toNat x.1) 0))) then bif Nat.ble
  (Nat.succ (Int.toNat x_1.1)) (List.length (rowD x_1.2.1.2 (List.getD x.2.1.1 (Int.toNat x.1) 0))) then obind (program_times (List.getD (rowD x_1.2.1.2
  (List.getD x.2.1.1 (Int.toNat x.1) 0)) (Int.toNat x_1.1) 0) (List.getD (rowD x0.2 (List.getD x0.1 (Int.toNat x7) 0)) (Int.toNat x8) 0)) fun
  (t:Bool×Int×Int)=>bif inB x7 (List.length x_1.2.1.1) then bif Nat.ble (Nat.succ (Int.toNat x7)) (List.length x_1.2.1.1) then bif inB x_1.1 (List.length (rowD
  x_1.2.1.2 (List.getD x_1.2.1.1 (Int.toNat x7) 0))) then bif Nat.ble (Nat.succ (Int.toNat x_1.1)) (List.length (rowD x_1.2.1.2 (List.getD x_1.2.1.1
  (Int.toNat x7) 0))) then obind (program_times (List.getD (rowD x.2.1.2 (List.getD x.2.1.1 (Int.toNat x.1) 0)) (Int.toNat x8) 0) (List.getD (rowD
  x_1.2.1.2 (List.getD x_1.2.1.1 (Int.toNat x7) 0)) (Int.toNat x_1.1) 0)) fun (t_1:Bool×Int×Int)=>obind (program_product_minus t t_1) fun (t:Bool ×
  Int×Int)=>obind (program_product_over t x1) fun (t:Int)=>bif inB x_1.1 (List.length (rowD x_1.2.1.2 (List.getD x.2.1.1 (Int.toNat x.1) 0))) then bif
  Nat.ble (Nat.succ (Int.toNat x_1.1)) (List.length (rowD x_1.2.1.2 (List.getD x.2.1.1 (Int.toNat x.1) 0))) then again_1 (IntKind.wrap .i64 (x_1.1+(1 :
  Int)),(x_1.2.1.1,List.set x_1.2.1.2 (List.getD x.2.1.1 (Int.toNat x.1) 0) (some (List.set (rowD x_1.2.1.2 (List.getD x.2.1.1 (Int.toNat x.1)
  0)) (Int.toNat x_1.1) t))),PUnit.unit) else none else none else none else none else none else none else none else none else again (v14,x_1.2.1,PUnit.unit)) v16 else
  none else none else none else none else none else bif inB x7 (List.length x2) then bif Nat.ble (Nat.succ (Int.toNat x7)) (List.length x2) then bif decide (List.getD (rowD x0.2
  (List.getD x0.1 (Int.toNat x7) 0)) (Int.toNat x8) 0<0) then lp (Int×(List Nat×List (Option (List Int)))×PUnit) ((List Nat×List (Option (List Int))) ×
  Int×List Int×List Int×List Int×Int×Int×PUnit) (fun (again:Int×(List Nat×List (Option (List Int)))×PUnit→Option ((List Nat×List (Option (List Int)))×Int×List
  Int×List Int×List Int×Int×Int×PUnit)) (x_1:Int×(List Nat×List (Option (List Int)))×PUnit)=>bif decide (x_1.1<(↑(List.length x.2.1.1):Int)) then bif inB
  x_1.1 (List.length x_1.2.1.1) then bif Nat.ble (Nat.succ (Int.toNat x_1.1)) (List.length x_1.2.1.1) then bif liveB x_1.2.1.2 (List.getD x_1.2.1.1 (Int.toNat
  x_1.1) 0) then lp (Int×(List Nat×List (Option (List Int)))×PUnit) ((List Nat×List (Option (List Int)))×Int×List Int×List Int×List Int×Int×Int×PUnit) (fun
  (again_1:Int×(List Nat×List (Option (List Int)))×PUnit→Option ((List Nat×List (Option (List Int)))×Int×List Int×List Int×List Int×Int×Int×PUnit)) (x:Int ×
  (List Nat×List (Option (List Int)))×PUnit)=>bif decide (x.1<(↑(List.length (rowD x_1.2.1.2 (List.getD x_1.2.1.1 (Int.toNat x_1.1) 0))):Int)) then bif
  inB x.1 (List.length (rowD x.2.1.2 (List.getD x_1.2.1.1 (Int.toNat x_1.1) 0))) then bif Nat.ble (Nat.succ (Int.toNat x.1)) (List.length (rowD x.2.1.2
  (List.getD x_1.2.1.1 (Int.toNat x_1.1) 0))) then bif inB x.1 (List.length (rowD x.2.1.2 (List.getD x_1.2.1.1 (Int.toNat x_1.1) 0))) then bif
  Nat.ble (Nat.succ (Int.toNat x.1)) (List.length (rowD x.2.1.2 (List.getD x_1.2.1.1 (Int.toNat x_1.1) 0))) then again_1 (IntKind.wrap .i64 (x.1+(1 :
  Int)),(x.2.1.1,List.set x.2.1.2 (List.getD x_1.2.1.1 (Int.toNat x_1.1) 0) (some (List.set (rowD x.2.1.2 (List.getD x_1.2.1.1 (Int.toNat
  x_1.1) 0)) (Int.toNat x.1) (IntKind.wrap .i64 (0 - List.getD (rowD x.2.1.2 (List.getD x_1.2.1.1 (Int.toNat x_1.1) 0)) (Int.toNat x.1)
  0))))),PUnit.unit) else none else none else none else none else again (IntKind.wrap .i64 (x_1.1+1),x.2.1,PUnit.unit)) (0,x_1.2.1,
  PUnit.unit) else none else none else none else some (x_1.2.1,IntKind.wrap .i64 (0 - List.getD (rowD x0.2 (List.getD x0.1 (Int.toNat x7) 0)) (Int.toNat
  x8) 0),v11)) v16 else some (x.2.1,List.getD (rowD x0.2 (List.getD x0.1 (Int.toNat x7) 0)) (Int.toNat x8) 0,v11) else none else none) (0,x0,
  PUnit.unit) else none else none else none else none
noncomputable def program_table_pivot (x0:List Nat×List (Option (List Int))) (x1:Int) (x2:List Int) (x3:List Int) (x4:List Int) (x5:Int) (x6:Int) (x7:Int) (x8:Int):Option ((List Nat×List (Option (List Int)))×Int×(List Int)×(List Int)×(List Int)×Int×Int×Unit):=program_table_pivot_b lpK jnK program_times program_product_minus program_product_over x0 x1 x2 x3 x4 x5 x6 x7 x8
abbrev t157:=(List Nat×List (Option (List Int)))→(Int)→(List Int)→(List Int)→(List Int)→(Int)→(Int)→(Int)→(Int)→Option ((List Nat×List (Option (List Int)))×Int×(List Int)×(List Int)×(List Int)×Int×Int×Unit)
noncomputable def k157 (program_table_pivot:t157):SCtr:=⟨[.b [.x (.tab 29 .ref 3 i64),.d i64,.row 3 i64,.row 3 i64,.row 3 i64,.d i64,.d i64],.d i64,.d i64],[],fun x=>program_table_pivot x.1 x.2.1 x.2.2.1 x.2.2.2.1 x.2.2.2.2.1 x.2.2.2.2.2.1 x.2.2.2.2.2.2.1 x.2.2.2.2.2.2.2.1 x.2.2.2.2.2.2.2.2.1⟩
noncomputable def s157:SCtr:=k157 program_table_pivot
theorem e157 (lp:Lp) (jn:Jn) (program_times:t175) (program_product_minus:t176) (program_product_over:t177):∀x:TsR (rhI 0 s157.ks),program_table_pivot_b lp jn program_times program_product_minus program_product_over x.1 x.2.1 x.2.2.1 x.2.2.2.1 x.2.2.2.2.1 x.2.2.2.2.2.1 x.2.2.2.2.2.2.1 x.2.2.2.2.2.2.2.1 x.2.2.2.2.2.2.2.2.1=runS lp jn (Dn.look []) (cx [(177,⟨[T205,i64],[],[],.one i64,fun x _ _=>program_product_over x.1 x.2.1⟩),(176,k176 program_product_minus),(175,k175 program_times)] [(134,r134)]) hints 4 157 f157 s157 x:=fun x=>by kernel_rfl
theorem ok157:s157.ok prog 157:=SCtr.of_den (ctxT_ok (ctxOf_cons (ctxOf_cons (ctxOf_cons (q134) (by kernel_rfl) ok175) (by kernel_rfl) ok176) (by kernel_rfl) ok177)) hmix (scOk_nil) (hl:=hints) (d:=4) func157 rfl (by decide) (e157 lpK jnK program_times program_product_minus program_product_over)
end Go.Proofs.YtfknoaclabfdlaaGreat

namespace Go.Proofs.YtfknoaclabfdlaaGreat
open Tryz Dn Dn.Sh
set_option maxRecDepth 100000
noncomputable def program_product_cmp_b (_:Lp) (_:Jn) (program_product_cmpSize:t184) (x0:Bool×Int×Int) (x1:Bool×Int×Int):Option Int :=
 
 let v4:Bool:=!decide (x0.1=x1.1);
 let v5:Bool:=!v4||v4;bif v5 then bif v5 then bif bif v4 then x0.1 else false then some (-1) else bif v4 then some 1 else bif x0.1 then obind
  (program_product_cmpSize x1 x0) fun (t:Int)=>some t else obind (program_product_cmpSize x0 x1) fun (t:Int)=>some t else none else none
noncomputable def program_product_cmp (x0:Bool×Int×Int) (x1:Bool×Int×Int):Option Int:=program_product_cmp_b lpK jnK program_product_cmpSize x0 x1
abbrev t178:=(Bool×Int×Int)→(Bool×Int×Int)→Option (Int)
noncomputable def c178:Ctr:=⟨[T205,T205],[],[],.one i64,fun x _ _=>program_product_cmp x.1 x.2.1⟩
theorem e178 (lp:Lp) (jn:Jn) (program_product_cmpSize:t184):∀(x:TsS c178.as) (F:TsF c178.fs) (y:TsS c178.cs),program_product_cmp_b lp jn program_product_cmpSize x.1 x.2.1=runC lp jn (cx [(184,k184 program_product_cmpSize)] [(134,r134)]) hints 4 178 f178 c178 x F y:=fun x F y=>by kernel_rfl
theorem ok178:c178.ok prog 178:=Ctr.of_den (ctxT_ok (ctxOf_cons (q134) (by kernel_rfl) ok184)) hmix (hl:=hints) (d:=4) func178 rfl (by decide) (e178 lpK jnK program_product_cmpSize)
noncomputable def program_table_leaving_b (lp:Lp) (_:Jn) (program_times:t175) (program_product_cmp:t178) (x0:(List (List Int))×Int×(List Int)×(List Int)×(List Int)×Int×Int) (x1:Int):Option Int :=
 lp (Int×Int×PUnit) Int (fun (again:Int×Int×PUnit→Option Int) (x:Int×Int×PUnit) =>
 let v6:Int×PUnit:=(IntKind.wrap .i64 (x.2.1+1),PUnit.unit);
 let v7:Bool:=inB x.1 (List.length x0.1);
 let v8:List Int:=List.getD x0.1 (Int.toNat x.1) [];
 let v9:List Int:=List.getD x0.1 (Int.toNat x.2.1) [];
 let v10:Bool:=inB x1 (List.length v9);bif decide (x.2.1<(↑(List.length x0.1):Int)) then bif inB x.2.1 (List.length x0.1) then bif v10 then bif decide (List.getD v9
  (Int.toNat x1) 0≤0) then again (x.1,v6) else bif decide (x.1<0) then again (x.2.1,v6) else bif inB x0.2.2.2.2.2.2 (List.length v9) then
  bif v7 then bif inB x1 (List.length v8) then obind (program_times (List.getD v9 (Int.toNat x0.2.2.2.2.2.2) 0) (List.getD v8 (Int.toNat x1) 0)) fun (t:Bool
  × Int×Int)=>bif v7 then bif inB x0.2.2.2.2.2.2 (List.length v8) then bif v10 then obind (program_times (List.getD v8 (Int.toNat x0.2.2.2.2.2.2) 0)
  (List.getD v9 (Int.toNat x1) 0)) fun (t_1:Bool×Int×Int)=>obind (program_product_cmp t t_1) fun (t:Int) =>
 let v14:Bool:=decide (t=0);
 let v15:Bool:=decide (t<0);
 let v16:Bool:=!v15;
 let v17:Bool:=!v16;
 let v18:Bool:=v16&&v14;
 let v19:Bool:=!v18;
 let v20:Bool:=v17||v16;
 let v21:Bool:=v19||v18;bif v20 then bif v20 then bif v21 then bif v21 then bif v21 then bif v21&&(v21&&(v19||inB x.2.1 (List.length x0.2.2.1))) then bif v21 then
  bif v21 then bif v21 then bif v21 then bif v21&&(v21&&(v19||inB x.1 (List.length x0.2.2.1))) then bif v21 then bif v21&&v21 then bif (v17||v20)&&(v17||(!v14 ||
  (v17||v18))) then bif v15||v16 then bif bif v15 then true else bif v14 then decide (List.getD x0.2.2.1 (Int.toNat x.2.1) 0<List.getD x0.2.2.1 (Int.toNat
  x.1) 0) else false then again (x.2.1,v6) else again (x.1,v6) else none else none else none else none else none else none else none else none else none else none else
  none else none else none else none else none else none else none else none else none else none else none else none else none else some x.1) ((-1),0,PUnit.unit)
noncomputable def program_table_leaving (x0:(List (List Int))×Int×(List Int)×(List Int)×(List Int)×Int×Int) (x1:Int):Option Int:=program_table_leaving_b lpK jnK program_times program_product_cmp x0 x1
abbrev t158:=((List (List Int))×Int×(List Int)×(List Int)×(List Int)×Int×Int)→(Int)→Option (Int)
noncomputable def k158 (program_table_leaving:t158):PCtr:=⟨T156,[i64],.one i64,fun x y=>program_table_leaving x y.1⟩
noncomputable def p158:PCtr:=k158 program_table_leaving
theorem e158 (lp:Lp) (jn:Jn) (program_times:t175) (program_product_cmp:t178):∀(x:p158.s.T) (y:TsS p158.as),program_table_leaving_b lp jn program_times program_product_cmp x y.1=runP lp jn (cx [(178,⟨[T205,T205],[],[],.one i64,fun x _ _=>program_product_cmp x.1 x.2.1⟩),(175,k175 program_times)] [(134,r134)]) hints 4 158 f158 p158 x y:=fun x y=>by kernel_rfl
theorem ok158:p158.ok prog 158:=PCtr.of_den (ctxT_ok (ctxOf_cons (ctxOf_cons (q134) (by kernel_rfl) ok175) (by kernel_rfl) ok178)) hmix (hl:=hints) (d:=4) func158 rfl (by decide) (e158 lpK jnK program_times program_product_cmp)
noncomputable def program_table_start_b (lp:Lp) (_:Jn) (program_table_pivot:t157) (program_table_artificial:t126) (program_table_leaving:t158) (x0:List Nat×List (Option (List Int))) (x1:Int) (x2:List Int) (x3:List Int) (x4:List Int) (x5:Int) (x6:Int):Option ((List Nat×List (Option (List Int)))×Int×(List Int)×(List Int)×(List Int)×Int×Int×Bool×Unit) :=
 lp ((List Nat×List (Option (List Int)))×Int×List Int×List Int×List Int×Int×Int×PUnit) ((List Nat×List (Option (List Int)))×Int×List Int×List Int×List Int×Int ×
  Int×Bool×PUnit) (fun (again:(List Nat×List (Option (List Int)))×Int×List Int×List Int×List Int×Int×Int×PUnit→Option ((List Nat×List (Option (List Int)))×Int
  × List Int×List Int×List Int×Int×Int×Bool×PUnit)) (x:(List Nat×List (Option (List Int)))×Int×List Int×List Int×List Int×Int×Int×PUnit)=>lp (Int×Int ×
  PUnit) ((List Nat×List (Option (List Int)))×Int×List Int×List Int×List Int×Int×Int×Bool×PUnit) (fun (again_1:Int×Int×PUnit→Option ((List Nat×List (Option
  (List Int)))×Int×List Int×List Int×List Int×Int×Int×Bool×PUnit)) (x_1:Int×Int×PUnit) =>
 let v13:Bool:=decide (x_1.1<0);
 let v14:Int×PUnit:=(IntKind.wrap .i64 (x_1.2.1+1),PUnit.unit);
 let v15:Bool:=decide (x_1.2.1<x.2.2.2.2.2.1);
 let v16:Bool:=!v15||v15;bif v16 then bif v16 then bif bif v15 then v13 else false then obind (bif List.all x.1.1 fun (x_2:Nat)=>liveB x.1.2 x_2 then
  program_table_artificial (List.map (fun (x_2:Nat)=>rowD x.1.2 x_2) x.1.1,x.2.1,x.2.2.1,x.2.2.2.1,x.2.2.2.2.1,x.2.2.2.2.2.1,
  x.2.2.2.2.2.2.1) x_1.2.1 else none) fun (t:Int)=>bif decide (t>0) then again_1 (x_1.2.1,v14) else again_1 (x_1.1,v14) else bif v13 then obind
  (bif List.all x.1.1 fun (x_2:Nat)=>liveB x.1.2 x_2 then program_table_artificial (List.map (fun (x_2:Nat)=>rowD x.1.2 x_2) x.1.1,x.2.1,x.2.2.1,
  x.2.2.2.1,x.2.2.2.2.1,x.2.2.2.2.2.1,x.2.2.2.2.2.2.1) x.2.2.2.2.2.2.1 else none) fun (t:Int)=>bif decide (t>0)
  then some (x.1,x.2.1,x.2.2.1,x.2.2.2.1,x.2.2.2.2.1,x.2.2.2.2.2.1,x.2.2.2.2.2.2.1,false,PUnit.unit) else lp (Int×(List
  Nat×List (Option (List Int)))×Int×List Int×List Int×List Int×Int×Int×PUnit) ((List Nat×List (Option (List Int)))×Int×List Int×List Int×List Int×Int×Int ×
  Bool×PUnit) (fun (again:Int×(List Nat×List (Option (List Int)))×Int×List Int×List Int×List Int×Int×Int×PUnit→Option ((List Nat×List (Option (List Int)))×Int
  × List Int×List Int×List Int×Int×Int×Bool×PUnit)) (x_2:Int×(List Nat×List (Option (List Int)))×Int×List Int×List Int×List Int×Int×Int×PUnit)=>bif
  decide (x_2.1<(↑(List.length x.1.1):Int)) then lp (Int×(List Nat×List (Option (List Int)))×Int×List Int×List Int×List Int×Int×Int×PUnit) ((List Nat×List
  (Option (List Int)))×Int×List Int×List Int×List Int×Int×Int×Bool×PUnit) (fun (again_2:Int×(List Nat×List (Option (List Int)))×Int×List Int×List Int×List
  Int×Int×Int×PUnit→Option ((List Nat×List (Option (List Int)))×Int×List Int×List Int×List Int×Int×Int×Bool×PUnit)) (x:Int×(List Nat×List (Option (List
  Int)))×Int×List Int×List Int×List Int×Int×Int×PUnit) =>
 let v22:Int:=IntKind.wrap .i64 (x.1+1);
 let v23:Bool:=decide (x.1<x.2.2.2.2.2.2.1);
 let v24:Bool:=!v23;
 let v25:Bool:=v24||v23;
 let v26:(List Nat×List (Option (List Int)))×Int×List Int×List Int×List Int×Int×Int×PUnit:=(x.2.1,x.2.2.1,x.2.2.2.1,x.2.2.2.2.1,
  x.2.2.2.2.2.1,x.2.2.2.2.2.2.1,x.2.2.2.2.2.2.2.1,PUnit.unit);bif v25 then bif v25 then bif v25 then bif v25&&(v25&&(v24||inB x_2.1
  (List.length x.2.2.2.1))) then bif v25&&(v24||Nat.ble (Nat.succ (Int.toNat x_2.1)) (List.length x.2.2.2.1)) then bif v25 then bif v25 then bif v25 then bif v25 &&
  v25 then bif v25 then bif bif v23 then decide (List.getD x.2.2.2.1 (Int.toNat x_2.1) 0≥x.2.2.2.2.2.2.1) else false then bif inB x_2.1 (List.length
  x.2.1.1) then bif Nat.ble (Nat.succ (Int.toNat x_2.1)) (List.length x.2.1.1) then bif inB x.1 (List.length (rowD x.2.1.2 (List.getD x.2.1.1 (Int.toNat
  x_2.1) 0))) then bif Nat.ble (Nat.succ (Int.toNat x.1)) (List.length (rowD x.2.1.2 (List.getD x.2.1.1 (Int.toNat x_2.1) 0))) then bif !decide
  (List.getD (rowD x.2.1.2 (List.getD x.2.1.1 (Int.toNat x_2.1) 0)) (Int.toNat x.1) 0=0) then obind (program_table_pivot x.2.1 x.2.2.1
  x.2.2.2.1 x.2.2.2.2.1 x.2.2.2.2.2.1 x.2.2.2.2.2.2.1 x.2.2.2.2.2.2.2.1 x_2.1 x.1) fun (y:(List Nat×List (Option (List
  Int)))×Int×List Int×List Int×List Int×Int×Int×PUnit)=>again_2 (v22,y.1,y.2.1,y.2.2.1,y.2.2.2.1,y.2.2.2.2.1,y.2.2.2.2.2.1,
  y.2.2.2.2.2.2.1,PUnit.unit) else again_2 (v22,v26) else none else none else none else none else again (IntKind.wrap .i64 (x_2.1+1),v26) else none
  else none else none else none else none else none else none else none else none else none) (0,x_2.2.1,x_2.2.2.1,x_2.2.2.2.1,x_2.2.2.2.2.1,
  x_2.2.2.2.2.2.1,x_2.2.2.2.2.2.2.1,x_2.2.2.2.2.2.2.2.1,PUnit.unit) else some (x_2.2.1,x_2.2.2.1,x_2.2.2.2.1,
  x_2.2.2.2.2.1,x_2.2.2.2.2.2.1,x_2.2.2.2.2.2.2.1,x_2.2.2.2.2.2.2.2.1,true,PUnit.unit)) (0,x.1,x.2.1,
  x.2.2.1,x.2.2.2.1,x.2.2.2.2.1,x.2.2.2.2.2.1,x.2.2.2.2.2.2.1,PUnit.unit) else obind (bif List.all x.1.1 fun (x_2:Nat) =>
  liveB x.1.2 x_2 then program_table_leaving (List.map (fun (x_2:Nat)=>rowD x.1.2 x_2) x.1.1,x.2.1,x.2.2.1,x.2.2.2.1,x.2.2.2.2.1,
  x.2.2.2.2.2.1,x.2.2.2.2.2.2.1) x_1.1 else none) fun (t:Int)=>obind (program_table_pivot x.1 x.2.1 x.2.2.1 x.2.2.2.1
  x.2.2.2.2.1 x.2.2.2.2.2.1 x.2.2.2.2.2.2.1 t x_1.1) fun (y:(List Nat×List (Option (List Int)))×Int×List Int×List Int×List Int×Int ×
  Int×PUnit)=>again (y.1,y.2.1,y.2.2.1,y.2.2.2.1,y.2.2.2.2.1,y.2.2.2.2.2.1,y.2.2.2.2.2.2.1,PUnit.unit) else none else
  none) ((-1),0,PUnit.unit)) (x0,x1,x2,x3,x4,x5,x6,PUnit.unit)
noncomputable def program_table_start (x0:List Nat×List (Option (List Int))) (x1:Int) (x2:List Int) (x3:List Int) (x4:List Int) (x5:Int) (x6:Int):Option ((List Nat×List (Option (List Int)))×Int×(List Int)×(List Int)×(List Int)×Int×Int×Bool×Unit):=program_table_start_b lpK jnK program_table_pivot program_table_artificial program_table_leaving x0 x1 x2 x3 x4 x5 x6
abbrev t110:=(List Nat×List (Option (List Int)))→(Int)→(List Int)→(List Int)→(List Int)→(Int)→(Int)→Option ((List Nat×List (Option (List Int)))×Int×(List Int)×(List Int)×(List Int)×Int×Int×Bool×Unit)
noncomputable def k110 (program_table_start:t110):SCtr:=⟨[.b [.x (.tab 29 .ref 3 i64),.d i64,.row 3 i64,.row 3 i64,.row 3 i64,.d i64,.d i64]],[(false,[.d .bool])],fun x=>program_table_start x.1 x.2.1 x.2.2.1 x.2.2.2.1 x.2.2.2.2.1 x.2.2.2.2.2.1 x.2.2.2.2.2.2.1⟩
noncomputable def s110:SCtr:=k110 program_table_start
theorem e110 (lp:Lp) (jn:Jn) (program_table_pivot:t157) (program_table_artificial:t126) (program_table_leaving:t158):∀x:TsR (rhI 0 s110.ks),program_table_start_b lp jn program_table_pivot program_table_artificial program_table_leaving x.1 x.2.1 x.2.2.1 x.2.2.2.1 x.2.2.2.2.1 x.2.2.2.2.2.1 x.2.2.2.2.2.2.1=runS lp jn (Dn.look [(157,k157 program_table_pivot)]) (ctxT tabs lits (ctxP [(158,k158 program_table_leaving),(126,k126 program_table_artificial)] [] (ctxOf prog shs inls its [] [(134,r134)]))) hints 4 110 f110 s110 x:=fun x=>by kernel_rfl
theorem ok110:s110.ok prog 110:=SCtr.of_den (ctxT_ok (ctxP_ok (q134) (pcOk_cons (by kernel_rfl) ok158 (pcOk_cons (by kernel_rfl) ok126 (pcOk_nil))) (mcOk_nil))) hmix (scOk_cons ok157 (scOk_nil)) (hl:=hints) (d:=4) func110 rfl (by decide) (e110 lpK jnK program_table_pivot program_table_artificial program_table_leaving)
noncomputable def program_table_cost_b (_:Lp) (_:Jn) (x0:(List (List Int))×Int×(List Int)×(List Int)×(List Int)×Int×Int) (x1:Int):Option Int :=
 bif decide (x1<(↑(List.length x0.2.2.2.2.1):Int)) then bif inB x1 (List.length x0.2.2.2.2.1) then some (List.getD x0.2.2.2.2.1 (Int.toNat x1) 0)
  else none else some 0
noncomputable def program_table_cost (x0:(List (List Int))×Int×(List Int)×(List Int)×(List Int)×Int×Int) (x1:Int):Option Int:=program_table_cost_b lpK jnK x0 x1
abbrev t112:=((List (List Int))×Int×(List Int)×(List Int)×(List Int)×Int×Int)→(Int)→Option (Int)
noncomputable def k112 (program_table_cost:t112):PCtr:=⟨T156,[i64],.one i64,fun x y=>program_table_cost x y.1⟩
noncomputable def p112:PCtr:=k112 program_table_cost
theorem e112 (lp:Lp) (jn:Jn):∀(x:p112.s.T) (y:TsS p112.as),program_table_cost_b lp jn x y.1=runP lp jn (cx [] [(134,r134)]) hints 4 112 f112 p112 x y:=fun x y=>by kernel_rfl
theorem ok112:p112.ok prog 112:=PCtr.of_den (ctxT_ok (q134)) hmix (hl:=hints) (d:=4) func112 rfl (by decide) (e112 lpK jnK)
noncomputable def program_table_reduced_b (lp:Lp) (_:Jn) (program_table_cost:t112) (x0:(List (List Int))×Int×(List Int)×(List Int)×(List Int)×Int×Int) (x1:Int):Option Int :=
 obind (program_table_cost x0 x1) fun (t:Int)=>lp (Int×Int×PUnit) Int (fun (again:Int×Int×PUnit→Option Int) (x:Int×Int×PUnit) =>
 let v7:List Int:=List.getD x0.1 (Int.toNat x.2.1) [];bif decide (x.2.1<(↑(List.length x0.1):Int)) then bif inB x.2.1 (List.length x0.1) then bif inB x.2.1
  (List.length x0.2.2.1) then obind (program_table_cost x0 (List.getD x0.2.2.1 (Int.toNat x.2.1) 0)) fun (t:Int)=>bif inB x1 (List.length v7) then again
  (IntKind.wrap .i64 (x.1 - IntKind.wrap .i64 (t*List.getD v7 (Int.toNat x1) 0)),IntKind.wrap .i64 (x.2.1+1),PUnit.unit) else none else
  none else none else some x.1) (IntKind.wrap .i64 (t*x0.2.1),0,PUnit.unit)
noncomputable def program_table_reduced (x0:(List (List Int))×Int×(List Int)×(List Int)×(List Int)×Int×Int) (x1:Int):Option Int:=program_table_reduced_b lpK jnK program_table_cost x0 x1
abbrev t159:=((List (List Int))×Int×(List Int)×(List Int)×(List Int)×Int×Int)→(Int)→Option (Int)
noncomputable def p159:PCtr:=⟨T156,[i64],.one i64,fun x y=>program_table_reduced x y.1⟩
theorem e159 (lp:Lp) (jn:Jn) (program_table_cost:t112):∀(x:p159.s.T) (y:TsS p159.as),program_table_reduced_b lp jn program_table_cost x y.1=runP lp jn (ctxT tabs lits (ctxP [(112,k112 program_table_cost)] [] (ctxOf prog shs inls its [] [(134,r134)]))) hints 4 159 f159 p159 x y:=fun x y=>by kernel_rfl
theorem ok159:p159.ok prog 159:=PCtr.of_den (ctxT_ok (ctxP_ok (q134) (pcOk_cons (by kernel_rfl) ok112 (pcOk_nil)) (mcOk_nil))) hmix (hl:=hints) (d:=4) func159 rfl (by decide) (e159 lpK jnK program_table_cost)
noncomputable def program_table_improve_b (lp:Lp) (_:Jn) (program_table_pivot:t157) (program_table_leaving:t158) (program_table_reduced:t159) (x0:List Nat×List (Option (List Int))) (x1:Int) (x2:List Int) (x3:List Int) (x4:List Int) (x5:Int) (x6:Int):Option ((List Nat×List (Option (List Int)))×Int×(List Int)×(List Int)×(List Int)×Int×Int×Bool×Unit) :=
 lp ((List Nat×List (Option (List Int)))×Int×List Int×List Int×List Int×Int×Int×PUnit) ((List Nat×List (Option (List Int)))×Int×List Int×List Int×List Int×Int ×
  Int×Bool×PUnit) (fun (again:(List Nat×List (Option (List Int)))×Int×List Int×List Int×List Int×Int×Int×PUnit→Option ((List Nat×List (Option (List Int)))×Int
  × List Int×List Int×List Int×Int×Int×Bool×PUnit)) (x:(List Nat×List (Option (List Int)))×Int×List Int×List Int×List Int×Int×Int×PUnit)=>lp (Int×Int ×
  PUnit) ((List Nat×List (Option (List Int)))×Int×List Int×List Int×List Int×Int×Int×Bool×PUnit) (fun (again_1:Int×Int×PUnit→Option ((List Nat×List (Option
  (List Int)))×Int×List Int×List Int×List Int×Int×Int×Bool×PUnit)) (x_1:Int×Int×PUnit) =>
 let v13:Bool:=decide (x_1.1<0);
 let v14:Int×PUnit:=(IntKind.wrap .i64 (x_1.2.1+1),PUnit.unit);
 let v15:Bool:=decide (x_1.2.1<x.2.2.2.2.2.1);
 let v16:Bool:=!v15||v15;bif v16 then bif v16 then bif bif v15 then v13 else false then obind (bif List.all x.1.1 fun (x_2:Nat)=>liveB x.1.2 x_2 then
  program_table_reduced (List.map (fun (x_2:Nat)=>rowD x.1.2 x_2) x.1.1,x.2.1,x.2.2.1,x.2.2.2.1,x.2.2.2.2.1,x.2.2.2.2.2.1,
  x.2.2.2.2.2.2.1) x_1.2.1 else none) fun (t:Int)=>bif decide (t<0) then again_1 (x_1.2.1,v14) else again_1 (x_1.1,v14) else bif v13 then some
  (x.1,x.2.1,x.2.2.1,x.2.2.2.1,x.2.2.2.2.1,x.2.2.2.2.2.1,x.2.2.2.2.2.2.1,true,PUnit.unit) else obind (bif List.all
  x.1.1 fun (x_2:Nat)=>liveB x.1.2 x_2 then program_table_leaving (List.map (fun (x_2:Nat)=>rowD x.1.2 x_2) x.1.1,x.2.1,x.2.2.1,x.2.2.2.1,
  x.2.2.2.2.1,x.2.2.2.2.2.1,x.2.2.2.2.2.2.1) x_1.1 else none) fun (t:Int)=>bif decide (t<0) then some (x.1,x.2.1,
  x.2.2.1,x.2.2.2.1,x.2.2.2.2.1,x.2.2.2.2.2.1,x.2.2.2.2.2.2.1,false,PUnit.unit) else obind (program_table_pivot x.1 x.2.1
  x.2.2.1 x.2.2.2.1 x.2.2.2.2.1 x.2.2.2.2.2.1 x.2.2.2.2.2.2.1 t x_1.1) fun (y:(List Nat×List (Option (List Int)))×Int×List Int
  × List Int×List Int×Int×Int×PUnit)=>again (y.1,y.2.1,y.2.2.1,y.2.2.2.1,y.2.2.2.2.1,y.2.2.2.2.2.1,y.2.2.2.2.2.2.1,
  PUnit.unit) else none else none) ((-1),0,PUnit.unit)) (x0,x1,x2,x3,x4,x5,x6,PUnit.unit)
noncomputable def program_table_improve (x0:List Nat×List (Option (List Int))) (x1:Int) (x2:List Int) (x3:List Int) (x4:List Int) (x5:Int) (x6:Int):Option ((List Nat×List (Option (List Int)))×Int×(List Int)×(List Int)×(List Int)×Int×Int×Bool×Unit):=program_table_improve_b lpK jnK program_table_pivot program_table_leaving program_table_reduced x0 x1 x2 x3 x4 x5 x6
abbrev t111:=(List Nat×List (Option (List Int)))→(Int)→(List Int)→(List Int)→(List Int)→(Int)→(Int)→Option ((List Nat×List (Option (List Int)))×Int×(List Int)×(List Int)×(List Int)×Int×Int×Bool×Unit)
noncomputable def k111 (program_table_improve:t111):SCtr:=⟨[.b [.x (.tab 29 .ref 3 i64),.d i64,.row 3 i64,.row 3 i64,.row 3 i64,.d i64,.d i64]],[(false,[.d .bool])],fun x=>program_table_improve x.1 x.2.1 x.2.2.1 x.2.2.2.1 x.2.2.2.2.1 x.2.2.2.2.2.1 x.2.2.2.2.2.2.1⟩
noncomputable def s111:SCtr:=k111 program_table_improve
theorem e111 (lp:Lp) (jn:Jn) (program_table_pivot:t157) (program_table_leaving:t158) (program_table_reduced:t159):∀x:TsR (rhI 0 s111.ks),program_table_improve_b lp jn program_table_pivot program_table_leaving program_table_reduced x.1 x.2.1 x.2.2.1 x.2.2.2.1 x.2.2.2.2.1 x.2.2.2.2.2.1 x.2.2.2.2.2.2.1=runS lp jn (Dn.look [(157,k157 program_table_pivot)]) (ctxT tabs lits (ctxP [(159,⟨T156,[i64],.one i64,fun x y=>program_table_reduced x y.1⟩),(158,k158 program_table_leaving)] [] (ctxOf prog shs inls its [] [(134,r134)]))) hints 4 111 f111 s111 x:=fun x=>by kernel_rfl
theorem ok111:s111.ok prog 111:=SCtr.of_den (ctxT_ok (ctxP_ok (q134) (pcOk_cons (by kernel_rfl) ok159 (pcOk_cons (by kernel_rfl) ok158 (pcOk_nil))) (mcOk_nil))) hmix (scOk_cons ok157 (scOk_nil)) (hl:=hints) (d:=4) func111 rfl (by decide) (e111 lpK jnK program_table_pivot program_table_leaving program_table_reduced)
noncomputable def ratio_Make_b (_:Lp) (_:Jn) (ratio_gcd:t75) (ratio_size:t77) (ratio_signed:t82) (x0:Int) (x1:Int):Option ((Int×Int)×Int×Unit) :=
 
 let v4:Bool:=!decide (x0=0);
 let v5:Bool:=!v4||v4;bif decide (x1=0) then some ((0,0),16,PUnit.unit) else obind (ratio_size x0) fun (t:Int)=>obind (ratio_size x1) fun
  (t_1:Int)=>obind (ratio_gcd t t_1) fun (t_2:Int) =>
 let v9:Bool:=nzB t_2;bif v5 then bif v5 then bif v5&&v5 then bif v5 then bif v9 then bif v9 then obind (ratio_signed (bif v4 then !decide (decide (x0<0)=decide (x1<(0
  : Int))) else false) (IntKind.wrap .u64 (Int.tdiv t t_2)) (IntKind.wrap .u64 (Int.tdiv t_1 t_2))) fun (t:(Int×Int)×Int×PUnit)=>some (t.1,t.2.1,
  PUnit.unit) else none else none else none else none else none else none
noncomputable def ratio_Make (x0:Int) (x1:Int):Option ((Int×Int)×Int×Unit):=ratio_Make_b lpK jnK ratio_gcd ratio_size ratio_signed x0 x1
abbrev t136:=(Int)→(Int)→Option ((Int×Int)×Int×Unit)
noncomputable def k136 (ratio_Make:t136):Ctr:=⟨[i64,i64],[],[],.tup [T49,i64],fun x _ _=>ratio_Make x.1 x.2.1⟩
noncomputable def c136:Ctr:=k136 ratio_Make
theorem e136 (lp:Lp) (jn:Jn) (ratio_gcd:t75) (ratio_size:t77) (ratio_signed:t82):∀(x:TsS c136.as) (F:TsF c136.fs) (y:TsS c136.cs),ratio_Make_b lp jn ratio_gcd ratio_size ratio_signed x.1 x.2.1=runC lp jn (cx [(82,k82 ratio_signed),(77,k77 ratio_size),(75,k75 ratio_gcd)] [(134,r134)]) hints 4 136 f136 c136 x F y:=fun x F y=>by kernel_rfl
theorem ok136:c136.ok prog 136:=Ctr.of_den (ctxT_ok (ctxOf_cons (ctxOf_cons (ctxOf_cons (q134) (by kernel_rfl) ok75) (by kernel_rfl) ok77) (by kernel_rfl) ok82)) hmix (hl:=hints) (d:=4) func136 rfl (by decide) (e136 lpK jnK ratio_gcd ratio_size ratio_signed)
noncomputable def program_table_part_b (_:Lp) (_:Jn) (ratio_Make:t136) (x0:(List (List Int))×Int×(List Int)×(List Int)×(List Int)×Int×Int) (x1:Int):Option (Int×Int) :=
 obind (ratio_Make x1 x0.2.1) fun (t:(Int×Int)×Int×PUnit)=>some t.1
noncomputable def program_table_part (x0:(List (List Int))×Int×(List Int)×(List Int)×(List Int)×Int×Int) (x1:Int):Option (Int×Int):=program_table_part_b lpK jnK ratio_Make x0 x1
abbrev t113:=((List (List Int))×Int×(List Int)×(List Int)×(List Int)×Int×Int)→(Int)→Option (Int×Int)
noncomputable def k113 (program_table_part:t113):PCtr:=⟨T156,[i64],.one T49,fun x y=>program_table_part x y.1⟩
noncomputable def p113:PCtr:=k113 program_table_part
theorem e113 (lp:Lp) (jn:Jn) (ratio_Make:t136):∀(x:p113.s.T) (y:TsS p113.as),program_table_part_b lp jn ratio_Make x y.1=runP lp jn (cx [(136,k136 ratio_Make)] [(134,r134)]) hints 4 113 f113 p113 x y:=fun x y=>by kernel_rfl
theorem ok113:p113.ok prog 113:=PCtr.of_den (ctxT_ok (ctxOf_cons (q134) (by kernel_rfl) ok136)) hmix (hl:=hints) (d:=4) func113 rfl (by decide) (e113 lpK jnK ratio_Make)
noncomputable def program_Solve_b (lp:Lp) (jn:Jn) (program_Valid:t91) (program_fits:t108) (slices_Clone_134:t134) (program_table_start:t110) (program_table_improve:t111) (program_table_cost:t112) (program_table_part:t113) (x0:(List Int)×List ((List Int)×Int×Int)):Option (((Int×Int)×(List (Int×Int))×List (Int×Int))×Int×Unit) :=
 obind (program_Valid x0) fun (t:Bool)=>bif !t then some (((0,0),[],[]),1,PUnit.unit) else obind (program_fits x0) fun (t:Bool)=>bif !t then some ((((0 :
  Int),0),[],[]),5,PUnit.unit) else lp (Int×Int×PUnit) (((Int×Int)×List (Int×Int)×List (Int×Int))×Int×PUnit) (fun (again:Int×Int×PUnit →
  Option (((Int×Int)×List (Int×Int)×List (Int×Int))×Int×PUnit)) (x:Int×Int×PUnit) =>
 let v7:Int×PUnit:=(IntKind.wrap .i64 (x.2.1+1),PUnit.unit);
 let v8:Int:=IntKind.wrap .i64 ((↑(List.length x0.1):Int)+x.1);bif decide (x.2.1<(↑(List.length x0.2):Int)) then bif inB x.2.1 (List.length x0.2) then
  bif !decide ((List.getD x0.2 (Int.toNat x.2.1) ([],0,0)).2.1=3) then again (IntKind.wrap .i64 (x.1+1),v7) else again (x.1,
  v7) else none else obind (slices_Clone_134 x0.1) fun (t:List Int)=>lp (Int×Int×(List Nat×List (Option (List Int)))×Int×List Int×List Int×List Int×Int×Int ×
  PUnit) (((Int×Int)×List (Int×Int)×List (Int×Int))×Int×PUnit) (fun (again:Int×Int×(List Nat×List (Option (List Int)))×Int×List Int×List Int×List Int×Int ×
  Int×PUnit→Option (((Int×Int)×List (Int×Int)×List (Int×Int))×Int×PUnit)) (x:Int×Int×(List Nat×List (Option (List Int)))×Int×List Int×List Int×List Int ×
  Int×Int×PUnit) =>
 let v12:Int:=IntKind.wrap .i64 (x.1+1);
 let v13:List Int×Int×Int:=List.getD x0.2 (Int.toNat x.2.1) ([],0,0);
 let v14:List Int:=List.replicate (Int.toNat (IntKind.wrap .i64 (x.2.2.2.2.2.2.2.2.1+1))) 0;
 let v15:Bool:=inB x.1 (Int.toNat (IntKind.wrap .i64 (x.2.2.2.2.2.2.2.2.1+1)));
 let v16:Bool:=Nat.ble (Nat.succ (Int.toNat x.1)) (Int.toNat (IntKind.wrap .i64 (x.2.2.2.2.2.2.2.2.1+1)));
 let v17:Int:=IntKind.wrap .i64 (x.2.2.2.2.2.2.2.1+x.2.1);
 let v18:List Int:=List.take (Int.toNat (IntKind.wrap .i64 (x.2.2.2.2.2.2.2.2.1+1))) v13.1;
 let v19:List Int:=List.set (List.take 0 v14++v18++List.drop (0+List.length v18) v14) (Int.toNat x.2.2.2.2.2.2.2.2.1) v13.2.2;bif decide
  (x.2.1<(↑(List.length x0.2):Int)) then bif inB x.2.1 (List.length x0.2) then bif decide (0≤IntKind.wrap .i64 (x.2.2.2.2.2.2.2.2.1+(1
  : Int)))&&fitB (Int.toNat (IntKind.wrap .i64 (x.2.2.2.2.2.2.2.2.1+1))) 8 then bif inB x.2.2.2.2.2.2.2.2.1 (Int.toNat
  (IntKind.wrap .i64 (x.2.2.2.2.2.2.2.2.1+1))) then bif Nat.ble (Nat.succ (Int.toNat x.2.2.2.2.2.2.2.2.1)) (Int.toNat (IntKind.wrap
  IntKind.i64 (x.2.2.2.2.2.2.2.2.1+1))) then jn (Int×List Int×PUnit) (((Int×Int)×List (Int×Int)×List (Int×Int))×Int×PUnit) (fun (x_1:Int ×
  List Int×PUnit) =>
 let v21:List Int×PUnit:=(x_1.2.1,PUnit.unit);jn (Int×List Int×PUnit) (((Int×Int)×List (Int×Int)×List (Int×Int))×Int×PUnit) (fun (x_2:Int×List Int ×
  PUnit)=>bif inB v17 (List.length x_2.2.1) then bif Nat.ble (Nat.succ (Int.toNat v17)) (List.length x_2.2.1) then bif fitB (List.length x.2.2.1.1+1) (24 :
  Nat) then bif fitB (List.length x.2.2.2.2.2.1+1) 8 then bif fitB (List.length x.2.2.2.2.1+1) 8 then again (x_1.1,
  IntKind.wrap .i64 (x.2.1+1),(x.2.2.1.1++[List.length x.2.2.1.2+0],x.2.2.1.2++[some (List.set x_2.2.1 (Int.toNat v17) (1
  : Int))]),x.2.2.2.1,x.2.2.2.2.1++[v17],x.2.2.2.2.2.1++[x_2.1],x.2.2.2.2.2.2.1,x.2.2.2.2.2.2.2.1,
  x.2.2.2.2.2.2.2.2.1,PUnit.unit) else none else none else none else none else none) fun (j:Int×List Int×PUnit→Option (((Int×Int)×List (Int×Int)×List
  (Int×Int))×Int×PUnit))=>bif decide (v13.2.2<0) then lp (Int×List Int×PUnit) (((Int×Int)×List (Int×Int)×List (Int×Int))×Int×PUnit) (fun (again :
  Int×List Int×PUnit→Option (((Int×Int)×List (Int×Int)×List (Int×Int))×Int×PUnit)) (x:Int×List Int×PUnit) =>
 let v25:Bool:=inB x.1 (List.length x.2.1);
 let v26:Bool:=Nat.ble (Nat.succ (Int.toNat x.1)) (List.length x.2.1);bif decide (x.1<(↑(List.length x_1.2.1):Int)) then bif v25 then bif v26 then bif v25 then bif v26
  then again (IntKind.wrap .i64 (x.1+1),List.set x.2.1 (Int.toNat x.1) (IntKind.wrap .i64 (0 - List.getD x.2.1 (Int.toNat x.1) 0)),
  PUnit.unit) else none else none else none else none else j ((-1),x.2.1,PUnit.unit)) (0,v21) else j (1,v21)) fun (j:Int×List Int×PUnit→Option (((Int
  × Int)×List (Int×Int)×List (Int×Int))×Int×PUnit))=>bif decide (v13.2.1=1) then bif v15 then bif v16 then j (v12,List.set v19 (Int.toNat x.1) 1,
  PUnit.unit) else none else none else jn (Int×List Int×PUnit) (((Int×Int)×List (Int×Int)×List (Int×Int))×Int×PUnit) (fun (x:Int×List Int×PUnit)=>j (x.1,
  x.2.1,PUnit.unit)) fun (j:Int×List Int×PUnit→Option (((Int×Int)×List (Int×Int)×List (Int×Int))×Int×PUnit))=>bif decide (v13.2.1=2) then bif
  v15 then bif v16 then j (v12,List.set v19 (Int.toNat x.1) (-1),PUnit.unit) else none else none else j (x.1,v19,PUnit.unit) else none else none else none else none else
  obind (program_table_start x.2.2.1 x.2.2.2.1 x.2.2.2.2.1 x.2.2.2.2.2.1 x.2.2.2.2.2.2.1 x.2.2.2.2.2.2.2.1
  x.2.2.2.2.2.2.2.2.1) fun (y:(List Nat×List (Option (List Int)))×Int×List Int×List Int×List Int×Int×Int×Bool×PUnit)=>bif
  !y.2.2.2.2.2.2.2.1 then some (((0,0),[],[]),22,PUnit.unit) else obind (program_table_improve y.1 y.2.1 y.2.2.1 y.2.2.2.1
  y.2.2.2.2.1 y.2.2.2.2.2.1 y.2.2.2.2.2.2.1) fun (y:(List Nat×List (Option (List Int)))×Int×List Int×List Int×List Int×Int×Int×Bool ×
  PUnit)=>bif !y.2.2.2.2.2.2.2.1 then some (((0,0),[],[]),21,PUnit.unit) else bif decide (0≤(↑(List.length x0.1):Int))&&fitB
  (Int.toNat (↑(List.length x0.1):Int)) 8 then lp (Int×Int×List Int×PUnit) (((Int×Int)×List (Int×Int)×List (Int×Int))×Int×PUnit) (fun (again:Int×Int ×
  List Int×PUnit→Option (((Int×Int)×List (Int×Int)×List (Int×Int))×Int×PUnit)) (x:Int×Int×List Int×PUnit) =>
 let v24:Int:=IntKind.wrap .i64 (x.2.1+1);
 let v25:Bool:=inB x.2.1 (List.length y.1.1);
 let v26:Bool:=Nat.ble (Nat.succ (Int.toNat x.2.1)) (List.length y.1.1);
 let v27:Int:=List.getD y.2.2.1 (Int.toNat x.2.1) 0;bif decide (x.2.1<(↑(List.length y.2.2.1):Int)) then bif inB x.2.1 (List.length y.2.2.1)
  then bif Nat.ble (Nat.succ (Int.toNat x.2.1)) (List.length y.2.2.1) then obind (bif List.all y.1.1 fun (x:Nat)=>liveB y.1.2 x then program_table_cost (List.map
  (fun (x:Nat)=>rowD y.1.2 x) y.1.1,y.2.1,y.2.2.1,y.2.2.2.1,y.2.2.2.2.1,y.2.2.2.2.2.1,y.2.2.2.2.2.2.1) v27 else
  none) fun (t:Int)=>bif v25 then bif v26 then bif inB y.2.2.2.2.2.2.1 (List.length (rowD y.1.2 (List.getD y.1.1 (Int.toNat x.2.1) 0))) then bif
  Nat.ble (Nat.succ (Int.toNat y.2.2.2.2.2.2.1)) (List.length (rowD y.1.2 (List.getD y.1.1 (Int.toNat x.2.1) 0))) then bif decide (v27<(↑(List.length
  x.2.2.1):Int)) then bif v25 then bif v26 then bif inB y.2.2.2.2.2.2.1 (List.length (rowD y.1.2 (List.getD y.1.1 (Int.toNat x.2.1) 0))) then bif
  Nat.ble (Nat.succ (Int.toNat y.2.2.2.2.2.2.1)) (List.length (rowD y.1.2 (List.getD y.1.1 (Int.toNat x.2.1) 0))) then bif inB v27 (List.length
  x.2.2.1) then bif Nat.ble (Nat.succ (Int.toNat v27)) (List.length x.2.2.1) then again (IntKind.wrap .i64 (x.1+IntKind.wrap .i64 (t*List.getD (rowD
  y.1.2 (List.getD y.1.1 (Int.toNat x.2.1) 0)) (Int.toNat y.2.2.2.2.2.2.1) 0)),v24,List.set x.2.2.1 (Int.toNat v27) (List.getD (rowD
  y.1.2 (List.getD y.1.1 (Int.toNat x.2.1) 0)) (Int.toNat y.2.2.2.2.2.2.1) 0),PUnit.unit) else none else none else none else none else none else
  none else again (IntKind.wrap .i64 (x.1+IntKind.wrap .i64 (t*List.getD (rowD y.1.2 (List.getD y.1.1 (Int.toNat x.2.1) 0)) (Int.toNat
  y.2.2.2.2.2.2.1) 0)),v24,x.2.2.1,PUnit.unit) else none else none else none else none else none else none else obind (bif List.all y.1.1 fun (x:Nat)
  =>liveB y.1.2 x then program_table_part (List.map (fun (x:Nat)=>rowD y.1.2 x) y.1.1,y.2.1,y.2.2.1,y.2.2.2.1,y.2.2.2.2.1,
  y.2.2.2.2.2.1,y.2.2.2.2.2.2.1) x.1 else none) fun (t:Int×Int)=>lp (Int×(Int×Int)×List (Int×Int)×List (Int×Int)×PUnit) (((Int×Int) ×
  List (Int×Int)×List (Int×Int))×Int×PUnit) (fun (again:Int×(Int×Int)×List (Int×Int)×List (Int×Int)×PUnit→Option (((Int×Int)×List (Int×Int)×List (Int ×
  Int))×Int×PUnit)) (x_1:Int×(Int×Int)×List (Int×Int)×List (Int×Int)×PUnit) =>
 let v31:List (Int×Int)×PUnit:=(x_1.2.2.2.1,PUnit.unit);bif decide (x_1.1<(↑(List.length x.2.2.1):Int)) then bif inB x_1.1 (List.length x.2.2.1) then
  bif Nat.ble (Nat.succ (Int.toNat x_1.1)) (List.length x.2.2.1) then obind (bif List.all y.1.1 fun (x:Nat)=>liveB y.1.2 x then program_table_part (List.map (fun (x :
  Nat)=>rowD y.1.2 x) y.1.1,y.2.1,y.2.2.1,y.2.2.2.1,y.2.2.2.2.1,y.2.2.2.2.2.1,y.2.2.2.2.2.2.1) (List.getD
  x.2.2.1 (Int.toNat x_1.1) 0) else none) fun (t:Int×Int)=>bif fitB (List.length x_1.2.2.1+1) 16 then again (IntKind.wrap .i64
  (x_1.1+1),x_1.2.1,x_1.2.2.1++[t],v31) else none else none else none else lp (Int×(Int×Int)×List (Int×Int)×List (Int×Int)×PUnit) (((Int×Int) ×
  List (Int×Int)×List (Int×Int))×Int×PUnit) (fun (again:Int×(Int×Int)×List (Int×Int)×List (Int×Int)×PUnit→Option (((Int×Int)×List (Int×Int)×List (Int ×
  Int))×Int×PUnit)) (x:Int×(Int×Int)×List (Int×Int)×List (Int×Int)×PUnit) =>
 let v34:Int:=IntKind.wrap .i64 (y.2.2.2.2.2.1+x.1);bif decide (x.1<(↑(List.length x0.2):Int)) then lp (Int×Int×PUnit) (((Int×Int)×List (Int ×
  Int)×List (Int×Int))×Int×PUnit) (fun (again_1:Int×Int×PUnit→Option (((Int×Int)×List (Int×Int)×List (Int×Int))×Int×PUnit)) (x_2:Int×Int×PUnit)=>bif
  decide (x_2.2.1<(↑(List.length y.2.2.1):Int)) then bif inB x_2.2.1 (List.length y.2.2.1) then bif Nat.ble (Nat.succ (Int.toNat x_2.2.1)) (List.length
  y.2.2.1) then obind (bif List.all y.1.1 fun (x:Nat)=>liveB y.1.2 x then program_table_cost (List.map (fun (x:Nat)=>rowD y.1.2 x) y.1.1,y.2.1,
  y.2.2.1,y.2.2.2.1,y.2.2.2.2.1,y.2.2.2.2.2.1,y.2.2.2.2.2.2.1) (List.getD y.2.2.1 (Int.toNat x_2.2.1) 0) else none)
  fun (t:Int)=>bif inB x_2.2.1 (List.length y.1.1) then bif Nat.ble (Nat.succ (Int.toNat x_2.2.1)) (List.length y.1.1) then bif inB v34 (List.length (rowD y.1.2
  (List.getD y.1.1 (Int.toNat x_2.2.1) 0))) then bif Nat.ble (Nat.succ (Int.toNat v34)) (List.length (rowD y.1.2 (List.getD y.1.1 (Int.toNat x_2.2.1) (0 :
  Nat)))) then again_1 (IntKind.wrap .i64 (x_2.1+IntKind.wrap .i64 (t*List.getD (rowD y.1.2 (List.getD y.1.1 (Int.toNat x_2.2.1) 0)) (Int.toNat
  v34) 0)),IntKind.wrap .i64 (x_2.2.1+1),PUnit.unit) else none else none else none else none else none else none else bif inB x.1 (List.length
  y.2.2.2.1) then bif Nat.ble (Nat.succ (Int.toNat x.1)) (List.length y.2.2.2.1) then obind (bif List.all y.1.1 fun (x:Nat)=>liveB y.1.2 x then
  program_table_part (List.map (fun (x:Nat)=>rowD y.1.2 x) y.1.1,y.2.1,y.2.2.1,y.2.2.2.1,y.2.2.2.2.1,y.2.2.2.2.2.1,
  y.2.2.2.2.2.2.1) (IntKind.wrap .i64 (List.getD y.2.2.2.1 (Int.toNat x.1) 0*x_2.1)) else none) fun (t:Int×Int)=>bif fitB (List.length
  x.2.2.2.1+1) 16 then again (IntKind.wrap .i64 (x.1+1),x.2.1,x.2.2.1,x.2.2.2.1++[t],PUnit.unit) else none else none
  else none) (0,0,PUnit.unit) else some ((x.2.1,x.2.2.1,x.2.2.2.1),0,PUnit.unit)) (0,x_1.2.1,x_1.2.2.1,v31)) ((0 :
  Int),t,[],[],PUnit.unit)) (0,0,List.replicate (Int.toNat (↑(List.length x0.1):Int)) 0,PUnit.unit) else none) ((↑(List.length x0.1):Int),(0 :
  Int),([],[]),1,[],[],t,v8,IntKind.wrap .i64 (v8+(↑(List.length x0.2):Int)),PUnit.unit)) (0,0,PUnit.unit)
noncomputable def program_Solve (x0:(List Int)×List ((List Int)×Int×Int)):Option (((Int×Int)×(List (Int×Int))×List (Int×Int))×Int×Unit):=program_Solve_b lpK jnK program_Valid program_fits slices_Clone_134 program_table_start program_table_improve program_table_cost program_table_part x0
abbrev t58:=((List Int)×List ((List Int)×Int×Int))→Option (((Int×Int)×(List (Int×Int))×List (Int×Int))×Int×Unit)
noncomputable def k58 (program_Solve:t58):Ctr:=⟨[T32],[],[],.tup [T96,i64],fun x _ _=>program_Solve x.1⟩
noncomputable def c58:Ctr:=k58 program_Solve
theorem e58 (lp:Lp) (jn:Jn) (program_Valid:t91) (program_fits:t108) (slices_Clone_134:t134) (program_table_start:t110) (program_table_improve:t111) (program_table_cost:t112) (program_table_part:t113):∀(x:TsS c58.as) (F:TsF c58.fs) (y:TsS c58.cs),program_Solve_b lp jn program_Valid program_fits slices_Clone_134 program_table_start program_table_improve program_table_cost program_table_part x.1=runCS lp jn (Dn.look [(111,k111 program_table_improve),(110,k110 program_table_start)]) (ctxT tabs lits (ctxP [(113,k113 program_table_part),(112,k112 program_table_cost)] [] (ctxOf prog shs inls its [(108,k108 program_fits),(91,k91 program_Valid)] [(134,k134 slices_Clone_134)]))) hints 4 58 f58 c58 x F y:=fun x F y=>by kernel_rfl
theorem ok58:c58.ok prog 58:=Ctr.of_denS (ctxT_ok (ctxP_ok (ctxOf_cons (ctxOf_cons (q134) (by kernel_rfl) ok91) (by kernel_rfl) ok108) (pcOk_cons (by kernel_rfl) ok113 (pcOk_cons (by kernel_rfl) ok112 (pcOk_nil))) (mcOk_nil))) hmix (scOk_cons ok111 (scOk_cons ok110 (scOk_nil))) (hl:=hints) (d:=4) func58 rfl (by decide) (e58 lpK jnK program_Valid program_fits slices_Clone_134 program_table_start program_table_improve program_table_cost program_table_part)
noncomputable def slack_Taut_b (_:Lp) (_:Jn) (slack_Program:t11) (program_Solve:t58) (x0:(List (ByteArray×Int))×List (ByteArray×(List (ByteArray×Int×Int×Int))×Bool)):Option ((List (Int×Int))×Int×Unit) :=
 obind (slack_Program x0) fun (t:(List Int×List (List Int×Int×Int))×Int×PUnit)=>bif !decide (t.2.1=0) then some ([],t.2.1,PUnit.unit) else obind
  (program_Solve t.1) fun (t:((Int×Int)×List (Int×Int)×List (Int×Int))×Int×PUnit)=>bif !decide (t.2.1=0) then some ([],t.2.1,PUnit.unit) else some
  (t.1.2.1,0,PUnit.unit)
noncomputable def slack_Taut (x0:(List (ByteArray×Int))×List (ByteArray×(List (ByteArray×Int×Int×Int))×Bool)):Option ((List (Int×Int))×Int×Unit):=slack_Taut_b lpK jnK slack_Program program_Solve x0
abbrev t19:=((List (ByteArray×Int))×List (ByteArray×(List (ByteArray×Int×Int×Int))×Bool))→Option ((List (Int×Int))×Int×Unit)
noncomputable def k19 (slack_Taut:t19):Ctr:=⟨[T25],[],[],.tup [(.sl T49),i64],fun x _ _=>slack_Taut x.1⟩
noncomputable def c19:Ctr:=k19 slack_Taut
theorem e19 (lp:Lp) (jn:Jn) (slack_Program:t11) (program_Solve:t58):∀(x:TsS c19.as) (F:TsF c19.fs) (y:TsS c19.cs),slack_Taut_b lp jn slack_Program program_Solve x.1=runC lp jn (cx [(58,k58 program_Solve),(11,k11 slack_Program)] [(134,r134)]) hints 4 19 f19 c19 x F y:=fun x F y=>by kernel_rfl
theorem ok19:c19.ok prog 19:=Ctr.of_den (ctxT_ok (ctxOf_cons (ctxOf_cons (q134) (by kernel_rfl) ok11) (by kernel_rfl) ok58)) hmix (hl:=hints) (d:=4) func19 rfl (by decide) (e19 lpK jnK slack_Program program_Solve)
noncomputable def slices_IndexFunc_60_b (lp:Lp) (_:Jn) (x0:List (ByteArray×(List (ByteArray×Int×Int×Int))×Bool)) (f0:(((ByteArray×(List (ByteArray×Int×Int×Int))×Bool)×Unit)→Option Bool)):Option Int :=
 lp (Int×PUnit) Int (fun (again:Int×PUnit→Option Int) (x:Int×PUnit)=>bif decide (x.1<(↑(List.length x0):Int)) then bif inB x.1 (List.length x0) then obind (f0
  (List.getD x0 (Int.toNat x.1) ({ data:={ toList:=[] } },[],false),PUnit.unit)) fun (t:Bool)=>bif t then some x.1 else again (IntKind.wrap .i64 (x.1+1),
  PUnit.unit) else none else some (-1)) (0,PUnit.unit)
noncomputable def slices_IndexFunc_60 (x0:List (ByteArray×(List (ByteArray×Int×Int×Int))×Bool)) (f0:(((ByteArray×(List (ByteArray×Int×Int×Int))×Bool)×Unit)→Option Bool)):Option Int:=slices_IndexFunc_60_b lpK jnK x0 f0
abbrev t60:=(List (ByteArray×(List (ByteArray×Int×Int×Int))×Bool))→((((ByteArray×(List (ByteArray×Int×Int×Int))×Bool)×Unit)→Option Bool))→Option (Int)
noncomputable def k60 (slices_IndexFunc_60:t60):Ctr:=⟨[(.sl T75)],[([T75],.bool)],[],.one i64,fun x F _=>slices_IndexFunc_60 x.1 F.1⟩
noncomputable def c60:Ctr:=k60 slices_IndexFunc_60
theorem e60 (lp:Lp) (jn:Jn):∀(x:TsS c60.as) (F:TsF c60.fs) (y:TsS c60.cs),slices_IndexFunc_60_b lp jn x.1 F.1=runC lp jn (cx [] [(134,r134)]) hints 4 60 f60 c60 x F y:=fun x F y=>by kernel_rfl
theorem ok60:c60.ok prog 60:=Ctr.of_den (ctxT_ok (q134)) hmix (hl:=hints) (d:=4) func60 rfl (by decide) (e60 lpK jnK)
noncomputable def slack_Least_1_b (_:Lp) (_:Jn) (x0:ByteArray×(List (ByteArray×Int×Int×Int))×Bool) (y0:ByteArray):Option Bool :=
 some (List.beq (ByteArray.toList x0.1) (ByteArray.toList y0))
noncomputable def slack_Least_1 (x0:ByteArray×(List (ByteArray×Int×Int×Int))×Bool) (y0:ByteArray):Option Bool:=slack_Least_1_b lpK jnK x0 y0
abbrev t61:=(ByteArray×(List (ByteArray×Int×Int×Int))×Bool)→(ByteArray)→Option (Bool)
noncomputable def c61:Ctr:=⟨[T75],[],[.str],.one .bool,fun x _ y=>slack_Least_1 x.1 y.1⟩
theorem e61 (lp:Lp) (jn:Jn):∀(x:TsS c61.as) (F:TsF c61.fs) (y:TsS c61.cs),slack_Least_1_b lp jn x.1 y.1=runC lp jn (cx [] [(134,r134)]) hints 4 61 f61 c61 x F y:=fun x F y=>by kernel_rfl
theorem ok61:c61.ok prog 61:=Ctr.of_den (ctxT_ok (q134)) hmix (hl:=hints) (d:=4) func61 rfl (by decide) (e61 lpK jnK)
noncomputable def slack_one_b (_:Lp) (_:Jn) (slack_made:t45) (x0:(List (ByteArray×Int))×List (ByteArray×(List (ByteArray×Int×Int×Int))×Bool)) (x1:Int) (x2:Int):Option (((List Int)×List ((List Int)×Int×Int))×Int×Unit) :=
 bif decide (0≤(↑(List.length x0.2):Int))&&fitB (Int.toNat (↑(List.length x0.2):Int)) 8 then bif inB x1 (Int.toNat (↑(List.length x0.2):Int)) then bif Nat.ble
  (Nat.succ (Int.toNat x1)) (Int.toNat (↑(List.length x0.2):Int)) then obind (slack_made x0 (List.set (List.replicate (Int.toNat (↑(List.length x0.2):Int)) 0) (Int.toNat
  x1) x2)) fun (t:(List Int×List (List Int×Int×Int))×Int×PUnit)=>some (t.1,t.2.1,PUnit.unit) else none else none else none
noncomputable def slack_one (x0:(List (ByteArray×Int))×List (ByteArray×(List (ByteArray×Int×Int×Int))×Bool)) (x1:Int) (x2:Int):Option (((List Int)×List ((List Int)×Int×Int))×Int×Unit):=slack_one_b lpK jnK slack_made x0 x1 x2
abbrev t62:=((List (ByteArray×Int))×List (ByteArray×(List (ByteArray×Int×Int×Int))×Bool))→(Int)→(Int)→Option (((List Int)×List ((List Int)×Int×Int))×Int×Unit)
noncomputable def k62 (slack_one:t62):Ctr:=⟨[T25,i64,i64],[],[],.tup [T32,i64],fun x _ _=>slack_one x.1 x.2.1 x.2.2.1⟩
noncomputable def c62:Ctr:=k62 slack_one
theorem e62 (lp:Lp) (jn:Jn) (slack_made:t45):∀(x:TsS c62.as) (F:TsF c62.fs) (y:TsS c62.cs),slack_one_b lp jn slack_made x.1 x.2.1 x.2.2.1=runC lp jn (cx [(45,k45 slack_made)] [(134,r134)]) hints 4 62 f62 c62 x F y:=fun x F y=>by kernel_rfl
theorem ok62:c62.ok prog 62:=Ctr.of_den (ctxT_ok (ctxOf_cons (q134) (by kernel_rfl) ok45)) hmix (hl:=hints) (d:=4) func62 rfl (by decide) (e62 lpK jnK slack_made)
noncomputable def slack_Least_b (_:Lp) (_:Jn) (reeving_Valid:t59) (program_Solve:t58) (slices_IndexFunc_60:t60) (slack_Least_1:t61) (slack_one:t62) (x0:(List (ByteArray×Int))×List (ByteArray×(List (ByteArray×Int×Int×Int))×Bool)) (x1:ByteArray):Option ((Int×Int)×Int×Unit) :=
 obind (reeving_Valid x0) fun (t:Bool)=>bif !t then some ((0,0),1,PUnit.unit) else obind (slices_IndexFunc_60 x0.2 fun (x:(ByteArray×List (ByteArray ×
  Int×Int×Int)×Bool)×PUnit)=>slack_Least_1 x.1 x1) fun (t:Int)=>bif decide (t<0) then some ((0,0),9,PUnit.unit) else obind (slack_one
  x0 t 1) fun (t:(List Int×List (List Int×Int×Int))×Int×PUnit)=>bif !decide (t.2.1=0) then some ((0,0),t.2.1,PUnit.unit) else
  obind (program_Solve t.1) fun (t:((Int×Int)×List (Int×Int)×List (Int×Int))×Int×PUnit)=>bif !decide (t.2.1=0) then some ((0,0),
  t.2.1,PUnit.unit) else some (t.1.1,0,PUnit.unit)
noncomputable def slack_Least (x0:(List (ByteArray×Int))×List (ByteArray×(List (ByteArray×Int×Int×Int))×Bool)) (x1:ByteArray):Option ((Int×Int)×Int×Unit):=slack_Least_b lpK jnK reeving_Valid program_Solve slices_IndexFunc_60 slack_Least_1 slack_one x0 x1
abbrev t20:=((List (ByteArray×Int))×List (ByteArray×(List (ByteArray×Int×Int×Int))×Bool))→(ByteArray)→Option ((Int×Int)×Int×Unit)
noncomputable def k20 (slack_Least:t20):Ctr:=⟨[T25,.str],[],[],.tup [T49,i64],fun x _ _=>slack_Least x.1 x.2.1⟩
noncomputable def c20:Ctr:=k20 slack_Least
theorem e20 (lp:Lp) (jn:Jn) (reeving_Valid:t59) (program_Solve:t58) (slices_IndexFunc_60:t60) (slack_Least_1:t61) (slack_one:t62):∀(x:TsS c20.as) (F:TsF c20.fs) (y:TsS c20.cs),slack_Least_b lp jn reeving_Valid program_Solve slices_IndexFunc_60 slack_Least_1 slack_one x.1 x.2.1=runC lp jn (cx [(62,k62 slack_one),(61,⟨[T75],[],[.str],.one .bool,fun x _ y=>slack_Least_1 x.1 y.1⟩),(60,k60 slices_IndexFunc_60),(58,k58 program_Solve),(59,k59 reeving_Valid)] [(134,r134)]) hints 4 20 f20 c20 x F y:=fun x F y=>by kernel_rfl
theorem ok20:c20.ok prog 20:=Ctr.of_den (ctxT_ok (ctxOf_cons (ctxOf_cons (ctxOf_cons (ctxOf_cons (ctxOf_cons (q134) (by kernel_rfl) ok59) (by kernel_rfl) ok58) (by kernel_rfl) ok60) (by kernel_rfl) ok61) (by kernel_rfl) ok62)) hmix (hl:=hints) (d:=4) func20 rfl (by decide) (e20 lpK jnK reeving_Valid program_Solve slices_IndexFunc_60 slack_Least_1 slack_one)
noncomputable def slack_Slack_b (lp:Lp) (_:Jn) (reeving_Valid:t59) (program_Solve:t58) (slack_one:t62) (x0:(List (ByteArray×Int))×List (ByteArray×(List (ByteArray×Int×Int×Int))×Bool)):Option ((List ByteArray)×Int×Unit) :=
 obind (reeving_Valid x0) fun (t:Bool)=>bif !t then some ([],1,PUnit.unit) else lp (List ByteArray×Int×PUnit) (List ByteArray×Int×PUnit) (fun (again:List ByteArray ×
  Int×PUnit→Option (List ByteArray×Int×PUnit)) (x:List ByteArray×Int×PUnit) =>
 let v6:Int×PUnit:=(IntKind.wrap .i64 (x.2.1+1),PUnit.unit);bif decide (x.2.1<(↑(List.length x0.2):Int)) then bif inB x.2.1 (List.length x0.2)
  then obind (slack_one x0 x.2.1 (-1)) fun (t:(List Int×List (List Int×Int×Int))×Int×PUnit)=>bif !decide (t.2.1=0) then some ([],t.2.1,
  PUnit.unit) else obind (program_Solve t.1) fun (t:((Int×Int)×List (Int×Int)×List (Int×Int))×Int×PUnit)=>bif decide (t.2.1=21) then again (x.1,v6)
  else bif !decide (t.2.1=0) then some ([],t.2.1,PUnit.unit) else bif decide (t.1.1.1=0) then bif fitB (List.length x.1+1) 16 then
  again (x.1++[(List.getD x0.2 (Int.toNat x.2.1) ({ data:={ toList:=[] } },[],false)).1],v6) else none else again (x.1,v6) else none else some (x.1,0,
  PUnit.unit)) ([],0,PUnit.unit)
noncomputable def slack_Slack (x0:(List (ByteArray×Int))×List (ByteArray×(List (ByteArray×Int×Int×Int))×Bool)):Option ((List ByteArray)×Int×Unit):=slack_Slack_b lpK jnK reeving_Valid program_Solve slack_one x0
abbrev t21:=((List (ByteArray×Int))×List (ByteArray×(List (ByteArray×Int×Int×Int))×Bool))→Option ((List ByteArray)×Int×Unit)
noncomputable def k21 (slack_Slack:t21):Ctr:=⟨[T25],[],[],.tup [(.sl .str),i64],fun x _ _=>slack_Slack x.1⟩
noncomputable def c21:Ctr:=k21 slack_Slack
theorem e21 (lp:Lp) (jn:Jn) (reeving_Valid:t59) (program_Solve:t58) (slack_one:t62):∀(x:TsS c21.as) (F:TsF c21.fs) (y:TsS c21.cs),slack_Slack_b lp jn reeving_Valid program_Solve slack_one x.1=runC lp jn (cx [(62,k62 slack_one),(58,k58 program_Solve),(59,k59 reeving_Valid)] [(134,r134)]) hints 4 21 f21 c21 x F y:=fun x F y=>by kernel_rfl
theorem ok21:c21.ok prog 21:=Ctr.of_den (ctxT_ok (ctxOf_cons (ctxOf_cons (ctxOf_cons (q134) (by kernel_rfl) ok59) (by kernel_rfl) ok58) (by kernel_rfl) ok62)) hmix (hl:=hints) (d:=4) func21 rfl (by decide) (e21 lpK jnK reeving_Valid program_Solve slack_one)
noncomputable def law15_whole_b (_:Lp) (_:Jn) (x0:Int):Option (Int×Int) :=
 some (x0,1)
noncomputable def law15_whole (x0:Int):Option (Int×Int):=law15_whole_b lpK jnK x0
abbrev t34:=(Int)→Option (Int×Int)
noncomputable def k34 (law15_whole:t34):Ctr:=⟨[i64],[],[],.one T49,fun x _ _=>law15_whole x.1⟩
noncomputable def c34:Ctr:=k34 law15_whole
theorem e34 (lp:Lp) (jn:Jn):∀(x:TsS c34.as) (F:TsF c34.fs) (y:TsS c34.cs),law15_whole_b lp jn x.1=runC lp jn (cx [] [(134,r134)]) hints 4 34 f34 c34 x F y:=fun x F y=>by kernel_rfl
theorem ok34:c34.ok prog 34:=Ctr.of_den (ctxT_ok (q134)) hmix (hl:=hints) (d:=4) func34 rfl (by decide) (e34 lpK jnK)
noncomputable def law15_pulls_b (lp:Lp) (_:Jn) (law15_whole:t34) (x0:List Int):Option ((List (ByteArray×Int))×List (ByteArray×(List (ByteArray×Int×Int×Int))×Bool)) :=
 lp (Int×List (ByteArray×Int)×List (ByteArray×List (ByteArray×Int×Int×Int)×Bool)×PUnit) (List (ByteArray×Int)×List (ByteArray×List (ByteArray×Int×Int×Int)×Bool)) (fun (again:Int×List (ByteArray×Int)×List (ByteArray×List (ByteArray×Int×Int×Int)×Bool)×PUnit→Option (List (ByteArray×Int)×List (ByteArray×List (ByteArray×Int×Int×Int)×Bool))) (x:Int×List (ByteArray×Int)×List (ByteArray×List (ByteArray×Int×Int×Int)×Bool)×PUnit) =>
  bif decide (x.1<(↑(List.length x0):Int)) then bif inB x.1 (List.length x0) then obind (law15_whole 1) fun (t:Int×Int)=>obind (law15_whole 1) fun (t_1:Int×Int)=>bif fitB (List.length x.2.2.1+1) 48 then
  again (IntKind.wrap .i64 (x.1+1),x.2.1,x.2.2.1++[({ data:=#[114] }++bytesOf [IntKind.wrap IntKind.u8 (IntKind.wrap .i64 (49+x.1))],[({ data:=#[98] },List.getD x0 (Int.toNat x.1) 0,t),({ data:={ toList:=[] } },0,t_1)],false)],PUnit.unit) else none else none else some (x.2.1,x.2.2.1)) (0,[({ data:=#[98] },10)],[],PUnit.unit)
noncomputable def law15_pulls (x0:List Int):Option ((List (ByteArray×Int))×List (ByteArray×(List (ByteArray×Int×Int×Int))×Bool)):=law15_pulls_b lpK jnK law15_whole x0
abbrev t43:=(List Int)→Option ((List (ByteArray×Int))×List (ByteArray×(List (ByteArray×Int×Int×Int))×Bool))
noncomputable def c43:Ctr:=⟨[(.sl i64)],[],[],.one T25,fun x _ _=>law15_pulls x.1⟩
theorem e43 (lp:Lp) (jn:Jn) (law15_whole:t34):∀(x:TsS c43.as) (F:TsF c43.fs) (y:TsS c43.cs),law15_pulls_b lp jn law15_whole x.1=runC lp jn (cx [(34,k34 law15_whole)] [(134,r134)]) hints 4 43 f43 c43 x F y:=fun x F y=>by kernel_rfl
theorem ok43:c43.ok prog 43:=Ctr.of_den (ctxT_ok (ctxOf_cons (q134) (by kernel_rfl) ok34)) hmix (hl:=hints) (d:=4) func43 rfl (by decide) (e43 lpK jnK law15_whole)
noncomputable def law15_awake_b (_:Lp) (_:Jn) (slack_Proves:t12) (slack_Taut:t19) (slack_Least:t20) (slack_Slack:t21) (law15_whole:t34) (law15_pulls:t43):Option Bool :=
 obind (law15_pulls [1,1,(-1)]) fun (t:List (ByteArray×Int)×List (ByteArray×List (ByteArray×Int×Int×Int)×Bool))=>obind (slack_Taut t) fun (t:List
  (Int×Int)×Int×PUnit) =>
 let v4:Bool:=decide (t.2.1=0);
 let v5:Bool:=!v4||v4;
 let v6:Bool:=bif v4 then decide ((↑(List.length t.1):Int)=3) else false;
 let v7:Bool:=!v6||v6;obind (law15_pulls [1,1,(-1)]) fun (t:List (ByteArray×Int)×List (ByteArray×List (ByteArray×Int×Int×Int)×Bool))=>obind
  (slack_Slack t) fun (t:List ByteArray×Int×PUnit) =>
 let v10:Bool:=bif v6 then decide (t.2.1=0) else false;
 let v11:Bool:=!v10||v10;
 let v12:Bool:=bif v10 then decide ((↑(List.length t.1):Int)=0) else false;
 let v13:Bool:=!v12||v12;obind (law15_pulls [1,1,(-1)]) fun (t:List (ByteArray×Int)×List (ByteArray×List (ByteArray×Int×Int×Int)×Bool)) =>
  obind (slack_Least t { data:={ toList:=[{ toBitVec:={ toFin:=⟨114,Nat.mod_lt 114 (BitVec.ofNat._proof_1 8)⟩ } },{ toBitVec:={ toFin:=⟨49,
  Nat.mod_lt 49 (BitVec.ofNat._proof_1 8)⟩ } }] } }) fun (t:(Int×Int)×Int×PUnit) =>
 let v16:Bool:=bif v12 then decide (t.2.1=0) else false;
 let v17:Bool:=!v16||v16;obind (law15_pulls [(-1)]) fun (t_1:List (ByteArray×Int)×List (ByteArray×List (ByteArray×Int×Int×Int)×Bool))=>obind (law15_whole (1
  : Int)) fun (t_2:Int×Int)=>obind (slack_Proves t_1 [t_2]) fun (t_3:Bool×Int×PUnit)=>obind (law15_pulls [(-1)]) fun (t_4:List (ByteArray×Int)×List (ByteArray ×
  List (ByteArray×Int×Int×Int)×Bool))=>obind (slack_Taut t_4) fun (t_5:List (Int×Int)×Int×PUnit)=>bif v5 then bif v5 then bif v5 then bif v7 then bif v7 then bif v11
  then bif v11 then bif v11 then bif v13 then bif v13 then obind (bif v16 then law15_whole 0 else some (0,0)) fun (t_6:Int×Int) =>
 let v24:Bool:=bif v16 then decide (t.1.1=t_6.1)&&(decide (t.1.2=t_6.2)&&true) else false;
 let v25:Bool:=bif v24 then decide (t_3.2.1=0) else false;
 let v26:Bool:=bif v25 then t_3.1 else false;
 let v27:Bool:=!v24||v24;
 let v28:Bool:=!v26||v26;bif v17&&v17 then bif v17 then bif v27 then bif v27 then bif !v25||v25 then bif v28 then bif v28 then some (bif v26 then decide (t_5.2.1=(22 :
  Int)) else false) else none else none else none else none else none else none else none else none else none else none else none else none else none else none else none else none else
  none
noncomputable def law15_awake:Option Bool:=law15_awake_b lpK jnK slack_Proves slack_Taut slack_Least slack_Slack law15_whole law15_pulls
abbrev t9:=Option (Bool)
noncomputable def k9 (law15_awake:t9):Ctr:=⟨[],[],[],.one .bool,fun _ _ _=>law15_awake⟩
noncomputable def c9:Ctr:=k9 law15_awake
theorem e9 (lp:Lp) (jn:Jn) (slack_Proves:t12) (slack_Taut:t19) (slack_Least:t20) (slack_Slack:t21) (law15_whole:t34) (law15_pulls:t43):∀(x:TsS c9.as) (F:TsF c9.fs) (y:TsS c9.cs),law15_awake_b lp jn slack_Proves slack_Taut slack_Least slack_Slack law15_whole law15_pulls=runC lp jn (cx [(43,⟨[(.sl i64)],[],[],.one T25,fun x _ _=>law15_pulls x.1⟩),(34,k34 law15_whole),(21,k21 slack_Slack),(20,k20 slack_Least),(19,k19 slack_Taut),(12,k12 slack_Proves)] [(134,r134)]) hints 4 9 f9 c9 x F y:=fun x F y=>by kernel_rfl
theorem ok9:c9.ok prog 9:=Ctr.of_den (ctxT_ok (ctxOf_cons (ctxOf_cons (ctxOf_cons (ctxOf_cons (ctxOf_cons (ctxOf_cons (q134) (by kernel_rfl) ok12) (by kernel_rfl) ok19) (by kernel_rfl) ok20) (by kernel_rfl) ok21) (by kernel_rfl) ok34) (by kernel_rfl) ok43)) hmix (hl:=hints) (d:=4) func9 rfl (by decide) (e9 lpK jnK slack_Proves slack_Taut slack_Least slack_Slack law15_whole law15_pulls)
noncomputable def ref10_Small_b (lp:Lp) (_:Jn) (x0:(List (ByteArray×Int))×List (ByteArray×(List (ByteArray×Int×Int×Int))×Bool)):Option Bool :=
 
 let v3:Bool:=decide ((↑(List.length x0.1):Int)>9);
 let v4:Bool:=!v3;
 let v5:Bool:=!v4||v4;bif v5 then bif v5 then bif v5 then bif v3||v4 then bif bif v3 then true else decide ((↑(List.length x0.2):Int)>9) then some false else lp (Int
  × PUnit) Bool (fun (again:Int×PUnit→Option Bool) (x:Int×PUnit)=>bif decide (x.1<(↑(List.length x0.1):Int)) then bif inB x.1 (List.length x0.1) then bif decide
  ((↑(ByteArray.size (List.getD x0.1 (Int.toNat x.1) ({ data:={ toList:=[] } },0)).1):Int)>60) then some false else again (IntKind.wrap .i64 (x.1 +
  1),PUnit.unit) else none else lp (Int×PUnit) Bool (fun (again:Int×PUnit→Option Bool) (x:Int×PUnit) =>
 let v10:Bool:=inB x.1 (List.length x0.2);
 let v11:Bool:=decide ((↑(ByteArray.size (List.getD x0.2 (Int.toNat x.1) ({ data:={ toList:=[] } },[],false)).1):Int)>60);
 let v12:Bool:=!v11;
 let v13:Bool:=!v12;
 let v14:Bool:=v13||v12;bif decide (x.1<(↑(List.length x0.2):Int)) then bif v10 then bif v14 then bif v14&&(v14&&(v13||v10)) then bif v14 then bif v14 then bif v14
  then bif v14 then bif v11||v12 then bif bif v11 then true else decide ((↑(List.length (List.getD x0.2 (Int.toNat x.1) ({ data:={ toList:=[] } },[],false)).2.1):Int) >
  13) then some false else lp (Int×PUnit) Bool (fun (again_1:Int×PUnit→Option Bool) (x_1:Int×PUnit)=>bif v10 then bif decide (x_1.1<(↑(List.length (List.getD
  x0.2 (Int.toNat x.1) ({ data:={ toList:=[] } },[],false)).2.1):Int)) then bif v10 then bif inB x_1.1 (List.length (List.getD x0.2 (Int.toNat x.1) ({ data:={
  toList:=[] } },[],false)).2.1) then bif decide ((↑(ByteArray.size (List.getD (List.getD x0.2 (Int.toNat x.1) ({ data:={ toList:=[] } },[],false)).2.1 (Int.toNat
  x_1.1) ({ data:={ toList:=[] } },0,0,0)).1):Int)>60) then some false else again_1 (IntKind.wrap .i64 (x_1.1+1),
  PUnit.unit) else none else none else again (IntKind.wrap .i64 (x.1+1),PUnit.unit) else none) (0,PUnit.unit) else none else none else none else none else
  none else none else none else none else some true) (0,PUnit.unit)) (0,PUnit.unit) else none else none else none else none
noncomputable def ref10_Small (x0:(List (ByteArray×Int))×List (ByteArray×(List (ByteArray×Int×Int×Int))×Bool)):Option Bool:=ref10_Small_b lpK jnK x0
abbrev t44:=((List (ByteArray×Int))×List (ByteArray×(List (ByteArray×Int×Int×Int))×Bool))→Option (Bool)
noncomputable def c44:Ctr:=⟨[T25],[],[],.one .bool,fun x _ _=>ref10_Small x.1⟩
theorem e44 (lp:Lp) (jn:Jn):∀(x:TsS c44.as) (F:TsF c44.fs) (y:TsS c44.cs),ref10_Small_b lp jn x.1=runC lp jn (cx [] [(134,r134)]) hints 4 44 f44 c44 x F y:=fun x F y=>by kernel_rfl
theorem ok44:c44.ok prog 44:=Ctr.of_den (ctxT_ok (q134)) hmix (hl:=hints) (d:=4) func44 rfl (by decide) (e44 lpK jnK)
noncomputable def law15_few_b (_:Lp) (_:Jn) (ref10_Small:t44) (x0:(List (ByteArray×Int))×List (ByteArray×(List (ByteArray×Int×Int×Int))×Bool)) (x1:List (Int×Int)):Option Bool :=
 obind (ref10_Small x0) fun (t:Bool) =>
 let v5:Bool:=!t||t;bif v5 then bif v5 then bif v5 then some (bif t then decide ((↑(List.length x1):Int)≤10) else false) else none else none else none
noncomputable def law15_few (x0:(List (ByteArray×Int))×List (ByteArray×(List (ByteArray×Int×Int×Int))×Bool)) (x1:List (Int×Int)):Option Bool:=law15_few_b lpK jnK ref10_Small x0 x1
abbrev t10:=((List (ByteArray×Int))×List (ByteArray×(List (ByteArray×Int×Int×Int))×Bool))→(List (Int×Int))→Option (Bool)
noncomputable def k10 (law15_few:t10):Ctr:=⟨[T25,(.sl T49)],[],[],.one .bool,fun x _ _=>law15_few x.1 x.2.1⟩
noncomputable def c10:Ctr:=k10 law15_few
theorem e10 (lp:Lp) (jn:Jn) (ref10_Small:t44):∀(x:TsS c10.as) (F:TsF c10.fs) (y:TsS c10.cs),law15_few_b lp jn ref10_Small x.1 x.2.1=runC lp jn (cx [(44,⟨[T25],[],[],.one .bool,fun x _ _=>ref10_Small x.1⟩)] [(134,r134)]) hints 4 10 f10 c10 x F y:=fun x F y=>by kernel_rfl
theorem ok10:c10.ok prog 10:=Ctr.of_den (ctxT_ok (ctxOf_cons (q134) (by kernel_rfl) ok44)) hmix (hl:=hints) (d:=4) func10 rfl (by decide) (e10 lpK jnK ref10_Small)
noncomputable def ref10_FindRope_b (lp:Lp) (_:Jn) (x0:(List (ByteArray×Int))×List (ByteArray×(List (ByteArray×Int×Int×Int))×Bool)) (x1:ByteArray):Option Int :=
 lp (Int×PUnit) Int (fun (again:Int×PUnit→Option Int) (x:Int×PUnit)=>bif decide (x.1<(↑(List.length x0.2):Int)) then bif inB x.1 (List.length x0.2) then bif
  List.beq (ByteArray.toList (List.getD x0.2 (Int.toNat x.1) ({ data:={ toList:=[] } },[],false)).1) (ByteArray.toList x1) then some x.1 else again (IntKind.wrap .i64
  (x.1+1),PUnit.unit) else none else some (-1)) (0,PUnit.unit)
noncomputable def ref10_FindRope (x0:(List (ByteArray×Int))×List (ByteArray×(List (ByteArray×Int×Int×Int))×Bool)) (x1:ByteArray):Option Int:=ref10_FindRope_b lpK jnK x0 x1
abbrev t22:=((List (ByteArray×Int))×List (ByteArray×(List (ByteArray×Int×Int×Int))×Bool))→(ByteArray)→Option (Int)
noncomputable def k22 (ref10_FindRope:t22):Ctr:=⟨[T25,.str],[],[],.one i64,fun x _ _=>ref10_FindRope x.1 x.2.1⟩
noncomputable def c22:Ctr:=k22 ref10_FindRope
theorem e22 (lp:Lp) (jn:Jn):∀(x:TsS c22.as) (F:TsF c22.fs) (y:TsS c22.cs),ref10_FindRope_b lp jn x.1 x.2.1=runC lp jn (cx [] [(134,r134)]) hints 4 22 f22 c22 x F y:=fun x F y=>by kernel_rfl
theorem ok22:c22.ok prog 22:=Ctr.of_den (ctxT_ok (q134)) hmix (hl:=hints) (d:=4) func22 rfl (by decide) (e22 lpK jnK)
noncomputable def ref01_Letter_b (_:Lp) (_:Jn) (x0:Int):Option Bool :=
 
 let v3:Bool:=decide (x0≥97);
 let v4:Bool:=decide (x0≥65);
 let v5:Bool:=!v3||v3;
 let v6:Bool:=bif v3 then decide (x0≤122) else false;
 let v7:Bool:=!v6;
 let v8:Bool:=!v7;
 let v9:Bool:=v7&&v4;
 let v10:Bool:=v8||v7;bif v5 then bif v5 then bif v10 then bif v10 then bif !v9||v9 then bif (v8||v10)&&(v8||(!v4||(v8||v9))) then bif v6||v7 then some (bif v6 then
  true else bif v4 then decide (x0≤90) else false) else none else none else none else none else none else none else none
noncomputable def ref01_Letter (x0:Int):Option Bool:=ref01_Letter_b lpK jnK x0
abbrev t98:=(Int)→Option (Bool)
noncomputable def k98 (ref01_Letter:t98):Ctr:=⟨[(.int .u8)],[],[],.one .bool,fun x _ _=>ref01_Letter x.1⟩
noncomputable def c98:Ctr:=k98 ref01_Letter
theorem e98 (lp:Lp) (jn:Jn):∀(x:TsS c98.as) (F:TsF c98.fs) (y:TsS c98.cs),ref01_Letter_b lp jn x.1=runC lp jn (cx [] [(134,r134)]) hints 4 98 f98 c98 x F y:=fun x F y=>by kernel_rfl
theorem ok98:c98.ok prog 98:=Ctr.of_den (ctxT_ok (q134)) hmix (hl:=hints) (d:=4) func98 rfl (by decide) (e98 lpK jnK)
noncomputable def ref01_Digit_b (_:Lp) (_:Jn) (x0:Int):Option Bool :=
 
 let v3:Bool:=decide (x0≥48);
 let v4:Bool:=!v3||v3;bif v4 then bif v4 then some (bif v3 then decide (x0≤57) else false) else none else none
noncomputable def ref01_Digit (x0:Int):Option Bool:=ref01_Digit_b lpK jnK x0
abbrev t147:=(Int)→Option (Bool)
noncomputable def c147:Ctr:=⟨[(.int .u8)],[],[],.one .bool,fun x _ _=>ref01_Digit x.1⟩
theorem e147 (lp:Lp) (jn:Jn):∀(x:TsS c147.as) (F:TsF c147.fs) (y:TsS c147.cs),ref01_Digit_b lp jn x.1=runC lp jn (cx [] [(134,r134)]) hints 4 147 f147 c147 x F y:=fun x F y=>by kernel_rfl
theorem ok147:c147.ok prog 147:=Ctr.of_den (ctxT_ok (q134)) hmix (hl:=hints) (d:=4) func147 rfl (by decide) (e147 lpK jnK)
noncomputable def ref01_word_b (lp:Lp) (_:Jn) (ref01_Letter:t98) (ref01_Digit:t147) (x0:ByteArray) (x1:Int):Option Int :=
 lp (Int×PUnit) Int (fun (again:Int×PUnit→Option Int) (x:Int×PUnit) =>
 let v6:Bool:=inB x.1 (ByteArray.size x0);
 let v7:Int:=byteAt x0 (Int.toNat x.1);
 let v8:Bool:=decide (x.1<(↑(ByteArray.size x0):Int));
 let v9:Bool:=!v8;
 let v10:Bool:=v9||v8;
 let v11:Bool:=v9||v10;bif v10&&(v10&&(v9||v6)) then bif v10 then obind (bif v8 then ref01_Letter v7 else some false) fun (t:Bool) =>
 let v13:Bool:=v8&&!t;
 let v14:Bool:=!v13;
 let v15:Bool:=v14||v13;bif v10 then bif v15&&(v15&&(v14||v6)) then bif v15 then obind (bif v13 then ref01_Digit v7 else some false) fun (t_1:Bool) =>
 let v17:Bool:=bif t then true else t_1;
 let v18:Bool:=v8&&!v17;
 let v19:Bool:=!v18;
 let v20:Bool:=v19||v18;bif v11&&(v9||(t||(v9||v13))) then bif v10 then bif v20&&(v20&&(v19||v6)) then bif v20 then bif v11&&(v9||(v17||(v9||v18))) then bif
  v10 then bif bif v8 then bif v17 then true else decide (v7=95) else false then again (IntKind.wrap .i64 (x.1+1),PUnit.unit) else some x.1 else none else
  none else none else none else none else none else none else none else none else none else none) (x1,PUnit.unit)
noncomputable def ref01_word (x0:ByteArray) (x1:Int):Option Int:=ref01_word_b lpK jnK ref01_Letter ref01_Digit x0 x1
abbrev t99:=(ByteArray)→(Int)→Option (Int)
noncomputable def c99:Ctr:=⟨[.str,i64],[],[],.one i64,fun x _ _=>ref01_word x.1 x.2.1⟩
theorem e99 (lp:Lp) (jn:Jn) (ref01_Letter:t98) (ref01_Digit:t147):∀(x:TsS c99.as) (F:TsF c99.fs) (y:TsS c99.cs),ref01_word_b lp jn ref01_Letter ref01_Digit x.1 x.2.1=runC lp jn (cx [(147,⟨[(.int .u8)],[],[],.one .bool,fun x _ _=>ref01_Digit x.1⟩),(98,k98 ref01_Letter)] [(134,r134)]) hints 4 99 f99 c99 x F y:=fun x F y=>by kernel_rfl
theorem ok99:c99.ok prog 99:=Ctr.of_den (ctxT_ok (ctxOf_cons (ctxOf_cons (q134) (by kernel_rfl) ok98) (by kernel_rfl) ok147)) hmix (hl:=hints) (d:=4) func99 rfl (by decide) (e99 lpK jnK ref01_Letter ref01_Digit)
noncomputable def ref01_IsName_b (_:Lp) (_:Jn) (ref01_Letter:t98) (ref01_word:t99) (x0:ByteArray):Option Bool :=
 
 let v3:Bool:=decide ((↑(ByteArray.size x0):Int)=0);
 let v4:Bool:=!v3;
 let v5:Bool:=!v4||v4;
 let v6:Bool:=bif v3 then true else decide ((↑(ByteArray.size x0):Int)>20);
 let v7:Bool:=!v6;
 let v8:Bool:=!v7;
 let v9:Bool:=v8||v7;bif v5 then bif v5 then bif v3||v4 then bif v9&&(v8||inB 0 (ByteArray.size x0)) then bif v9 then obind (bif v7 then ref01_Letter (byteAt x0 (0 :
  Nat)) else some false) fun (t:Bool)=>bif v9 then bif v6||v7 then bif bif v6 then true else !t then some false else obind (ref01_word x0 0) fun (t:Int)=>some (decide (t
  = (↑(ByteArray.size x0):Int))) else none else none else none else none else none else none else none
noncomputable def ref01_IsName (x0:ByteArray):Option Bool:=ref01_IsName_b lpK jnK ref01_Letter ref01_word x0
abbrev t48:=(ByteArray)→Option (Bool)
noncomputable def c48:Ctr:=⟨[.str],[],[],.one .bool,fun x _ _=>ref01_IsName x.1⟩
theorem e48 (lp:Lp) (jn:Jn) (ref01_Letter:t98) (ref01_word:t99):∀(x:TsS c48.as) (F:TsF c48.fs) (y:TsS c48.cs),ref01_IsName_b lp jn ref01_Letter ref01_word x.1=runC lp jn (cx [(99,⟨[.str,i64],[],[],.one i64,fun x _ _=>ref01_word x.1 x.2.1⟩),(98,k98 ref01_Letter)] [(134,r134)]) hints 4 48 f48 c48 x F y:=fun x F y=>by kernel_rfl
theorem ok48:c48.ok prog 48:=Ctr.of_den (ctxT_ok (ctxOf_cons (ctxOf_cons (q134) (by kernel_rfl) ok98) (by kernel_rfl) ok99)) hmix (hl:=hints) (d:=4) func48 rfl (by decide) (e48 lpK jnK ref01_Letter ref01_word)
noncomputable def ref10_FindBlock_b (lp:Lp) (_:Jn) (x0:(List (ByteArray×Int))×List (ByteArray×(List (ByteArray×Int×Int×Int))×Bool)) (x1:ByteArray):Option Int :=
 lp (Int×PUnit) Int (fun (again:Int×PUnit→Option Int) (x:Int×PUnit)=>bif decide (x.1<(↑(List.length x0.1):Int)) then bif inB x.1 (List.length x0.1) then bif
  List.beq (ByteArray.toList (List.getD x0.1 (Int.toNat x.1) ({ data:={ toList:=[] } },0)).1) (ByteArray.toList x1) then some x.1 else again (IntKind.wrap .i64
  (x.1+1),PUnit.unit) else none else some (-1)) (0,PUnit.unit)
noncomputable def ref10_FindBlock (x0:(List (ByteArray×Int))×List (ByteArray×(List (ByteArray×Int×Int×Int))×Bool)) (x1:ByteArray):Option Int:=ref10_FindBlock_b lpK jnK x0 x1
abbrev t49:=((List (ByteArray×Int))×List (ByteArray×(List (ByteArray×Int×Int×Int))×Bool))→(ByteArray)→Option (Int)
noncomputable def k49 (ref10_FindBlock:t49):Ctr:=⟨[T25,.str],[],[],.one i64,fun x _ _=>ref10_FindBlock x.1 x.2.1⟩
noncomputable def c49:Ctr:=k49 ref10_FindBlock
theorem e49 (lp:Lp) (jn:Jn):∀(x:TsS c49.as) (F:TsF c49.fs) (y:TsS c49.cs),ref10_FindBlock_b lp jn x.1 x.2.1=runC lp jn (cx [] [(134,r134)]) hints 4 49 f49 c49 x F y:=fun x F y=>by kernel_rfl
theorem ok49:c49.ok prog 49:=Ctr.of_den (ctxT_ok (q134)) hmix (hl:=hints) (d:=4) func49 rfl (by decide) (e49 lpK jnK)
noncomputable def ref02_Of_b (_:Lp) (_:Jn) (x0:Int):Option (Int×Int) :=
 some (x0,1)
noncomputable def ref02_Of (x0:Int):Option (Int×Int):=ref02_Of_b lpK jnK x0
abbrev t73:=(Int)→Option (Int×Int)
noncomputable def k73 (ref02_Of:t73):Ctr:=⟨[i64],[],[],.one T49,fun x _ _=>ref02_Of x.1⟩
noncomputable def c73:Ctr:=k73 ref02_Of
theorem e73 (lp:Lp) (jn:Jn):∀(x:TsS c73.as) (F:TsF c73.fs) (y:TsS c73.cs),ref02_Of_b lp jn x.1=runC lp jn (cx [] [(134,r134)]) hints 4 73 f73 c73 x F y:=fun x F y=>by kernel_rfl
theorem ok73:c73.ok prog 73:=Ctr.of_den (ctxT_ok (q134)) hmix (hl:=hints) (d:=4) func73 rfl (by decide) (e73 lpK jnK)
noncomputable def ref02_Half_b (_:Lp) (_:Jn) (x0:Int×Int):Option (Int×Int) :=
 
 let v3:Int:=2 ^ 1;
 let v4:Bool:=decide ((0:Int)≤1);bif v4 then bif v4 then bif decide ((0:Int)≤63) then some (Int.fdiv x0.1 v3,IntKind.wrap .u64 (Int.fdiv x0.2 v3 +
  IntKind.wrap .u64 (x0.1*2 ^ 63))) else none else none else none
noncomputable def ref02_Half (x0:Int×Int):Option (Int×Int):=ref02_Half_b lpK jnK x0
abbrev t149:=(Int×Int)→Option (Int×Int)
noncomputable def c149:Ctr:=⟨[T148],[],[],.one T148,fun x _ _=>ref02_Half x.1⟩
theorem e149 (lp:Lp) (jn:Jn):∀(x:TsS c149.as) (F:TsF c149.fs) (y:TsS c149.cs),ref02_Half_b lp jn x.1=runC lp jn (cx [] [(134,r134)]) hints 4 149 f149 c149 x F y:=fun x F y=>by kernel_rfl
theorem ok149:c149.ok prog 149:=Ctr.of_den (ctxT_ok (q134)) hmix (hl:=hints) (d:=4) func149 rfl (by decide) (e149 lpK jnK)
noncomputable def ref02_Less_b (_:Lp) (_:Jn) (x0:Int×Int) (x1:Int×Int):Option Bool :=
 
 let v4:Bool:=decide (x0.1=x1.1);
 let v5:Bool:=decide (x0.1<x1.1);
 let v6:Bool:=!v5;
 let v7:Bool:=!v6;
 let v8:Bool:=v6&&v4;
 let v9:Bool:=v7||v6;
 let v10:Bool:=!v8||v8;bif v9 then bif v9 then bif v9&&v9 then bif v9 then bif v10 then bif v10 then bif v10&&v10 then bif (v7||v9)&&(v7||(!v4||(v7||v8))) then bif v5
  || v6 then some (bif v5 then true else bif v4 then decide (x0.2<x1.2) else false) else none else none else none else none else none else none else none else none else none
noncomputable def ref02_Less (x0:Int×Int) (x1:Int×Int):Option Bool:=ref02_Less_b lpK jnK x0 x1
abbrev t150:=(Int×Int)→(Int×Int)→Option (Bool)
noncomputable def k150 (ref02_Less:t150):Ctr:=⟨[T148,T148],[],[],.one .bool,fun x _ _=>ref02_Less x.1 x.2.1⟩
noncomputable def c150:Ctr:=k150 ref02_Less
theorem e150 (lp:Lp) (jn:Jn):∀(x:TsS c150.as) (F:TsF c150.fs) (y:TsS c150.cs),ref02_Less_b lp jn x.1 x.2.1=runC lp jn (cx [] [(134,r134)]) hints 4 150 f150 c150 x F y:=fun x F y=>by kernel_rfl
theorem ok150:c150.ok prog 150:=Ctr.of_den (ctxT_ok (q134)) hmix (hl:=hints) (d:=4) func150 rfl (by decide) (e150 lpK jnK)
noncomputable def ref02_Minus_b (_:Lp) (_:Jn) (x0:Int×Int) (x1:Int×Int):Option (Int×Int) :=
 
 let v4:Int:=IntKind.wrap .u64 (x0.1 - x1.1);
 let v5:Int:=IntKind.wrap .u64 (x0.2 - x1.2);bif decide (x0.2<x1.2) then some (IntKind.wrap .u64 (v4 - 1),v5) else some (v4,v5)
noncomputable def ref02_Minus (x0:Int×Int) (x1:Int×Int):Option (Int×Int):=ref02_Minus_b lpK jnK x0 x1
abbrev t151:=(Int×Int)→(Int×Int)→Option (Int×Int)
noncomputable def k151 (ref02_Minus:t151):Ctr:=⟨[T148,T148],[],[],.one T148,fun x _ _=>ref02_Minus x.1 x.2.1⟩
noncomputable def c151:Ctr:=k151 ref02_Minus
theorem e151 (lp:Lp) (jn:Jn):∀(x:TsS c151.as) (F:TsF c151.fs) (y:TsS c151.cs),ref02_Minus_b lp jn x.1 x.2.1=runC lp jn (cx [] [(134,r134)]) hints 4 151 f151 c151 x F y:=fun x F y=>by kernel_rfl
theorem ok151:c151.ok prog 151:=Ctr.of_den (ctxT_ok (q134)) hmix (hl:=hints) (d:=4) func151 rfl (by decide) (e151 lpK jnK)
noncomputable def ref02_Plus_b (_:Lp) (_:Jn) (x0:Int×Int) (x1:Int×Int):Option (Int×Int) :=
 
 let v4:Int:=IntKind.wrap .u64 (x0.1+x1.1);
 let v5:Int:=IntKind.wrap .u64 (x0.2+x1.2);bif decide (v5<x0.2) then some (IntKind.wrap .u64 (v4+1),v5) else some (v4,v5)
noncomputable def ref02_Plus (x0:Int×Int) (x1:Int×Int):Option (Int×Int):=ref02_Plus_b lpK jnK x0 x1
abbrev t152:=(Int×Int)→(Int×Int)→Option (Int×Int)
noncomputable def k152 (ref02_Plus:t152):Ctr:=⟨[T148,T148],[],[],.one T148,fun x _ _=>ref02_Plus x.1 x.2.1⟩
noncomputable def c152:Ctr:=k152 ref02_Plus
theorem e152 (lp:Lp) (jn:Jn):∀(x:TsS c152.as) (F:TsF c152.fs) (y:TsS c152.cs),ref02_Plus_b lp jn x.1 x.2.1=runC lp jn (cx [] [(134,r134)]) hints 4 152 f152 c152 x F y:=fun x F y=>by kernel_rfl
theorem ok152:c152.ok prog 152:=Ctr.of_den (ctxT_ok (q134)) hmix (hl:=hints) (d:=4) func152 rfl (by decide) (e152 lpK jnK)
noncomputable def ref02_Gcd_b (lp:Lp) (_:Jn) (ref02_Half:t149) (ref02_Less:t150) (ref02_Minus:t151) (ref02_Plus:t152) (x0:Int×Int) (x1:Int×Int):Option (Int×Int) :=
 bif decide (x0.1=0)&&(decide (x0.2=0)&&true) then some x1 else lp (Int×(Int×Int)×(Int×Int)×PUnit) (Int×Int) (fun (again:Int×(Int×Int)×(Int ×
  Int)×PUnit→Option (Int×Int)) (x:Int×(Int×Int)×(Int×Int)×PUnit) =>
 let v6:Bool:=decide (IntKind.wrap .u64 (↑(Nat.land (Int.toNat (x.2.1.2 % Int.ofNat 18446744073709551616)) (Int.toNat (1 % Int.ofNat (18446744073709551616
  : Nat)))):Int)=0);
 let v7:Bool:=!v6||v6;bif v7 then bif v7 then bif v7 then bif v7 then bif bif v6 then decide (IntKind.wrap .u64 (↑(Nat.land (Int.toNat (x.2.2.1.2 % Int.ofNat
  18446744073709551616)) (Int.toNat (1 % Int.ofNat 18446744073709551616))):Int)=0) else false then obind (ref02_Half x.2.1) fun (t:Int×Int) =>
  obind (ref02_Half x.2.2.1) fun (t_1:Int×Int)=>again (IntKind.wrap .i64 (x.1+1),t,t_1,PUnit.unit) else lp ((Int×Int)×(Int×Int)×PUnit) (Int ×
  Int) (fun (again:(Int×Int)×(Int×Int)×PUnit→Option (Int×Int)) (x_1:(Int×Int)×(Int×Int)×PUnit) =>
 let v10:(Int×Int)×PUnit:=(x_1.2.1,PUnit.unit);bif !(decide (x_1.1.1=0)&&(decide (x_1.1.2=0)&&true)) then lp ((Int×Int)×PUnit) (Int×Int)
  (fun (again_1:(Int×Int)×PUnit→Option (Int×Int)) (x:(Int×Int)×PUnit)=>bif decide (IntKind.wrap .u64 (↑(Nat.land (Int.toNat (x.1.2 % Int.ofNat
  18446744073709551616)) (Int.toNat (1 % Int.ofNat 18446744073709551616))):Int)=0) then obind (ref02_Half x.1) fun (t:Int×Int)=>again_1 (t,
  PUnit.unit) else lp ((Int×Int)×PUnit) (Int×Int) (fun (again_2:(Int×Int)×PUnit→Option (Int×Int)) (x_2:(Int×Int)×PUnit)=>bif decide (IntKind.wrap .u64
  (↑(Nat.land (Int.toNat (x_2.1.2 % Int.ofNat 18446744073709551616)) (Int.toNat (1 % Int.ofNat 18446744073709551616))):Int)=0) then obind
  (ref02_Half x_2.1) fun (t:Int×Int)=>again_2 (t,PUnit.unit) else obind (ref02_Less x.1 x_2.1) fun (t:Bool)=>bif t then obind (ref02_Minus x_2.1 x.1) fun (t:Int ×
  Int)=>again (t,x.1,PUnit.unit) else obind (ref02_Minus x.1 x_2.1) fun (t:Int×Int)=>again (t,x_2.1,PUnit.unit)) v10) (x_1.1,PUnit.unit) else lp (Int×(Int×Int)
  × PUnit) (Int×Int) (fun (again:Int×(Int×Int)×PUnit→Option (Int×Int)) (x:Int×(Int×Int)×PUnit)=>bif decide (x.1>0) then obind (ref02_Plus x.2.1
  x.2.1) fun (t:Int×Int)=>again (IntKind.wrap .i64 (x.1 - 1),t,PUnit.unit) else some x.2.1) (x.1,v10)) (x.2.1,x.2.2.1,PUnit.unit) else none
  else none else none else none) (0,x0,x1,PUnit.unit)
noncomputable def ref02_Gcd (x0:Int×Int) (x1:Int×Int):Option (Int×Int):=ref02_Gcd_b lpK jnK ref02_Half ref02_Less ref02_Minus ref02_Plus x0 x1
abbrev t102:=(Int×Int)→(Int×Int)→Option (Int×Int)
noncomputable def k102 (ref02_Gcd:t102):Ctr:=⟨[T148,T148],[],[],.one T148,fun x _ _=>ref02_Gcd x.1 x.2.1⟩
noncomputable def c102:Ctr:=k102 ref02_Gcd
theorem e102 (lp:Lp) (jn:Jn) (ref02_Half:t149) (ref02_Less:t150) (ref02_Minus:t151) (ref02_Plus:t152):∀(x:TsS c102.as) (F:TsF c102.fs) (y:TsS c102.cs),ref02_Gcd_b lp jn ref02_Half ref02_Less ref02_Minus ref02_Plus x.1 x.2.1=runC lp jn (cx [(152,k152 ref02_Plus),(151,k151 ref02_Minus),(150,k150 ref02_Less),(149,⟨[T148],[],[],.one T148,fun x _ _=>ref02_Half x.1⟩)] [(134,r134)]) hints 4 102 f102 c102 x F y:=fun x F y=>by kernel_rfl
theorem ok102:c102.ok prog 102:=Ctr.of_den (ctxT_ok (ctxOf_cons (ctxOf_cons (ctxOf_cons (ctxOf_cons (q134) (by kernel_rfl) ok149) (by kernel_rfl) ok150) (by kernel_rfl) ok151) (by kernel_rfl) ok152)) hmix (hl:=hints) (d:=4) func102 rfl (by decide) (e102 lpK jnK ref02_Half ref02_Less ref02_Minus ref02_Plus)
noncomputable def ref02_Size_b (_:Lp) (_:Jn) (x0:Int):Option Int :=
 
 let v3:Int:=IntKind.wrap .u64 x0;bif decide (x0<0) then some (IntKind.wrap .u64 (0 - v3)) else some v3
noncomputable def ref02_Size (x0:Int):Option Int:=ref02_Size_b lpK jnK x0
abbrev t103:=(Int)→Option (Int)
noncomputable def k103 (ref02_Size:t103):Ctr:=⟨[i64],[],[],.one (.int .u64),fun x _ _=>ref02_Size x.1⟩
noncomputable def c103:Ctr:=k103 ref02_Size
theorem e103 (lp:Lp) (jn:Jn):∀(x:TsS c103.as) (F:TsF c103.fs) (y:TsS c103.cs),ref02_Size_b lp jn x.1=runC lp jn (cx [] [(134,r134)]) hints 4 103 f103 c103 x F y:=fun x F y=>by kernel_rfl
theorem ok103:c103.ok prog 103:=Ctr.of_den (ctxT_ok (q134)) hmix (hl:=hints) (d:=4) func103 rfl (by decide) (e103 lpK jnK)
noncomputable def ref02_Valid_b (_:Lp) (_:Jn) (ref02_Gcd:t102) (ref02_Size:t103) (x0:Int×Int):Option Bool :=
 
 let v3:Bool:=decide (x0.2<1);
 let v4:Bool:=!v3;
 let v5:Bool:=bif v3 then true else decide (x0.2>1152921504606846976);
 let v6:Bool:=!v4||v4;
 let v7:Bool:=!v5;
 let v8:Bool:=bif v5 then true else decide (x0.1<(-1152921504606846976));
 let v9:Bool:=!v8;
 let v10:Bool:=!v7||v7;
 let v11:Bool:=!v9||v9;bif v6 then bif v6 then bif v3||v4 then bif v10 then bif v10 then bif v5||v7 then bif v11 then bif v11 then bif v8||v9 then bif bif v8 then true else
  decide (x0.1>1152921504606846976) then some false else obind (ref02_Size x0.1) fun (t:Int)=>obind (ref02_Size x0.2) fun (t_1:Int)=>obind (ref02_Gcd (0,
  t) (0,t_1)) fun (t:Int×Int)=>some (decide (t.1=0)&&(decide (t.2=1)&&true)) else none else none else none else none else none else none else
  none else none else none
noncomputable def ref02_Valid (x0:Int×Int):Option Bool:=ref02_Valid_b lpK jnK ref02_Gcd ref02_Size x0
abbrev t52:=(Int×Int)→Option (Bool)
noncomputable def k52 (ref02_Valid:t52):Ctr:=⟨[T49],[],[],.one .bool,fun x _ _=>ref02_Valid x.1⟩
noncomputable def c52:Ctr:=k52 ref02_Valid
theorem e52 (lp:Lp) (jn:Jn) (ref02_Gcd:t102) (ref02_Size:t103):∀(x:TsS c52.as) (F:TsF c52.fs) (y:TsS c52.cs),ref02_Valid_b lp jn ref02_Gcd ref02_Size x.1=runC lp jn (cx [(103,k103 ref02_Size),(102,k102 ref02_Gcd)] [(134,r134)]) hints 4 52 f52 c52 x F y:=fun x F y=>by kernel_rfl
theorem ok52:c52.ok prog 52:=Ctr.of_den (ctxT_ok (ctxOf_cons (ctxOf_cons (q134) (by kernel_rfl) ok102) (by kernel_rfl) ok103)) hmix (hl:=hints) (d:=4) func52 rfl (by decide) (e52 lpK jnK ref02_Gcd ref02_Size)
noncomputable def ref10_RightLoss_b (_:Lp) (_:Jn) (ref02_Valid:t52) (x0:Int×Int):Option Bool :=
 obind (ref02_Valid x0) fun (t:Bool) =>
 let v4:Bool:=!t||t;
 let v5:Bool:=bif t then decide (x0.1≥x0.2) else false;
 let v6:Bool:=!v5||v5;bif v4 then bif v4 then bif v4&&v4 then bif v4 then bif v6 then bif v6 then bif v6 then some (bif v5 then decide (x0.1≤100) else false) else none
  else none else none else none else none else none else none
noncomputable def ref10_RightLoss (x0:Int×Int):Option Bool:=ref10_RightLoss_b lpK jnK ref02_Valid x0
abbrev t148:=(Int×Int)→Option (Bool)
noncomputable def c148:Ctr:=⟨[T49],[],[],.one .bool,fun x _ _=>ref10_RightLoss x.1⟩
theorem e148 (lp:Lp) (jn:Jn) (ref02_Valid:t52):∀(x:TsS c148.as) (F:TsF c148.fs) (y:TsS c148.cs),ref10_RightLoss_b lp jn ref02_Valid x.1=runC lp jn (cx [(52,k52 ref02_Valid)] [(134,r134)]) hints 4 148 f148 c148 x F y:=fun x F y=>by kernel_rfl
theorem ok148:c148.ok prog 148:=Ctr.of_den (ctxT_ok (ctxOf_cons (q134) (by kernel_rfl) ok52)) hmix (hl:=hints) (d:=4) func148 rfl (by decide) (e148 lpK jnK ref02_Valid)
noncomputable def ref10_hold_b (_:Lp) (_:Jn) (ref10_FindBlock:t49) (ref02_Of:t73) (ref10_RightLoss:t148) (x0:(List (ByteArray×Int))×List (ByteArray×(List (ByteArray×Int×Int×Int))×Bool)) (x1:ByteArray×Int×Int×Int) (x2:Bool):Option Bool :=
 
 let v5:Bool:=!x2||x2;
 let v6:Bool:=decide (x1.2.1=0);
 let v7:Bool:=decide (x1.2.1=1);
 let v8:Bool:=decide (x1.2.1=2);
 let v9:Bool:=!v7;
 let v10:Bool:=!v8;
 let v11:Bool:=bif v8 then true else v6;
 let v12:Bool:=!v9||v9;
 let v13:Bool:=!v10||v10;
 let v14:Bool:=!v11;
 let v15:Bool:=!v14||v14;bif v5 then obind (bif x2 then ref02_Of 1 else some (0,0)) fun (t:Int×Int) =>
 let v17:Bool:=bif x2 then !(decide (x1.2.2.1=t.1)&&(decide (x1.2.2.2=t.2)&&true)) else false;
 let v18:Bool:=!v17;
 let v19:Bool:=!v18||v18;bif v5&&v5 then bif v5 then bif v19 then bif v19 then obind (bif v18 then ref10_RightLoss x1.2.2 else some false) fun (t:Bool)=>bif v19 then bif
  v17||v18 then bif bif v17 then true else !t then some false else bif List.beq (ByteArray.toList x1.1) (ByteArray.toList { data:=#[] }) then some v6 else obind (ref10_FindBlock x0
  x1.1) fun (t:Int)=>bif decide (t<0) then some false else bif x2 then bif v12 then bif v12 then bif v7||v9 then some (bif v7 then true else decide (x1.2.1=(-1 :
  Int))) else none else none else none else bif v13 then bif v13 then bif v8||v10 then bif v15 then bif v15 then bif v11||v14 then some (bif v11 then true else decide (x1.2.1 =
  (-2))) else none else none else none else none else none else none else none else none else none else none else none else none else none
noncomputable def ref10_hold (x0:(List (ByteArray×Int))×List (ByteArray×(List (ByteArray×Int×Int×Int))×Bool)) (x1:ByteArray×Int×Int×Int) (x2:Bool):Option Bool:=ref10_hold_b lpK jnK ref10_FindBlock ref02_Of ref10_RightLoss x0 x1 x2
abbrev t100:=((List (ByteArray×Int))×List (ByteArray×(List (ByteArray×Int×Int×Int))×Bool))→(ByteArray×Int×Int×Int)→(Bool)→Option (Bool)
noncomputable def k100 (ref10_hold:t100):Ctr:=⟨[T25,T134,.bool],[],[],.one .bool,fun x _ _=>ref10_hold x.1 x.2.1 x.2.2.1⟩
noncomputable def c100:Ctr:=k100 ref10_hold
theorem e100 (lp:Lp) (jn:Jn) (ref10_FindBlock:t49) (ref02_Of:t73) (ref10_RightLoss:t148):∀(x:TsS c100.as) (F:TsF c100.fs) (y:TsS c100.cs),ref10_hold_b lp jn ref10_FindBlock ref02_Of ref10_RightLoss x.1 x.2.1 x.2.2.1=runC lp jn (cx [(148,⟨[T49],[],[],.one .bool,fun x _ _=>ref10_RightLoss x.1⟩),(73,k73 ref02_Of),(49,k49 ref10_FindBlock)] [(134,r134)]) hints 4 100 f100 c100 x F y:=fun x F y=>by kernel_rfl
theorem ok100:c100.ok prog 100:=Ctr.of_den (ctxT_ok (ctxOf_cons (ctxOf_cons (ctxOf_cons (q134) (by kernel_rfl) ok49) (by kernel_rfl) ok73) (by kernel_rfl) ok148)) hmix (hl:=hints) (d:=4) func100 rfl (by decide) (e100 lpK jnK ref10_FindBlock ref02_Of ref10_RightLoss)
noncomputable def ref10_rope_b (lp:Lp) (_:Jn) (ref10_hold:t100) (x0:(List (ByteArray×Int))×List (ByteArray×(List (ByteArray×Int×Int×Int))×Bool)) (x1:ByteArray×(List (ByteArray×Int×Int×Int))×Bool):Option Bool :=
 
 let v4:Bool:=!x1.2.2;
 let v5:Bool:=!v4;
 let v6:Bool:=!v5;
 let v7:Int:=IntKind.wrap .i64 ((↑(List.length x1.2.1):Int) - 1);
 let v8:Bool:=v6||v5;
 let v9:Bool:=decide ((↑(List.length x1.2.1):Int)<2);
 let v10:Bool:=!v9;
 let v11:Bool:=!v10||v10;bif v11 then bif v11 then bif v11 then bif v9||v10 then bif bif v9 then true else decide ((↑(List.length x1.2.1):Int)>10) then some false
  else lp (Int×PUnit) Bool (fun (again:Int×PUnit→Option Bool) (x:Int×PUnit) =>
 let v14:Bool:=decide (x.1=0);
 let v15:Bool:=!v14;
 let v16:Bool:=!v15||v15;bif decide (x.1<(↑(List.length x1.2.1):Int)) then bif inB x.1 (List.length x1.2.1) then bif v16 then bif v16 then bif v16 then bif v16 &&
  v16 then bif v14||v15 then obind (ref10_hold x0 (List.getD x1.2.1 (Int.toNat x.1) ({ data:={ toList:=[] } },0,0,0)) (bif v14 then true else decide
  (x.1=v7))) fun (t:Bool)=>bif !t then some false else again (IntKind.wrap .i64 (x.1+1),PUnit.unit) else none else none else none else none else none else none
  else bif v8 then bif v8 then bif v8 then bif v8 then bif v8&&(v8&&(v6||inB v7 (List.length x1.2.1))) then bif v8 then bif v8 then bif v8 then bif v4||v5 then some (bif v4
  then true else List.beq (ByteArray.toList (List.getD x1.2.1 (Int.toNat v7) ({ data:={ toList:=[] } },0,0,0)).1) (ByteArray.toList { data:=#[] }))
  else none else none else none else none else none else none else none else none else none) (0,PUnit.unit) else none else none else none else none
noncomputable def ref10_rope (x0:(List (ByteArray×Int))×List (ByteArray×(List (ByteArray×Int×Int×Int))×Bool)) (x1:ByteArray×(List (ByteArray×Int×Int×Int))×Bool):Option Bool:=ref10_rope_b lpK jnK ref10_hold x0 x1
abbrev t50:=((List (ByteArray×Int))×List (ByteArray×(List (ByteArray×Int×Int×Int))×Bool))→(ByteArray×(List (ByteArray×Int×Int×Int))×Bool)→Option (Bool)
noncomputable def c50:Ctr:=⟨[T25,T75],[],[],.one .bool,fun x _ _=>ref10_rope x.1 x.2.1⟩
theorem e50 (lp:Lp) (jn:Jn) (ref10_hold:t100):∀(x:TsS c50.as) (F:TsF c50.fs) (y:TsS c50.cs),ref10_rope_b lp jn ref10_hold x.1 x.2.1=runC lp jn (cx [(100,k100 ref10_hold)] [(134,r134)]) hints 4 50 f50 c50 x F y:=fun x F y=>by kernel_rfl
theorem ok50:c50.ok prog 50:=Ctr.of_den (ctxT_ok (ctxOf_cons (q134) (by kernel_rfl) ok100)) hmix (hl:=hints) (d:=4) func50 rfl (by decide) (e50 lpK jnK ref10_hold)
noncomputable def ref10_Valid_b (lp:Lp) (_:Jn) (ref10_FindRope:t22) (ref01_IsName:t48) (ref10_FindBlock:t49) (ref10_rope:t50) (x0:(List (ByteArray×Int))×List (ByteArray×(List (ByteArray×Int×Int×Int))×Bool)):Option Bool :=
 
 let v3:Bool:=decide ((↑(List.length x0.1):Int)<1);
 let v4:Bool:=!v3;
 let v5:Bool:=bif v3 then true else decide ((↑(List.length x0.1):Int)>6);
 let v6:Bool:=!v4||v4;
 let v7:Bool:=!v5;
 let v8:Bool:=bif v5 then true else decide ((↑(List.length x0.2):Int)<1);
 let v9:Bool:=!v8;
 let v10:Bool:=!v7||v7;
 let v11:Bool:=!v9||v9;bif v6 then bif v6 then bif v6 then bif v3||v4 then bif v10 then bif v10 then bif v10 then bif v5||v7 then bif v11 then bif v11 then bif v11 then bif v8
  || v9 then bif bif v8 then true else decide ((↑(List.length x0.2):Int)>6) then some false else lp (Int×PUnit) Bool (fun (again:Int×PUnit→Option Bool) (x:Int ×
  PUnit)=>bif decide (x.1<(↑(List.length x0.1):Int)) then bif inB x.1 (List.length x0.1) then obind (ref01_IsName (List.getD x0.1 (Int.toNat x.1) ({ data:={ toList :=
  [] } },0)).1) fun (t:Bool) =>
 let v15:Bool:=!t;
 let v16:Bool:=!v15;
 let v17:Bool:=!v16||v16;
 let v18:Bool:=v17&&v17;bif v17 then bif v18 then obind (bif v16 then ref10_FindBlock x0 (List.getD x0.1 (Int.toNat x.1) ({ data:={ toList:=[] } },0)).1 else some
  0) fun (t:Int) =>
 let v20:Bool:=bif v15 then true else !decide (t=x.1);
 let v21:Bool:=!v20;
 let v22:Bool:=!v21||v21;
 let v23:Bool:=bif v20 then true else decide ((List.getD x0.1 (Int.toNat x.1) ({ data:={ toList:=[] } },0)).2<0);
 let v24:Bool:=!v23;
 let v25:Bool:=!v24||v24;bif v18 then bif v15||v16 then bif v22 then bif v22 then bif v20||v21 then bif v25 then bif v25 then bif v23||v24 then bif bif v23 then true else
  decide ((List.getD x0.1 (Int.toNat x.1) ({ data:={ toList:=[] } },0)).2>16777216) then some false else again (IntKind.wrap .i64 (x.1+1),
  PUnit.unit) else none else none else none else none else none else none else none else none else none else none else none else lp (Int×Int×PUnit) Bool (fun (again:Int×Int ×
  PUnit→Option Bool) (x:Int×Int×PUnit) =>
 let v16:Int×PUnit:=(IntKind.wrap .i64 (x.2.1+1),PUnit.unit);
 let v17:ByteArray×List (ByteArray×Int×Int×Int)×Bool:=List.getD x0.2 (Int.toNat x.2.1) ({ data:={ toList:=[] } },[],false);bif decide (x.2.1<(↑(List.length
  x0.2):Int)) then bif inB x.2.1 (List.length x0.2) then obind (ref01_IsName v17.1) fun (t:Bool) =>
 let v19:Bool:=!t;
 let v20:Bool:=!v19;
 let v21:Bool:=!v20||v20;
 let v22:Bool:=v21&&v21;bif v21 then bif v22 then obind (bif v20 then ref10_FindRope x0 v17.1 else some 0) fun (t:Int) =>
 let v24:Bool:=bif v19 then true else !decide (t=x.2.1);
 let v25:Bool:=!v24;
 let v26:Bool:=!v25||v25;bif v22 then bif v19||v20 then bif v26 then bif v26&&v26 then obind (bif v25 then ref10_FindBlock x0 v17.1 else some 0) fun (t:Int) =>
 let v28:Bool:=bif v24 then true else decide (t≥0);
 let v29:Bool:=!v28;
 let v30:Bool:=!v29||v29;bif v26 then bif v24||v25 then bif v30&&v30 then obind (bif v29 then ref10_rope x0 v17 else some false) fun (t:Bool)=>bif v30 then bif v28||v29
  then bif bif v28 then true else !t then some false else bif v17.2.2 then again (IntKind.wrap .i64 (x.1+1),v16) else again (x.1,v16) else none else none else
  none else none else none else none else none else none else none else none else none else none else some (decide (x.1≤1))) (0,0,PUnit.unit)) (0,
  PUnit.unit) else none else none else none else none else none else none else none else none else none else none else none else none
noncomputable def ref10_Valid (x0:(List (ByteArray×Int))×List (ByteArray×(List (ByteArray×Int×Int×Int))×Bool)):Option Bool:=ref10_Valid_b lpK jnK ref10_FindRope ref01_IsName ref10_FindBlock ref10_rope x0
abbrev t13:=((List (ByteArray×Int))×List (ByteArray×(List (ByteArray×Int×Int×Int))×Bool))→Option (Bool)
noncomputable def k13 (ref10_Valid:t13):Ctr:=⟨[T25],[],[],.one .bool,fun x _ _=>ref10_Valid x.1⟩
noncomputable def c13:Ctr:=k13 ref10_Valid
theorem e13 (lp:Lp) (jn:Jn) (ref10_FindRope:t22) (ref01_IsName:t48) (ref10_FindBlock:t49) (ref10_rope:t50):∀(x:TsS c13.as) (F:TsF c13.fs) (y:TsS c13.cs),ref10_Valid_b lp jn ref10_FindRope ref01_IsName ref10_FindBlock ref10_rope x.1=runC lp jn (cx [(50,⟨[T25,T75],[],[],.one .bool,fun x _ _=>ref10_rope x.1 x.2.1⟩),(49,k49 ref10_FindBlock),(48,⟨[.str],[],[],.one .bool,fun x _ _=>ref01_IsName x.1⟩),(22,k22 ref10_FindRope)] [(134,r134)]) hints 4 13 f13 c13 x F y:=fun x F y=>by kernel_rfl
theorem ok13:c13.ok prog 13:=Ctr.of_den (ctxT_ok (ctxOf_cons (ctxOf_cons (ctxOf_cons (ctxOf_cons (q134) (by kernel_rfl) ok22) (by kernel_rfl) ok48) (by kernel_rfl) ok49) (by kernel_rfl) ok50)) hmix (hl:=hints) (d:=4) func13 rfl (by decide) (e13 lpK jnK ref10_FindRope ref01_IsName ref10_FindBlock ref10_rope)
noncomputable def ref05_Same_b (lp:Lp) (_:Jn) (x0:(List Int)×List ((List Int)×Int×Int)) (x1:(List Int)×List ((List Int)×Int×Int)):Option Bool :=
 
 let v4:Bool:=!decide ((↑(List.length x0.1):Int)=(↑(List.length x1.1):Int));
 let v5:Bool:=!v4;
 let v6:Bool:=!v5||v5;bif v6 then bif v6 then bif v6 then bif v6 then bif v6&&v6 then bif v4||v5 then bif bif v4 then true else !decide ((↑(List.length x0.2):Int) =
  (↑(List.length x1.2):Int)) then some false else lp (Int×PUnit) Bool (fun (again:Int×PUnit→Option Bool) (x:Int×PUnit)=>bif decide (x.1<(↑(List.length x0.1) :
  Int)) then bif inB x.1 (List.length x0.1) then bif inB x.1 (List.length x1.1) then bif !decide (List.getD x0.1 (Int.toNat x.1) 0=List.getD x1.1 (Int.toNat x.1)
  0) then some false else again (IntKind.wrap .i64 (x.1+1),PUnit.unit) else none else none else lp (Int×PUnit) Bool (fun (again:Int×PUnit→Option Bool)
  (x:Int×PUnit) =>
 let v11:Bool:=!decide ((List.getD x0.2 (Int.toNat x.1) ([],0,0)).2.1=(List.getD x1.2 (Int.toNat x.1) ([],0,0)).2.1);
 let v12:Bool:=!v11;
 let v13:Bool:=bif v11 then true else !decide ((List.getD x0.2 (Int.toNat x.1) ([],0,0)).2.2=(List.getD x1.2 (Int.toNat x.1) ([],0,(0 :
  Int))).2.2);
 let v14:Bool:=!v12||v12;
 let v15:Bool:=!v13;
 let v16:Bool:=!v15||v15;bif decide (x.1<(↑(List.length x0.2):Int)) then bif inB x.1 (List.length x0.2) then bif inB x.1 (List.length x1.2) then bif v14 then bif v14
  then bif v14&&v14 then bif v11||v12 then bif v16 then bif v16 then bif v16 then bif v16 then bif v16&&v16 then bif v13||v15 then bif bif v13 then true else !decide
  ((↑(List.length (List.getD x0.2 (Int.toNat x.1) ([],0,0)).1):Int)=(↑(List.length (List.getD x1.2 (Int.toNat x.1) ([],0,0)).1):Int))
  then some false else lp (Int×PUnit) Bool (fun (again_1:Int×PUnit→Option Bool) (x_1:Int×PUnit)=>bif decide (x_1.1<(↑(List.length (List.getD x0.2 (Int.toNat x.1)
  ([],0,0)).1):Int)) then bif inB x_1.1 (List.length (List.getD x0.2 (Int.toNat x.1) ([],0,0)).1) then bif inB x_1.1 (List.length
  (List.getD x1.2 (Int.toNat x.1) ([],0,0)).1) then bif !decide (List.getD (List.getD x0.2 (Int.toNat x.1) ([],0,0)).1 (Int.toNat x_1.1)
  0=List.getD (List.getD x1.2 (Int.toNat x.1) ([],0,0)).1 (Int.toNat x_1.1) 0) then some false else again_1 (IntKind.wrap .i64 (x_1.1
  + 1),PUnit.unit) else none else none else again (IntKind.wrap .i64 (x.1+1),PUnit.unit)) (0,PUnit.unit) else none else none else none else none else
  none else none else none else none else none else none else none else none else some true) (0,PUnit.unit)) (0,PUnit.unit) else none else none else none else none else
  none else none
noncomputable def ref05_Same (x0:(List Int)×List ((List Int)×Int×Int)) (x1:(List Int)×List ((List Int)×Int×Int)):Option Bool:=ref05_Same_b lpK jnK x0 x1
abbrev t14:=((List Int)×List ((List Int)×Int×Int))→((List Int)×List ((List Int)×Int×Int))→Option (Bool)
noncomputable def c14:Ctr:=⟨[T32,T32],[],[],.one .bool,fun x _ _=>ref05_Same x.1 x.2.1⟩
theorem e14 (lp:Lp) (jn:Jn):∀(x:TsS c14.as) (F:TsF c14.fs) (y:TsS c14.cs),ref05_Same_b lp jn x.1 x.2.1=runC lp jn (cx [] [(134,r134)]) hints 4 14 f14 c14 x F y:=fun x F y=>by kernel_rfl
theorem ok14:c14.ok prog 14:=Ctr.of_den (ctxT_ok (q134)) hmix (hl:=hints) (d:=4) func14 rfl (by decide) (e14 lpK jnK)
noncomputable def ref10_Pull_b (lp:Lp) (_:Jn) (x0:ByteArray×(List (ByteArray×Int×Int×Int))×Bool) (x1:ByteArray):Option Int :=
 lp (Int×Int×PUnit) Int (fun (again:Int×Int×PUnit→Option Int) (x:Int×Int×PUnit) =>
 let v6:Int×PUnit:=(IntKind.wrap .i64 (x.2.1+1),PUnit.unit);
 let v7:Bool:=inB x.2.1 (List.length x0.2.1);
 let v8:ByteArray×Int×Int×Int:=List.getD x0.2.1 (Int.toNat x.2.1) ({ data:={ toList:=[] } },0,0,0);bif decide (x.2.1<(↑(List.length
  x0.2.1):Int)) then bif v7 then bif List.beq (ByteArray.toList v8.1) (ByteArray.toList x1) then bif v7 then again (IntKind.wrap .i64 (x.1+v8.2.1),v6) else none
  else again (x.1,v6) else none else some x.1) (0,0,PUnit.unit)
noncomputable def ref10_Pull (x0:ByteArray×(List (ByteArray×Int×Int×Int))×Bool) (x1:ByteArray):Option Int:=ref10_Pull_b lpK jnK x0 x1
abbrev t101:=(ByteArray×(List (ByteArray×Int×Int×Int))×Bool)→(ByteArray)→Option (Int)
noncomputable def c101:Ctr:=⟨[T75,.str],[],[],.one i64,fun x _ _=>ref10_Pull x.1 x.2.1⟩
theorem e101 (lp:Lp) (jn:Jn):∀(x:TsS c101.as) (F:TsF c101.fs) (y:TsS c101.cs),ref10_Pull_b lp jn x.1 x.2.1=runC lp jn (cx [] [(134,r134)]) hints 4 101 f101 c101 x F y:=fun x F y=>by kernel_rfl
theorem ok101:c101.ok prog 101:=Ctr.of_den (ctxT_ok (q134)) hmix (hl:=hints) (d:=4) func101 rfl (by decide) (e101 lpK jnK)
noncomputable def ref10_Matrix_b (lp:Lp) (_:Jn) (ref10_Pull:t101) (x0:(List (ByteArray×Int))×List (ByteArray×(List (ByteArray×Int×Int×Int))×Bool)):Option (List (List Int)) :=
 lp ((List Nat×List (Option (List Int)))×Int×PUnit) (List (List Int)) (fun (again:(List Nat×List (Option (List Int)))×Int×PUnit→Option (List (List Int))) (x:(List Nat ×
  List (Option (List Int)))×Int×PUnit)=>bif decide (x.2.1<(↑(List.length x0.1):Int)) then lp (List Int×Int×PUnit) (List (List Int)) (fun (again_1:List Int×Int ×
  PUnit→Option (List (List Int))) (x_1:List Int×Int×PUnit)=>bif decide (x_1.2.1<(↑(List.length x0.2):Int)) then bif inB x_1.2.1 (List.length x0.2) then bif inB
  x.2.1 (List.length x0.1) then obind (ref10_Pull (List.getD x0.2 (Int.toNat x_1.2.1) ({ data:={ toList:=[] } },[],false)) (List.getD x0.1 (Int.toNat x.2.1) ({
  data:={ toList:=[] } },0)).1) fun (t:Int)=>bif fitB (List.length x_1.1+1) 8 then again_1 (x_1.1++[t],IntKind.wrap .i64 (x_1.2.1 +
  1),PUnit.unit) else none else none else none else bif fitB (List.length x.1.1+1) 24 then again ((x.1.1++[List.length x.1.2+0],
  x.1.2++[some x_1.1]),IntKind.wrap .i64 (x.2.1+1),PUnit.unit) else none) ([],0,PUnit.unit) else bif List.all x.1.1 fun (x_1:Nat)=>liveB
  x.1.2 x_1 then some (List.map (fun (x_1:Nat)=>rowD x.1.2 x_1) x.1.1) else none) (([],[]),0,PUnit.unit)
noncomputable def ref10_Matrix (x0:(List (ByteArray×Int))×List (ByteArray×(List (ByteArray×Int×Int×Int))×Bool)):Option (List (List Int)):=ref10_Matrix_b lpK jnK ref10_Pull x0
abbrev t51:=((List (ByteArray×Int))×List (ByteArray×(List (ByteArray×Int×Int×Int))×Bool))→Option (List (List Int))
noncomputable def c51:Ctr:=⟨[T25],[],[],.one (.sl (.sl i64)),fun x _ _=>ref10_Matrix x.1⟩
theorem e51 (lp:Lp) (jn:Jn) (ref10_Pull:t101):∀(x:TsS c51.as) (F:TsF c51.fs) (y:TsS c51.cs),ref10_Matrix_b lp jn ref10_Pull x.1=runC lp jn (cx [(101,⟨[T75,.str],[],[],.one i64,fun x _ _=>ref10_Pull x.1 x.2.1⟩)] [(134,r134)]) hints 4 51 f51 c51 x F y:=fun x F y=>by kernel_rfl
theorem ok51:c51.ok prog 51:=Ctr.of_den (ctxT_ok (ctxOf_cons (q134) (by kernel_rfl) ok101)) hmix (hl:=hints) (d:=4) func51 rfl (by decide) (e51 lpK jnK ref10_Pull)
noncomputable def ref15_Program_b (lp:Lp) (_:Jn) (ref10_Matrix:t51) (x0:(List (ByteArray×Int))×List (ByteArray×(List (ByteArray×Int×Int×Int))×Bool)) (x1:List Int):Option ((List Int)×List ((List Int)×Int×Int)) :=
 obind (ref10_Matrix x0) fun (t:List (List Int))=>lp (Int×List Int×List (List Int×Int×Int)×PUnit) (List Int×List (List Int×Int×Int)) (fun (again:Int×List Int×List
  (List Int×Int×Int)×PUnit→Option (List Int×List (List Int×Int×Int))) (x:Int×List Int×List (List Int×Int×Int)×PUnit)=>bif decide (x.1<(↑(List.length
  x0.1):Int)) then bif inB x.1 (List.length t) then bif inB x.1 (List.length x0.1) then bif fitB (List.length x.2.2.1+1) 40 then again (IntKind.wrap
  IntKind.i64 (x.1+1),x.2.1,x.2.2.1++[(List.getD t (Int.toNat x.1) [],3,(List.getD x0.1 (Int.toNat x.1) ({ data:={ toList:=[] } },(0 :
  Int))).2)],PUnit.unit) else none else none else none else some (x.2.1,x.2.2.1)) (0,x1,[],PUnit.unit)
noncomputable def ref15_Program (x0:(List (ByteArray×Int))×List (ByteArray×(List (ByteArray×Int×Int×Int))×Bool)) (x1:List Int):Option ((List Int)×List ((List Int)×Int×Int)):=ref15_Program_b lpK jnK ref10_Matrix x0 x1
abbrev t15:=((List (ByteArray×Int))×List (ByteArray×(List (ByteArray×Int×Int×Int))×Bool))→(List Int)→Option ((List Int)×List ((List Int)×Int×Int))
noncomputable def k15 (ref15_Program:t15):Ctr:=⟨[T25,(.sl i64)],[],[],.one T32,fun x _ _=>ref15_Program x.1 x.2.1⟩
noncomputable def c15:Ctr:=k15 ref15_Program
theorem e15 (lp:Lp) (jn:Jn) (ref10_Matrix:t51):∀(x:TsS c15.as) (F:TsF c15.fs) (y:TsS c15.cs),ref15_Program_b lp jn ref10_Matrix x.1 x.2.1=runC lp jn (cx [(51,⟨[T25],[],[],.one (.sl (.sl i64)),fun x _ _=>ref10_Matrix x.1⟩)] [(134,r134)]) hints 4 15 f15 c15 x F y:=fun x F y=>by kernel_rfl
theorem ok15:c15.ok prog 15:=Ctr.of_den (ctxT_ok (ctxOf_cons (q134) (by kernel_rfl) ok51)) hmix (hl:=hints) (d:=4) func15 rfl (by decide) (e15 lpK jnK ref10_Matrix)
noncomputable def ref15_Ones_b (lp:Lp) (_:Jn) (x0:(List (ByteArray×Int))×List (ByteArray×(List (ByteArray×Int×Int×Int))×Bool)):Option (List Int) :=
 lp (List Int×Int×PUnit) (List Int) (fun (again:List Int×Int×PUnit→Option (List Int)) (x:List Int×Int×PUnit)=>bif decide (x.2.1<(↑(List.length x0.2):Int)) then
  bif fitB (List.length x.1+1) 8 then again (x.1++[1],IntKind.wrap .i64 (x.2.1+1),PUnit.unit) else none else some x.1) ([],(0 :
  Int),PUnit.unit)
noncomputable def ref15_Ones (x0:(List (ByteArray×Int))×List (ByteArray×(List (ByteArray×Int×Int×Int))×Bool)):Option (List Int):=ref15_Ones_b lpK jnK x0
abbrev t16:=((List (ByteArray×Int))×List (ByteArray×(List (ByteArray×Int×Int×Int))×Bool))→Option (List Int)
noncomputable def k16 (ref15_Ones:t16):Ctr:=⟨[T25],[],[],.one (.sl i64),fun x _ _=>ref15_Ones x.1⟩
noncomputable def c16:Ctr:=k16 ref15_Ones
theorem e16 (lp:Lp) (jn:Jn):∀(x:TsS c16.as) (F:TsF c16.fs) (y:TsS c16.cs),ref15_Ones_b lp jn x.1=runC lp jn (cx [] [(134,r134)]) hints 4 16 f16 c16 x F y:=fun x F y=>by kernel_rfl
theorem ok16:c16.ok prog 16:=Ctr.of_den (ctxT_ok (q134)) hmix (hl:=hints) (d:=4) func16 rfl (by decide) (e16 lpK jnK)
noncomputable def ref02_All_b (lp:Lp) (_:Jn) (ref02_Valid:t52) (x0:List (Int×Int)):Option Bool :=
 lp (Int×PUnit) Bool (fun (again:Int×PUnit→Option Bool) (x:Int×PUnit)=>bif decide (x.1<(↑(List.length x0):Int)) then bif inB x.1 (List.length x0) then obind
  (ref02_Valid (List.getD x0 (Int.toNat x.1) (0,0))) fun (t:Bool)=>bif !t then some false else again (IntKind.wrap .i64 (x.1+1),PUnit.unit) else
  none else some true) (0,PUnit.unit)
noncomputable def ref02_All (x0:List (Int×Int)):Option Bool:=ref02_All_b lpK jnK ref02_Valid x0
abbrev t17:=(List (Int×Int))→Option (Bool)
noncomputable def c17:Ctr:=⟨[(.sl T49)],[],[],.one .bool,fun x _ _=>ref02_All x.1⟩
theorem e17 (lp:Lp) (jn:Jn) (ref02_Valid:t52):∀(x:TsS c17.as) (F:TsF c17.fs) (y:TsS c17.cs),ref02_All_b lp jn ref02_Valid x.1=runC lp jn (cx [(52,k52 ref02_Valid)] [(134,r134)]) hints 4 17 f17 c17 x F y:=fun x F y=>by kernel_rfl
theorem ok17:c17.ok prog 17:=Ctr.of_den (ctxT_ok (ctxOf_cons (q134) (by kernel_rfl) ok52)) hmix (hl:=hints) (d:=4) func17 rfl (by decide) (e17 lpK jnK ref02_Valid)
noncomputable def ref02_Div_b (lp:Lp) (_:Jn) (ref02_Less:t150) (ref02_Minus:t151) (x0:Int×Int) (x1:Int×Int):Option ((Int×Int)×(Int×Int)×Unit) :=
 
 let v4:Bool:=nzB x1.2;
 let v5:Int:=2 ^ 63;
 let v6:Int:=2 ^ 1;
 let v7:Bool:=decide (x0.1=0);
 let v8:Bool:=decide ((0:Int)≤63);
 let v9:Bool:=decide ((0:Int)≤1);
 let v10:Bool:=!v7||v7;bif v10 then bif v10 then bif v10 then bif bif v7 then decide (x1.1=0) else false then bif v4 then bif v4 then some ((0,IntKind.wrap
  IntKind.u64 (Int.tdiv x0.2 x1.2)),(0,Int.tmod x0.2 x1.2),PUnit.unit) else none else none else lp (Int×(Int×Int)×(Int×Int)×(Int×Int)×PUnit) ((Int×Int)
  × (Int×Int)×PUnit) (fun (again:Int×(Int×Int)×(Int×Int)×(Int×Int)×PUnit→Option ((Int×Int)×(Int×Int)×PUnit)) (x:Int×(Int×Int)×(Int×Int)×(Int ×
  Int)×PUnit) =>
 let v13:Int:=IntKind.wrap .i64 (x.1+1);
 let v14:Int:=IntKind.wrap .u64 (x.2.2.1.2*v6);
 let v15:Int:=IntKind.wrap .u64 (IntKind.wrap .u64 (x.2.2.1.1*v6)+Int.fdiv x.2.2.1.2 v5);
 let v16:Bool:=decide (Int.fdiv x.2.2.2.1.1 v5>0);
 let v17:Bool:=!v16;
 let v18:Int×Int:=(IntKind.wrap .u64 (IntKind.wrap .u64 (x.2.1.1*v6)+Int.fdiv x.2.1.2 v5),IntKind.wrap .u64 (x.2.1.2*v6));
 let v19:Int×Int:=(IntKind.wrap .u64 (IntKind.wrap .u64 (x.2.2.2.1.1*v6)+Int.fdiv x.2.2.2.1.2 v5),IntKind.wrap .u64 (IntKind.wrap
  IntKind.u64 (x.2.2.2.1.2*v6)+Int.fdiv x.2.1.1 v5));
 let v20:Bool:=!v17||v17;bif decide (x.1<128) then bif v8 then bif v9 then bif v8 then bif v9 then bif v8 then bif v9 then bif v8 then bif v9 then bif v9 then bif v8
  then bif v9 then bif v20&&v20 then obind (bif v17 then ref02_Less v19 x1 else some false) fun (t:Bool)=>bif v20 then bif v16||v17 then bif bif v16 then true else !t then obind
  (ref02_Minus v19 x1) fun (t:Int×Int)=>again (v13,v18,(v15,IntKind.wrap .u64 (v14+1)),t,PUnit.unit) else again (v13,v18,(v15,v14),v19,PUnit.unit) else
  none else none else none else none else none else none else none else none else none else none else none else none else none else none else some (x.2.2.1,x.2.2.2.1,
  PUnit.unit)) (0,x0,(0,0),(0,0),PUnit.unit) else none else none else none
noncomputable def ref02_Div (x0:Int×Int) (x1:Int×Int):Option ((Int×Int)×(Int×Int)×Unit):=ref02_Div_b lpK jnK ref02_Less ref02_Minus x0 x1
abbrev t164:=(Int×Int)→(Int×Int)→Option ((Int×Int)×(Int×Int)×Unit)
noncomputable def c164:Ctr:=⟨[T148,T148],[],[],.tup [T148,T148],fun x _ _=>ref02_Div x.1 x.2.1⟩
theorem e164 (lp:Lp) (jn:Jn) (ref02_Less:t150) (ref02_Minus:t151):∀(x:TsS c164.as) (F:TsF c164.fs) (y:TsS c164.cs),ref02_Div_b lp jn ref02_Less ref02_Minus x.1 x.2.1=runC lp jn (cx [(151,k151 ref02_Minus),(150,k150 ref02_Less)] [(134,r134)]) hints 4 164 f164 c164 x F y:=fun x F y=>by kernel_rfl
theorem ok164:c164.ok prog 164:=Ctr.of_den (ctxT_ok (ctxOf_cons (ctxOf_cons (q134) (by kernel_rfl) ok150) (by kernel_rfl) ok151)) hmix (hl:=hints) (d:=4) func164 rfl (by decide) (e164 lpK jnK ref02_Less ref02_Minus)
noncomputable def ref02_Made_b (_:Lp) (_:Jn) (ref02_Gcd:t102) (ref02_Div:t164) (x0:Int×Int) (x1:Bool) (x2:Int×Int):Option ((Int×Int)×Int×Unit) :=
 bif decide (x2.1=0)&&(decide (x2.2=0)&&true) then some ((0,0),16,PUnit.unit) else obind (ref02_Gcd x0 x2) fun (t:Int×Int)=>obind
  (ref02_Div x0 t) fun (t_1:(Int×Int)×(Int×Int)×PUnit) =>
 let v7:Int:=IntKind.wrap .i64 t_1.1.2;
 let v8:Bool:=decide (t_1.1.1>0);
 let v9:Bool:=!v8;
 let v10:Bool:=bif v8 then true else decide (t_1.1.2>1152921504606846976);
 let v11:Bool:=!v9||v9;
 let v12:Bool:=!v10;
 let v13:Bool:=!v12||v12;obind (ref02_Div x2 t) fun (t:(Int×Int)×(Int×Int)×PUnit) =>
 let v15:Int:=IntKind.wrap .i64 t.1.2;
 let v16:Bool:=bif v10 then true else decide (t.1.1>0);
 let v17:Bool:=!v16;
 let v18:Bool:=!v17||v17;bif v11 then bif v11 then bif v8||v9 then bif v13 then bif v13 then bif v10||v12 then bif v18 then bif v18 then bif v16||v17 then bif bif v16 then
  true else decide (t.1.2>1152921504606846976) then some ((0,0),5,PUnit.unit) else bif x1 then some ((IntKind.wrap .i64 (0 - v7),
  v15),0,PUnit.unit) else some ((v7,v15),0,PUnit.unit) else none else none else none else none else none else none else none else none else none
noncomputable def ref02_Made (x0:Int×Int) (x1:Bool) (x2:Int×Int):Option ((Int×Int)×Int×Unit):=ref02_Made_b lpK jnK ref02_Gcd ref02_Div x0 x1 x2
abbrev t121:=(Int×Int)→(Bool)→(Int×Int)→Option ((Int×Int)×Int×Unit)
noncomputable def k121 (ref02_Made:t121):Ctr:=⟨[T148,.bool,T148],[],[],.tup [T49,i64],fun x _ _=>ref02_Made x.1 x.2.1 x.2.2.1⟩
noncomputable def c121:Ctr:=k121 ref02_Made
theorem e121 (lp:Lp) (jn:Jn) (ref02_Gcd:t102) (ref02_Div:t164):∀(x:TsS c121.as) (F:TsF c121.fs) (y:TsS c121.cs),ref02_Made_b lp jn ref02_Gcd ref02_Div x.1 x.2.1 x.2.2.1=runC lp jn (cx [(164,⟨[T148,T148],[],[],.tup [T148,T148],fun x _ _=>ref02_Div x.1 x.2.1⟩),(102,k102 ref02_Gcd)] [(134,r134)]) hints 4 121 f121 c121 x F y:=fun x F y=>by kernel_rfl
theorem ok121:c121.ok prog 121:=Ctr.of_den (ctxT_ok (ctxOf_cons (ctxOf_cons (q134) (by kernel_rfl) ok102) (by kernel_rfl) ok164)) hmix (hl:=hints) (d:=4) func121 rfl (by decide) (e121 lpK jnK ref02_Gcd ref02_Div)
noncomputable def ref02_Mul_b (_:Lp) (_:Jn) (x0:Int) (x1:Int):Option (Int×Int) :=
 
 let v4:Int:=2 ^ 32;
 let v5:Int:=Int.fdiv x0 v4;
 let v6:Int:=Int.fdiv x1 v4;
 let v7:Bool:=decide ((0:Int)≤32);
 let v8:Int:=IntKind.wrap .u64 (↑(Nat.land (Int.toNat (x1 % Int.ofNat 18446744073709551616)) (Int.toNat (4294967295 % Int.ofNat 18446744073709551616))) :
  Int);
 let v9:Int:=IntKind.wrap .u64 (↑(Nat.land (Int.toNat (x0 % Int.ofNat 18446744073709551616)) (Int.toNat (4294967295 % Int.ofNat 18446744073709551616))) :
  Int);
 let v10:Int:=IntKind.wrap .u64 (v9*v8);
 let v11:Int:=IntKind.wrap .u64 (IntKind.wrap .u64 (v5*v8)+Int.fdiv v10 v4);
 let v12:Int:=IntKind.wrap .u64 (IntKind.wrap .u64 (v9*v6)+IntKind.wrap .u64 (↑(Nat.land (Int.toNat (v11 % Int.ofNat 18446744073709551616)) (Int.toNat
  (4294967295 % Int.ofNat 18446744073709551616))):Int));bif v7 then bif v7 then bif v7 then bif v7 then bif v7 then bif v7 then some (IntKind.wrap .u64
  (IntKind.wrap .u64 (IntKind.wrap .u64 (v5*v6)+Int.fdiv v11 v4)+Int.fdiv v12 v4),IntKind.wrap .u64 (IntKind.wrap .u64 (v12*v4)+IntKind.wrap
  IntKind.u64 (↑(Nat.land (Int.toNat (v10 % Int.ofNat 18446744073709551616)) (Int.toNat (4294967295 % Int.ofNat 18446744073709551616))):Int))) else none else
  none else none else none else none else none
noncomputable def ref02_Mul (x0:Int) (x1:Int):Option (Int×Int):=ref02_Mul_b lpK jnK x0 x1
abbrev t153:=(Int)→(Int)→Option (Int×Int)
noncomputable def k153 (ref02_Mul:t153):Ctr:=⟨[(.int .u64),(.int .u64)],[],[],.one T148,fun x _ _=>ref02_Mul x.1 x.2.1⟩
noncomputable def c153:Ctr:=k153 ref02_Mul
theorem e153 (lp:Lp) (jn:Jn):∀(x:TsS c153.as) (F:TsF c153.fs) (y:TsS c153.cs),ref02_Mul_b lp jn x.1 x.2.1=runC lp jn (cx [] [(134,r134)]) hints 4 153 f153 c153 x F y:=fun x F y=>by kernel_rfl
theorem ok153:c153.ok prog 153:=Ctr.of_den (ctxT_ok (q134)) hmix (hl:=hints) (d:=4) func153 rfl (by decide) (e153 lpK jnK)
noncomputable def ref02_Times_b (_:Lp) (_:Jn) (ref02_Size:t103) (ref02_Made:t121) (ref02_Mul:t153) (x0:Int×Int) (x1:Int×Int):Option ((Int×Int)×Int×Unit) :=
 obind (ref02_Size x0.1) fun (t:Int)=>obind (ref02_Size x1.1) fun (t_1:Int)=>obind (ref02_Mul t t_1) fun (t:Int×Int)=>obind (ref02_Size x0.2) fun (t_2:Int)=>obind
  (ref02_Size x1.2) fun (t_3:Int)=>obind (ref02_Mul t_2 t_3) fun (t_4:Int×Int)=>obind (ref02_Made t (!decide (decide (x0.1<0)=decide (x1.1<0))) t_4)
  fun (t:(Int×Int)×Int×PUnit)=>some (t.1,t.2.1,PUnit.unit)
noncomputable def ref02_Times (x0:Int×Int) (x1:Int×Int):Option ((Int×Int)×Int×Unit):=ref02_Times_b lpK jnK ref02_Size ref02_Made ref02_Mul x0 x1
abbrev t106:=(Int×Int)→(Int×Int)→Option ((Int×Int)×Int×Unit)
noncomputable def c106:Ctr:=⟨[T49,T49],[],[],.tup [T49,i64],fun x _ _=>ref02_Times x.1 x.2.1⟩
theorem e106 (lp:Lp) (jn:Jn) (ref02_Size:t103) (ref02_Made:t121) (ref02_Mul:t153):∀(x:TsS c106.as) (F:TsF c106.fs) (y:TsS c106.cs),ref02_Times_b lp jn ref02_Size ref02_Made ref02_Mul x.1 x.2.1=runC lp jn (cx [(153,k153 ref02_Mul),(121,k121 ref02_Made),(103,k103 ref02_Size)] [(134,r134)]) hints 4 106 f106 c106 x F y:=fun x F y=>by kernel_rfl
theorem ok106:c106.ok prog 106:=Ctr.of_den (ctxT_ok (ctxOf_cons (ctxOf_cons (ctxOf_cons (q134) (by kernel_rfl) ok103) (by kernel_rfl) ok121) (by kernel_rfl) ok153)) hmix (hl:=hints) (d:=4) func106 rfl (by decide) (e106 lpK jnK ref02_Size ref02_Made ref02_Mul)
noncomputable def ref02_Add_b (_:Lp) (_:Jn) (ref02_Less:t150) (ref02_Minus:t151) (ref02_Plus:t152) (ref02_Size:t103) (ref02_Made:t121) (ref02_Mul:t153) (x0:Int×Int) (x1:Int×Int):Option ((Int×Int)×Int×Unit) :=
 
 let v4:Bool:=decide (x0.1<0);obind (ref02_Size x0.1) fun (t:Int)=>obind (ref02_Size x1.2) fun (t_1:Int)=>obind (ref02_Mul t t_1) fun (t:Int×Int)=>obind
  (ref02_Size x1.1) fun (t_2:Int)=>obind (ref02_Size x0.2) fun (t_3:Int)=>obind (ref02_Mul t_2 t_3) fun (t_4:Int×Int)=>obind (ref02_Size x0.2) fun (t_5:Int)=>obind
  (ref02_Size x1.2) fun (t_6:Int)=>obind (ref02_Mul t_5 t_6) fun (t_7:Int×Int)=>bif decide (v4=decide (x1.1<0)) then obind (ref02_Plus t t_4) fun (t:Int×Int)
  =>obind (ref02_Made t v4 t_7) fun (t:(Int×Int)×Int×PUnit)=>some (t.1,t.2.1,PUnit.unit) else obind (ref02_Less t t_4) fun (t_8:Bool)=>bif t_8 then obind
  (ref02_Minus t_4 t) fun (t:Int×Int)=>obind (ref02_Made t (decide (x1.1<0)) t_7) fun (t:(Int×Int)×Int×PUnit)=>some (t.1,t.2.1,PUnit.unit) else obind
  (ref02_Minus t t_4) fun (t:Int×Int)=>obind (ref02_Made t v4 t_7) fun (t:(Int×Int)×Int×PUnit)=>some (t.1,t.2.1,PUnit.unit)
noncomputable def ref02_Add (x0:Int×Int) (x1:Int×Int):Option ((Int×Int)×Int×Unit):=ref02_Add_b lpK jnK ref02_Less ref02_Minus ref02_Plus ref02_Size ref02_Made ref02_Mul x0 x1
abbrev t107:=(Int×Int)→(Int×Int)→Option ((Int×Int)×Int×Unit)
noncomputable def c107:Ctr:=⟨[T49,T49],[],[],.tup [T49,i64],fun x _ _=>ref02_Add x.1 x.2.1⟩
theorem e107 (lp:Lp) (jn:Jn) (ref02_Less:t150) (ref02_Minus:t151) (ref02_Plus:t152) (ref02_Size:t103) (ref02_Made:t121) (ref02_Mul:t153):∀(x:TsS c107.as) (F:TsF c107.fs) (y:TsS c107.cs),ref02_Add_b lp jn ref02_Less ref02_Minus ref02_Plus ref02_Size ref02_Made ref02_Mul x.1 x.2.1=runC lp jn (cx [(153,k153 ref02_Mul),(121,k121 ref02_Made),(103,k103 ref02_Size),(152,k152 ref02_Plus),(151,k151 ref02_Minus),(150,k150 ref02_Less)] [(134,r134)]) hints 4 107 f107 c107 x F y:=fun x F y=>by kernel_rfl
theorem ok107:c107.ok prog 107:=Ctr.of_den (ctxT_ok (ctxOf_cons (ctxOf_cons (ctxOf_cons (ctxOf_cons (ctxOf_cons (ctxOf_cons (q134) (by kernel_rfl) ok150) (by kernel_rfl) ok151) (by kernel_rfl) ok152) (by kernel_rfl) ok103) (by kernel_rfl) ok121) (by kernel_rfl) ok153)) hmix (hl:=hints) (d:=4) func107 rfl (by decide) (e107 lpK jnK ref02_Less ref02_Minus ref02_Plus ref02_Size ref02_Made ref02_Mul)
noncomputable def ref05_Sum_b (lp:Lp) (_:Jn) (ref02_Of:t73) (ref02_Times:t106) (ref02_Add:t107) (x0:List Int) (x1:List (Int×Int)):Option ((Int×Int)×Int×Unit) :=
 obind (ref02_Of 0) fun (t:Int×Int)=>lp (Int×(Int×Int)×(Int×Int)×PUnit) ((Int×Int)×Int×PUnit) (fun (again:Int×(Int×Int)×(Int×Int)×PUnit→Option
  ((Int×Int)×Int×PUnit)) (x:Int×(Int×Int)×(Int×Int)×PUnit)=>bif decide (x.1<(↑(List.length x0):Int)) then bif inB x.1 (List.length x0) then obind (ref02_Of
  (List.getD x0 (Int.toNat x.1) 0)) fun (t:Int×Int)=>bif inB x.1 (List.length x1) then obind (ref02_Times t (List.getD x1 (Int.toNat x.1) (0,0))) fun
  (t:(Int×Int)×Int×PUnit)=>bif !decide (t.2.1=0) then some ((0,0),t.2.1,PUnit.unit) else obind (ref02_Add x.2.2.1 t.1) fun (t:(Int
  × Int)×Int×PUnit)=>bif !decide (t.2.1=0) then some ((0,0),t.2.1,PUnit.unit) else again (IntKind.wrap .i64 (x.1+1),
  x.2.1,t.1,PUnit.unit) else none else none else some (x.2.2.1,0,PUnit.unit)) (0,(0,0),t,PUnit.unit)
noncomputable def ref05_Sum (x0:List Int) (x1:List (Int×Int)):Option ((Int×Int)×Int×Unit):=ref05_Sum_b lpK jnK ref02_Of ref02_Times ref02_Add x0 x1
abbrev t54:=(List Int)→(List (Int×Int))→Option ((Int×Int)×Int×Unit)
noncomputable def k54 (ref05_Sum:t54):Ctr:=⟨[(.sl i64),(.sl T49)],[],[],.tup [T49,i64],fun x _ _=>ref05_Sum x.1 x.2.1⟩
noncomputable def c54:Ctr:=k54 ref05_Sum
theorem e54 (lp:Lp) (jn:Jn) (ref02_Of:t73) (ref02_Times:t106) (ref02_Add:t107):∀(x:TsS c54.as) (F:TsF c54.fs) (y:TsS c54.cs),ref05_Sum_b lp jn ref02_Of ref02_Times ref02_Add x.1 x.2.1=runC lp jn (cx [(107,⟨[T49,T49],[],[],.tup [T49,i64],fun x _ _=>ref02_Add x.1 x.2.1⟩),(106,⟨[T49,T49],[],[],.tup [T49,i64],fun x _ _=>ref02_Times x.1 x.2.1⟩),(73,k73 ref02_Of)] [(134,r134)]) hints 4 54 f54 c54 x F y:=fun x F y=>by kernel_rfl
theorem ok54:c54.ok prog 54:=Ctr.of_den (ctxT_ok (ctxOf_cons (ctxOf_cons (ctxOf_cons (q134) (by kernel_rfl) ok73) (by kernel_rfl) ok106) (by kernel_rfl) ok107)) hmix (hl:=hints) (d:=4) func54 rfl (by decide) (e54 lpK jnK ref02_Of ref02_Times ref02_Add)
noncomputable def ref05_Column_b (lp:Lp) (_:Jn) (x0:(List Int)×List ((List Int)×Int×Int)) (x1:Int):Option (List Int) :=
 lp (List Int×Int×PUnit) (List Int) (fun (again:List Int×Int×PUnit→Option (List Int)) (x:List Int×Int×PUnit)=>bif decide (x.2.1<(↑(List.length x0.2):Int)) then
  bif inB x.2.1 (List.length x0.2) then bif inB x1 (List.length (List.getD x0.2 (Int.toNat x.2.1) ([],0,0)).1) then bif fitB (List.length x.1+(1 :
  Nat)) 8 then again (x.1++[List.getD (List.getD x0.2 (Int.toNat x.2.1) ([],0,0)).1 (Int.toNat x1) 0],IntKind.wrap .i64 (x.2.1 +
  1),PUnit.unit) else none else none else none else some x.1) ([],0,PUnit.unit)
noncomputable def ref05_Column (x0:(List Int)×List ((List Int)×Int×Int)) (x1:Int):Option (List Int):=ref05_Column_b lpK jnK x0 x1
abbrev t104:=((List Int)×List ((List Int)×Int×Int))→(Int)→Option (List Int)
noncomputable def c104:Ctr:=⟨[T32,i64],[],[],.one (.sl i64),fun x _ _=>ref05_Column x.1 x.2.1⟩
theorem e104 (lp:Lp) (jn:Jn):∀(x:TsS c104.as) (F:TsF c104.fs) (y:TsS c104.cs),ref05_Column_b lp jn x.1 x.2.1=runC lp jn (cx [] [(134,r134)]) hints 4 104 f104 c104 x F y:=fun x F y=>by kernel_rfl
theorem ok104:c104.ok prog 104:=Ctr.of_den (ctxT_ok (q134)) hmix (hl:=hints) (d:=4) func104 rfl (by decide) (e104 lpK jnK)
noncomputable def ref02_Cmp_b (_:Lp) (_:Jn) (ref02_Less:t150) (ref02_Size:t103) (ref02_Mul:t153) (x0:Int×Int) (x1:Int×Int):Option Int :=
 
 let v4:Bool:=decide (x0.1<0);
 let v5:Bool:=decide (x0.1≥0);
 let v6:Bool:=!v4||v4;
 let v7:Bool:=!v5||v5;obind (ref02_Size x0.1) fun (t:Int)=>obind (ref02_Size x1.2) fun (t_1:Int)=>obind (ref02_Mul t t_1) fun (t:Int×Int)=>obind (ref02_Size
  x1.1) fun (t_2:Int)=>obind (ref02_Size x0.2) fun (t_3:Int)=>obind (ref02_Mul t_2 t_3) fun (t_4:Int×Int)=>bif v6 then bif v6 then bif v6 then bif bif v4 then decide
  (x1.1≥0) else false then some (-1) else bif v7 then bif v7 then bif v7 then bif bif v5 then decide (x1.1<0) else false then some 1 else bif decide
  (t.1=t_4.1)&&(decide (t.2=t_4.2)&&true) then some 0 else obind (ref02_Less t t_4) fun (t:Bool)=>bif decide (t=v5) then some (-1) else some 1
  else none else none else none else none else none else none
noncomputable def ref02_Cmp (x0:Int×Int) (x1:Int×Int):Option Int:=ref02_Cmp_b lpK jnK ref02_Less ref02_Size ref02_Mul x0 x1
abbrev t105:=(Int×Int)→(Int×Int)→Option (Int)
noncomputable def k105 (ref02_Cmp:t105):Ctr:=⟨[T49,T49],[],[],.one i64,fun x _ _=>ref02_Cmp x.1 x.2.1⟩
noncomputable def c105:Ctr:=k105 ref02_Cmp
theorem e105 (lp:Lp) (jn:Jn) (ref02_Less:t150) (ref02_Size:t103) (ref02_Mul:t153):∀(x:TsS c105.as) (F:TsF c105.fs) (y:TsS c105.cs),ref02_Cmp_b lp jn ref02_Less ref02_Size ref02_Mul x.1 x.2.1=runC lp jn (cx [(153,k153 ref02_Mul),(103,k103 ref02_Size),(150,k150 ref02_Less)] [(134,r134)]) hints 4 105 f105 c105 x F y:=fun x F y=>by kernel_rfl
theorem ok105:c105.ok prog 105:=Ctr.of_den (ctxT_ok (ctxOf_cons (ctxOf_cons (ctxOf_cons (q134) (by kernel_rfl) ok150) (by kernel_rfl) ok103) (by kernel_rfl) ok153)) hmix (hl:=hints) (d:=4) func105 rfl (by decide) (e105 lpK jnK ref02_Less ref02_Size ref02_Mul)
noncomputable def ref05_below_b (lp:Lp) (_:Jn) (ref02_Of:t73) (ref05_Sum:t54) (ref05_Column:t104) (ref02_Cmp:t105) (x0:(List Int)×List ((List Int)×Int×Int)) (x1:List (Int×Int)) (x2:List Int):Option (Bool×Int×Unit) :=
 lp (Bool×Int×PUnit) (Bool×Int×PUnit) (fun (again:Bool×Int×PUnit→Option (Bool×Int×PUnit)) (x:Bool×Int×PUnit) =>
 let v7:Bool:=!x.1;
 let v8:Bool:=v7||x.1;bif decide (x.2.1<(↑(List.length x2):Int)) then obind (ref05_Column x0 x.2.1) fun (t:List Int)=>obind (ref05_Sum t x1) fun (t:(Int×Int) ×
  Int×PUnit)=>bif !decide (t.2.1=0) then some (false,t.2.1,PUnit.unit) else bif v8&&(v8&&(v7||inB x.2.1 (List.length x2))) then bif v8 then bif v8 then
  obind (bif x.1 then ref02_Of (List.getD x2 (Int.toNat x.2.1) 0) else some (0,0)) fun (t_1:Int×Int)=>bif v8&&v8 then obind (bif x.1 then
  ref02_Cmp t.1 t_1 else some 0) fun (t:Int)=>bif v8 then bif v8 then again (bif x.1 then decide (t≤0) else false,IntKind.wrap .i64 (x.2.1+(1 :
  Int)),PUnit.unit) else none else none else none else none else none else none else some (x.1,0,PUnit.unit)) (true,0,PUnit.unit)
noncomputable def ref05_below (x0:(List Int)×List ((List Int)×Int×Int)) (x1:List (Int×Int)) (x2:List Int):Option (Bool×Int×Unit):=ref05_below_b lpK jnK ref02_Of ref05_Sum ref05_Column ref02_Cmp x0 x1 x2
abbrev t53:=((List Int)×List ((List Int)×Int×Int))→(List (Int×Int))→(List Int)→Option (Bool×Int×Unit)
noncomputable def k53 (ref05_below:t53):Ctr:=⟨[T32,(.sl T49),(.sl i64)],[],[],.tup [.bool,i64],fun x _ _=>ref05_below x.1 x.2.1 x.2.2.1⟩
noncomputable def c53:Ctr:=k53 ref05_below
theorem e53 (lp:Lp) (jn:Jn) (ref02_Of:t73) (ref05_Sum:t54) (ref05_Column:t104) (ref02_Cmp:t105):∀(x:TsS c53.as) (F:TsF c53.fs) (y:TsS c53.cs),ref05_below_b lp jn ref02_Of ref05_Sum ref05_Column ref02_Cmp x.1 x.2.1 x.2.2.1=runC lp jn (cx [(105,k105 ref02_Cmp),(104,⟨[T32,i64],[],[],.one (.sl i64),fun x _ _=>ref05_Column x.1 x.2.1⟩),(54,k54 ref05_Sum),(73,k73 ref02_Of)] [(134,r134)]) hints 4 53 f53 c53 x F y:=fun x F y=>by kernel_rfl
theorem ok53:c53.ok prog 53:=Ctr.of_den (ctxT_ok (ctxOf_cons (ctxOf_cons (ctxOf_cons (ctxOf_cons (q134) (by kernel_rfl) ok73) (by kernel_rfl) ok54) (by kernel_rfl) ok104) (by kernel_rfl) ok105)) hmix (hl:=hints) (d:=4) func53 rfl (by decide) (e53 lpK jnK ref02_Of ref05_Sum ref05_Column ref02_Cmp)
end Go.Proofs.YtfknoaclabfdlaaGreat
