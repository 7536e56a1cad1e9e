/- r05: the shapes of its types, and the places of its loops. r05: what its functions answer (printed by a program), and that they do. -/
import Derived.Test.YtnbbackjofgcfaaProg
import Derived.KernelRfl
import Derived.Test.YtnbbackjofgcfaaMgJ

namespace Go.Proofs.Ytnbbackjofgcfaa
open Try Dn Dn.Sh
abbrev i64:Sh:=.int .i64
abbrev T45:Sh:=.agg (.pair (.sl i64) (.pair i64 i64))
abbrev T25:Sh:=.agg (.pair (.sl i64) (.sl T45))
abbrev T27:Sh:=.agg (.pair i64 i64)
abbrev T30:Sh:=.agg (.pair T27 (.pair (.sl T27) (.sl T27)))
abbrev T75:Sh:=.agg i64
abbrev T83:Sh:=.agg (.pair (.int .u64) (.int .u64))
abbrev T93:Sh:=.agg (.pair (.sl (.sl i64)) (.pair i64 (.pair (.sl i64) (.pair (.sl i64) (.pair (.sl i64) (.pair i64 i64))))))
abbrev T96:Sh:=.agg (.pair (.int .u64) (.int .u64))
abbrev T142:Sh:=.agg (.pair .bool (.pair (.int .u64) (.int .u64)))
def shs:TypeId→Option Sh
 | 3=>some i64
 | 22=>some (.sl i64)
 | 27=>some T27
 | 28=>some (.sl T27)
 | 45=>some T45
 | _=>none
def loops93:Nat→Option Hd
 | 2=>some ⟨[(8,false,[.d i64])],[],[]⟩
 | _=>none
def loops117:Nat→Option Hd
 | 2=>some ⟨[(8,false,[.d i64])],[],[]⟩
 | _=>none
def loops88:Nat→Option Hd
 | 1=>some ⟨[(0,false,[.d (.int .u64)]),(1,false,[.d (.int .u64)])],[],[]⟩
 | _=>none
def loops122:Nat→Option Hd
 | 2=>some ⟨[(8,false,[.d i64])],[],[]⟩
 | _=>none
def joins130:Nat→Option Hd
 | 1000002=>some ⟨[(0,false,[.d (.int .u64)]),(2,false,[.d i64])],[],[]⟩
 | 1000005=>some ⟨[(0,false,[.d (.int .u64)]),(2,false,[.d i64])],[],[]⟩
 | _=>none
def loops121:Nat→Option Hd
 | 17=>some ⟨[(15,false,[.d (.int .u64)]),(16,false,[.d (.int .u64)])],[],[]⟩
 | 24=>some ⟨[(16,false,[.d (.int .u64)]),(18,false,[.d (.int .u64)])],[],[]⟩
 | _=>none
def joins121:Nat→Option Hd
 | 0=>some ⟨[(15,false,[.d (.int .u64)])],[],[]⟩
 | 2=>some ⟨[(18,false,[.d (.int .u64)])],[],[]⟩
 | 1000002=>some ⟨[],[],[]⟩
 | 1000004=>some ⟨[],[],[]⟩
 | _=>none
def joins39:Nat→Option Hd
 | 1000008=>some ⟨[(9,false,[.d .bool])],[(10,[.d T96])],[]⟩
 | 1000010=>some ⟨[(9,false,[.d .bool])],[(10,[.d T96])],[]⟩
 | _=>none
def loops48:Nat→Option Hd
 | 3=>some ⟨[(15,false,[.d i64])],[(0,[.d T75]),(6,[.d T27]),(7,[.d T27])],[]⟩
 | _=>none
def joins48:Nat→Option Hd
 | 1000007=>some ⟨[(11,false,[.d i64])],[(10,[.d T27])],[]⟩
 | _=>none
def joins26:Nat→Option Hd
 | 1000009=>some ⟨[],[(6,[.d T96]),(7,[.d T96])],[]⟩
 | _=>none
def loops47:Nat→Option Hd
 | 3=>some ⟨[(7,false,[.d .bool]),(17,false,[.d i64])],[(0,[.d T75])],[]⟩
 | _=>none
def loops100:Nat→Option Hd
 | 3=>some ⟨[(5,false,[.row 3 i64]),(11,false,[.d i64])],[],[]⟩
 | _=>none
def loops49:Nat→Option Hd
 | 3=>some ⟨[(9,false,[.d .bool]),(14,false,[.d i64])],[(0,[.d T75])],[]⟩
 | _=>none
def loops51:Nat→Option Hd
 | 3=>some ⟨[(3,false,[.row 3 i64]),(9,false,[.d i64])],[],[]⟩
 | _=>none
def loops52:Nat→Option Hd
 | 2=>some ⟨[(10,false,[.d i64])],[],[]⟩
 | _=>none
def loops106:Nat→Option Hd
 | 3=>some ⟨[(5,false,[.d i64]),(14,false,[.d i64])],[],[]⟩
 | _=>none
def loops108:Nat→Option Hd
 | 5=>some ⟨[(3,false,[.d i64]),(4,false,[.d i64])],[],[]⟩
 | _=>none
def joins108:Nat→Option Hd
 | 1000002=>some ⟨[],[],[]⟩
 | _=>none
def loops62:Nat→Option Hd
 | 4=>some ⟨[(4,false,[.row 3 i64]),(18,false,[.d i64])],[],[]⟩
 | 10=>some ⟨[(7,false,[.d i64]),(34,false,[.d i64])],[],[]⟩
 | _=>none
def loops63:Nat→Option Hd
 | 4=>some ⟨[(5,false,[.d i64]),(24,false,[.d i64])],[],[]⟩
 | 12=>some ⟨[(9,false,[.d i64]),(51,false,[.d i64])],[(46,[.x (.tab 22 .ref 3 i64),.d i64,.row 3 i64,.row 3 i64,.row 3 i64,.d i64,.d i64])],[]⟩
 | 28=>some ⟨[(95,false,[.d i64])],[],[(12,none,.row 3 i64)]⟩
 | _=>none
def joins63:Nat→Option Hd
 | 1000019=>some ⟨[(9,false,[.d i64])],[],[(12,none,.row 3 i64)]⟩
 | 1000022=>some ⟨[(9,false,[.d i64])],[],[(12,none,.row 3 i64)]⟩
 | 1000026=>some ⟨[(13,false,[.d i64])],[],[(12,none,.row 3 i64)]⟩
 | _=>none
def loops73:Nat→Option Hd
 | 3=>some ⟨[(5,false,[.d i64]),(13,false,[.d i64])],[],[]⟩
 | _=>none
def joins124:Nat→Option Hd
 | 1000008=>some ⟨[(10,false,[.d .bool])],[(2,[.d T142]),(3,[.d T142])],[]⟩
 | _=>none
def loops109:Nat→Option Hd
 | 2=>some ⟨[(29,false,[.d i64])],[],[(0,some 0,.x (.tab 22 .ref 3 i64))]⟩
 | 7=>some ⟨[(43,false,[.d i64])],[],[(0,some 0,.x (.tab 22 .ref 3 i64))]⟩
 | 17=>some ⟨[(98,false,[.d i64])],[],[(0,some 0,.x (.tab 22 .ref 3 i64))]⟩
 | 20=>some ⟨[(104,false,[.d i64])],[],[(0,some 0,.x (.tab 22 .ref 3 i64))]⟩
 | _=>none
def loops110:Nat→Option Hd
 | 3=>some ⟨[(5,false,[.d i64]),(14,false,[.d i64])],[],[]⟩
 | _=>none
def loops64:Nat→Option Hd
 | 1=>some ⟨[],[(0,[.x (.tab 22 .ref 3 i64),.d i64,.row 3 i64,.row 3 i64,.row 3 i64,.d i64,.d i64])],[]⟩
 | 3=>some ⟨[(3,false,[.d i64]),(4,false,[.d i64])],[],[]⟩
 | 12=>some ⟨[(44,false,[.d i64])],[(0,[.x (.tab 22 .ref 3 i64),.d i64,.row 3 i64,.row 3 i64,.row 3 i64,.d i64,.d i64])],[]⟩
 | 15=>some ⟨[(6,false,[.d i64])],[(0,[.x (.tab 22 .ref 3 i64),.d i64,.row 3 i64,.row 3 i64,.row 3 i64,.d i64,.d i64])],[]⟩
 | _=>none
def loops111:Nat→Option Hd
 | 3=>some ⟨[(5,false,[.d i64]),(21,false,[.d i64])],[],[]⟩
 | _=>none
def loops65:Nat→Option Hd
 | 1=>some ⟨[],[(0,[.x (.tab 22 .ref 3 i64),.d i64,.row 3 i64,.row 3 i64,.row 3 i64,.d i64,.d i64])],[]⟩
 | 3=>some ⟨[(3,false,[.d i64]),(4,false,[.d i64])],[],[]⟩
 | _=>none
def loops21:Nat→Option Hd
 | 14=>some ⟨[(6,false,[.d i64]),(43,false,[.d i64])],[],[(7,none,.row 3 i64)]⟩
 | 22=>some ⟨[(94,false,[.d i64])],[(5,[.d T27,.row 27 T27,.row 27 T27])],[]⟩
 | 27=>some ⟨[(110,false,[.d i64])],[(5,[.d T27,.row 27 T27,.row 27 T27])],[]⟩
 | 31=>some ⟨[(13,false,[.d i64]),(118,false,[.d i64])],[],[]⟩
 | _=>none
def loops94:Nat→Option Hd
 | 2=>some ⟨[(8,false,[.d i64])],[],[]⟩
 | _=>none
def loops16:Nat→Option Hd
 | 4=>some ⟨[(3,false,[.d i64])],[],[]⟩
 | 9=>some ⟨[(4,false,[.d i64])],[],[]⟩
 | 15=>some ⟨[(6,false,[.d i64])],[],[]⟩
 | _=>none
def loops55:Nat→Option Hd
 | 4=>some ⟨[(5,false,[.d i64])],[(2,[.d T83]),(3,[.d T83])],[]⟩
 | 6=>some ⟨[],[(2,[.d T83]),(3,[.d T83])],[]⟩
 | 7=>some ⟨[],[(2,[.d T83])],[]⟩
 | 9=>some ⟨[],[(3,[.d T83])],[]⟩
 | 14=>some ⟨[(5,false,[.d i64])],[(3,[.d T83])],[]⟩
 | _=>none
def loops18:Nat→Option Hd
 | 2=>some ⟨[(3,false,[.d i64])],[],[]⟩
 | _=>none
def loops127:Nat→Option Hd
 | 5=>some ⟨[(8,false,[.d i64])],[(2,[.d T83]),(6,[.d T83]),(7,[.d T83])],[]⟩
 | _=>none
def loops35:Nat→Option Hd
 | 3=>some ⟨[(7,false,[.d i64])],[(4,[.d T27]),(6,[.d T27])],[]⟩
 | _=>none
def loops34:Nat→Option Hd
 | 3=>some ⟨[(6,false,[.d .bool]),(7,false,[.d i64])],[],[]⟩
 | 7=>some ⟨[(6,false,[.d .bool]),(8,false,[.d i64])],[],[]⟩
 | _=>none
def loops105:Nat→Option Hd
 | 3=>some ⟨[(5,false,[.row 3 i64]),(6,false,[.d i64])],[],[]⟩
 | _=>none
def loops58:Nat→Option Hd
 | 3=>some ⟨[(8,false,[.d .bool]),(9,false,[.d i64])],[],[]⟩
 | _=>none
def loops59:Nat→Option Hd
 | 3=>some ⟨[(3,false,[.row 3 i64]),(4,false,[.d i64])],[],[]⟩
 | _=>none
def loops61:Nat→Option Hd
 | 2=>some ⟨[(5,false,[.d i64])],[],[]⟩
 | _=>none
def joins3:Nat→Option Hd
 | 1000012=>some ⟨[],[],[]⟩
 | 1000015=>some ⟨[],[],[]⟩
 | _=>none
def loops23:Nat→Option Hd
 | 1=>some ⟨[(2,false,[.d i64]),(3,false,[.d i64])],[],[(0,none,.row 3 i64)]⟩
 | _=>none
def loops4:Nat→Option Hd
 | 9=>some ⟨[(43,false,[.d i64])],[(7,[.d (.sl i64),.row 45 T45])],[]⟩
 | _=>none
def loops71:Nat→Option Hd
 | 3=>some ⟨[(3,false,[.d i64]),(4,false,[.d i64])],[],[]⟩
 | 8=>some ⟨[(5,false,[.row 3 i64]),(6,false,[.d i64])],[],[]⟩
 | 12=>some ⟨[(7,false,[.d i64]),(8,false,[.d i64])],[],[]⟩
 | _=>none
def loops72:Nat→Option Hd
 | 3=>some ⟨[(6,false,[.d i64]),(7,false,[.d i64])],[],[]⟩
 | _=>none
def loops27:Nat→Option Hd
 | 5=>some ⟨[(6,false,[.d i64]),(7,false,[.d i64])],[],[]⟩
 | _=>none
def loops29:Nat→Option Hd
 | 10=>some ⟨[(5,false,[.row 27 T27]),(20,false,[.d i64])],[],[]⟩
 | _=>none
def loops115:Nat→Option Hd
 | 3=>some ⟨[(8,false,[.d i64])],[],[(3,some 0,.x (.tab 22 .ref 3 i64))]⟩
 | 8=>some ⟨[(10,false,[.d i64])],[],[(3,some 0,.x (.tab 22 .ref 3 i64))]⟩
 | _=>none
def loops74:Nat→Option Hd
 | 2=>some ⟨[],[(1,[.x (.tab 22 .ref 3 i64),.row 3 i64,.d i64,.d i64]),(2,[.x (.tab 22 .ref 3 i64),.row 3 i64,.d i64,.d i64])],[]⟩
 | 3=>some ⟨[(5,false,[.d i64])],[],[]⟩
 | 9=>some ⟨[(6,false,[.d i64]),(8,false,[.d i64])],[],[]⟩
 | _=>none
def loops77:Nat→Option Hd
 | 1=>some ⟨[(4,false,[.d i64])],[],[(0,none,.row 3 i64)]⟩
 | _=>none
def loops75:Nat→Option Hd
 | 5=>some ⟨[(7,false,[.d i64])],[(5,[.x (.tab 22 .ref 3 i64),.row 3 i64,.d i64,.d i64])],[(6,none,.row 3 i64)]⟩
 | 16=>some ⟨[(9,false,[.d i64])],[],[(8,none,.row 3 i64)]⟩
 | 20=>some ⟨[(10,false,[.d i64])],[],[(6,none,.row 3 i64)]⟩
 | _=>none
def joins75:Nat→Option Hd
 | 1000010=>some ⟨[],[],[(8,none,.row 3 i64)]⟩
 | 1000012=>some ⟨[],[],[(8,none,.row 3 i64)]⟩
 | 1000015=>some ⟨[],[],[(8,none,.row 3 i64)]⟩
 | _=>none
def loops76:Nat→Option Hd
 | 2=>some ⟨[(3,false,[.d i64])],[(1,[.x (.tab 22 .ref 3 i64),.row 3 i64,.d i64,.d i64])],[]⟩
 | 6=>some ⟨[(4,false,[.d i64])],[],[]⟩
 | 11=>some ⟨[(5,false,[.d i64])],[],[(1,some 0,.x (.tab 22 .ref 3 i64))]⟩
 | _=>none
def loops30:Nat→Option Hd
 | 9=>some ⟨[(9,false,[.d i64])],[],[(4,some 0,.x (.tab 22 .ref 3 i64))]⟩
 | 13=>some ⟨[(10,false,[.d i64]),(11,false,[.d i64])],[],[]⟩
 | _=>none
def loops87:Nat→Option Hd
 | 3=>some ⟨[(19,false,[.d i64])],[],[(2,some 1,.x (.tab 45 (.agg (.pair .ref (.pair i64 i64))) 3 i64))]⟩
 | _=>none
def loops36:Nat→Option Hd
 | 7=>some ⟨[(28,false,[.d i64])],[],[(4,some 1,.x (.tab 45 (.agg (.pair .ref (.pair i64 i64))) 3 i64))]⟩
 | 14=>some ⟨[(8,false,[.d .bool]),(44,false,[.d i64])],[(4,[.row 3 i64,.x (.tab 45 (.agg (.pair .ref (.pair i64 i64))) 3 i64)])],[]⟩
 | _=>none
def loops37:Nat→Option Hd
 | 4=>some ⟨[(5,false,[.d i64])],[],[]⟩
 | 9=>some ⟨[(6,false,[.d i64])],[],[]⟩
 | 15=>some ⟨[(9,false,[.d i64])],[],[]⟩
 | _=>none
def loops38:Nat→Option Hd
 | 5=>some ⟨[(4,false,[.row 3 i64]),(5,false,[.row 3 i64]),(6,false,[.d i64])],[],[]⟩
 | 19=>some ⟨[(9,false,[.d i64])],[(2,[.d T25]),(8,[.row 3 i64,.row 45 T45])],[]⟩
 | 25=>some ⟨[(10,false,[.d i64])],[(8,[.row 3 i64,.row 45 T45])],[]⟩
 | 29=>some ⟨[(12,false,[.d i64])],[(11,[.row 3 i64,.d i64,.d i64])],[]⟩
 | _=>none
def joins38:Nat→Option Hd
 | 1000009=>some ⟨[(7,false,[.d i64])],[],[]⟩
 | _=>none
def hints:FuncId→Hint
 | 93=>{loop:=loops93}
 | 117=>{loop:=loops117}
 | 88=>{loop:=loops88}
 | 122=>{loop:=loops122}
 | 130=>{join:=joins130}
 | 121=>{loop:=loops121,join:=joins121}
 | 39=>{join:=joins39}
 | 48=>{loop:=loops48,join:=joins48}
 | 26=>{join:=joins26}
 | 47=>{loop:=loops47}
 | 100=>{loop:=loops100}
 | 49=>{loop:=loops49}
 | 51=>{loop:=loops51}
 | 52=>{loop:=loops52}
 | 106=>{loop:=loops106}
 | 108=>{loop:=loops108,join:=joins108}
 | 62=>{loop:=loops62}
 | 63=>{loop:=loops63,join:=joins63}
 | 73=>{loop:=loops73}
 | 124=>{join:=joins124}
 | 109=>{loop:=loops109}
 | 110=>{loop:=loops110}
 | 64=>{loop:=loops64}
 | 111=>{loop:=loops111}
 | 65=>{loop:=loops65}
 | 21=>{loop:=loops21}
 | 94=>{loop:=loops94}
 | 16=>{loop:=loops16}
 | 55=>{loop:=loops55}
 | 18=>{loop:=loops18}
 | 127=>{loop:=loops127}
 | 35=>{loop:=loops35}
 | 34=>{loop:=loops34}
 | 105=>{loop:=loops105}
 | 58=>{loop:=loops58}
 | 59=>{loop:=loops59}
 | 61=>{loop:=loops61}
 | 3=>{join:=joins3}
 | 23=>{loop:=loops23}
 | 4=>{loop:=loops4}
 | 71=>{loop:=loops71}
 | 72=>{loop:=loops72}
 | 27=>{loop:=loops27}
 | 29=>{loop:=loops29}
 | 115=>{loop:=loops115}
 | 74=>{loop:=loops74}
 | 77=>{loop:=loops77}
 | 75=>{loop:=loops75,join:=joins75}
 | 76=>{loop:=loops76}
 | 30=>{loop:=loops30}
 | 87=>{loop:=loops87}
 | 36=>{loop:=loops36}
 | 37=>{loop:=loops37}
 | 38=>{loop:=loops38,join:=joins38}
 | _=>{}
def lits (p : String) : Bool := p == "law.go:242" || p == "program.go:104" || p == "ref.go:45"
def tabs:TypeId→Option XP
 | 91=>some (.tab 22 .ref 3 i64)
 | _=>none
def tabs36:TypeId→Option XP
 | 23=>some (.tab 45 (.agg (.pair .ref (.pair i64 i64))) 3 i64)
 | 91=>some (.tab 22 .ref 3 i64)
 | _=>none
def inls:List Nat:=[93,41,82,49,63,109,64,65,23,115,74,77,75,76,87]
def its:List (Nat×ICtr):=[]
theorem itsOk:ItsOk prog its:=itsOk_nil
end Go.Proofs.Ytnbbackjofgcfaa

namespace Go.Proofs.Ytnbbackjofgcfaa
open Try Dn Dn.Sh
set_option maxRecDepth 100000
theorem hmix:prog.follows .mixedOrders=true:=by kernel_rfl
theorem inlsOk:inlOk prog inls=true:=by kernel_rfl
theorem q0:(ctxOf prog shs inls its [] []).ok:=ctxOf_nil inlsOk itsOk
noncomputable def slices_Clone_22_b (_:Lp) (_:Jn) (x0:List Int):Option (List Int) :=
 bif fitB ((0:Nat)+List.length x0) (8:Nat) then some x0 else none
noncomputable def slices_Clone_22 (x0:List Int):Option (List Int):=slices_Clone_22_b lpK jnK x0
theorem l22:(ctxT tabs lits (ctxOf prog shs inls its [] [])).ok:=ctxT_ok (q0)
noncomputable def r22:RCtr:=⟨[(.sl i64)],3,i64,fun x=>slices_Clone_22 x.1⟩
theorem e22 (lp:Lp) (jn:Jn):∀x:TsS r22.as,slices_Clone_22_b lp jn x.1=runR lp jn (ctxT tabs lits (ctxOf prog shs inls its [] [])) hints 4 22 f22 r22.t r22.e (initN r22.as x true):=fun x=>by kernel_rfl
theorem okr22:r22.ok prog 22:=RCtr.of_den_nil (c:=r22) l22 hmix (hl:=hints) (d:=4) rfl func22 rfl (by decide) (e22 lpK jnK) fun x h=>by
 obtain ⟨l,u⟩:=x
 simp only at h
 subst h
 kernel_rfl
theorem q22:(ctxOf prog shs inls its [] [(22,r22)]).ok:=ctxOf_row q0 (by kernel_rfl) okr22
noncomputable def slices_Clone_24_b (_:Lp) (_:Jn) (x0:List ((List Int)×Int×Int)):Option (List ((List Int)×Int×Int)) :=
 bif fitB ((0:Nat)+List.length x0) (40:Nat) then some x0 else none
noncomputable def slices_Clone_24 (x0:List ((List Int)×Int×Int)):Option (List ((List Int)×Int×Int)):=slices_Clone_24_b lpK jnK x0
theorem l24:(ctxT tabs lits (ctxOf prog shs inls its [] [(22,r22)])).ok:=ctxT_ok (q22)
noncomputable def r24:RCtr:=⟨[(.sl T45)],45,T45,fun x=>slices_Clone_24 x.1⟩
theorem e24 (lp:Lp) (jn:Jn):∀x:TsS r24.as,slices_Clone_24_b lp jn x.1=runR lp jn (ctxT tabs lits (ctxOf prog shs inls its [] [(22,r22)])) hints 4 24 f24 r24.t r24.e (initN r24.as x true):=fun x=>by kernel_rfl
theorem okr24:r24.ok prog 24:=RCtr.of_den_nil (c:=r24) l24 hmix (hl:=hints) (d:=4) rfl func24 rfl (by decide) (e24 lpK jnK) fun x h=>by
 obtain ⟨l,u⟩:=x
 simp only at h
 subst h
 kernel_rfl
theorem q24:(ctxOf prog shs inls its [] [(24,r24),(22,r22)]).ok:=ctxOf_row q22 (by kernel_rfl) okr24
noncomputable def slices_IndexFunc_93_b (lp:Lp) (_:Jn) (x0:List ((List Int)×Int×Int)) (f0:((((List Int)×Int×Int)×Unit)→Option Bool)):Option Int :=
 lp (Int×PUnit) Int (fun (again:Int×PUnit→Option Int) (x:Int×PUnit)=>bif decide (x.1<(↑(List.length x0):Int)) then bif inB x.1 (List.length x0) then obind (f0
  (List.getD x0 (Int.toNat x.1) ([],(0:Int),(0:Int)),PUnit.unit)) fun (t:Bool)=>bif t then some x.1 else again (IntKind.wrap .i64 (x.1+(1:Int)),PUnit.unit)
  else none else some (-1:Int)) ((0:Int),PUnit.unit)
noncomputable def slices_IndexFunc_93 (x0:List ((List Int)×Int×Int)) (f0:((((List Int)×Int×Int)×Unit)→Option Bool)):Option Int:=slices_IndexFunc_93_b lpK jnK x0 f0
noncomputable def c93:Ctr:=⟨[(.sl T45)],[([T45],.bool)],[],.one i64,fun x F _=>slices_IndexFunc_93 x.1 F.1⟩
theorem e93 (lp:Lp) (jn:Jn):∀(x:TsS c93.as) (F:TsF c93.fs) (y:TsS c93.cs),slices_IndexFunc_93_b lp jn x.1 F.1=runC lp jn (ctxT tabs lits (ctxOf prog shs inls its [] [(24,r24),(22,r22)])) hints 4 93 f93 c93 x F y:=fun x F y=>by kernel_rfl
theorem l93:(ctxT tabs lits (ctxOf prog shs inls its [] [(24,r24),(22,r22)])).ok:=ctxT_ok (q24)
theorem ok93:c93.ok prog 93:=Ctr.of_den l93 hmix (hl:=hints) (d:=4) func93 rfl (by decide) (e93 lpK jnK)
noncomputable def slices_ContainsFunc_41_b (_:Lp) (_:Jn) (slices_IndexFunc_93:(List ((List Int)×Int×Int))→(((((List Int)×Int×Int)×Unit)→Option Bool))→Option (Int)) (x0:List ((List Int)×Int×Int)) (f0:((((List Int)×Int×Int)×Unit)→Option Bool)):Option Bool :=
 obind (slices_IndexFunc_93 x0 f0) fun (t:Int)=>some (decide (t≥(0:Int)))
noncomputable def slices_ContainsFunc_41 (x0:List ((List Int)×Int×Int)) (f0:((((List Int)×Int×Int)×Unit)→Option Bool)):Option Bool:=slices_ContainsFunc_41_b lpK jnK slices_IndexFunc_93 x0 f0
noncomputable def c41:Ctr:=⟨[(.sl T45)],[([T45],.bool)],[],.one .bool,fun x F _=>slices_ContainsFunc_41 x.1 F.1⟩
theorem e41 (lp:Lp) (jn:Jn) (slices_IndexFunc_93:(List ((List Int)×Int×Int))→(((((List Int)×Int×Int)×Unit)→Option Bool))→Option (Int)):∀(x:TsS c41.as) (F:TsF c41.fs) (y:TsS c41.cs),slices_ContainsFunc_41_b lp jn slices_IndexFunc_93 x.1 F.1=runC lp jn (ctxT tabs lits (ctxOf prog shs inls its [(93,⟨[(.sl T45)],[([T45],.bool)],[],.one i64,fun x F _=>slices_IndexFunc_93 x.1 F.1⟩)] [(24,r24),(22,r22)])) hints 4 41 f41 c41 x F y:=fun x F y=>by kernel_rfl
theorem l41:(ctxT tabs lits (ctxOf prog shs inls its [(93,c93)] [(24,r24),(22,r22)])).ok:=ctxT_ok (ctxOf_cons (q24) (by kernel_rfl) ok93)
theorem ok41:c41.ok prog 41:=Ctr.of_den l41 hmix (hl:=hints) (d:=4) func41 rfl (by decide) (e41 lpK jnK slices_IndexFunc_93)
noncomputable def program_Valid_1_1_b (_:Lp) (_:Jn) (x0:Int) (y0:Int):Option Bool :=
 
 let v4:Bool:=decide (x0<IntKind.wrap .i64 ((0:Int) - y0));
 let v5:Bool:=!v4;
 let v6:Bool:=!v5||v5;bif v6&&v6 then bif v4||v5 then some (bif v4 then true else decide (x0>y0)) else none else none
noncomputable def program_Valid_1_1 (x0:Int) (y0:Int):Option Bool:=program_Valid_1_1_b lpK jnK x0 y0
noncomputable def c80:Ctr:=⟨[i64],[],[i64],.one .bool,fun x _ y=>program_Valid_1_1 x.1 y.1⟩
theorem e80 (lp:Lp) (jn:Jn):∀(x:TsS c80.as) (F:TsF c80.fs) (y:TsS c80.cs),program_Valid_1_1_b lp jn x.1 y.1=runC lp jn (ctxT tabs lits (ctxOf prog shs inls its [] [(24,r24),(22,r22)])) hints 4 80 f80 c80 x F y:=fun x F y=>by kernel_rfl
theorem l80:(ctxT tabs lits (ctxOf prog shs inls its [] [(24,r24),(22,r22)])).ok:=ctxT_ok (q24)
theorem ok80:c80.ok prog 80:=Ctr.of_den l80 hmix (hl:=hints) (d:=4) func80 rfl (by decide) (e80 lpK jnK)
noncomputable def program_Valid_1_b (_:Lp) (_:Jn) (program_Valid_1_1:(Int)→(Int)→Option (Bool)) (x0:Int):Option ((Int×Unit)→Option Bool) :=
 some fun (x:Int×PUnit)=>program_Valid_1_1 x.1 x0
noncomputable def program_Valid_1 (x0:Int):Option ((Int×Unit)→Option Bool):=program_Valid_1_b lpK jnK program_Valid_1_1 x0
noncomputable def g79:FCtr:=⟨[i64],[i64],.bool,fun x=>program_Valid_1 x.1⟩
theorem e79 (lp:Lp) (jn:Jn) (program_Valid_1_1:(Int)→(Int)→Option (Bool)):∀x:TsS g79.as,program_Valid_1_b lp jn program_Valid_1_1 x.1=runF lp jn (ctxT tabs lits (ctxOf prog shs inls its [(80,⟨[i64],[],[i64],.one .bool,fun x _ y=>program_Valid_1_1 x.1 y.1⟩)] [(24,r24),(22,r22)])) hints 4 79 f79 g79 x:=fun x=>by kernel_rfl
theorem l79:(ctxT tabs lits (ctxOf prog shs inls its [(80,c80)] [(24,r24),(22,r22)])).ok:=ctxT_ok (ctxOf_cons (q24) (by kernel_rfl) ok80)
theorem okg79:g79.ok prog 79:=FCtr.of_den l79 hmix (hl:=hints) (d:=4) func79 rfl (by decide) (e79 lpK jnK program_Valid_1_1)
noncomputable def slices_IndexFunc_117_b (lp:Lp) (_:Jn) (x0:List Int) (f0:((Int×Unit)→Option Bool)):Option Int :=
 lp (Int×PUnit) Int (fun (again:Int×PUnit→Option Int) (x:Int×PUnit)=>bif decide (x.1<(↑(List.length x0):Int)) then bif inB x.1 (List.length x0) then obind (f0
  (List.getD x0 (Int.toNat x.1) (0:Int),PUnit.unit)) fun (t:Bool)=>bif t then some x.1 else again (IntKind.wrap .i64 (x.1+(1:Int)),PUnit.unit) else none else some
  (-1:Int)) ((0:Int),PUnit.unit)
noncomputable def slices_IndexFunc_117 (x0:List Int) (f0:((Int×Unit)→Option Bool)):Option Int:=slices_IndexFunc_117_b lpK jnK x0 f0
noncomputable def c117:Ctr:=⟨[(.sl i64)],[([i64],.bool)],[],.one i64,fun x F _=>slices_IndexFunc_117 x.1 F.1⟩
theorem e117 (lp:Lp) (jn:Jn):∀(x:TsS c117.as) (F:TsF c117.fs) (y:TsS c117.cs),slices_IndexFunc_117_b lp jn x.1 F.1=runC lp jn (ctxT tabs lits (ctxOf prog shs inls its [] [(24,r24),(22,r22)])) hints 4 117 f117 c117 x F y:=fun x F y=>by kernel_rfl
theorem l117:(ctxT tabs lits (ctxOf prog shs inls its [] [(24,r24),(22,r22)])).ok:=ctxT_ok (q24)
theorem ok117:c117.ok prog 117:=Ctr.of_den l117 hmix (hl:=hints) (d:=4) func117 rfl (by decide) (e117 lpK jnK)
noncomputable def slices_ContainsFunc_81_b (_:Lp) (_:Jn) (slices_IndexFunc_117:(List Int)→(((Int×Unit)→Option Bool))→Option (Int)) (x0:List Int) (f0:((Int×Unit)→Option Bool)):Option Bool :=
 obind (slices_IndexFunc_117 x0 f0) fun (t:Int)=>some (decide (t≥(0:Int)))
noncomputable def slices_ContainsFunc_81 (x0:List Int) (f0:((Int×Unit)→Option Bool)):Option Bool:=slices_ContainsFunc_81_b lpK jnK slices_IndexFunc_117 x0 f0
noncomputable def c81:Ctr:=⟨[(.sl i64)],[([i64],.bool)],[],.one .bool,fun x F _=>slices_ContainsFunc_81 x.1 F.1⟩
theorem e81 (lp:Lp) (jn:Jn) (slices_IndexFunc_117:(List Int)→(((Int×Unit)→Option Bool))→Option (Int)):∀(x:TsS c81.as) (F:TsF c81.fs) (y:TsS c81.cs),slices_ContainsFunc_81_b lp jn slices_IndexFunc_117 x.1 F.1=runC lp jn (ctxT tabs lits (ctxOf prog shs inls its [(117,⟨[(.sl i64)],[([i64],.bool)],[],.one i64,fun x F _=>slices_IndexFunc_117 x.1 F.1⟩)] [(24,r24),(22,r22)])) hints 4 81 f81 c81 x F y:=fun x F y=>by kernel_rfl
theorem l81:(ctxT tabs lits (ctxOf prog shs inls its [(117,c117)] [(24,r24),(22,r22)])).ok:=ctxT_ok (ctxOf_cons (q24) (by kernel_rfl) ok117)
theorem ok81:c81.ok prog 81:=Ctr.of_den l81 hmix (hl:=hints) (d:=4) func81 rfl (by decide) (e81 lpK jnK slices_IndexFunc_117)
noncomputable def program_Valid_b (lp:Lp) (_:Jn) (_:(List ((List Int)×Int×Int))→(((((List Int)×Int×Int)×Unit)→Option Bool))→Option (Bool)) (slices_ContainsFunc_81:(List Int)→(((Int×Unit)→Option Bool))→Option (Bool)) (program_Valid_1:(Int)→Option ((Int×Unit)→Option Bool)) (x0:(List Int)×List ((List Int)×Int×Int)):Option Bool :=
 
 let v3:Bool:=decide ((↑(List.length x0.1):Int)<(1:Int));
 let v4:Bool:=!v3;
 let v5:Bool:=bif v3 then true else decide ((↑(List.length x0.1):Int)>(12:Int));
 let v6:Bool:=!v4||v4;
 let v7:Bool:=!v5;
 let v8:Bool:=bif v5 then true else decide ((↑(List.length x0.2):Int)>(6:Int));
 let v9:Bool:=!v8;
 let v10:Bool:=!v7||v7;
 let v11:Bool:=!v9||v9;bif v6 then bif v6 then bif v6 then bif v3||v4 then bif v10 then bif v10 then bif v10 then bif v5||v7 then bif v11 then bif v11 then obind (bif v9 then
  program_Valid_1 (1048576:Int) else some fun (_:Int×PUnit)=>none) fun (t:Int×PUnit→Option Bool)=>bif v11&&v11 then obind (bif v9 then slices_ContainsFunc_81 x0.1 t
  else some false) fun (t:Bool)=>bif v8||v9 then bif bif v8 then true else t then some false else lp (Int×PUnit) Bool (fun (again:Int×PUnit→Option Bool) (x:Int×PUnit) =>
 let v16:List Int×Int×Int:=List.getD x0.2 (Int.toNat x.1) ([],(0:Int),(0:Int));
 let v17:Bool:=decide (v16.2.1<(1:Int));
 let v18:Bool:=decide (v16.2.1>(3:Int));
 let v19:Bool:=!decide ((↑(List.length v16.1):Int)=(↑(List.length x0.1):Int));
 let v20:Bool:=!v19;
 let v21:Bool:=!v20||v20;bif decide (x.1<(↑(List.length x0.2):Int)) then bif inB x.1 (List.length x0.2) then bif v21 then bif v21 then obind (bif v20 then
  program_Valid_1 (1048576:Int) else some fun (_:Int×PUnit)=>none) fun (t:Int×PUnit→Option Bool)=>bif v21&&v21 then obind (bif v20 then slices_ContainsFunc_81 v16.1 t
  else some false) fun (t:Bool) =>
 let v24:Bool:=bif v19 then true else t;
 let v25:Bool:=!v24;
 let v26:Bool:=bif v24 then true else v17;
 let v27:Bool:=!v26;
 let v28:Bool:=bif v26 then true else v18;
 let v29:Bool:=!v25||v25;
 let v30:Bool:=!v28;
 let v31:Bool:=!v27||v27;
 let v32:Bool:=!v30||v30;bif v19||v20 then bif v29 then bif v29 then bif v24||v25 then bif v31 then bif v31 then bif v26||v27 then bif v32 then obind (bif v30 then
  program_Valid_1 (1073741824:Int) else some fun (_:Int×PUnit)=>none) fun (t:Int×PUnit→Option Bool)=>bif v32 then bif v32&&v32 then obind (bif v30 then t (v16.2.2,
  PUnit.unit) else some false) fun (t:Bool)=>bif v28||v30 then bif bif v28 then true else t then some !decide (x.1≥(0:Int)) else again (IntKind.wrap .i64 (x.1+(1 :
  Int)),PUnit.unit) else none else none else none else none else none else none else none else none else none else none else none else none else none else none else none else some
  !decide ((-1:Int)≥(0:Int))) ((0:Int),PUnit.unit) else none else none else none else none else none else none else none else none else none else none else none else none
noncomputable def program_Valid (x0:(List Int)×List ((List Int)×Int×Int)):Option Bool:=program_Valid_b lpK jnK slices_ContainsFunc_41 slices_ContainsFunc_81 program_Valid_1 x0
noncomputable def c33:Ctr:=⟨[T25],[],[],.one .bool,fun x _ _=>program_Valid x.1⟩
theorem e33 (lp:Lp) (jn:Jn) (slices_ContainsFunc_41:(List ((List Int)×Int×Int))→(((((List Int)×Int×Int)×Unit)→Option Bool))→Option (Bool)) (slices_ContainsFunc_81:(List Int)→(((Int×Unit)→Option Bool))→Option (Bool)) (program_Valid_1:(Int)→Option ((Int×Unit)→Option Bool)):∀(x:TsS c33.as) (F:TsF c33.fs) (y:TsS c33.cs),program_Valid_b lp jn slices_ContainsFunc_41 slices_ContainsFunc_81 program_Valid_1 x.1=runC lp jn (ctxT tabs lits (ctxG [(79,⟨[i64],[i64],.bool,fun x=>program_Valid_1 x.1⟩)] (ctxOf prog shs inls its [(81,⟨[(.sl i64)],[([i64],.bool)],[],.one .bool,fun x F _=>slices_ContainsFunc_81 x.1 F.1⟩),(41,⟨[(.sl T45)],[([T45],.bool)],[],.one .bool,fun x F _=>slices_ContainsFunc_41 x.1 F.1⟩)] [(24,r24),(22,r22)]))) hints 4 33 f33 c33 x F y:=fun x F y=>by kernel_rfl
theorem l33:(ctxT tabs lits (ctxG [(79,g79)] (ctxOf prog shs inls its [(81,c81),(41,c41)] [(24,r24),(22,r22)]))).ok:=ctxT_ok (ctxG_ok (ctxOf_cons (ctxOf_cons (q24) (by kernel_rfl) ok41) (by kernel_rfl) ok81) (fcOk_cons (by kernel_rfl) okg79 (fcOk_nil)))
theorem ok33:c33.ok prog 33:=Ctr.of_den l33 hmix (hl:=hints) (d:=4) func33 rfl (by decide) (e33 lpK jnK slices_ContainsFunc_41 slices_ContainsFunc_81 program_Valid_1)
noncomputable def ratio_size_b (_:Lp) (_:Jn) (x0:Int):Option Int :=
 
 let v3:Int:=IntKind.wrap .u64 x0;bif decide (x0<(0:Int)) then some (IntKind.wrap .u64 ((0:Int) - v3)) else some v3
noncomputable def ratio_size (x0:Int):Option Int:=ratio_size_b lpK jnK x0
noncomputable def c69:Ctr:=⟨[i64],[],[],.one (.int .u64),fun x _ _=>ratio_size x.1⟩
theorem e69 (lp:Lp) (jn:Jn):∀(x:TsS c69.as) (F:TsF c69.fs) (y:TsS c69.cs),ratio_size_b lp jn x.1=runC lp jn (ctxT tabs lits (ctxOf prog shs inls its [] [(24,r24),(22,r22)])) hints 4 69 f69 c69 x F y:=fun x F y=>by kernel_rfl
theorem l69:(ctxT tabs lits (ctxOf prog shs inls its [] [(24,r24),(22,r22)])).ok:=ctxT_ok (q24)
theorem ok69:c69.ok prog 69:=Ctr.of_den l69 hmix (hl:=hints) (d:=4) func69 rfl (by decide) (e69 lpK jnK)
noncomputable def ratio_gcd_b (lp:Lp) (_:Jn) (x0:Int) (x1:Int):Option Int :=
 lp (Int×Int×PUnit) Int (fun (again:Int×Int×PUnit→Option Int) (x:Int×Int×PUnit)=>bif !decide (x.2.1=(0:Int)) then bif nzB x.2.1 then again (x.2.1,
  Int.tmod x.1 x.2.1,PUnit.unit) else none else some x.1) (x0,x1,PUnit.unit)
noncomputable def ratio_gcd (x0:Int) (x1:Int):Option Int:=ratio_gcd_b lpK jnK x0 x1
noncomputable def c88:Ctr:=⟨[(.int .u64),(.int .u64)],[],[],.one (.int .u64),fun x _ _=>ratio_gcd x.1 x.2.1⟩
theorem e88 (lp:Lp) (jn:Jn):∀(x:TsS c88.as) (F:TsF c88.fs) (y:TsS c88.cs),ratio_gcd_b lp jn x.1 x.2.1=runC lp jn (ctxT tabs lits (ctxOf prog shs inls its [] [(24,r24),(22,r22)])) hints 4 88 f88 c88 x F y:=fun x F y=>by kernel_rfl
theorem l88:(ctxT tabs lits (ctxOf prog shs inls its [] [(24,r24),(22,r22)])).ok:=ctxT_ok (q24)
theorem ok88:c88.ok prog 88:=Ctr.of_den l88 hmix (hl:=hints) (d:=4) func88 rfl (by decide) (e88 lpK jnK)
noncomputable def ratio_Valid_b (_:Lp) (_:Jn) (ratio_size:(Int)→Option (Int)) (ratio_gcd:(Int)→(Int)→Option (Int)) (x0:Int×Int):Option Bool :=
 
 let v3:Bool:=decide (x0.2≥(1:Int));
 let v4:Bool:=!v3||v3;
 let v5:Bool:=bif v3 then decide (x0.2≤(1152921504606846976:Int)) else false;
 let v6:Bool:=bif v5 then decide (x0.1≥(-1152921504606846976:Int)) else false;
 let v7:Bool:=!v5||v5;
 let v8:Bool:=bif v6 then decide (x0.1≤(1152921504606846976:Int)) else false;
 let v9:Bool:=!v6||v6;
 let v10:Bool:=!v8||v8;bif v4 then bif v4 then bif v4 then bif v7 then bif v7 then bif v7 then bif v9 then bif v9 then bif v9 then bif v10 then bif v10 then obind (bif v8 then
  ratio_size x0.1 else some (0:Int)) fun (t:Int)=>bif v10 then bif v10 then bif v10&&v10 then obind (bif v8 then ratio_gcd t (IntKind.wrap .u64 x0.2) else some (0 :
  Int)) fun (t:Int)=>bif v10 then bif v10 then some (bif v8 then decide (t=(1:Int)) else false) else none else none else none else none else none else none else none else none
  else none else none else none else none else none else none else none else none
noncomputable def ratio_Valid (x0:Int×Int):Option Bool:=ratio_Valid_b lpK jnK ratio_size ratio_gcd x0
noncomputable def c45:Ctr:=⟨[T27],[],[],.one .bool,fun x _ _=>ratio_Valid x.1⟩
theorem e45 (lp:Lp) (jn:Jn) (ratio_size:(Int)→Option (Int)) (ratio_gcd:(Int)→(Int)→Option (Int)):∀(x:TsS c45.as) (F:TsF c45.fs) (y:TsS c45.cs),ratio_Valid_b lp jn ratio_size ratio_gcd x.1=runC lp jn (ctxT tabs lits (ctxOf prog shs inls its [(88,⟨[(.int .u64),(.int .u64)],[],[],.one (.int .u64),fun x _ _=>ratio_gcd x.1 x.2.1⟩),(69,⟨[i64],[],[],.one (.int .u64),fun x _ _=>ratio_size x.1⟩)] [(24,r24),(22,r22)])) hints 4 45 f45 c45 x F y:=fun x F y=>by kernel_rfl
theorem l45:(ctxT tabs lits (ctxOf prog shs inls its [(88,c88),(69,c69)] [(24,r24),(22,r22)])).ok:=ctxT_ok (ctxOf_cons (ctxOf_cons (q24) (by kernel_rfl) ok69) (by kernel_rfl) ok88)
theorem ok45:c45.ok prog 45:=Ctr.of_den l45 hmix (hl:=hints) (d:=4) func45 rfl (by decide) (e45 lpK jnK ratio_size ratio_gcd)
noncomputable def slices_IndexFunc_122_b (lp:Lp) (_:Jn) (x0:List (Int×Int)) (f0:(((Int×Int)×Unit)→Option Bool)):Option Int :=
 lp (Int×PUnit) Int (fun (again:Int×PUnit→Option Int) (x:Int×PUnit)=>bif decide (x.1<(↑(List.length x0):Int)) then bif inB x.1 (List.length x0) then obind (f0
  (List.getD x0 (Int.toNat x.1) ((0:Int),(0:Int)),PUnit.unit)) fun (t:Bool)=>bif t then some x.1 else again (IntKind.wrap .i64 (x.1+(1:Int)),PUnit.unit) else
  none else some (-1:Int)) ((0:Int),PUnit.unit)
noncomputable def slices_IndexFunc_122 (x0:List (Int×Int)) (f0:(((Int×Int)×Unit)→Option Bool)):Option Int:=slices_IndexFunc_122_b lpK jnK x0 f0
noncomputable def c122:Ctr:=⟨[(.sl T27)],[([T27],.bool)],[],.one i64,fun x F _=>slices_IndexFunc_122 x.1 F.1⟩
theorem e122 (lp:Lp) (jn:Jn):∀(x:TsS c122.as) (F:TsF c122.fs) (y:TsS c122.cs),slices_IndexFunc_122_b lp jn x.1 F.1=runC lp jn (ctxT tabs lits (ctxOf prog shs inls its [] [(24,r24),(22,r22)])) hints 4 122 f122 c122 x F y:=fun x F y=>by kernel_rfl
theorem l122:(ctxT tabs lits (ctxOf prog shs inls its [] [(24,r24),(22,r22)])).ok:=ctxT_ok (q24)
theorem ok122:c122.ok prog 122:=Ctr.of_den l122 hmix (hl:=hints) (d:=4) func122 rfl (by decide) (e122 lpK jnK)
noncomputable def slices_ContainsFunc_95_b (_:Lp) (_:Jn) (slices_IndexFunc_122:(List (Int×Int))→((((Int×Int)×Unit)→Option Bool))→Option (Int)) (x0:List (Int×Int)) (f0:(((Int×Int)×Unit)→Option Bool)):Option Bool :=
 obind (slices_IndexFunc_122 x0 f0) fun (t:Int)=>some (decide (t≥(0:Int)))
noncomputable def slices_ContainsFunc_95 (x0:List (Int×Int)) (f0:(((Int×Int)×Unit)→Option Bool)):Option Bool:=slices_ContainsFunc_95_b lpK jnK slices_IndexFunc_122 x0 f0
noncomputable def c95:Ctr:=⟨[(.sl T27)],[([T27],.bool)],[],.one .bool,fun x F _=>slices_ContainsFunc_95 x.1 F.1⟩
theorem e95 (lp:Lp) (jn:Jn) (slices_IndexFunc_122:(List (Int×Int))→((((Int×Int)×Unit)→Option Bool))→Option (Int)):∀(x:TsS c95.as) (F:TsF c95.fs) (y:TsS c95.cs),slices_ContainsFunc_95_b lp jn slices_IndexFunc_122 x.1 F.1=runC lp jn (ctxT tabs lits (ctxOf prog shs inls its [(122,⟨[(.sl T27)],[([T27],.bool)],[],.one i64,fun x F _=>slices_IndexFunc_122 x.1 F.1⟩)] [(24,r24),(22,r22)])) hints 4 95 f95 c95 x F y:=fun x F y=>by kernel_rfl
theorem l95:(ctxT tabs lits (ctxOf prog shs inls its [(122,c122)] [(24,r24),(22,r22)])).ok:=ctxT_ok (ctxOf_cons (q24) (by kernel_rfl) ok122)
theorem ok95:c95.ok prog 95:=Ctr.of_den l95 hmix (hl:=hints) (d:=4) func95 rfl (by decide) (e95 lpK jnK slices_IndexFunc_122)
noncomputable def program_right_1_b (_:Lp) (_:Jn) (ratio_Valid:(Int×Int)→Option (Bool)) (x0:Int×Int):Option Bool :=
 obind (ratio_Valid x0) fun (t:Bool)=>some !t
noncomputable def program_right_1 (x0:Int×Int):Option Bool:=program_right_1_b lpK jnK ratio_Valid x0
noncomputable def c96:Ctr:=⟨[T27],[],[],.one .bool,fun x _ _=>program_right_1 x.1⟩
theorem e96 (lp:Lp) (jn:Jn) (ratio_Valid:(Int×Int)→Option (Bool)):∀(x:TsS c96.as) (F:TsF c96.fs) (y:TsS c96.cs),program_right_1_b lp jn ratio_Valid x.1=runC lp jn (ctxT tabs lits (ctxOf prog shs inls its [(45,⟨[T27],[],[],.one .bool,fun x _ _=>ratio_Valid x.1⟩)] [(24,r24),(22,r22)])) hints 4 96 f96 c96 x F y:=fun x F y=>by kernel_rfl
theorem l96:(ctxT tabs lits (ctxOf prog shs inls its [(45,c45)] [(24,r24),(22,r22)])).ok:=ctxT_ok (ctxOf_cons (q24) (by kernel_rfl) ok45)
theorem ok96:c96.ok prog 96:=Ctr.of_den l96 hmix (hl:=hints) (d:=4) func96 rfl (by decide) (e96 lpK jnK ratio_Valid)
noncomputable def program_right_b (_:Lp) (_:Jn) (slices_ContainsFunc_95:(List (Int×Int))→((((Int×Int)×Unit)→Option Bool))→Option (Bool)) (program_right_1:(Int×Int)→Option (Bool)) (x0:List (Int×Int)):Option Bool :=
 obind (slices_ContainsFunc_95 x0 fun (x:(Int×Int)×PUnit)=>program_right_1 x.1) fun (t:Bool)=>some !t
noncomputable def program_right (x0:List (Int×Int)):Option Bool:=program_right_b lpK jnK slices_ContainsFunc_95 program_right_1 x0
noncomputable def c46:Ctr:=⟨[(.sl T27)],[],[],.one .bool,fun x _ _=>program_right x.1⟩
theorem e46 (lp:Lp) (jn:Jn) (slices_ContainsFunc_95:(List (Int×Int))→((((Int×Int)×Unit)→Option Bool))→Option (Bool)) (program_right_1:(Int×Int)→Option (Bool)):∀(x:TsS c46.as) (F:TsF c46.fs) (y:TsS c46.cs),program_right_b lp jn slices_ContainsFunc_95 program_right_1 x.1=runC lp jn (ctxT tabs lits (ctxOf prog shs inls its [(96,⟨[T27],[],[],.one .bool,fun x _ _=>program_right_1 x.1⟩),(95,⟨[(.sl T27)],[([T27],.bool)],[],.one .bool,fun x F _=>slices_ContainsFunc_95 x.1 F.1⟩)] [(24,r24),(22,r22)])) hints 4 46 f46 c46 x F y:=fun x F y=>by kernel_rfl
theorem l46:(ctxT tabs lits (ctxOf prog shs inls its [(96,c96),(95,c95)] [(24,r24),(22,r22)])).ok:=ctxT_ok (ctxOf_cons (ctxOf_cons (q24) (by kernel_rfl) ok95) (by kernel_rfl) ok96)
theorem ok46:c46.ok prog 46:=Ctr.of_den l46 hmix (hl:=hints) (d:=4) func46 rfl (by decide) (e46 lpK jnK slices_ContainsFunc_95 program_right_1)
noncomputable def bits_Mul64_b (_:Lp) (_:Jn) (x0:Int) (x1:Int):Option (Int×Int×Unit) :=
 
 let v4:Int:=(2:Int) ^ (32:Nat);
 let v5:Int:=Int.fdiv x0 v4;
 let v6:Int:=Int.fdiv x1 v4;
 let v7:Bool:=decide ((0:Int)≤(32:Int));
 let v8:Int:=IntKind.wrap .u64 (↑(Nat.land (Int.toNat (x1 % Int.ofNat (18446744073709551616:Nat))) (Int.toNat ((4294967295:Int) % Int.ofNat (18446744073709551616:Nat)))) :
  Int);
 let v9:Int:=IntKind.wrap .u64 (↑(Nat.land (Int.toNat (x0 % Int.ofNat (18446744073709551616:Nat))) (Int.toNat ((4294967295:Int) % Int.ofNat (18446744073709551616:Nat)))) :
  Int);
 let v10:Int:=IntKind.wrap .u64 (IntKind.wrap .u64 (v5*v8)+Int.fdiv (IntKind.wrap .u64 (v9*v8)) v4);bif v7 then bif v7 then bif v7 then bif v7 then bif v7
  then some (IntKind.wrap .u64 (IntKind.wrap .u64 (IntKind.wrap .u64 (v5*v6)+Int.fdiv v10 v4)+Int.fdiv (IntKind.wrap .u64 (IntKind.wrap .u64
  (↑(Nat.land (Int.toNat (v10 % Int.ofNat (18446744073709551616:Nat))) (Int.toNat ((4294967295:Int) % Int.ofNat (18446744073709551616:Nat)))):Int)+IntKind.wrap .u64 (v9 *
  v6))) v4),IntKind.wrap .u64 (x0*x1),PUnit.unit) else none else none else none else none else none
noncomputable def bits_Mul64 (x0:Int) (x1:Int):Option (Int×Int×Unit):=bits_Mul64_b lpK jnK x0 x1
noncomputable def c113:Ctr:=⟨[(.int .u64),(.int .u64)],[],[],.tup [(.int .u64),(.int .u64)],fun x _ _=>bits_Mul64 x.1 x.2.1⟩
theorem e113 (lp:Lp) (jn:Jn):∀(x:TsS c113.as) (F:TsF c113.fs) (y:TsS c113.cs),bits_Mul64_b lp jn x.1 x.2.1=runC lp jn (ctxT tabs lits (ctxOf prog shs inls its [] [(24,r24),(22,r22)])) hints 4 113 f113 c113 x F y:=fun x F y=>by kernel_rfl
theorem l113:(ctxT tabs lits (ctxOf prog shs inls its [] [(24,r24),(22,r22)])).ok:=ctxT_ok (q24)
theorem ok113:c113.ok prog 113:=Ctr.of_den l113 hmix (hl:=hints) (d:=4) func113 rfl (by decide) (e113 lpK jnK)
noncomputable def ratio_product_b (_:Lp) (_:Jn) (bits_Mul64:(Int)→(Int)→Option (Int×Int×Unit)) (x0:Int) (x1:Int):Option (Int×Int) :=
 obind (bits_Mul64 x0 x1) fun (t:Int×Int×PUnit)=>some (t.1,t.2.1)
noncomputable def ratio_product (x0:Int) (x1:Int):Option (Int×Int):=ratio_product_b lpK jnK bits_Mul64 x0 x1
noncomputable def c68:Ctr:=⟨[(.int .u64),(.int .u64)],[],[],.one T96,fun x _ _=>ratio_product x.1 x.2.1⟩
theorem e68 (lp:Lp) (jn:Jn) (bits_Mul64:(Int)→(Int)→Option (Int×Int×Unit)):∀(x:TsS c68.as) (F:TsF c68.fs) (y:TsS c68.cs),ratio_product_b lp jn bits_Mul64 x.1 x.2.1=runC lp jn (ctxT tabs lits (ctxOf prog shs inls its [(113,⟨[(.int .u64),(.int .u64)],[],[],.tup [(.int .u64),(.int .u64)],fun x _ _=>bits_Mul64 x.1 x.2.1⟩)] [(24,r24),(22,r22)])) hints 4 68 f68 c68 x F y:=fun x F y=>by kernel_rfl
theorem l68:(ctxT tabs lits (ctxOf prog shs inls its [(113,c113)] [(24,r24),(22,r22)])).ok:=ctxT_ok (ctxOf_cons (q24) (by kernel_rfl) ok113)
theorem ok68:c68.ok prog 68:=Ctr.of_den l68 hmix (hl:=hints) (d:=4) func68 rfl (by decide) (e68 lpK jnK bits_Mul64)
noncomputable def ratio_less_b (_:Lp) (_:Jn) (x0:Int×Int) (x1:Int×Int):Option Bool :=
 
 let v4:Bool:=decide (x0.1=x1.1);
 let v5:Bool:=decide (x0.1<x1.1);
 let v6:Bool:=!v5;
 let v7:Bool:=!v6;
 let v8:Bool:=v6&&v4;
 let v9:Bool:=v7||v6;
 let v10:Bool:=!v8||v8;bif v9 then bif v9 then bif v9&&v9 then bif v9 then bif v10 then bif v10 then bif v10&&v10 then bif (v7||v9)&&(v7||(!v4||(v7||v8))) then bif v5
  || v6 then some (bif v5 then true else bif v4 then decide (x0.2<x1.2) else false) else none else none else none else none else none else none else none else none else none
noncomputable def ratio_less (x0:Int×Int) (x1:Int×Int):Option Bool:=ratio_less_b lpK jnK x0 x1
noncomputable def c70:Ctr:=⟨[T96,T96],[],[],.one .bool,fun x _ _=>ratio_less x.1 x.2.1⟩
theorem e70 (lp:Lp) (jn:Jn):∀(x:TsS c70.as) (F:TsF c70.fs) (y:TsS c70.cs),ratio_less_b lp jn x.1 x.2.1=runC lp jn (ctxT tabs lits (ctxOf prog shs inls its [] [(24,r24),(22,r22)])) hints 4 70 f70 c70 x F y:=fun x F y=>by kernel_rfl
theorem l70:(ctxT tabs lits (ctxOf prog shs inls its [] [(24,r24),(22,r22)])).ok:=ctxT_ok (q24)
theorem ok70:c70.ok prog 70:=Ctr.of_den l70 hmix (hl:=hints) (d:=4) func70 rfl (by decide) (e70 lpK jnK)
noncomputable def ratio_plus_b (_:Lp) (_:Jn) (x0:Int×Int) (x1:Int×Int):Option (Int×Int) :=
 bif decide ((0:Int)≤(0:Int))&&decide ((0:Int)≤(1:Int)) then bif decide ((0:Int)≤addC x0.2 x1.2 (0:Int))&&decide (addC x0.2 x1.2 (0:Int)≤(1:Int)) then
  some (addO x0.1 x1.1 (addC x0.2 x1.2 (0:Int)),addO x0.2 x1.2 (0:Int)) else none else none
noncomputable def ratio_plus (x0:Int×Int) (x1:Int×Int):Option (Int×Int):=ratio_plus_b lpK jnK x0 x1
noncomputable def c89:Ctr:=⟨[T96,T96],[],[],.one T96,fun x _ _=>ratio_plus x.1 x.2.1⟩
theorem e89 (lp:Lp) (jn:Jn):∀(x:TsS c89.as) (F:TsF c89.fs) (y:TsS c89.cs),ratio_plus_b lp jn x.1 x.2.1=runC lp jn (ctxT tabs lits (ctxOf prog shs inls its [] [(24,r24),(22,r22)])) hints 4 89 f89 c89 x F y:=fun x F y=>by kernel_rfl
theorem l89:(ctxT tabs lits (ctxOf prog shs inls its [] [(24,r24),(22,r22)])).ok:=ctxT_ok (q24)
theorem ok89:c89.ok prog 89:=Ctr.of_den l89 hmix (hl:=hints) (d:=4) func89 rfl (by decide) (e89 lpK jnK)
noncomputable def ratio_minus_b (_:Lp) (_:Jn) (x0:Int×Int) (x1:Int×Int):Option (Int×Int) :=
 bif decide ((0:Int)≤(0:Int))&&decide ((0:Int)≤(1:Int)) then bif decide ((0:Int)≤subC x0.2 x1.2 (0:Int))&&decide (subC x0.2 x1.2 (0:Int)≤(1:Int)) then
  some (subO x0.1 x1.1 (subC x0.2 x1.2 (0:Int)),subO x0.2 x1.2 (0:Int)) else none else none
noncomputable def ratio_minus (x0:Int×Int) (x1:Int×Int):Option (Int×Int):=ratio_minus_b lpK jnK x0 x1
noncomputable def c90:Ctr:=⟨[T96,T96],[],[],.one T96,fun x _ _=>ratio_minus x.1 x.2.1⟩
theorem e90 (lp:Lp) (jn:Jn):∀(x:TsS c90.as) (F:TsF c90.fs) (y:TsS c90.cs),ratio_minus_b lp jn x.1 x.2.1=runC lp jn (ctxT tabs lits (ctxOf prog shs inls its [] [(24,r24),(22,r22)])) hints 4 90 f90 c90 x F y:=fun x F y=>by kernel_rfl
theorem l90:(ctxT tabs lits (ctxOf prog shs inls its [] [(24,r24),(22,r22)])).ok:=ctxT_ok (q24)
theorem ok90:c90.ok prog 90:=Ctr.of_den l90 hmix (hl:=hints) (d:=4) func90 rfl (by decide) (e90 lpK jnK)
noncomputable def bits_Len64_b (_:Lp) (jn:Jn) (x0:Int):Option Int :=
 jn (Int×Int×PUnit) Int (fun (x:Int×Int×PUnit)=>jn (Int×Int×PUnit) Int (fun (x:Int×Int×PUnit) =>
 let v5:Int:=IntKind.wrap IntKind.u8 x.1;
 let v6:Int:=IntKind.wrap IntKind.u8 (Int.fdiv x.1 ((2:Int) ^ (8:Nat)));bif decide (x.1≥(256:Int)) then bif decide ((0:Int)≤(8:Int)) then bif inB v6 (256:Nat) then
  some (IntKind.wrap .i64 (IntKind.wrap .i64 (x.2.1+(8:Int))+IntKind.wrap .i64 (byteAt { data:=List.toArray (List.append (List.append [(0:UInt8),(1 :
  UInt8),(2:UInt8),(2:UInt8),(3:UInt8),(3:UInt8),(3:UInt8),(3:UInt8),(4:UInt8),(4:UInt8),(4:UInt8),(4:UInt8),(4:UInt8),(4:UInt8),(4:UInt8),(4 :
  UInt8),(5:UInt8),(5:UInt8),(5:UInt8),(5:UInt8),(5:UInt8),(5:UInt8),(5:UInt8),(5:UInt8),(5:UInt8),(5:UInt8),(5:UInt8),(5:UInt8),(5:UInt8),(5 :
  UInt8),(5:UInt8),(5:UInt8),(6:UInt8),(6:UInt8),(6:UInt8),(6:UInt8),(6:UInt8),(6:UInt8),(6:UInt8),(6:UInt8),(6:UInt8),(6:UInt8),(6:UInt8),(6 :
  UInt8),(6:UInt8),(6:UInt8),(6:UInt8),(6:UInt8),(6:UInt8),(6:UInt8),(6:UInt8),(6:UInt8),(6:UInt8),(6:UInt8),(6:UInt8),(6:UInt8),(6:UInt8),(6 :
  UInt8),(6:UInt8),(6:UInt8),(6:UInt8),(6:UInt8),(6:UInt8),(6:UInt8)] [(7:UInt8),(7:UInt8),(7:UInt8),(7:UInt8),(7:UInt8),(7:UInt8),(7:UInt8),(7 :
  UInt8),(7:UInt8),(7:UInt8),(7:UInt8),(7:UInt8),(7:UInt8),(7:UInt8),(7:UInt8),(7:UInt8),(7:UInt8),(7:UInt8),(7:UInt8),(7:UInt8),(7:UInt8),(7 :
  UInt8),(7:UInt8),(7:UInt8),(7:UInt8),(7:UInt8),(7:UInt8),(7:UInt8),(7:UInt8),(7:UInt8),(7:UInt8),(7:UInt8),(7:UInt8),(7:UInt8),(7:UInt8),(7 :
  UInt8),(7:UInt8),(7:UInt8),(7:UInt8),(7:UInt8),(7:UInt8),(7:UInt8),(7:UInt8),(7:UInt8),(7:UInt8),(7:UInt8),(7:UInt8),(7:UInt8),(7:UInt8),(7 :
  UInt8),(7:UInt8),(7:UInt8),(7:UInt8),(7:UInt8),(7:UInt8),(7:UInt8),(7:UInt8),(7:UInt8),(7:UInt8),(7:UInt8),(7:UInt8),(7:UInt8),(7:UInt8),(7 :
  UInt8)]) (List.append [(8:UInt8),(8:UInt8),(8:UInt8),(8:UInt8),(8:UInt8),(8:UInt8),(8:UInt8),(8:UInt8),(8:UInt8),(8:UInt8),(8:UInt8),(8:UInt8),(8 :
  UInt8),(8:UInt8),(8:UInt8),(8:UInt8),(8:UInt8),(8:UInt8),(8:UInt8),(8:UInt8),(8:UInt8),(8:UInt8),(8:UInt8),(8:UInt8),(8:UInt8),(8:UInt8),(8 :
  UInt8),(8:UInt8),(8:UInt8),(8:UInt8),(8:UInt8),(8:UInt8),(8:UInt8),(8:UInt8),(8:UInt8),(8:UInt8),(8:UInt8),(8:UInt8),(8:UInt8),(8:UInt8),(8 :
  UInt8),(8:UInt8),(8:UInt8),(8:UInt8),(8:UInt8),(8:UInt8),(8:UInt8),(8:UInt8),(8:UInt8),(8:UInt8),(8:UInt8),(8:UInt8),(8:UInt8),(8:UInt8),(8 :
  UInt8),(8:UInt8),(8:UInt8),(8:UInt8),(8:UInt8),(8:UInt8),(8:UInt8),(8:UInt8),(8:UInt8),(8:UInt8)] [(8:UInt8),(8:UInt8),(8:UInt8),(8:UInt8),(8 :
  UInt8),(8:UInt8),(8:UInt8),(8:UInt8),(8:UInt8),(8:UInt8),(8:UInt8),(8:UInt8),(8:UInt8),(8:UInt8),(8:UInt8),(8:UInt8),(8:UInt8),(8:UInt8),(8 :
  UInt8),(8:UInt8),(8:UInt8),(8:UInt8),(8:UInt8),(8:UInt8),(8:UInt8),(8:UInt8),(8:UInt8),(8:UInt8),(8:UInt8),(8:UInt8),(8:UInt8),(8:UInt8),(8 :
  UInt8),(8:UInt8),(8:UInt8),(8:UInt8),(8:UInt8),(8:UInt8),(8:UInt8),(8:UInt8),(8:UInt8),(8:UInt8),(8:UInt8),(8:UInt8),(8:UInt8),(8:UInt8),(8 :
  UInt8),(8:UInt8),(8:UInt8),(8:UInt8),(8:UInt8),(8:UInt8),(8:UInt8),(8:UInt8),(8:UInt8),(8:UInt8),(8:UInt8),(8:UInt8),(8:UInt8),(8:UInt8),(8 :
  UInt8),(8:UInt8),(8:UInt8),(8:UInt8)])) } (Int.toNat v6)))) else none else none else bif inB v5 (256:Nat) then some (IntKind.wrap .i64 (x.2.1+IntKind.wrap
  IntKind.i64 (byteAt { data:=List.toArray (List.append (List.append [(0:UInt8),(1:UInt8),(2:UInt8),(2:UInt8),(3:UInt8),(3:UInt8),(3:UInt8),(3:UInt8),(4 :
  UInt8),(4:UInt8),(4:UInt8),(4:UInt8),(4:UInt8),(4:UInt8),(4:UInt8),(4:UInt8),(5:UInt8),(5:UInt8),(5:UInt8),(5:UInt8),(5:UInt8),(5:UInt8),(5 :
  UInt8),(5:UInt8),(5:UInt8),(5:UInt8),(5:UInt8),(5:UInt8),(5:UInt8),(5:UInt8),(5:UInt8),(5:UInt8),(6:UInt8),(6:UInt8),(6:UInt8),(6:UInt8),(6 :
  UInt8),(6:UInt8),(6:UInt8),(6:UInt8),(6:UInt8),(6:UInt8),(6:UInt8),(6:UInt8),(6:UInt8),(6:UInt8),(6:UInt8),(6:UInt8),(6:UInt8),(6:UInt8),(6 :
  UInt8),(6:UInt8),(6:UInt8),(6:UInt8),(6:UInt8),(6:UInt8),(6:UInt8),(6:UInt8),(6:UInt8),(6:UInt8),(6:UInt8),(6:UInt8),(6:UInt8),(6:UInt8)] [(7 :
  UInt8),(7:UInt8),(7:UInt8),(7:UInt8),(7:UInt8),(7:UInt8),(7:UInt8),(7:UInt8),(7:UInt8),(7:UInt8),(7:UInt8),(7:UInt8),(7:UInt8),(7:UInt8),(7 :
  UInt8),(7:UInt8),(7:UInt8),(7:UInt8),(7:UInt8),(7:UInt8),(7:UInt8),(7:UInt8),(7:UInt8),(7:UInt8),(7:UInt8),(7:UInt8),(7:UInt8),(7:UInt8),(7 :
  UInt8),(7:UInt8),(7:UInt8),(7:UInt8),(7:UInt8),(7:UInt8),(7:UInt8),(7:UInt8),(7:UInt8),(7:UInt8),(7:UInt8),(7:UInt8),(7:UInt8),(7:UInt8),(7 :
  UInt8),(7:UInt8),(7:UInt8),(7:UInt8),(7:UInt8),(7:UInt8),(7:UInt8),(7:UInt8),(7:UInt8),(7:UInt8),(7:UInt8),(7:UInt8),(7:UInt8),(7:UInt8),(7 :
  UInt8),(7:UInt8),(7:UInt8),(7:UInt8),(7:UInt8),(7:UInt8),(7:UInt8),(7:UInt8)]) (List.append [(8:UInt8),(8:UInt8),(8:UInt8),(8:UInt8),(8:UInt8),(8 :
  UInt8),(8:UInt8),(8:UInt8),(8:UInt8),(8:UInt8),(8:UInt8),(8:UInt8),(8:UInt8),(8:UInt8),(8:UInt8),(8:UInt8),(8:UInt8),(8:UInt8),(8:UInt8),(8 :
  UInt8),(8:UInt8),(8:UInt8),(8:UInt8),(8:UInt8),(8:UInt8),(8:UInt8),(8:UInt8),(8:UInt8),(8:UInt8),(8:UInt8),(8:UInt8),(8:UInt8),(8:UInt8),(8 :
  UInt8),(8:UInt8),(8:UInt8),(8:UInt8),(8:UInt8),(8:UInt8),(8:UInt8),(8:UInt8),(8:UInt8),(8:UInt8),(8:UInt8),(8:UInt8),(8:UInt8),(8:UInt8),(8 :
  UInt8),(8:UInt8),(8:UInt8),(8:UInt8),(8:UInt8),(8:UInt8),(8:UInt8),(8:UInt8),(8:UInt8),(8:UInt8),(8:UInt8),(8:UInt8),(8:UInt8),(8:UInt8),(8 :
  UInt8),(8:UInt8),(8:UInt8)] [(8:UInt8),(8:UInt8),(8:UInt8),(8:UInt8),(8:UInt8),(8:UInt8),(8:UInt8),(8:UInt8),(8:UInt8),(8:UInt8),(8:UInt8),(8 :
  UInt8),(8:UInt8),(8:UInt8),(8:UInt8),(8:UInt8),(8:UInt8),(8:UInt8),(8:UInt8),(8:UInt8),(8:UInt8),(8:UInt8),(8:UInt8),(8:UInt8),(8:UInt8),(8 :
  UInt8),(8:UInt8),(8:UInt8),(8:UInt8),(8:UInt8),(8:UInt8),(8:UInt8),(8:UInt8),(8:UInt8),(8:UInt8),(8:UInt8),(8:UInt8),(8:UInt8),(8:UInt8),(8 :
  UInt8),(8:UInt8),(8:UInt8),(8:UInt8),(8:UInt8),(8:UInt8),(8:UInt8),(8:UInt8),(8:UInt8),(8:UInt8),(8:UInt8),(8:UInt8),(8:UInt8),(8:UInt8),(8 :
  UInt8),(8:UInt8),(8:UInt8),(8:UInt8),(8:UInt8),(8:UInt8),(8:UInt8),(8:UInt8),(8:UInt8),(8:UInt8),(8:UInt8)])) } (Int.toNat v5)))) else none) fun (j:Int ×
  Int×PUnit→Option Int)=>bif decide (x.1≥(65536:Int)) then bif decide ((0:Int)≤(16:Int)) then j (Int.fdiv x.1 ((2:Int) ^ (16:Nat)),IntKind.wrap .i64
  (x.2.1+(16:Int)),PUnit.unit) else none else j (x.1,x.2.1,PUnit.unit)) fun (j:Int×Int×PUnit→Option Int)=>bif decide (x0≥(4294967296:Int)) then bif decide
  ((0:Int)≤(32:Int)) then j (Int.fdiv x0 ((2:Int) ^ (32:Nat)),(32:Int),PUnit.unit) else none else j (x0,(0:Int),PUnit.unit)
noncomputable def bits_Len64 (x0:Int):Option Int:=bits_Len64_b lpK jnK x0
noncomputable def c130:Ctr:=⟨[(.int .u64)],[],[],.one i64,fun x _ _=>bits_Len64 x.1⟩
theorem e130 (lp:Lp) (jn:Jn):∀(x:TsS c130.as) (F:TsF c130.fs) (y:TsS c130.cs),bits_Len64_b lp jn x.1=runC lp jn (ctxT tabs lits (ctxOf prog shs inls its [] [(24,r24),(22,r22)])) hints 4 130 f130 c130 x F y:=fun x F y=>by kernel_rfl
theorem l130:(ctxT tabs lits (ctxOf prog shs inls its [] [(24,r24),(22,r22)])).ok:=ctxT_ok (q24)
theorem ok130:c130.ok prog 130:=Ctr.of_den l130 hmix (hl:=hints) (d:=4) func130 rfl (by decide) (e130 lpK jnK)
noncomputable def bits_LeadingZeros64_b (_:Lp) (_:Jn) (bits_Len64:(Int)→Option (Int)) (x0:Int):Option Int :=
 obind (bits_Len64 x0) fun (t:Int)=>some (IntKind.wrap .i64 ((64:Int) - t))
noncomputable def bits_LeadingZeros64 (x0:Int):Option Int:=bits_LeadingZeros64_b lpK jnK bits_Len64 x0
noncomputable def c128:Ctr:=⟨[(.int .u64)],[],[],.one i64,fun x _ _=>bits_LeadingZeros64 x.1⟩
theorem e128 (lp:Lp) (jn:Jn) (bits_Len64:(Int)→Option (Int)):∀(x:TsS c128.as) (F:TsF c128.fs) (y:TsS c128.cs),bits_LeadingZeros64_b lp jn bits_Len64 x.1=runC lp jn (ctxT tabs lits (ctxOf prog shs inls its [(130,⟨[(.int .u64)],[],[],.one i64,fun x _ _=>bits_Len64 x.1⟩)] [(24,r24),(22,r22)])) hints 4 128 f128 c128 x F y:=fun x F y=>by kernel_rfl
theorem l128:(ctxT tabs lits (ctxOf prog shs inls its [(130,c130)] [(24,r24),(22,r22)])).ok:=ctxT_ok (ctxOf_cons (q24) (by kernel_rfl) ok130)
theorem ok128:c128.ok prog 128:=Ctr.of_den l128 hmix (hl:=hints) (d:=4) func128 rfl (by decide) (e128 lpK jnK bits_Len64)
noncomputable def bits_Div64_b (lp:Lp) (jn:Jn) (bits_LeadingZeros64:(Int)→Option (Int)) (x0:Int) (x1:Int) (x2:Int):Option (Int×Int×Unit) :=
 
 let v5:Bool:=nzB x2;
 let v6:Int:=(2:Int) ^ (32:Nat);
 let v7:Bool:=decide ((0:Int)≤(32:Int));jn PUnit (Int×Int×PUnit) (fun (_:PUnit)=>jn PUnit (Int×Int×PUnit) (fun (_:PUnit)=>bif decide (x0=(0:Int)) then bif v5
  then bif v5 then some (IntKind.wrap .u64 (Int.tdiv x1 x2),Int.tmod x1 x2,PUnit.unit) else none else none else obind (bits_LeadingZeros64 x2) fun (t:Int) =>
 let v11:Int:=IntKind.wrap .u64 t;
 let v12:Bool:=decide ((0:Int)≤v11);
 let v13:Int:=(2:Int) ^ min (Int.toNat v11) (64:Nat);
 let v14:Int:=IntKind.wrap .u64 (x2*v13);
 let v15:Int:=IntKind.wrap .u64 (x1*v13);
 let v16:Int:=Int.fdiv v14 v6;
 let v17:Int:=Int.fdiv v15 v6;
 let v18:Bool:=nzB v16;
 let v19:Int:=IntKind.wrap .u64 (↑(Nat.land (Int.toNat (v15 % Int.ofNat (18446744073709551616:Nat))) (Int.toNat ((4294967295:Int) % Int.ofNat (18446744073709551616:Nat))))
  : Int);
 let v20:Int:=IntKind.wrap .u64 (↑(Nat.land (Int.toNat (v14 % Int.ofNat (18446744073709551616:Nat))) (Int.toNat ((4294967295:Int) % Int.ofNat (18446744073709551616:Nat))))
  : Int);
 let v21:Int:=IntKind.wrap .u64 (↑(Nat.lor (Int.toNat (IntKind.wrap .u64 (x0*v13) % Int.ofNat (18446744073709551616:Nat))) (Int.toNat (Int.fdiv x1 ((2:Int) ^ min
  (Int.toNat (IntKind.wrap .u64 ((64:Int) - v11))) (64:Nat)) % Int.ofNat (18446744073709551616:Nat)))):Int);
 let v22:Int:=IntKind.wrap .u64 (Int.tdiv v21 v16);bif v12 then bif v7 then bif v12 then bif decide ((0:Int)≤IntKind.wrap .u64 ((64:Int) - v11)) then bif v12 then
  bif v7 then bif v18 then jn (Int×PUnit) (Int×Int×PUnit) (fun (x:Int×PUnit) =>
 let v24:Int:=IntKind.wrap .u64 (IntKind.wrap .u64 (IntKind.wrap .u64 (v21*(4294967296:Int))+v17) - IntKind.wrap .u64 (x.1*v14));
 let v25:Int:=IntKind.wrap .u64 (Int.tdiv v24 v16);bif v18 then jn (Int×PUnit) (Int×Int×PUnit) (fun (x_1:Int×PUnit)=>bif v12 then some (IntKind.wrap .u64
  (IntKind.wrap .u64 (x.1*(4294967296:Int))+x_1.1),Int.fdiv (IntKind.wrap .u64 (IntKind.wrap .u64 (IntKind.wrap .u64 (v24*(4294967296:Int)) +
  v19) - IntKind.wrap .u64 (x_1.1*v14))) v13,PUnit.unit) else none) fun (j:Int×PUnit→Option (Int×Int×PUnit))=>lp (Int×Int×PUnit) (Int×Int×PUnit) (fun
  (again:Int×Int×PUnit→Option (Int×Int×PUnit)) (x:Int×Int×PUnit) =>
 let v29:Int×PUnit:=(IntKind.wrap .u64 (x.2.1 - (1:Int)),PUnit.unit);
 let v30:Bool:=decide (x.2.1≥(4294967296:Int));
 let v31:Bool:=!v30;
 let v32:Bool:=!v31||v31;
 let v33:Bool:=v32&&v32;bif v33 then bif v32 then bif v33 then bif v33 then bif v30||v31 then bif bif v30 then true else decide (IntKind.wrap .u64 (x.2.1*v20) >
  IntKind.wrap .u64 (IntKind.wrap .u64 ((4294967296:Int)*x.1)+v19)) then bif decide (IntKind.wrap .u64 (x.1+v16)≥(4294967296:Int)) then j v29 else
  again (IntKind.wrap .u64 (x.1+v16),v29) else j (x.2.1,PUnit.unit) else none else none else none else none else none) (IntKind.wrap .u64 (v24 - IntKind.wrap
  IntKind.u64 (v25*v16)),v25,PUnit.unit) else none) fun (j:Int×PUnit→Option (Int×Int×PUnit))=>lp (Int×Int×PUnit) (Int×Int×PUnit) (fun (again:Int×Int×PUnit →
  Option (Int×Int×PUnit)) (x:Int×Int×PUnit) =>
 let v26:Int:=IntKind.wrap .u64 (x.1 - (1:Int));
 let v27:Bool:=decide (x.1≥(4294967296:Int));
 let v28:Bool:=!v27;
 let v29:Bool:=!v28||v28;
 let v30:Bool:=v29&&v29;bif v30 then bif v29 then bif v30 then bif v30 then bif v27||v28 then bif bif v27 then true else decide (IntKind.wrap .u64 (x.1*v20) >
  IntKind.wrap .u64 (IntKind.wrap .u64 ((4294967296:Int)*x.2.1)+v17)) then bif decide (IntKind.wrap .u64 (x.2.1+v16)≥(4294967296:Int)) then j
  (v26,PUnit.unit) else again (v26,IntKind.wrap .u64 (x.2.1+v16),PUnit.unit) else j (x.1,PUnit.unit) else none else none else none else none else none) (v22,
  IntKind.wrap .u64 (v21 - IntKind.wrap .u64 (v22*v16)),PUnit.unit) else none else none else none else none else none else none else none) fun (j:PUnit→Option (Int ×
  Int×PUnit))=>bif decide (x2≤x0) then none else j PUnit.unit) fun (j:PUnit→Option (Int×Int×PUnit))=>bif decide (x2=(0:Int)) then none else j PUnit.unit
noncomputable def bits_Div64 (x0:Int) (x1:Int) (x2:Int):Option (Int×Int×Unit):=bits_Div64_b lpK jnK bits_LeadingZeros64 x0 x1 x2
noncomputable def c121:Ctr:=⟨[(.int .u64),(.int .u64),(.int .u64)],[],[],.tup [(.int .u64),(.int .u64)],fun x _ _=>bits_Div64 x.1 x.2.1 x.2.2.1⟩
theorem e121 (lp:Lp) (jn:Jn) (bits_LeadingZeros64:(Int)→Option (Int)):∀(x:TsS c121.as) (F:TsF c121.fs) (y:TsS c121.cs),bits_Div64_b lp jn bits_LeadingZeros64 x.1 x.2.1 x.2.2.1=runC lp jn (ctxT tabs lits (ctxOf prog shs inls its [(128,⟨[(.int .u64)],[],[],.one i64,fun x _ _=>bits_LeadingZeros64 x.1⟩)] [(24,r24),(22,r22)])) hints 4 121 f121 c121 x F y:=fun x F y=>by kernel_rfl
theorem l121:(ctxT tabs lits (ctxOf prog shs inls its [(128,c128)] [(24,r24),(22,r22)])).ok:=ctxT_ok (ctxOf_cons (q24) (by kernel_rfl) ok128)
theorem ok121:c121.ok prog 121:=Ctr.of_den l121 hmix (hl:=hints) (d:=4) func121 rfl (by decide) (e121 lpK jnK bits_LeadingZeros64)
noncomputable def ratio_over_b (_:Lp) (_:Jn) (bits_Div64:(Int)→(Int)→(Int)→Option (Int×Int×Unit)) (x0:Int×Int) (x1:Int):Option ((Int×Int)×Int×Unit) :=
 
 let v4:Bool:=nzB x1;bif v4 then obind (bits_Div64 (Int.tmod x0.1 x1) x0.2 x1) fun (t:Int×Int×PUnit)=>bif v4 then some ((IntKind.wrap .u64 (Int.tdiv x0.1 x1),
  t.1),t.2.1,PUnit.unit) else none else none
noncomputable def ratio_over (x0:Int×Int) (x1:Int):Option ((Int×Int)×Int×Unit):=ratio_over_b lpK jnK bits_Div64 x0 x1
noncomputable def c91:Ctr:=⟨[T96,(.int .u64)],[],[],.tup [T96,(.int .u64)],fun x _ _=>ratio_over x.1 x.2.1⟩
theorem e91 (lp:Lp) (jn:Jn) (bits_Div64:(Int)→(Int)→(Int)→Option (Int×Int×Unit)):∀(x:TsS c91.as) (F:TsF c91.fs) (y:TsS c91.cs),ratio_over_b lp jn bits_Div64 x.1 x.2.1=runC lp jn (ctxT tabs lits (ctxOf prog shs inls its [(121,⟨[(.int .u64),(.int .u64),(.int .u64)],[],[],.tup [(.int .u64),(.int .u64)],fun x _ _=>bits_Div64 x.1 x.2.1 x.2.2.1⟩)] [(24,r24),(22,r22)])) hints 4 91 f91 c91 x F y:=fun x F y=>by kernel_rfl
theorem l91:(ctxT tabs lits (ctxOf prog shs inls its [(121,c121)] [(24,r24),(22,r22)])).ok:=ctxT_ok (ctxOf_cons (q24) (by kernel_rfl) ok121)
theorem ok91:c91.ok prog 91:=Ctr.of_den l91 hmix (hl:=hints) (d:=4) func91 rfl (by decide) (e91 lpK jnK bits_Div64)
noncomputable def ratio_signed_b (_:Lp) (_:Jn) (x0:Bool) (x1:Int) (x2:Int):Option ((Int×Int)×Int×Unit) :=
 
 let v5:Int:=IntKind.wrap .i64 x1;
 let v6:Int:=IntKind.wrap .i64 x2;
 let v7:Bool:=decide (x1>(1152921504606846976:Int));
 let v8:Bool:=!v7;bif !v8||v8 then bif v7||v8 then bif bif v7 then true else decide (x2>(1152921504606846976:Int)) then some (((0:Int),(0:Int)),(5:Int),PUnit.unit)
  else bif x0 then some ((IntKind.wrap .i64 ((0:Int) - v5),v6),(0:Int),PUnit.unit) else some ((v5,v6),(0:Int),PUnit.unit) else none else none
noncomputable def ratio_signed (x0:Bool) (x1:Int) (x2:Int):Option ((Int×Int)×Int×Unit):=ratio_signed_b lpK jnK x0 x1 x2
noncomputable def c92:Ctr:=⟨[.bool,(.int .u64),(.int .u64)],[],[],.tup [T27,i64],fun x _ _=>ratio_signed x.1 x.2.1 x.2.2.1⟩
theorem e92 (lp:Lp) (jn:Jn):∀(x:TsS c92.as) (F:TsF c92.fs) (y:TsS c92.cs),ratio_signed_b lp jn x.1 x.2.1 x.2.2.1=runC lp jn (ctxT tabs lits (ctxOf prog shs inls its [] [(24,r24),(22,r22)])) hints 4 92 f92 c92 x F y:=fun x F y=>by kernel_rfl
theorem l92:(ctxT tabs lits (ctxOf prog shs inls its [] [(24,r24),(22,r22)])).ok:=ctxT_ok (q24)
theorem ok92:c92.ok prog 92:=Ctr.of_den l92 hmix (hl:=hints) (d:=4) func92 rfl (by decide) (e92 lpK jnK)
noncomputable def ratio_Add_b (_:Lp) (jn:Jn) (ratio_size:(Int)→Option (Int)) (ratio_gcd:(Int)→(Int)→Option (Int)) (ratio_Valid:(Int×Int)→Option (Bool)) (ratio_product:(Int)→(Int)→Option (Int×Int)) (ratio_less:(Int×Int)→(Int×Int)→Option (Bool)) (ratio_plus:(Int×Int)→(Int×Int)→Option (Int×Int)) (ratio_minus:(Int×Int)→(Int×Int)→Option (Int×Int)) (ratio_over:(Int×Int)→(Int)→Option ((Int×Int)×Int×Unit)) (ratio_signed:(Bool)→(Int)→(Int)→Option ((Int×Int)×Int×Unit)) (x0:Int×Int) (x1:Int×Int):Option ((Int×Int)×Int×Unit) :=
 
 let v4:Int:=IntKind.wrap .u64 x0.2;
 let v5:Int:=IntKind.wrap .u64 x1.2;
 let v6:Bool:=decide (x0.1<(0:Int));obind (ratio_Valid x0) fun (t:Bool) =>
 let v8:Bool:=!t;
 let v9:Bool:=!v8;
 let v10:Bool:=!v9||v9;bif v10 then obind (bif v9 then ratio_Valid x1 else some false) fun (t:Bool)=>bif v10 then bif v8||v9 then bif bif v8 then true else !t then some (((0 :
  Int),(0:Int)),(1:Int),PUnit.unit) else obind (ratio_gcd v4 v5) fun (t:Int) =>
 let v13:Bool:=nzB t;
 let v14:Int:=IntKind.wrap .u64 (Int.tdiv v4 t);obind (ratio_size x0.1) fun (t_1:Int)=>bif v13 then obind (ratio_product t_1 (IntKind.wrap .u64 (Int.tdiv v5 t)))
  fun (t_2:Int×Int)=>obind (ratio_size x1.1) fun (t_3:Int)=>bif v13 then obind (ratio_product t_3 v14) fun (t_4:Int×Int)=>jn (Bool×(Int×Int)×PUnit) ((Int×Int) ×
  Int×PUnit) (fun (x:Bool×(Int×Int)×PUnit)=>bif decide (x.2.1.1=(0:Int))&&(decide (x.2.1.2=(0:Int))&&true) then some (((0:Int),(1:Int)),(0 :
  Int),PUnit.unit) else obind (ratio_over x.2.1 t) fun (t_5:(Int×Int)×Int×PUnit)=>obind (ratio_gcd t t_5.2.1) fun (t:Int)=>obind (ratio_over x.2.1 t) fun (t_6 :
  (Int×Int)×Int×PUnit) =>
 let v23:Bool:=decide (t_6.1.1>(0:Int));
 let v24:Bool:=!v23;
 let v25:Bool:=!v24||v24;bif v13 then bif nzB t then obind (ratio_product v14 (IntKind.wrap .u64 (Int.tdiv v5 t))) fun (t:Int×Int)=>bif v25 then bif v25 then bif v23 ||
  v24 then bif bif v23 then true else decide (t.1>(0:Int)) then some (((0:Int),(0:Int)),(5:Int),PUnit.unit) else obind (ratio_signed x.1 t_6.1.2 t.2) fun (t:(Int
  × Int)×Int×PUnit)=>some (t.1,t.2.1,PUnit.unit) else none else none else none else none else none) fun (j:Bool×(Int×Int)×PUnit→Option ((Int×Int)×Int×PUnit))
  =>bif decide (v6=decide (x1.1<(0:Int))) then obind (ratio_plus t_2 t_4) fun (t:Int×Int)=>j (v6,t,PUnit.unit) else obind (ratio_less t_2 t_4) fun (t:Bool)=>jn (Bool
  × (Int×Int)×PUnit) ((Int×Int)×Int×PUnit) (fun (x:Bool×(Int×Int)×PUnit)=>j (x.1,x.2.1,PUnit.unit)) fun (j:Bool×(Int×Int)×PUnit→Option ((Int×Int) ×
  Int×PUnit))=>bif t then obind (ratio_minus t_4 t_2) fun (t:Int×Int)=>j (!v6,t,PUnit.unit) else obind (ratio_minus t_2 t_4) fun (t:Int×Int)=>j (v6,t,PUnit.unit) else
  none else none else none else none else none
noncomputable def ratio_Add (x0:Int×Int) (x1:Int×Int):Option ((Int×Int)×Int×Unit):=ratio_Add_b lpK jnK ratio_size ratio_gcd ratio_Valid ratio_product ratio_less ratio_plus ratio_minus ratio_over ratio_signed x0 x1
noncomputable def c39:Ctr:=⟨[T27,T27],[],[],.tup [T27,i64],fun x _ _=>ratio_Add x.1 x.2.1⟩
theorem e39 (lp:Lp) (jn:Jn) (ratio_size:(Int)→Option (Int)) (ratio_gcd:(Int)→(Int)→Option (Int)) (ratio_Valid:(Int×Int)→Option (Bool)) (ratio_product:(Int)→(Int)→Option (Int×Int)) (ratio_less:(Int×Int)→(Int×Int)→Option (Bool)) (ratio_plus:(Int×Int)→(Int×Int)→Option (Int×Int)) (ratio_minus:(Int×Int)→(Int×Int)→Option (Int×Int)) (ratio_over:(Int×Int)→(Int)→Option ((Int×Int)×Int×Unit)) (ratio_signed:(Bool)→(Int)→(Int)→Option ((Int×Int)×Int×Unit)):∀(x:TsS c39.as) (F:TsF c39.fs) (y:TsS c39.cs),ratio_Add_b lp jn ratio_size ratio_gcd ratio_Valid ratio_product ratio_less ratio_plus ratio_minus ratio_over ratio_signed x.1 x.2.1=runC lp jn (ctxT tabs lits (ctxOf prog shs inls its [(92,⟨[.bool,(.int .u64),(.int .u64)],[],[],.tup [T27,i64],fun x _ _=>ratio_signed x.1 x.2.1 x.2.2.1⟩),(91,⟨[T96,(.int .u64)],[],[],.tup [T96,(.int .u64)],fun x _ _=>ratio_over x.1 x.2.1⟩),(90,⟨[T96,T96],[],[],.one T96,fun x _ _=>ratio_minus x.1 x.2.1⟩),(89,⟨[T96,T96],[],[],.one T96,fun x _ _=>ratio_plus x.1 x.2.1⟩),(70,⟨[T96,T96],[],[],.one .bool,fun x _ _=>ratio_less x.1 x.2.1⟩),(68,⟨[(.int .u64),(.int .u64)],[],[],.one T96,fun x _ _=>ratio_product x.1 x.2.1⟩),(45,⟨[T27],[],[],.one .bool,fun x _ _=>ratio_Valid x.1⟩),(88,⟨[(.int .u64),(.int .u64)],[],[],.one (.int .u64),fun x _ _=>ratio_gcd x.1 x.2.1⟩),(69,⟨[i64],[],[],.one (.int .u64),fun x _ _=>ratio_size x.1⟩)] [(24,r24),(22,r22)])) hints 4 39 f39 c39 x F y:=fun x F y=>by kernel_rfl
theorem l39:(ctxT tabs lits (ctxOf prog shs inls its [(92,c92),(91,c91),(90,c90),(89,c89),(70,c70),(68,c68),(45,c45),(88,c88),(69,c69)] [(24,r24),(22,r22)])).ok:=ctxT_ok (ctxOf_cons (ctxOf_cons (ctxOf_cons (ctxOf_cons (ctxOf_cons (ctxOf_cons (ctxOf_cons (ctxOf_cons (ctxOf_cons (q24) (by kernel_rfl) ok69) (by kernel_rfl) ok88) (by kernel_rfl) ok45) (by kernel_rfl) ok68) (by kernel_rfl) ok70) (by kernel_rfl) ok89) (by kernel_rfl) ok90) (by kernel_rfl) ok91) (by kernel_rfl) ok92)
theorem ok39:c39.ok prog 39:=Ctr.of_den l39 hmix (hl:=hints) (d:=4) func39 rfl (by decide) (e39 lpK jnK ratio_size ratio_gcd ratio_Valid ratio_product ratio_less ratio_plus ratio_minus ratio_over ratio_signed)
noncomputable def ratio_Mul_b (_:Lp) (_:Jn) (ratio_size:(Int)→Option (Int)) (ratio_gcd:(Int)→(Int)→Option (Int)) (ratio_Valid:(Int×Int)→Option (Bool)) (ratio_product:(Int)→(Int)→Option (Int×Int)) (ratio_signed:(Bool)→(Int)→(Int)→Option ((Int×Int)×Int×Unit)) (x0:Int×Int) (x1:Int×Int):Option ((Int×Int)×Int×Unit) :=
 
 let v4:Int:=IntKind.wrap .u64 x1.2;
 let v5:Int:=IntKind.wrap .u64 x0.2;obind (ratio_Valid x0) fun (t:Bool) =>
 let v7:Bool:=!t;
 let v8:Bool:=!v7;
 let v9:Bool:=!v8||v8;bif v9 then obind (bif v8 then ratio_Valid x1 else some false) fun (t:Bool)=>bif v9 then bif v7||v8 then bif bif v7 then true else !t then some (((0 :
  Int),(0:Int)),(1:Int),PUnit.unit) else obind (ratio_size x0.1) fun (t:Int)=>obind (ratio_gcd t v4) fun (t:Int) =>
 let v13:Bool:=nzB t;obind (ratio_size x1.1) fun (t_1:Int)=>obind (ratio_gcd t_1 v5) fun (t_2:Int) =>
 let v16:Bool:=nzB t_2;obind (ratio_size x0.1) fun (t_3:Int)=>bif v13 then obind (ratio_size x1.1) fun (t_4:Int)=>bif v16 then obind (ratio_product (IntKind.wrap
  IntKind.u64 (Int.tdiv t_3 t)) (IntKind.wrap .u64 (Int.tdiv t_4 t_2))) fun (t_5:Int×Int) =>
 let v20:Bool:=decide (t_5.1>(0:Int));
 let v21:Bool:=decide (t_5.2>(0:Int));
 let v22:Bool:=!v20;
 let v23:Bool:=!v21||v21;
 let v24:Bool:=!v22||v22;bif v16 then bif v13 then obind (ratio_product (IntKind.wrap .u64 (Int.tdiv v5 t_2)) (IntKind.wrap .u64 (Int.tdiv v4 t))) fun (t:Int×Int)
  =>bif v24 then bif v24 then bif v20||v22 then bif bif v20 then true else decide (t.1>(0:Int)) then some (((0:Int),(0:Int)),(5:Int),PUnit.unit) else bif v23 then bif
  v23 then bif v23 then bif v23 then bif v23&&v23 then bif v23 then obind (ratio_signed (bif v21 then !decide (decide (x0.1<(0:Int))=decide (x1.1<(0:Int))) else false)
  t_5.2 t.2) fun (t:(Int×Int)×Int×PUnit)=>some (t.1,t.2.1,PUnit.unit) else none else none else none else none else none else none else none else none else none else
  none else none else none else none else none else none else none
noncomputable def ratio_Mul (x0:Int×Int) (x1:Int×Int):Option ((Int×Int)×Int×Unit):=ratio_Mul_b lpK jnK ratio_size ratio_gcd ratio_Valid ratio_product ratio_signed x0 x1
noncomputable def c99:Ctr:=⟨[T27,T27],[],[],.tup [T27,i64],fun x _ _=>ratio_Mul x.1 x.2.1⟩
theorem e99 (lp:Lp) (jn:Jn) (ratio_size:(Int)→Option (Int)) (ratio_gcd:(Int)→(Int)→Option (Int)) (ratio_Valid:(Int×Int)→Option (Bool)) (ratio_product:(Int)→(Int)→Option (Int×Int)) (ratio_signed:(Bool)→(Int)→(Int)→Option ((Int×Int)×Int×Unit)):∀(x:TsS c99.as) (F:TsF c99.fs) (y:TsS c99.cs),ratio_Mul_b lp jn ratio_size ratio_gcd ratio_Valid ratio_product ratio_signed x.1 x.2.1=runC lp jn (ctxT tabs lits (ctxOf prog shs inls its [(92,⟨[.bool,(.int .u64),(.int .u64)],[],[],.tup [T27,i64],fun x _ _=>ratio_signed x.1 x.2.1 x.2.2.1⟩),(68,⟨[(.int .u64),(.int .u64)],[],[],.one T96,fun x _ _=>ratio_product x.1 x.2.1⟩),(45,⟨[T27],[],[],.one .bool,fun x _ _=>ratio_Valid x.1⟩),(88,⟨[(.int .u64),(.int .u64)],[],[],.one (.int .u64),fun x _ _=>ratio_gcd x.1 x.2.1⟩),(69,⟨[i64],[],[],.one (.int .u64),fun x _ _=>ratio_size x.1⟩)] [(24,r24),(22,r22)])) hints 4 99 f99 c99 x F y:=fun x F y=>by kernel_rfl
theorem l99:(ctxT tabs lits (ctxOf prog shs inls its [(92,c92),(68,c68),(45,c45),(88,c88),(69,c69)] [(24,r24),(22,r22)])).ok:=ctxT_ok (ctxOf_cons (ctxOf_cons (ctxOf_cons (ctxOf_cons (ctxOf_cons (q24) (by kernel_rfl) ok69) (by kernel_rfl) ok88) (by kernel_rfl) ok45) (by kernel_rfl) ok68) (by kernel_rfl) ok92)
theorem ok99:c99.ok prog 99:=Ctr.of_den l99 hmix (hl:=hints) (d:=4) func99 rfl (by decide) (e99 lpK jnK ratio_size ratio_gcd ratio_Valid ratio_product ratio_signed)
noncomputable def program_sums_of_b (lp:Lp) (jn:Jn) (ratio_Add:(Int×Int)→(Int×Int)→Option ((Int×Int)×Int×Unit)) (ratio_Mul:(Int×Int)→(Int×Int)→Option ((Int×Int)×Int×Unit)) (x0:Int) (x1:List Int) (x2:List (Int×Int)):Option (Int×(Int×Int)) :=
 lp (Int×Int×(Int×Int)×(Int×Int)×PUnit) (Int×Int×Int) (fun (again:Int×Int×(Int×Int)×(Int×Int)×PUnit→Option (Int×Int×Int)) (x:Int×Int×(Int×Int) ×
  (Int×Int)×PUnit)=>bif decide (x.1<(↑(List.length x1):Int)) then bif inB x.1 (List.length x1) then bif inB x.1 (List.length x2) then obind (ratio_Mul (List.getD x1
  (Int.toNat x.1) (0:Int),(1:Int)) (List.getD x2 (Int.toNat x.1) ((0:Int),(0:Int)))) fun (t:(Int×Int)×Int×PUnit)=>jn (Int×(Int×Int)×PUnit) (Int×Int×Int)
  (fun (x_1:Int×(Int×Int)×PUnit)=>bif !decide (x_1.1=(0:Int)) then some (x_1.1,(0:Int),(1:Int)) else again (IntKind.wrap .i64 (x.1+(1:Int)),
  x.2.1,x.2.2.1,x_1.2.1,PUnit.unit)) fun (j:Int×(Int×Int)×PUnit→Option (Int×Int×Int))=>bif decide (t.2.1=(0:Int)) then obind (ratio_Add
  x.2.2.2.1 t.1) fun (t:(Int×Int)×Int×PUnit)=>j (t.2.1,t.1,PUnit.unit) else j (t.2.1,t.1,PUnit.unit) else none else none else some (x.2.1,
  x.2.2.2.1)) ((0:Int),x0,((0:Int),(0:Int)),((0:Int),(1:Int)),PUnit.unit)
noncomputable def program_sums_of (x0:Int) (x1:List Int) (x2:List (Int×Int)):Option (Int×(Int×Int)):=program_sums_of_b lpK jnK ratio_Add ratio_Mul x0 x1 x2
noncomputable def m48:MCtr:=⟨T75,[(.sl i64),(.sl T27)],.one T27,fun x y=>program_sums_of x y.1 y.2.1⟩
theorem e48 (lp:Lp) (jn:Jn) (ratio_Add:(Int×Int)→(Int×Int)→Option ((Int×Int)×Int×Unit)) (ratio_Mul:(Int×Int)→(Int×Int)→Option ((Int×Int)×Int×Unit)):∀(x:m48.s.T) (y:TsS m48.as),program_sums_of_b lp jn ratio_Add ratio_Mul x y.1 y.2.1=runM lp jn (ctxT tabs lits (ctxOf prog shs inls its [(99,⟨[T27,T27],[],[],.tup [T27,i64],fun x _ _=>ratio_Mul x.1 x.2.1⟩),(39,⟨[T27,T27],[],[],.tup [T27,i64],fun x _ _=>ratio_Add x.1 x.2.1⟩)] [(24,r24),(22,r22)])) hints 4 48 f48 m48 x y:=fun x y=>by kernel_rfl
theorem l48:(ctxT tabs lits (ctxOf prog shs inls its [(99,c99),(39,c39)] [(24,r24),(22,r22)])).ok:=ctxT_ok (ctxOf_cons (ctxOf_cons (q24) (by kernel_rfl) ok39) (by kernel_rfl) ok99)
theorem ok48:m48.ok prog 48:=MCtr.of_den l48 hmix (hl:=hints) (d:=4) func48 rfl (by decide) rfl (e48 lpK jnK ratio_Add ratio_Mul)
noncomputable def program_sums_feasible_1_b (_:Lp) (_:Jn) (x0:Int×Int):Option Bool :=
 some (decide (x0.1<(0:Int)))
noncomputable def program_sums_feasible_1 (x0:Int×Int):Option Bool:=program_sums_feasible_1_b lpK jnK x0
noncomputable def c97:Ctr:=⟨[T27],[],[],.one .bool,fun x _ _=>program_sums_feasible_1 x.1⟩
theorem e97 (lp:Lp) (jn:Jn):∀(x:TsS c97.as) (F:TsF c97.fs) (y:TsS c97.cs),program_sums_feasible_1_b lp jn x.1=runC lp jn (ctxT tabs lits (ctxOf prog shs inls its [] [(24,r24),(22,r22)])) hints 4 97 f97 c97 x F y:=fun x F y=>by kernel_rfl
theorem l97:(ctxT tabs lits (ctxOf prog shs inls its [] [(24,r24),(22,r22)])).ok:=ctxT_ok (q24)
theorem ok97:c97.ok prog 97:=Ctr.of_den l97 hmix (hl:=hints) (d:=4) func97 rfl (by decide) (e97 lpK jnK)
noncomputable def ratio_Cmp_b (_:Lp) (jn:Jn) (ratio_size:(Int)→Option (Int)) (ratio_Valid:(Int×Int)→Option (Bool)) (ratio_product:(Int)→(Int)→Option (Int×Int)) (ratio_less:(Int×Int)→(Int×Int)→Option (Bool)) (x0:Int×Int) (x1:Int×Int):Option (Int×Int×Unit) :=
 
 let v4:Bool:=decide (x0.1<(0:Int));obind (ratio_Valid x0) fun (t:Bool) =>
 let v6:Bool:=!t;
 let v7:Bool:=!v6;
 let v8:Bool:=!v7||v7;bif v8 then obind (bif v7 then ratio_Valid x1 else some false) fun (t:Bool)=>bif v8 then bif v6||v7 then bif bif v6 then true else !t then some ((0 :
  Int),(1:Int),PUnit.unit) else obind (ratio_size x0.1) fun (t:Int)=>obind (ratio_product t (IntKind.wrap .u64 x1.2)) fun (t:Int×Int)=>obind (ratio_size x1.1)
  fun (t_1:Int)=>obind (ratio_product t_1 (IntKind.wrap .u64 x0.2)) fun (t_2:Int×Int)=>bif !decide (v4=decide (x1.1<(0:Int))) then bif v4 then some ((-1:Int),
  (0:Int),PUnit.unit) else some ((1:Int),(0:Int),PUnit.unit) else jn ((Int×Int)×(Int×Int)×PUnit) (Int×Int×PUnit) (fun (x:(Int×Int)×(Int×Int)×PUnit)=>obind
  (ratio_less x.1 x.2.1) fun (t:Bool)=>bif t then some ((-1:Int),(0:Int),PUnit.unit) else obind (ratio_less x.2.1 x.1) fun (t:Bool)=>bif t then some ((1:Int),
  (0:Int),PUnit.unit) else some ((0:Int),(0:Int),PUnit.unit)) fun (j:(Int×Int)×(Int×Int)×PUnit→Option (Int×Int×PUnit))=>bif v4 then j (t_2,t,PUnit.unit) else
  j (t,t_2,PUnit.unit) else none else none else none
noncomputable def ratio_Cmp (x0:Int×Int) (x1:Int×Int):Option (Int×Int×Unit):=ratio_Cmp_b lpK jnK ratio_size ratio_Valid ratio_product ratio_less x0 x1
noncomputable def c26:Ctr:=⟨[T27,T27],[],[],.tup [i64,i64],fun x _ _=>ratio_Cmp x.1 x.2.1⟩
theorem e26 (lp:Lp) (jn:Jn) (ratio_size:(Int)→Option (Int)) (ratio_Valid:(Int×Int)→Option (Bool)) (ratio_product:(Int)→(Int)→Option (Int×Int)) (ratio_less:(Int×Int)→(Int×Int)→Option (Bool)):∀(x:TsS c26.as) (F:TsF c26.fs) (y:TsS c26.cs),ratio_Cmp_b lp jn ratio_size ratio_Valid ratio_product ratio_less x.1 x.2.1=runC lp jn (ctxT tabs lits (ctxOf prog shs inls its [(70,⟨[T96,T96],[],[],.one .bool,fun x _ _=>ratio_less x.1 x.2.1⟩),(68,⟨[(.int .u64),(.int .u64)],[],[],.one T96,fun x _ _=>ratio_product x.1 x.2.1⟩),(45,⟨[T27],[],[],.one .bool,fun x _ _=>ratio_Valid x.1⟩),(69,⟨[i64],[],[],.one (.int .u64),fun x _ _=>ratio_size x.1⟩)] [(24,r24),(22,r22)])) hints 4 26 f26 c26 x F y:=fun x F y=>by kernel_rfl
theorem l26:(ctxT tabs lits (ctxOf prog shs inls its [(70,c70),(68,c68),(45,c45),(69,c69)] [(24,r24),(22,r22)])).ok:=ctxT_ok (ctxOf_cons (ctxOf_cons (ctxOf_cons (ctxOf_cons (q24) (by kernel_rfl) ok69) (by kernel_rfl) ok45) (by kernel_rfl) ok68) (by kernel_rfl) ok70)
theorem ok26:c26.ok prog 26:=Ctr.of_den l26 hmix (hl:=hints) (d:=4) func26 rfl (by decide) (e26 lpK jnK ratio_size ratio_Valid ratio_product ratio_less)
noncomputable def program_cmp_b (_:Lp) (_:Jn) (ratio_Cmp:(Int×Int)→(Int×Int)→Option (Int×Int×Unit)) (x0:Int×Int) (x1:Int):Option Int :=
 obind (ratio_Cmp x0 (x1,(1:Int))) fun (t:Int×Int×PUnit)=>some t.1
noncomputable def program_cmp (x0:Int×Int) (x1:Int):Option Int:=program_cmp_b lpK jnK ratio_Cmp x0 x1
noncomputable def c98:Ctr:=⟨[T27,i64],[],[],.one i64,fun x _ _=>program_cmp x.1 x.2.1⟩
theorem e98 (lp:Lp) (jn:Jn) (ratio_Cmp:(Int×Int)→(Int×Int)→Option (Int×Int×Unit)):∀(x:TsS c98.as) (F:TsF c98.fs) (y:TsS c98.cs),program_cmp_b lp jn ratio_Cmp x.1 x.2.1=runC lp jn (ctxT tabs lits (ctxOf prog shs inls its [(26,⟨[T27,T27],[],[],.tup [i64,i64],fun x _ _=>ratio_Cmp x.1 x.2.1⟩)] [(24,r24),(22,r22)])) hints 4 98 f98 c98 x F y:=fun x F y=>by kernel_rfl
theorem l98:(ctxT tabs lits (ctxOf prog shs inls its [(26,c26)] [(24,r24),(22,r22)])).ok:=ctxT_ok (ctxOf_cons (q24) (by kernel_rfl) ok26)
theorem ok98:c98.ok prog 98:=Ctr.of_den l98 hmix (hl:=hints) (d:=4) func98 rfl (by decide) (e98 lpK jnK ratio_Cmp)
noncomputable def program_sums_feasible_b (lp:Lp) (_:Jn) (slices_ContainsFunc_95:(List (Int×Int))→((((Int×Int)×Unit)→Option Bool))→Option (Bool)) (program_sums_feasible_1:(Int×Int)→Option (Bool)) (program_cmp:(Int×Int)→(Int)→Option (Int)) (program_sums_of:(Int)→(List Int)→(List (Int×Int))→Option (Int×(Int×Int))) (x0:Int) (x1:(List Int)×List ((List Int)×Int×Int)) (x2:List (Int×Int)):Option (Int×Bool) :=
 obind (slices_ContainsFunc_95 x2 fun (x:(Int×Int)×PUnit)=>program_sums_feasible_1 x.1) fun (t:Bool)=>lp (Bool×Int×Int×PUnit) (Int×Bool) (fun (again:Bool×Int×Int
  × PUnit→Option (Int×Bool)) (x:Bool×Int×Int×PUnit) =>
 let v8:Bool:=!x.1;
 let v9:Bool:=v8||x.1;
 let v10:List Int×Int×Int:=List.getD x1.2 (Int.toNat x.2.1) ([],(0:Int),(0:Int));
 let v11:Bool:=!decide (v10.2.1=(1:Int));
 let v12:Bool:=!decide (v10.2.1=(2:Int));
 let v13:Bool:=!decide (v10.2.1=(3:Int));
 let v14:Bool:=x.1&&!v11;bif decide (x.2.1<(↑(List.length x1.2):Int)) then bif inB x.2.1 (List.length x1.2) then obind (program_sums_of x.2.2.1 v10.1 x2)
  fun (t:Int×Int×Int)=>obind (program_cmp t.2 v10.2.2) fun (t_1:Int) =>
 let v17:Bool:=bif x.1 then bif v11 then true else decide (t_1≤(0:Int)) else false;
 let v18:Bool:=!v17;
 let v19:Bool:=v17&&!v12;
 let v20:Bool:=bif v17 then bif v12 then true else decide (t_1≥(0:Int)) else false;
 let v21:Bool:=!v20;
 let v22:Bool:=v20&&!v13;
 let v23:Bool:=v18||v17;
 let v24:Bool:=v21||v20;bif v9 then bif v9 then bif v9 then bif !v14||v14 then bif (v8||v9)&&(v8||(v11||(v8||v14))) then bif v9 then bif v23 then bif v23 then bif v23
  then bif !v19||v19 then bif (v18||v23)&&(v18||(v12||(v18||v19))) then bif v23 then bif v24 then bif v24 then bif v24 then bif !v22||v22 then bif (v21||v24)&&(v21 ||
  (v13||(v21||v22))) then bif v24 then again (bif v20 then bif v13 then true else decide (t_1=(0:Int)) else false,IntKind.wrap .i64 (x.2.1+(1:Int)),t.1,
  PUnit.unit) else none else none else none else none else none else none else none else none else none else none else none else none else none else none else none else none else none
  else none else none else some (x.2.2.1,x.1)) (!t,(0:Int),x0,PUnit.unit)
noncomputable def program_sums_feasible (x0:Int) (x1:(List Int)×List ((List Int)×Int×Int)) (x2:List (Int×Int)):Option (Int×Bool):=program_sums_feasible_b lpK jnK slices_ContainsFunc_95 program_sums_feasible_1 program_cmp program_sums_of x0 x1 x2
noncomputable def m47:MCtr:=⟨T75,[T25,(.sl T27)],.one .bool,fun x y=>program_sums_feasible x y.1 y.2.1⟩
theorem e47 (lp:Lp) (jn:Jn) (slices_ContainsFunc_95:(List (Int×Int))→((((Int×Int)×Unit)→Option Bool))→Option (Bool)) (program_sums_feasible_1:(Int×Int)→Option (Bool)) (program_cmp:(Int×Int)→(Int)→Option (Int)) (program_sums_of:(Int)→(List Int)→(List (Int×Int))→Option (Int×(Int×Int))):∀(x:m47.s.T) (y:TsS m47.as),program_sums_feasible_b lp jn slices_ContainsFunc_95 program_sums_feasible_1 program_cmp program_sums_of x y.1 y.2.1=runM lp jn (ctxT tabs lits (ctxP [] [(48,⟨T75,[(.sl i64),(.sl T27)],.one T27,fun x y=>program_sums_of x y.1 y.2.1⟩)] (ctxOf prog shs inls its [(98,⟨[T27,i64],[],[],.one i64,fun x _ _=>program_cmp x.1 x.2.1⟩),(97,⟨[T27],[],[],.one .bool,fun x _ _=>program_sums_feasible_1 x.1⟩),(95,⟨[(.sl T27)],[([T27],.bool)],[],.one .bool,fun x F _=>slices_ContainsFunc_95 x.1 F.1⟩)] [(24,r24),(22,r22)]))) hints 4 47 f47 m47 x y:=fun x y=>by kernel_rfl
theorem l47:(ctxT tabs lits (ctxP [] [(48,m48)] (ctxOf prog shs inls its [(98,c98),(97,c97),(95,c95)] [(24,r24),(22,r22)]))).ok:=ctxT_ok (ctxP_ok (ctxOf_cons (ctxOf_cons (ctxOf_cons (q24) (by kernel_rfl) ok95) (by kernel_rfl) ok97) (by kernel_rfl) ok98) (pcOk_nil) (mcOk_cons (by kernel_rfl) ok48 (mcOk_nil)))
theorem ok47:m47.ok prog 47:=MCtr.of_den l47 hmix (hl:=hints) (d:=4) func47 rfl (by decide) rfl (e47 lpK jnK slices_ContainsFunc_95 program_sums_feasible_1 program_cmp program_sums_of)
noncomputable def program_column_b (lp:Lp) (_:Jn) (x0:(List Int)×List ((List Int)×Int×Int)) (x1:Int):Option (List Int) :=
 lp (List Int×Int×PUnit) (List Int) (fun (again:List Int×Int×PUnit→Option (List Int)) (x:List Int×Int×PUnit)=>bif decide (x.2.1<(↑(List.length x0.2):Int)) then
  bif inB x.2.1 (List.length x0.2) then bif inB x1 (List.length (List.getD x0.2 (Int.toNat x.2.1) ([],(0:Int),(0:Int))).1) then bif fitB (List.length x.1+(1 :
  Nat)) (8:Nat) then again (x.1++[List.getD (List.getD x0.2 (Int.toNat x.2.1) ([],(0:Int),(0:Int))).1 (Int.toNat x1) (0:Int)],IntKind.wrap .i64 (x.2.1 +
  (1:Int)),PUnit.unit) else none else none else none else some x.1) ([],(0:Int),PUnit.unit)
noncomputable def program_column (x0:(List Int)×List ((List Int)×Int×Int)) (x1:Int):Option (List Int):=program_column_b lpK jnK x0 x1
noncomputable def c100:Ctr:=⟨[T25,i64],[],[],.one (.sl i64),fun x _ _=>program_column x.1 x.2.1⟩
theorem e100 (lp:Lp) (jn:Jn):∀(x:TsS c100.as) (F:TsF c100.fs) (y:TsS c100.cs),program_column_b lp jn x.1 x.2.1=runC lp jn (ctxT tabs lits (ctxOf prog shs inls its [] [(24,r24),(22,r22)])) hints 4 100 f100 c100 x F y:=fun x F y=>by kernel_rfl
theorem l100:(ctxT tabs lits (ctxOf prog shs inls its [] [(24,r24),(22,r22)])).ok:=ctxT_ok (q24)
theorem ok100:c100.ok prog 100:=Ctr.of_den l100 hmix (hl:=hints) (d:=4) func100 rfl (by decide) (e100 lpK jnK)
noncomputable def program_Check_1_b (_:Lp) (_:Jn) (x0:Int) (y0:(List Int)×List ((List Int)×Int×Int)):Option Int :=
 bif inB x0 (List.length y0.1) then some (List.getD y0.1 (Int.toNat x0) (0:Int)) else none
noncomputable def program_Check_1 (x0:Int) (y0:(List Int)×List ((List Int)×Int×Int)):Option Int:=program_Check_1_b lpK jnK x0 y0
noncomputable def c50:Ctr:=⟨[i64],[],[T25],.one i64,fun x _ y=>program_Check_1 x.1 y.1⟩
theorem e50 (lp:Lp) (jn:Jn):∀(x:TsS c50.as) (F:TsF c50.fs) (y:TsS c50.cs),program_Check_1_b lp jn x.1 y.1=runC lp jn (ctxT tabs lits (ctxOf prog shs inls its [] [(24,r24),(22,r22)])) hints 4 50 f50 c50 x F y:=fun x F y=>by kernel_rfl
theorem l50:(ctxT tabs lits (ctxOf prog shs inls its [] [(24,r24),(22,r22)])).ok:=ctxT_ok (q24)
theorem ok50:c50.ok prog 50:=Ctr.of_den l50 hmix (hl:=hints) (d:=4) func50 rfl (by decide) (e50 lpK jnK)
noncomputable def program_rights_b (lp:Lp) (_:Jn) (x0:(List Int)×List ((List Int)×Int×Int)):Option (List Int) :=
 lp (List Int×Int×PUnit) (List Int) (fun (again:List Int×Int×PUnit→Option (List Int)) (x:List Int×Int×PUnit)=>bif decide (x.2.1<(↑(List.length x0.2):Int)) then
  bif inB x.2.1 (List.length x0.2) then bif fitB (List.length x.1+(1:Nat)) (8:Nat) then again (x.1++[(List.getD x0.2 (Int.toNat x.2.1) ([],(0:Int),(0 :
  Int))).2.2],IntKind.wrap .i64 (x.2.1+(1:Int)),PUnit.unit) else none else none else some x.1) ([],(0:Int),PUnit.unit)
noncomputable def program_rights (x0:(List Int)×List ((List Int)×Int×Int)):Option (List Int):=program_rights_b lpK jnK x0
noncomputable def c51:Ctr:=⟨[T25],[],[],.one (.sl i64),fun x _ _=>program_rights x.1⟩
theorem e51 (lp:Lp) (jn:Jn):∀(x:TsS c51.as) (F:TsF c51.fs) (y:TsS c51.cs),program_rights_b lp jn x.1=runC lp jn (ctxT tabs lits (ctxOf prog shs inls its [] [(24,r24),(22,r22)])) hints 4 51 f51 c51 x F y:=fun x F y=>by kernel_rfl
theorem l51:(ctxT tabs lits (ctxOf prog shs inls its [] [(24,r24),(22,r22)])).ok:=ctxT_ok (q24)
theorem ok51:c51.ok prog 51:=Ctr.of_den l51 hmix (hl:=hints) (d:=4) func51 rfl (by decide) (e51 lpK jnK)
noncomputable def program_signed_b (lp:Lp) (_:Jn) (x0:(List Int)×List ((List Int)×Int×Int)) (x1:List (Int×Int)):Option Bool :=
 lp (Int×PUnit) Bool (fun (again:Int×PUnit→Option Bool) (x:Int×PUnit) =>
 let v6:Bool:=inB x.1 (List.length x1);
 let v7:Bool:=decide ((List.getD x0.2 (Int.toNat x.1) ([],(0:Int),(0:Int))).2.1=(1:Int));
 let v8:Bool:=decide ((List.getD x0.2 (Int.toNat x.1) ([],(0:Int),(0:Int))).2.1=(2:Int));
 let v9:Bool:=!v7;
 let v10:Bool:=bif v7 then decide ((List.getD x1 (Int.toNat x.1) ((0:Int),(0:Int))).1>(0:Int)) else false;
 let v11:Bool:=!v10;
 let v12:Bool:=!v11;
 let v13:Bool:=v9||v7;
 let v14:Bool:=v11&&v8;
 let v15:Bool:=!v14;
 let v16:Bool:=v12||v11;
 let v17:Bool:=v15||v14;bif decide (x.1<(↑(List.length x0.2):Int)) then bif inB x.1 (List.length x0.2) then bif v13&&(v13&&(v9||v6)) then bif v13 then bif v13 then
  bif v13 then bif v13 then bif v16 then bif v16 then bif v16 then bif v17&&(v17&&(v15||v6)) then bif v17 then bif v17 then bif v17 then bif (v12||v16)&&(v12||(!v8||(v12 ||
  v14))) then bif v10||v11 then bif bif v10 then true else bif v8 then decide ((List.getD x1 (Int.toNat x.1) ((0:Int),(0:Int))).1<(0:Int)) else false then some false else
  again (IntKind.wrap .i64 (x.1+(1:Int)),PUnit.unit) else none else none else none else none else none else none else none else none else none else none else none else none
  else none else none else none else some true) ((0:Int),PUnit.unit)
noncomputable def program_signed (x0:(List Int)×List ((List Int)×Int×Int)) (x1:List (Int×Int)):Option Bool:=program_signed_b lpK jnK x0 x1
noncomputable def c52:Ctr:=⟨[T25,(.sl T27)],[],[],.one .bool,fun x _ _=>program_signed x.1 x.2.1⟩
theorem e52 (lp:Lp) (jn:Jn):∀(x:TsS c52.as) (F:TsF c52.fs) (y:TsS c52.cs),program_signed_b lp jn x.1 x.2.1=runC lp jn (ctxT tabs lits (ctxOf prog shs inls its [] [(24,r24),(22,r22)])) hints 4 52 f52 c52 x F y:=fun x F y=>by kernel_rfl
theorem l52:(ctxT tabs lits (ctxOf prog shs inls its [] [(24,r24),(22,r22)])).ok:=ctxT_ok (q24)
theorem ok52:c52.ok prog 52:=Ctr.of_den l52 hmix (hl:=hints) (d:=4) func52 rfl (by decide) (e52 lpK jnK)
noncomputable def program_Check_b (lp:Lp) (_:Jn) (program_Valid:((List Int)×List ((List Int)×Int×Int))→Option (Bool)) (ratio_Valid:(Int×Int)→Option (Bool)) (program_right:(List (Int×Int))→Option (Bool)) (program_cmp:(Int×Int)→(Int)→Option (Int)) (program_column:((List Int)×List ((List Int)×Int×Int))→(Int)→Option (List Int)) (program_Check_1:(Int)→((List Int)×List ((List Int)×Int×Int))→Option (Int)) (program_rights:((List Int)×List ((List Int)×Int×Int))→Option (List Int)) (program_signed:((List Int)×List ((List Int)×Int×Int))→(List (Int×Int))→Option (Bool)) (program_sums_of:(Int)→(List Int)→(List (Int×Int))→Option (Int×(Int×Int))) (program_sums_feasible:(Int)→((List Int)×List ((List Int)×Int×Int))→(List (Int×Int))→Option (Int×Bool)) (x0:(List Int)×List ((List Int)×Int×Int)) (x1:(Int×Int)×(List (Int×Int))×List (Int×Int)):Option (Bool×Int×Unit) :=
 
 let v4:Bool:=!decide ((↑(List.length x1.2.1):Int)=(↑(List.length x0.1):Int));
 let v5:Bool:=!v4;
 let v6:Bool:=!v5||v5;obind (program_Valid x0) fun (t:Bool) =>
 let v8:Bool:=!t;
 let v9:Bool:=!v8;
 let v10:Bool:=!v9||v9;bif v10 then bif v10 then obind (bif v9 then ratio_Valid x1.1 else some false) fun (t:Bool) =>
 let v12:Bool:=bif v8 then true else !t;
 let v13:Bool:=!v12;
 let v14:Bool:=!v13||v13;bif v10 then bif v8||v9 then bif v14 then bif v14 then obind (bif v13 then program_right x1.2.1 else some false) fun (t:Bool) =>
 let v16:Bool:=bif v12 then true else !t;
 let v17:Bool:=!v16;
 let v18:Bool:=!v17||v17;bif v14 then bif v12||v13 then bif v18 then bif v18 then obind (bif v17 then program_right x1.2.2 else some false) fun (t:Bool)=>bif v18 then bif
  v16||v17 then bif bif v16 then true else !t then some (false,(1:Int),PUnit.unit) else bif v6 then bif v6 then bif v6 then bif v6 then bif v6&&v6 then bif v4||v5 then bif bif
  v4 then true else !decide ((↑(List.length x1.2.2):Int)=(↑(List.length x0.2):Int)) then some (false,(3:Int),PUnit.unit) else obind (program_sums_feasible (0:Int) x0
  x1.2.1) fun (t:Int×Bool)=>obind (program_sums_of t.1 x0.1 x1.2.1) fun (t_1:Int×Int×Int) =>
 let v22:Bool:=decide (t_1.2.1=x1.1.1)&&(decide (t_1.2.2=x1.1.2)&&true);bif !v22||v22 then lp (Bool×Int×Int×PUnit) (Bool×Int×PUnit) (fun (again :
  Bool×Int×Int×PUnit→Option (Bool×Int×PUnit)) (x:Bool×Int×Int×PUnit)=>bif decide (x.2.1<(↑(List.length x0.1):Int)) then obind (program_column x0 x.2.1)
  fun (t:List Int)=>obind (program_sums_of x.2.2.1 t x1.2.2) fun (t:Int×Int×Int)=>obind (program_Check_1 x.2.1 x0) fun (t_2:Int)=>obind (program_cmp t.2
  t_2) fun (t_3:Int) =>
 let v29:Bool:=decide (t_3≤(0:Int));bif !v29||v29 then again (bif v29 then x.1 else false,IntKind.wrap .i64 (x.2.1+(1:Int)),t.1,PUnit.unit) else none else
  bif !x.1||x.1 then obind (program_rights x0) fun (t_2:List Int)=>obind (program_sums_of x.2.2.1 t_2 x1.2.2) fun (t_3:Int×Int×Int) =>
 let v27:Bool:=decide (t_3.2.1=x1.1.1)&&(decide (t_3.2.2=x1.1.2)&&true);
 let v28:Bool:=!v27||v27;bif v28 then bif v28&&v28 then obind (bif v27 then program_signed x0 x1.2.2 else some false) fun (t_4:Bool) =>
 let v30:Bool:=bif v27 then t_4 else false;
 let v31:Bool:=bif v30 then bif x.1 then bif v22 then t.2 else false else false else false;
 let v32:Bool:=!v31||v31;bif v28 then bif !v30||v30 then bif v32 then bif v32 then bif v32 then some (bif v31 then decide (t_3.1=(0:Int)) else false,t_3.1,PUnit.unit)
  else none else none else none else none else none else none else none else none) (true,(0:Int),t_1.1,PUnit.unit) else none else none else none else none else none else none else
  none else none else none else none else none else none else none else none else none else none else none else none else none
noncomputable def program_Check (x0:(List Int)×List ((List Int)×Int×Int)) (x1:(Int×Int)×(List (Int×Int))×List (Int×Int)):Option (Bool×Int×Unit):=program_Check_b lpK jnK program_Valid ratio_Valid program_right program_cmp program_column program_Check_1 program_rights program_signed program_sums_of program_sums_feasible x0 x1
noncomputable def c14:Ctr:=⟨[T25,T30],[],[],.tup [.bool,i64],fun x _ _=>program_Check x.1 x.2.1⟩
theorem e14 (lp:Lp) (jn:Jn) (program_Valid:((List Int)×List ((List Int)×Int×Int))→Option (Bool)) (ratio_Valid:(Int×Int)→Option (Bool)) (program_right:(List (Int×Int))→Option (Bool)) (program_cmp:(Int×Int)→(Int)→Option (Int)) (program_column:((List Int)×List ((List Int)×Int×Int))→(Int)→Option (List Int)) (program_Check_1:(Int)→((List Int)×List ((List Int)×Int×Int))→Option (Int)) (program_rights:((List Int)×List ((List Int)×Int×Int))→Option (List Int)) (program_signed:((List Int)×List ((List Int)×Int×Int))→(List (Int×Int))→Option (Bool)) (program_sums_of:(Int)→(List Int)→(List (Int×Int))→Option (Int×(Int×Int))) (program_sums_feasible:(Int)→((List Int)×List ((List Int)×Int×Int))→(List (Int×Int))→Option (Int×Bool)):∀(x:TsS c14.as) (F:TsF c14.fs) (y:TsS c14.cs),program_Check_b lp jn program_Valid ratio_Valid program_right program_cmp program_column program_Check_1 program_rights program_signed program_sums_of program_sums_feasible x.1 x.2.1=runC lp jn (ctxT tabs lits (ctxP [] [(47,⟨T75,[T25,(.sl T27)],.one .bool,fun x y=>program_sums_feasible x y.1 y.2.1⟩),(48,⟨T75,[(.sl i64),(.sl T27)],.one T27,fun x y=>program_sums_of x y.1 y.2.1⟩)] (ctxOf prog shs inls its [(52,⟨[T25,(.sl T27)],[],[],.one .bool,fun x _ _=>program_signed x.1 x.2.1⟩),(51,⟨[T25],[],[],.one (.sl i64),fun x _ _=>program_rights x.1⟩),(50,⟨[i64],[],[T25],.one i64,fun x _ y=>program_Check_1 x.1 y.1⟩),(100,⟨[T25,i64],[],[],.one (.sl i64),fun x _ _=>program_column x.1 x.2.1⟩),(98,⟨[T27,i64],[],[],.one i64,fun x _ _=>program_cmp x.1 x.2.1⟩),(46,⟨[(.sl T27)],[],[],.one .bool,fun x _ _=>program_right x.1⟩),(45,⟨[T27],[],[],.one .bool,fun x _ _=>ratio_Valid x.1⟩),(33,⟨[T25],[],[],.one .bool,fun x _ _=>program_Valid x.1⟩)] [(24,r24),(22,r22)]))) hints 4 14 f14 c14 x F y:=fun x F y=>by kernel_rfl
theorem l14:(ctxT tabs lits (ctxP [] [(47,m47),(48,m48)] (ctxOf prog shs inls its [(52,c52),(51,c51),(50,c50),(100,c100),(98,c98),(46,c46),(45,c45),(33,c33)] [(24,r24),(22,r22)]))).ok:=ctxT_ok (ctxP_ok (ctxOf_cons (ctxOf_cons (ctxOf_cons (ctxOf_cons (ctxOf_cons (ctxOf_cons (ctxOf_cons (ctxOf_cons (q24) (by kernel_rfl) ok33) (by kernel_rfl) ok45) (by kernel_rfl) ok46) (by kernel_rfl) ok98) (by kernel_rfl) ok100) (by kernel_rfl) ok50) (by kernel_rfl) ok51) (by kernel_rfl) ok52) (pcOk_nil) (mcOk_cons (by kernel_rfl) ok47 (mcOk_cons (by kernel_rfl) ok48 (mcOk_nil))))
theorem ok14:c14.ok prog 14:=Ctr.of_den l14 hmix (hl:=hints) (d:=4) func14 rfl (by decide) (e14 lpK jnK program_Valid ratio_Valid program_right program_cmp program_column program_Check_1 program_rights program_signed program_sums_of program_sums_feasible)
noncomputable def program_Refutes_1_b (_:Lp) (_:Jn) (_:Int):Option Int :=
 some (0:Int)
noncomputable def program_Refutes_1 (x0:Int):Option Int:=program_Refutes_1_b lpK jnK x0
noncomputable def c53:Ctr:=⟨[i64],[],[],.one i64,fun x _ _=>program_Refutes_1 x.1⟩
theorem e53 (lp:Lp) (jn:Jn):∀(x:TsS c53.as) (F:TsF c53.fs) (y:TsS c53.cs),program_Refutes_1_b lp jn x.1=runC lp jn (ctxT tabs lits (ctxOf prog shs inls its [] [(24,r24),(22,r22)])) hints 4 53 f53 c53 x F y:=fun x F y=>by kernel_rfl
theorem l53:(ctxT tabs lits (ctxOf prog shs inls its [] [(24,r24),(22,r22)])).ok:=ctxT_ok (q24)
theorem ok53:c53.ok prog 53:=Ctr.of_den l53 hmix (hl:=hints) (d:=4) func53 rfl (by decide) (e53 lpK jnK)
noncomputable def program_Refutes_b (lp:Lp) (_:Jn) (program_Valid:((List Int)×List ((List Int)×Int×Int))→Option (Bool)) (program_right:(List (Int×Int))→Option (Bool)) (program_cmp:(Int×Int)→(Int)→Option (Int)) (program_column:((List Int)×List ((List Int)×Int×Int))→(Int)→Option (List Int)) (program_rights:((List Int)×List ((List Int)×Int×Int))→Option (List Int)) (program_signed:((List Int)×List ((List Int)×Int×Int))→(List (Int×Int))→Option (Bool)) (program_Refutes_1:(Int)→Option (Int)) (program_sums_of:(Int)→(List Int)→(List (Int×Int))→Option (Int×(Int×Int))) (x0:(List Int)×List ((List Int)×Int×Int)) (x1:List (Int×Int)):Option (Bool×Int×Unit) :=
 obind (program_Valid x0) fun (t:Bool) =>
 let v5:Bool:=!t;
 let v6:Bool:=!v5;
 let v7:Bool:=!v6||v6;bif v7 then obind (bif v6 then program_right x1 else some false) fun (t:Bool)=>bif v7 then bif v5||v6 then bif bif v5 then true else !t then some (false,
  (1:Int),PUnit.unit) else bif !decide ((↑(List.length x1):Int)=(↑(List.length x0.2):Int)) then some (false,(3:Int),PUnit.unit) else lp (Bool×Int×Int×PUnit) (Bool ×
  Int×PUnit) (fun (again:Bool×Int×Int×PUnit→Option (Bool×Int×PUnit)) (x:Bool×Int×Int×PUnit)=>bif decide (x.2.1<(↑(List.length x0.1):Int)) then obind
  (program_column x0 x.2.1) fun (t:List Int)=>obind (program_sums_of x.2.2.1 t x1) fun (t:Int×Int×Int)=>obind (program_Refutes_1 x.2.1) fun (t_1:Int)=>obind
  (program_cmp t.2 t_1) fun (t_2:Int) =>
 let v15:Bool:=decide (t_2≤(0:Int));bif !v15||v15 then again (bif v15 then x.1 else false,IntKind.wrap .i64 (x.2.1+(1:Int)),t.1,PUnit.unit) else none else
  obind (program_rights x0) fun (t:List Int)=>obind (program_sums_of x.2.2.1 t x1) fun (t:Int×Int×Int) =>
 let v13:Bool:=decide (t.2.1>(0:Int));
 let v14:Bool:=!v13||v13;bif v14&&v14 then obind (bif v13 then program_signed x0 x1 else some false) fun (t_1:Bool) =>
 let v16:Bool:=bif v13 then t_1 else false;
 let v17:Bool:=bif v16 then x.1 else false;
 let v18:Bool:=!v17||v17;bif v14 then bif !v16||v16 then bif v18 then bif v18 then bif v18 then some (bif v17 then decide (t.1=(0:Int)) else false,t.1,PUnit.unit) else
  none else none else none else none else none else none) (true,(0:Int),(0:Int),PUnit.unit) else none else none else none
noncomputable def program_Refutes (x0:(List Int)×List ((List Int)×Int×Int)) (x1:List (Int×Int)):Option (Bool×Int×Unit):=program_Refutes_b lpK jnK program_Valid program_right program_cmp program_column program_rights program_signed program_Refutes_1 program_sums_of x0 x1
noncomputable def c15:Ctr:=⟨[T25,(.sl T27)],[],[],.tup [.bool,i64],fun x _ _=>program_Refutes x.1 x.2.1⟩
theorem e15 (lp:Lp) (jn:Jn) (program_Valid:((List Int)×List ((List Int)×Int×Int))→Option (Bool)) (program_right:(List (Int×Int))→Option (Bool)) (program_cmp:(Int×Int)→(Int)→Option (Int)) (program_column:((List Int)×List ((List Int)×Int×Int))→(Int)→Option (List Int)) (program_rights:((List Int)×List ((List Int)×Int×Int))→Option (List Int)) (program_signed:((List Int)×List ((List Int)×Int×Int))→(List (Int×Int))→Option (Bool)) (program_Refutes_1:(Int)→Option (Int)) (program_sums_of:(Int)→(List Int)→(List (Int×Int))→Option (Int×(Int×Int))):∀(x:TsS c15.as) (F:TsF c15.fs) (y:TsS c15.cs),program_Refutes_b lp jn program_Valid program_right program_cmp program_column program_rights program_signed program_Refutes_1 program_sums_of x.1 x.2.1=runC lp jn (ctxT tabs lits (ctxP [] [(48,⟨T75,[(.sl i64),(.sl T27)],.one T27,fun x y=>program_sums_of x y.1 y.2.1⟩)] (ctxOf prog shs inls its [(53,⟨[i64],[],[],.one i64,fun x _ _=>program_Refutes_1 x.1⟩),(52,⟨[T25,(.sl T27)],[],[],.one .bool,fun x _ _=>program_signed x.1 x.2.1⟩),(51,⟨[T25],[],[],.one (.sl i64),fun x _ _=>program_rights x.1⟩),(100,⟨[T25,i64],[],[],.one (.sl i64),fun x _ _=>program_column x.1 x.2.1⟩),(98,⟨[T27,i64],[],[],.one i64,fun x _ _=>program_cmp x.1 x.2.1⟩),(46,⟨[(.sl T27)],[],[],.one .bool,fun x _ _=>program_right x.1⟩),(33,⟨[T25],[],[],.one .bool,fun x _ _=>program_Valid x.1⟩)] [(24,r24),(22,r22)]))) hints 4 15 f15 c15 x F y:=fun x F y=>by kernel_rfl
theorem l15:(ctxT tabs lits (ctxP [] [(48,m48)] (ctxOf prog shs inls its [(53,c53),(52,c52),(51,c51),(100,c100),(98,c98),(46,c46),(33,c33)] [(24,r24),(22,r22)]))).ok:=ctxT_ok (ctxP_ok (ctxOf_cons (ctxOf_cons (ctxOf_cons (ctxOf_cons (ctxOf_cons (ctxOf_cons (ctxOf_cons (q24) (by kernel_rfl) ok33) (by kernel_rfl) ok46) (by kernel_rfl) ok98) (by kernel_rfl) ok100) (by kernel_rfl) ok51) (by kernel_rfl) ok52) (by kernel_rfl) ok53) (pcOk_nil) (mcOk_cons (by kernel_rfl) ok48 (mcOk_nil)))
theorem ok15:c15.ok prog 15:=Ctr.of_den l15 hmix (hl:=hints) (d:=4) func15 rfl (by decide) (e15 lpK jnK program_Valid program_right program_cmp program_column program_rights program_signed program_Refutes_1 program_sums_of)
noncomputable def program_size_b (_:Lp) (_:Jn) (x0:Int):Option Int :=
 
 let v3:Int:=IntKind.wrap .u64 x0;bif decide (x0<(0:Int)) then some (IntKind.wrap .u64 ((0:Int) - v3)) else some v3
noncomputable def program_size (x0:Int):Option Int:=program_size_b lpK jnK x0
noncomputable def c107:Ctr:=⟨[i64],[],[],.one (.int .u64),fun x _ _=>program_size x.1⟩
theorem e107 (lp:Lp) (jn:Jn):∀(x:TsS c107.as) (F:TsF c107.fs) (y:TsS c107.cs),program_size_b lp jn x.1=runC lp jn (ctxT tabs lits (ctxOf prog shs inls its [] [(24,r24),(22,r22)])) hints 4 107 f107 c107 x F y:=fun x F y=>by kernel_rfl
theorem l107:(ctxT tabs lits (ctxOf prog shs inls its [] [(24,r24),(22,r22)])).ok:=ctxT_ok (q24)
theorem ok107:c107.ok prog 107:=Ctr.of_den l107 hmix (hl:=hints) (d:=4) func107 rfl (by decide) (e107 lpK jnK)
noncomputable def program_fits_1_b (lp:Lp) (_:Jn) (program_size:(Int)→Option (Int)) (x0:List Int) (x1:Int):Option Int :=
 obind (program_size x1) fun (t:Int)=>lp (Int×Int×PUnit) Int (fun (again:Int×Int×PUnit→Option Int) (x:Int×Int×PUnit)=>bif decide (x.2.1<(↑(List.length x0) :
  Int)) then bif inB x.2.1 (List.length x0) then obind (program_size (List.getD x0 (Int.toNat x.2.1) (0:Int))) fun (t:Int)=>again (IntKind.wrap .i64 (x.1 +
  IntKind.wrap .i64 t),IntKind.wrap .i64 (x.2.1+(1:Int)),PUnit.unit) else none else some x.1) (IntKind.wrap .i64 ((1:Int)+IntKind.wrap .i64 t),
  (0:Int),PUnit.unit)
noncomputable def program_fits_1 (x0:List Int) (x1:Int):Option Int:=program_fits_1_b lpK jnK program_size x0 x1
noncomputable def c106:Ctr:=⟨[(.sl i64),i64],[],[],.one i64,fun x _ _=>program_fits_1 x.1 x.2.1⟩
theorem e106 (lp:Lp) (jn:Jn) (program_size:(Int)→Option (Int)):∀(x:TsS c106.as) (F:TsF c106.fs) (y:TsS c106.cs),program_fits_1_b lp jn program_size x.1 x.2.1=runC lp jn (ctxT tabs lits (ctxOf prog shs inls its [(107,⟨[i64],[],[],.one (.int .u64),fun x _ _=>program_size x.1⟩)] [(24,r24),(22,r22)])) hints 4 106 f106 c106 x F y:=fun x F y=>by kernel_rfl
theorem l106:(ctxT tabs lits (ctxOf prog shs inls its [(107,c107)] [(24,r24),(22,r22)])).ok:=ctxT_ok (ctxOf_cons (q24) (by kernel_rfl) ok107)
theorem ok106:c106.ok prog 106:=Ctr.of_den l106 hmix (hl:=hints) (d:=4) func106 rfl (by decide) (e106 lpK jnK program_size)
noncomputable def slices_Max_108_b (lp:Lp) (jn:Jn) (x0:List Int):Option Int :=
 jn PUnit Int (fun (_:PUnit)=>bif inB (0:Int) (List.length x0) then lp (Int×Int×PUnit) Int (fun (again:Int×Int×PUnit→Option Int) (x:Int×Int×PUnit)=>bif decide
  (x.2.1<(↑(List.length x0):Int)) then bif inB x.2.1 (List.length x0) then again (if List.getD x0 (Int.toNat x.2.1) (0:Int)>x.1 then List.getD x0 (Int.toNat
  x.2.1) (0:Int) else x.1,IntKind.wrap .i64 (x.2.1+(1:Int)),PUnit.unit) else none else some x.1) (List.getD x0 (0:Nat) (0:Int),(1:Int),PUnit.unit) else
  none) fun (j:PUnit→Option Int)=>bif decide ((↑(List.length x0):Int)<(1:Int)) then none else j PUnit.unit
noncomputable def slices_Max_108 (x0:List Int):Option Int:=slices_Max_108_b lpK jnK x0
noncomputable def c108:Ctr:=⟨[(.sl i64)],[],[],.one i64,fun x _ _=>slices_Max_108 x.1⟩
theorem e108 (lp:Lp) (jn:Jn):∀(x:TsS c108.as) (F:TsF c108.fs) (y:TsS c108.cs),slices_Max_108_b lp jn x.1=runC lp jn (ctxT tabs lits (ctxOf prog shs inls its [] [(24,r24),(22,r22)])) hints 4 108 f108 c108 x F y:=fun x F y=>by kernel_rfl
theorem l108:(ctxT tabs lits (ctxOf prog shs inls its [] [(24,r24),(22,r22)])).ok:=ctxT_ok (q24)
theorem ok108:c108.ok prog 108:=Ctr.of_den l108 hmix (hl:=hints) (d:=4) func108 rfl (by decide) (e108 lpK jnK)
noncomputable def program_fits_b (lp:Lp) (_:Jn) (program_fits_1:(List Int)→(Int)→Option (Int)) (slices_Max_108:(List Int)→Option (Int)) (x0:(List Int)×List ((List Int)×Int×Int)):Option Bool :=
 obind (program_fits_1 x0.1 (0:Int)) fun (t:Int)=>lp (List Int×Int×PUnit) Bool (fun (again:List Int×Int×PUnit→Option Bool) (x:List Int×Int×PUnit) =>
 let v6:List Int×Int×Int:=List.getD x0.2 (Int.toNat x.2.1) ([],(0:Int),(0:Int));bif decide (x.2.1<(↑(List.length x0.2):Int)) then bif inB x.2.1
  (List.length x0.2) then obind (program_fits_1 v6.1 v6.2.2) fun (t:Int)=>bif fitB (List.length x.1+(1:Nat)) (8:Nat) then again (x.1++[t],IntKind.wrap .i64
  (x.2.1+(1:Int)),PUnit.unit) else none else none else lp (Int×Int×PUnit) Bool (fun (again:Int×Int×PUnit→Option Bool) (x_1:Int×Int×PUnit) =>
 let v9:Int:=List.getD x.1 (Int.toNat x_1.2.1) (0:Int);bif decide (x_1.2.1<(↑(List.length x.1):Int)) then bif inB x_1.2.1 (List.length x.1) then bif Nat.ble
  (Nat.succ (Int.toNat x_1.2.1)) (List.length x.1) then bif nzB v9 then bif decide (x_1.1>IntKind.wrap .i64 (Int.tdiv (17592186044416:Int) v9)) then some false else
  again (IntKind.wrap .i64 (x_1.1*v9),IntKind.wrap .i64 (x_1.2.1+(1:Int)),PUnit.unit) else none else none else none else obind (slices_Max_108 x.1) fun (t :
  Int)=>bif nzB t then some (decide (x_1.1≤IntKind.wrap .i64 (Int.tdiv (144115188075855872:Int) t))) else none) ((1:Int),(0:Int),PUnit.unit)) ([t],(0:Int),
  PUnit.unit)
noncomputable def program_fits (x0:(List Int)×List ((List Int)×Int×Int)):Option Bool:=program_fits_b lpK jnK program_fits_1 slices_Max_108 x0
noncomputable def c62:Ctr:=⟨[T25],[],[],.one .bool,fun x _ _=>program_fits x.1⟩
theorem e62 (lp:Lp) (jn:Jn) (program_fits_1:(List Int)→(Int)→Option (Int)) (slices_Max_108:(List Int)→Option (Int)):∀(x:TsS c62.as) (F:TsF c62.fs) (y:TsS c62.cs),program_fits_b lp jn program_fits_1 slices_Max_108 x.1=runC lp jn (ctxT tabs lits (ctxOf prog shs inls its [(108,⟨[(.sl i64)],[],[],.one i64,fun x _ _=>slices_Max_108 x.1⟩),(106,⟨[(.sl i64),i64],[],[],.one i64,fun x _ _=>program_fits_1 x.1 x.2.1⟩)] [(24,r24),(22,r22)])) hints 4 62 f62 c62 x F y:=fun x F y=>by kernel_rfl
theorem l62:(ctxT tabs lits (ctxOf prog shs inls its [(108,c108),(106,c106)] [(24,r24),(22,r22)])).ok:=ctxT_ok (ctxOf_cons (ctxOf_cons (q24) (by kernel_rfl) ok106) (by kernel_rfl) ok108)
theorem ok62:c62.ok prog 62:=Ctr.of_den l62 hmix (hl:=hints) (d:=4) func62 rfl (by decide) (e62 lpK jnK program_fits_1 slices_Max_108)
noncomputable def program_table_artificial_b (lp:Lp) (_:Jn) (x0:(List (List Int))×Int×(List Int)×(List Int)×(List Int)×Int×Int) (x1:Int):Option Int :=
 lp (Int×Int×PUnit) Int (fun (again:Int×Int×PUnit→Option Int) (x:Int×Int×PUnit) =>
 let v6:Int×PUnit:=(IntKind.wrap .i64 (x.2.1+(1:Int)),PUnit.unit);
 let v7:List Int:=List.getD x0.1 (Int.toNat x.2.1) [];bif decide (x.2.1<(↑(List.length x0.1):Int)) then bif inB x.2.1 (List.length x0.1) then bif inB x.2.1
  (List.length x0.2.2.1) then bif decide (List.getD x0.2.2.1 (Int.toNat x.2.1) (0:Int)≥x0.2.2.2.2.2.1) then bif inB x1 (List.length v7) then again
  (IntKind.wrap .i64 (x.1+List.getD v7 (Int.toNat x1) (0:Int)),v6) else none else again (x.1,v6) else none else none else some x.1) ((0:Int),(0:Int),PUnit.unit)
noncomputable def program_table_artificial (x0:(List (List Int))×Int×(List Int)×(List Int)×(List Int)×Int×Int) (x1:Int):Option Int:=program_table_artificial_b lpK jnK x0 x1
noncomputable def p73:PCtr:=⟨T93,[i64],.one i64,fun x y=>program_table_artificial x y.1⟩
theorem e73 (lp:Lp) (jn:Jn):∀(x:p73.s.T) (y:TsS p73.as),program_table_artificial_b lp jn x y.1=runP lp jn (ctxT tabs lits (ctxOf prog shs inls its [] [(24,r24),(22,r22)])) hints 4 73 f73 p73 x y:=fun x y=>by kernel_rfl
theorem l73:(ctxT tabs lits (ctxOf prog shs inls its [] [(24,r24),(22,r22)])).ok:=ctxT_ok (q24)
theorem ok73:p73.ok prog 73:=PCtr.of_den l73 hmix (hl:=hints) (d:=4) func73 rfl (by decide) (e73 lpK jnK)
noncomputable def program_times_b (_:Lp) (_:Jn) (bits_Mul64:(Int)→(Int)→Option (Int×Int×Unit)) (program_size:(Int)→Option (Int)) (x0:Int) (x1:Int):Option (Bool×Int×Int) :=
 
 let v4:Bool:=!decide (decide (x0<(0:Int))=decide (x1<(0:Int)));
 let v5:Bool:=!v4;
 let v6:Bool:=v5||v4;obind (program_size x0) fun (t:Int)=>obind (program_size x1) fun (t_1:Int)=>obind (bits_Mul64 t t_1) fun (t:Int×Int×PUnit) =>
 let v10:Bool:=!decide (t.1=(0:Int));
 let v11:Bool:=v4&&!v10;bif v6 then bif v6 then bif !v11||v11 then bif (v5||v6)&&(v5||(v10||(v5||v11))) then bif v6 then some (bif v4 then bif v10 then true else !decide
  (t.2.1=(0:Int)) else false,t.1,t.2.1) else none else none else none else none else none
noncomputable def program_times (x0:Int) (x1:Int):Option (Bool×Int×Int):=program_times_b lpK jnK bits_Mul64 program_size x0 x1
noncomputable def c123:Ctr:=⟨[i64,i64],[],[],.one T142,fun x _ _=>program_times x.1 x.2.1⟩
theorem e123 (lp:Lp) (jn:Jn) (bits_Mul64:(Int)→(Int)→Option (Int×Int×Unit)) (program_size:(Int)→Option (Int)):∀(x:TsS c123.as) (F:TsF c123.fs) (y:TsS c123.cs),program_times_b lp jn bits_Mul64 program_size x.1 x.2.1=runC lp jn (ctxT tabs lits (ctxOf prog shs inls its [(107,⟨[i64],[],[],.one (.int .u64),fun x _ _=>program_size x.1⟩),(113,⟨[(.int .u64),(.int .u64)],[],[],.tup [(.int .u64),(.int .u64)],fun x _ _=>bits_Mul64 x.1 x.2.1⟩)] [(24,r24),(22,r22)])) hints 4 123 f123 c123 x F y:=fun x F y=>by kernel_rfl
theorem l123:(ctxT tabs lits (ctxOf prog shs inls its [(107,c107),(113,c113)] [(24,r24),(22,r22)])).ok:=ctxT_ok (ctxOf_cons (ctxOf_cons (q24) (by kernel_rfl) ok113) (by kernel_rfl) ok107)
theorem ok123:c123.ok prog 123:=Ctr.of_den l123 hmix (hl:=hints) (d:=4) func123 rfl (by decide) (e123 lpK jnK bits_Mul64 program_size)
noncomputable def program_product_cmpSize_b (_:Lp) (_:Jn) (x0:Bool×Int×Int) (x1:Bool×Int×Int):Option Int :=
 
 let v4:Bool:=decide (x0.2.1=x1.2.1);
 let v5:Bool:=!v4;
 let v6:Bool:=v5||v4;
 let v7:Bool:=!v5||v5;
 let v8:Bool:=bif v5 then decide (x0.2.1<x1.2.1) else false;
 let v9:Bool:=!v8;
 let v10:Bool:=!v9;
 let v11:Bool:=v9&&v4;
 let v12:Bool:=v10||v9;
 let v13:Bool:=!v11||v11;bif v7 then bif v7 then bif v7&&v7 then bif v7 then bif v12 then bif v12 then bif v12&&v12 then bif v12 then bif v13 then bif v13 then bif v13&&v13
  then bif (v10||v12)&&(v10||(v5||(v10||v11))) then bif v8||v9 then bif bif v8 then true else bif v4 then decide (x0.2.2<x1.2.2) else false then some (-1:Int) else
  bif v6 then bif v6 then bif v6&&v6 then bif v6 then bif bif v4 then decide (x0.2.2=x1.2.2) else false then some (0:Int) else some (1:Int) else none else none else none
  else none else none else none else none else none else none else none else none else none else none else none else none else none else none
noncomputable def program_product_cmpSize (x0:Bool×Int×Int) (x1:Bool×Int×Int):Option Int:=program_product_cmpSize_b lpK jnK x0 x1
noncomputable def c129:Ctr:=⟨[T142,T142],[],[],.one i64,fun x _ _=>program_product_cmpSize x.1 x.2.1⟩
theorem e129 (lp:Lp) (jn:Jn):∀(x:TsS c129.as) (F:TsF c129.fs) (y:TsS c129.cs),program_product_cmpSize_b lp jn x.1 x.2.1=runC lp jn (ctxT tabs lits (ctxOf prog shs inls its [] [(24,r24),(22,r22)])) hints 4 129 f129 c129 x F y:=fun x F y=>by kernel_rfl
theorem l129:(ctxT tabs lits (ctxOf prog shs inls its [] [(24,r24),(22,r22)])).ok:=ctxT_ok (q24)
theorem ok129:c129.ok prog 129:=Ctr.of_den l129 hmix (hl:=hints) (d:=4) func129 rfl (by decide) (e129 lpK jnK)
noncomputable def program_product_minus_b (_:Lp) (jn:Jn) (program_product_cmpSize:(Bool×Int×Int)→(Bool×Int×Int)→Option (Int)) (x0:Bool×Int×Int) (x1:Bool×Int×Int):Option (Bool×Int×Int) :=
 
 let v4:Bool:=!x0.1;
 let v5:Bool:=!x1.1;
 let v6:Bool:=!v4;
 let v7:Bool:=v4&&v5;
 let v8:Bool:=v6||v4;
 let v9:Bool:=!v7;
 let v10:Bool:=v9||v7;
 let v11:Bool:=!decide (x1.2.1=(0:Int));
 let v12:Bool:=v7&&!v11;
 let v13:Bool:=decide ((0:Int)≤(0:Int))&&decide ((0:Int)≤(1:Int));
 let v14:Bool:=!v12||v12;bif !decide (x0.1=x1.1) then bif v13 then bif decide ((0:Int)≤addC x0.2.2 x1.2.2 (0:Int))&&decide (addC x0.2.2 x1.2.2 (0 :
  Int)≤(1:Int)) then bif v8 then bif v8 then bif v8 then bif v10 then bif v10 then bif v10 then bif v14 then bif v14 then bif (v9||v10)&&(v9||(v11||(v9||v12))) then bif (v6
  || v8)&&(v6||(!v5||(v6||v7))) then bif x0.1||v4 then some (bif x0.1 then true else bif v5 then bif v11 then true else !decide (x1.2.2=(0:Int)) else false,addO
  x0.2.1 x1.2.1 (addC x0.2.2 x1.2.2 (0:Int)),addO x0.2.2 x1.2.2 (0:Int)) else none else none else none else none else none else none else none else none else
  none else none else none else none else none else obind (program_product_cmpSize x0 x1) fun (t:Int)=>jn (Bool×(Bool×Int×Int)×(Bool×Int×Int)×PUnit) (Bool×Int×Int)
  (fun (x:Bool×(Bool×Int×Int)×(Bool×Int×Int)×PUnit) =>
 let v17:Bool:=!x.1;
 let v18:Bool:=v17||x.1;
 let v19:Bool:=!decide (subO x.2.1.2.1 x.2.2.1.2.1 (subC x.2.1.2.2 x.2.2.1.2.2 (0:Int))=(0:Int));
 let v20:Bool:=x.1&&!v19;bif v13 then bif decide ((0:Int)≤subC x.2.1.2.2 x.2.2.1.2.2 (0:Int))&&decide (subC x.2.1.2.2 x.2.2.1.2.2 (0 :
  Int)≤(1:Int)) then bif v18 then bif v18 then bif !v20||v20 then bif (v17||v18)&&(v17||(v19||(v17||v20))) then bif v18 then some (bif x.1 then bif v19 then true else
  !decide (subO x.2.1.2.2 x.2.2.1.2.2 (0:Int)=(0:Int)) else false,subO x.2.1.2.1 x.2.2.1.2.1 (subC x.2.1.2.2 x.2.2.1.2.2 (0 :
  Int)),subO x.2.1.2.2 x.2.2.1.2.2 (0:Int)) else none else none else none else none else none else none else none) fun (j:Bool×(Bool×Int×Int)×(Bool×Int ×
  Int)×PUnit→Option (Bool×Int×Int))=>bif decide (t<(0:Int)) then j (v4,x1,x0,PUnit.unit) else j (x0.1,x0,x1,PUnit.unit)
noncomputable def program_product_minus (x0:Bool×Int×Int) (x1:Bool×Int×Int):Option (Bool×Int×Int):=program_product_minus_b lpK jnK program_product_cmpSize x0 x1
noncomputable def c124:Ctr:=⟨[T142,T142],[],[],.one T142,fun x _ _=>program_product_minus x.1 x.2.1⟩
theorem e124 (lp:Lp) (jn:Jn) (program_product_cmpSize:(Bool×Int×Int)→(Bool×Int×Int)→Option (Int)):∀(x:TsS c124.as) (F:TsF c124.fs) (y:TsS c124.cs),program_product_minus_b lp jn program_product_cmpSize x.1 x.2.1=runC lp jn (ctxT tabs lits (ctxOf prog shs inls its [(129,⟨[T142,T142],[],[],.one i64,fun x _ _=>program_product_cmpSize x.1 x.2.1⟩)] [(24,r24),(22,r22)])) hints 4 124 f124 c124 x F y:=fun x F y=>by kernel_rfl
theorem l124:(ctxT tabs lits (ctxOf prog shs inls its [(129,c129)] [(24,r24),(22,r22)])).ok:=ctxT_ok (ctxOf_cons (q24) (by kernel_rfl) ok129)
theorem ok124:c124.ok prog 124:=Ctr.of_den l124 hmix (hl:=hints) (d:=4) func124 rfl (by decide) (e124 lpK jnK program_product_cmpSize)
noncomputable def program_product_over_b (_:Lp) (_:Jn) (bits_Div64:(Int)→(Int)→(Int)→Option (Int×Int×Unit)) (x0:Bool×Int×Int) (x1:Int):Option Int :=
 obind (bits_Div64 x0.2.1 x0.2.2 (IntKind.wrap .u64 x1)) fun (t:Int×Int×PUnit) =>
 let v5:Int:=IntKind.wrap .i64 t.1;bif x0.1 then some (IntKind.wrap .i64 ((0:Int) - v5)) else some v5
noncomputable def program_product_over (x0:Bool×Int×Int) (x1:Int):Option Int:=program_product_over_b lpK jnK bits_Div64 x0 x1
noncomputable def c125:Ctr:=⟨[T142,i64],[],[],.one i64,fun x _ _=>program_product_over x.1 x.2.1⟩
theorem e125 (lp:Lp) (jn:Jn) (bits_Div64:(Int)→(Int)→(Int)→Option (Int×Int×Unit)):∀(x:TsS c125.as) (F:TsF c125.fs) (y:TsS c125.cs),program_product_over_b lp jn bits_Div64 x.1 x.2.1=runC lp jn (ctxT tabs lits (ctxOf prog shs inls its [(121,⟨[(.int .u64),(.int .u64),(.int .u64)],[],[],.tup [(.int .u64),(.int .u64)],fun x _ _=>bits_Div64 x.1 x.2.1 x.2.2.1⟩)] [(24,r24),(22,r22)])) hints 4 125 f125 c125 x F y:=fun x F y=>by kernel_rfl
theorem l125:(ctxT tabs lits (ctxOf prog shs inls its [(121,c121)] [(24,r24),(22,r22)])).ok:=ctxT_ok (ctxOf_cons (q24) (by kernel_rfl) ok121)
theorem ok125:c125.ok prog 125:=Ctr.of_den l125 hmix (hl:=hints) (d:=4) func125 rfl (by decide) (e125 lpK jnK bits_Div64)
noncomputable def program_table_pivot_b (lp:Lp) (_:Jn) (program_times:(Int)→(Int)→Option (Bool×Int×Int)) (program_product_minus:(Bool×Int×Int)→(Bool×Int×Int)→Option (Bool×Int×Int)) (program_product_over:(Bool×Int×Int)→(Int)→Option (Int)) (x0:List Nat×List (Option (List Int))) (x1:Int) (x2:List Int) (x3:List Int) (x4:List Int) (x5:Int) (x6:Int) (x7:Int) (x8:Int):Option ((List Nat×List (Option (List Int)))×Int×(List Int)×(List Int)×(List Int)×Int×Int×Unit) :=
 
 let v11:List Int×List Int×List Int×Int×Int×PUnit:=(List.set x2 (Int.toNat x7) x8,x3,x4,x5,x6,PUnit.unit);bif inB x7 (List.length x0.1) then bif Nat.ble (Nat.succ
  (Int.toNat x7)) (List.length x0.1) then bif inB x8 (List.length (rowD x0.2 (List.getD x0.1 (Int.toNat x7) (0:Nat)))) then bif Nat.ble (Nat.succ (Int.toNat x8)) (List.length
  (rowD x0.2 (List.getD x0.1 (Int.toNat x7) (0:Nat)))) then lp (Int×(List Nat×List (Option (List Int)))×PUnit) ((List Nat×List (Option (List Int)))×Int×List Int×List
  Int×List Int×Int×Int×PUnit) (fun (again:Int×(List Nat×List (Option (List Int)))×PUnit→Option ((List Nat×List (Option (List Int)))×Int×List Int×List Int×List
  Int×Int×Int×PUnit)) (x:Int×(List Nat×List (Option (List Int)))×PUnit) =>
 let v14:Int:=IntKind.wrap .i64 (x.1+(1:Int));
 let v15:(List Nat×List (Option (List Int)))×PUnit:=(x.2.1,PUnit.unit);
 let v16:Int×(List Nat×List (Option (List Int)))×PUnit:=((0:Int),v15);bif decide (x.1<(↑(List.length x0.1):Int)) then bif inB x.1 (List.length x.2.1.1) then
  bif Nat.ble (Nat.succ (Int.toNat x.1)) (List.length x.2.1.1) then bif decide (x.1=x7) then again (v14,v15) else bif inB x8 (List.length (rowD x.2.1.2 (List.getD
  x.2.1.1 (Int.toNat x.1) (0:Nat)))) then bif Nat.ble (Nat.succ (Int.toNat x8)) (List.length (rowD x.2.1.2 (List.getD x.2.1.1 (Int.toNat x.1) (0:Nat)))) then bif
  liveB x.2.1.2 (List.getD x.2.1.1 (Int.toNat x.1) (0:Nat)) then lp (Int×(List Nat×List (Option (List Int)))×PUnit) ((List Nat×List (Option (List Int)))×Int ×
  List Int×List Int×List Int×Int×Int×PUnit) (fun (again_1:Int×(List Nat×List (Option (List Int)))×PUnit→Option ((List Nat×List (Option (List Int)))×Int×List Int
  × List Int×List Int×Int×Int×PUnit)) (x_1:Int×(List Nat×List (Option (List Int)))×PUnit)=>bif decide (x_1.1<(↑(List.length (rowD x.2.1.2 (List.getD
  x.2.1.1 (Int.toNat x.1) (0:Nat)))):Int)) then bif inB x_1.1 (List.length (rowD x_1.2.1.2 (List.getD x.2.1.1 (Int.toNat x.1) (0:Nat)))) then bif Nat.ble
  (Nat.succ (Int.toNat x_1.1)) (List.length (rowD x_1.2.1.2 (List.getD x.2.1.1 (Int.toNat x.1) (0:Nat)))) then obind (program_times (List.getD (rowD x_1.2.1.2
  (List.getD x.2.1.1 (Int.toNat x.1) (0:Nat))) (Int.toNat x_1.1) (0:Int)) (List.getD (rowD x0.2 (List.getD x0.1 (Int.toNat x7) (0:Nat))) (Int.toNat x8) (0:Int))) fun
  (t:Bool×Int×Int)=>bif inB x7 (List.length x_1.2.1.1) then bif Nat.ble (Nat.succ (Int.toNat x7)) (List.length x_1.2.1.1) then bif inB x_1.1 (List.length (rowD
  x_1.2.1.2 (List.getD x_1.2.1.1 (Int.toNat x7) (0:Nat)))) then bif Nat.ble (Nat.succ (Int.toNat x_1.1)) (List.length (rowD x_1.2.1.2 (List.getD x_1.2.1.1
  (Int.toNat x7) (0:Nat)))) then obind (program_times (List.getD (rowD x.2.1.2 (List.getD x.2.1.1 (Int.toNat x.1) (0:Nat))) (Int.toNat x8) (0:Int)) (List.getD (rowD
  x_1.2.1.2 (List.getD x_1.2.1.1 (Int.toNat x7) (0:Nat))) (Int.toNat x_1.1) (0:Int))) fun (t_1:Bool×Int×Int)=>obind (program_product_minus t t_1) fun (t:Bool ×
  Int×Int)=>obind (program_product_over t x1) fun (t:Int)=>bif inB x_1.1 (List.length (rowD x_1.2.1.2 (List.getD x.2.1.1 (Int.toNat x.1) (0:Nat)))) then bif
  Nat.ble (Nat.succ (Int.toNat x_1.1)) (List.length (rowD x_1.2.1.2 (List.getD x.2.1.1 (Int.toNat x.1) (0:Nat)))) then again_1 (IntKind.wrap .i64 (x_1.1+(1 :
  Int)),(x_1.2.1.1,List.set x_1.2.1.2 (List.getD x.2.1.1 (Int.toNat x.1) (0:Nat)) (some (List.set (rowD x_1.2.1.2 (List.getD x.2.1.1 (Int.toNat x.1)
  (0:Nat))) (Int.toNat x_1.1) t))),PUnit.unit) else none else none else none else none else none else none else none else none else again (v14,x_1.2.1,PUnit.unit)) v16 else
  none else none else none else none else none else bif inB x7 (List.length x2) then bif Nat.ble (Nat.succ (Int.toNat x7)) (List.length x2) then bif decide (List.getD (rowD x0.2
  (List.getD x0.1 (Int.toNat x7) (0:Nat))) (Int.toNat x8) (0:Int)<(0:Int)) then lp (Int×(List Nat×List (Option (List Int)))×PUnit) ((List Nat×List (Option (List Int))) ×
  Int×List Int×List Int×List Int×Int×Int×PUnit) (fun (again:Int×(List Nat×List (Option (List Int)))×PUnit→Option ((List Nat×List (Option (List Int)))×Int×List
  Int×List Int×List Int×Int×Int×PUnit)) (x_1:Int×(List Nat×List (Option (List Int)))×PUnit)=>bif decide (x_1.1<(↑(List.length x.2.1.1):Int)) then bif inB
  x_1.1 (List.length x_1.2.1.1) then bif Nat.ble (Nat.succ (Int.toNat x_1.1)) (List.length x_1.2.1.1) then bif liveB x_1.2.1.2 (List.getD x_1.2.1.1 (Int.toNat
  x_1.1) (0:Nat)) then lp (Int×(List Nat×List (Option (List Int)))×PUnit) ((List Nat×List (Option (List Int)))×Int×List Int×List Int×List Int×Int×Int×PUnit) (fun
  (again_1:Int×(List Nat×List (Option (List Int)))×PUnit→Option ((List Nat×List (Option (List Int)))×Int×List Int×List Int×List Int×Int×Int×PUnit)) (x:Int ×
  (List Nat×List (Option (List Int)))×PUnit)=>bif decide (x.1<(↑(List.length (rowD x_1.2.1.2 (List.getD x_1.2.1.1 (Int.toNat x_1.1) (0:Nat)))):Int)) then bif
  inB x.1 (List.length (rowD x.2.1.2 (List.getD x_1.2.1.1 (Int.toNat x_1.1) (0:Nat)))) then bif Nat.ble (Nat.succ (Int.toNat x.1)) (List.length (rowD x.2.1.2
  (List.getD x_1.2.1.1 (Int.toNat x_1.1) (0:Nat)))) then bif inB x.1 (List.length (rowD x.2.1.2 (List.getD x_1.2.1.1 (Int.toNat x_1.1) (0:Nat)))) then bif
  Nat.ble (Nat.succ (Int.toNat x.1)) (List.length (rowD x.2.1.2 (List.getD x_1.2.1.1 (Int.toNat x_1.1) (0:Nat)))) then again_1 (IntKind.wrap .i64 (x.1+(1 :
  Int)),(x.2.1.1,List.set x.2.1.2 (List.getD x_1.2.1.1 (Int.toNat x_1.1) (0:Nat)) (some (List.set (rowD x.2.1.2 (List.getD x_1.2.1.1 (Int.toNat
  x_1.1) (0:Nat))) (Int.toNat x.1) (IntKind.wrap .i64 ((0:Int) - List.getD (rowD x.2.1.2 (List.getD x_1.2.1.1 (Int.toNat x_1.1) (0:Nat))) (Int.toNat x.1)
  (0:Int)))))),PUnit.unit) else none else none else none else none else again (IntKind.wrap .i64 (x_1.1+(1:Int)),x.2.1,PUnit.unit)) ((0:Int),x_1.2.1,
  PUnit.unit) else none else none else none else some (x_1.2.1,IntKind.wrap .i64 ((0:Int) - List.getD (rowD x0.2 (List.getD x0.1 (Int.toNat x7) (0:Nat))) (Int.toNat
  x8) (0:Int)),v11)) v16 else some (x.2.1,List.getD (rowD x0.2 (List.getD x0.1 (Int.toNat x7) (0:Nat))) (Int.toNat x8) (0:Int),v11) else none else none) ((0:Int),x0,
  PUnit.unit) else none else none else none else none
noncomputable def program_table_pivot (x0:List Nat×List (Option (List Int))) (x1:Int) (x2:List Int) (x3:List Int) (x4:List Int) (x5:Int) (x6:Int) (x7:Int) (x8:Int):Option ((List Nat×List (Option (List Int)))×Int×(List Int)×(List Int)×(List Int)×Int×Int×Unit):=program_table_pivot_b lpK jnK program_times program_product_minus program_product_over x0 x1 x2 x3 x4 x5 x6 x7 x8
noncomputable def s109:SCtr:=⟨[.b [.x (.tab 22 .ref 3 i64),.d i64,.row 3 i64,.row 3 i64,.row 3 i64,.d i64,.d i64],.d i64,.d i64],[],fun x=>program_table_pivot x.1 x.2.1 x.2.2.1 x.2.2.2.1 x.2.2.2.2.1 x.2.2.2.2.2.1 x.2.2.2.2.2.2.1 x.2.2.2.2.2.2.2.1 x.2.2.2.2.2.2.2.2.1⟩
theorem e109 (lp:Lp) (jn:Jn) (program_times:(Int)→(Int)→Option (Bool×Int×Int)) (program_product_minus:(Bool×Int×Int)→(Bool×Int×Int)→Option (Bool×Int×Int)) (program_product_over:(Bool×Int×Int)→(Int)→Option (Int)):∀x:TsR (rhI 0 s109.ks),program_table_pivot_b lp jn program_times program_product_minus program_product_over x.1 x.2.1 x.2.2.1 x.2.2.2.1 x.2.2.2.2.1 x.2.2.2.2.2.1 x.2.2.2.2.2.2.1 x.2.2.2.2.2.2.2.1 x.2.2.2.2.2.2.2.2.1=runS lp jn (Dn.look []) (ctxT tabs lits (ctxOf prog shs inls its [(125,⟨[T142,i64],[],[],.one i64,fun x _ _=>program_product_over x.1 x.2.1⟩),(124,⟨[T142,T142],[],[],.one T142,fun x _ _=>program_product_minus x.1 x.2.1⟩),(123,⟨[i64,i64],[],[],.one T142,fun x _ _=>program_times x.1 x.2.1⟩)] [(24,r24),(22,r22)])) hints 4 109 f109 s109 x:=fun x=>by kernel_rfl
theorem l109:(ctxT tabs lits (ctxOf prog shs inls its [(125,c125),(124,c124),(123,c123)] [(24,r24),(22,r22)])).ok:=ctxT_ok (ctxOf_cons (ctxOf_cons (ctxOf_cons (q24) (by kernel_rfl) ok123) (by kernel_rfl) ok124) (by kernel_rfl) ok125)
theorem ok109:s109.ok prog 109:=SCtr.of_den l109 hmix (scOk_nil) (hl:=hints) (d:=4) func109 rfl (by decide) (e109 lpK jnK program_times program_product_minus program_product_over)
noncomputable def program_product_cmp_b (_:Lp) (_:Jn) (program_product_cmpSize:(Bool×Int×Int)→(Bool×Int×Int)→Option (Int)) (x0:Bool×Int×Int) (x1:Bool×Int×Int):Option Int :=
 
 let v4:Bool:=!decide (x0.1=x1.1);
 let v5:Bool:=!v4||v4;bif v5 then bif v5 then bif bif v4 then x0.1 else false then some (-1:Int) else bif v4 then some (1:Int) else bif x0.1 then obind
  (program_product_cmpSize x1 x0) fun (t:Int)=>some t else obind (program_product_cmpSize x0 x1) fun (t:Int)=>some t else none else none
noncomputable def program_product_cmp (x0:Bool×Int×Int) (x1:Bool×Int×Int):Option Int:=program_product_cmp_b lpK jnK program_product_cmpSize x0 x1
noncomputable def c126:Ctr:=⟨[T142,T142],[],[],.one i64,fun x _ _=>program_product_cmp x.1 x.2.1⟩
theorem e126 (lp:Lp) (jn:Jn) (program_product_cmpSize:(Bool×Int×Int)→(Bool×Int×Int)→Option (Int)):∀(x:TsS c126.as) (F:TsF c126.fs) (y:TsS c126.cs),program_product_cmp_b lp jn program_product_cmpSize x.1 x.2.1=runC lp jn (ctxT tabs lits (ctxOf prog shs inls its [(129,⟨[T142,T142],[],[],.one i64,fun x _ _=>program_product_cmpSize x.1 x.2.1⟩)] [(24,r24),(22,r22)])) hints 4 126 f126 c126 x F y:=fun x F y=>by kernel_rfl
theorem l126:(ctxT tabs lits (ctxOf prog shs inls its [(129,c129)] [(24,r24),(22,r22)])).ok:=ctxT_ok (ctxOf_cons (q24) (by kernel_rfl) ok129)
theorem ok126:c126.ok prog 126:=Ctr.of_den l126 hmix (hl:=hints) (d:=4) func126 rfl (by decide) (e126 lpK jnK program_product_cmpSize)
noncomputable def program_table_leaving_b (lp:Lp) (_:Jn) (program_times:(Int)→(Int)→Option (Bool×Int×Int)) (program_product_cmp:(Bool×Int×Int)→(Bool×Int×Int)→Option (Int)) (x0:(List (List Int))×Int×(List Int)×(List Int)×(List Int)×Int×Int) (x1:Int):Option Int :=
 lp (Int×Int×PUnit) Int (fun (again:Int×Int×PUnit→Option Int) (x:Int×Int×PUnit) =>
 let v6:Int×PUnit:=(IntKind.wrap .i64 (x.2.1+(1:Int)),PUnit.unit);
 let v7:Bool:=inB x.1 (List.length x0.1);
 let v8:List Int:=List.getD x0.1 (Int.toNat x.1) [];
 let v9:List Int:=List.getD x0.1 (Int.toNat x.2.1) [];
 let v10:Bool:=inB x1 (List.length v9);bif decide (x.2.1<(↑(List.length x0.1):Int)) then bif inB x.2.1 (List.length x0.1) then bif v10 then bif decide (List.getD v9
  (Int.toNat x1) (0:Int)≤(0:Int)) then again (x.1,v6) else bif decide (x.1<(0:Int)) then again (x.2.1,v6) else bif inB x0.2.2.2.2.2.2 (List.length v9) then
  bif v7 then bif inB x1 (List.length v8) then obind (program_times (List.getD v9 (Int.toNat x0.2.2.2.2.2.2) (0:Int)) (List.getD v8 (Int.toNat x1) (0:Int))) fun (t:Bool
  × Int×Int)=>bif v7 then bif inB x0.2.2.2.2.2.2 (List.length v8) then bif v10 then obind (program_times (List.getD v8 (Int.toNat x0.2.2.2.2.2.2) (0:Int))
  (List.getD v9 (Int.toNat x1) (0:Int))) fun (t_1:Bool×Int×Int)=>obind (program_product_cmp t t_1) fun (t:Int) =>
 let v14:Bool:=decide (t=(0:Int));
 let v15:Bool:=decide (t<(0:Int));
 let v16:Bool:=!v15;
 let v17:Bool:=!v16;
 let v18:Bool:=v16&&v14;
 let v19:Bool:=!v18;
 let v20:Bool:=v17||v16;
 let v21:Bool:=v19||v18;bif v20 then bif v20 then bif v21 then bif v21 then bif v21 then bif v21&&(v21&&(v19||inB x.2.1 (List.length x0.2.2.1))) then bif v21 then
  bif v21 then bif v21 then bif v21 then bif v21&&(v21&&(v19||inB x.1 (List.length x0.2.2.1))) then bif v21 then bif v21&&v21 then bif (v17||v20)&&(v17||(!v14 ||
  (v17||v18))) then bif v15||v16 then bif bif v15 then true else bif v14 then decide (List.getD x0.2.2.1 (Int.toNat x.2.1) (0:Int)<List.getD x0.2.2.1 (Int.toNat
  x.1) (0:Int)) else false then again (x.2.1,v6) else again (x.1,v6) else none else none else none else none else none else none else none else none else none else none else
  none else none else none else none else none else none else none else none else none else none else none else none else none else some x.1) ((-1:Int),(0:Int),PUnit.unit)
noncomputable def program_table_leaving (x0:(List (List Int))×Int×(List Int)×(List Int)×(List Int)×Int×Int) (x1:Int):Option Int:=program_table_leaving_b lpK jnK program_times program_product_cmp x0 x1
noncomputable def p110:PCtr:=⟨T93,[i64],.one i64,fun x y=>program_table_leaving x y.1⟩
theorem e110 (lp:Lp) (jn:Jn) (program_times:(Int)→(Int)→Option (Bool×Int×Int)) (program_product_cmp:(Bool×Int×Int)→(Bool×Int×Int)→Option (Int)):∀(x:p110.s.T) (y:TsS p110.as),program_table_leaving_b lp jn program_times program_product_cmp x y.1=runP lp jn (ctxT tabs lits (ctxOf prog shs inls its [(126,⟨[T142,T142],[],[],.one i64,fun x _ _=>program_product_cmp x.1 x.2.1⟩),(123,⟨[i64,i64],[],[],.one T142,fun x _ _=>program_times x.1 x.2.1⟩)] [(24,r24),(22,r22)])) hints 4 110 f110 p110 x y:=fun x y=>by kernel_rfl
theorem l110:(ctxT tabs lits (ctxOf prog shs inls its [(126,c126),(123,c123)] [(24,r24),(22,r22)])).ok:=ctxT_ok (ctxOf_cons (ctxOf_cons (q24) (by kernel_rfl) ok123) (by kernel_rfl) ok126)
theorem ok110:p110.ok prog 110:=PCtr.of_den l110 hmix (hl:=hints) (d:=4) func110 rfl (by decide) (e110 lpK jnK program_times program_product_cmp)
noncomputable def program_table_start_b (lp:Lp) (_:Jn) (program_table_pivot:(List Nat×List (Option (List Int)))→(Int)→(List Int)→(List Int)→(List Int)→(Int)→(Int)→(Int)→(Int)→Option ((List Nat×List (Option (List Int)))×Int×(List Int)×(List Int)×(List Int)×Int×Int×Unit)) (program_table_artificial:((List (List Int))×Int×(List Int)×(List Int)×(List Int)×Int×Int)→(Int)→Option (Int)) (program_table_leaving:((List (List Int))×Int×(List Int)×(List Int)×(List Int)×Int×Int)→(Int)→Option (Int)) (x0:List Nat×List (Option (List Int))) (x1:Int) (x2:List Int) (x3:List Int) (x4:List Int) (x5:Int) (x6:Int):Option ((List Nat×List (Option (List Int)))×Int×(List Int)×(List Int)×(List Int)×Int×Int×Bool×Unit) :=
 lp ((List Nat×List (Option (List Int)))×Int×List Int×List Int×List Int×Int×Int×PUnit) ((List Nat×List (Option (List Int)))×Int×List Int×List Int×List Int×Int ×
  Int×Bool×PUnit) (fun (again:(List Nat×List (Option (List Int)))×Int×List Int×List Int×List Int×Int×Int×PUnit→Option ((List Nat×List (Option (List Int)))×Int
  × List Int×List Int×List Int×Int×Int×Bool×PUnit)) (x:(List Nat×List (Option (List Int)))×Int×List Int×List Int×List Int×Int×Int×PUnit)=>lp (Int×Int ×
  PUnit) ((List Nat×List (Option (List Int)))×Int×List Int×List Int×List Int×Int×Int×Bool×PUnit) (fun (again_1:Int×Int×PUnit→Option ((List Nat×List (Option
  (List Int)))×Int×List Int×List Int×List Int×Int×Int×Bool×PUnit)) (x_1:Int×Int×PUnit) =>
 let v13:Bool:=decide (x_1.1<(0:Int));
 let v14:Int×PUnit:=(IntKind.wrap .i64 (x_1.2.1+(1:Int)),PUnit.unit);
 let v15:Bool:=decide (x_1.2.1<x.2.2.2.2.2.1);
 let v16:Bool:=!v15||v15;bif v16 then bif v16 then bif bif v15 then v13 else false then obind (bif List.all x.1.1 fun (x_2:Nat)=>liveB x.1.2 x_2 then
  program_table_artificial (List.map (fun (x_2:Nat)=>rowD x.1.2 x_2) x.1.1,x.2.1,x.2.2.1,x.2.2.2.1,x.2.2.2.2.1,x.2.2.2.2.2.1,
  x.2.2.2.2.2.2.1) x_1.2.1 else none) fun (t:Int)=>bif decide (t>(0:Int)) then again_1 (x_1.2.1,v14) else again_1 (x_1.1,v14) else bif v13 then obind
  (bif List.all x.1.1 fun (x_2:Nat)=>liveB x.1.2 x_2 then program_table_artificial (List.map (fun (x_2:Nat)=>rowD x.1.2 x_2) x.1.1,x.2.1,x.2.2.1,
  x.2.2.2.1,x.2.2.2.2.1,x.2.2.2.2.2.1,x.2.2.2.2.2.2.1) x.2.2.2.2.2.2.1 else none) fun (t:Int)=>bif decide (t>(0:Int))
  then some (x.1,x.2.1,x.2.2.1,x.2.2.2.1,x.2.2.2.2.1,x.2.2.2.2.2.1,x.2.2.2.2.2.2.1,false,PUnit.unit) else lp (Int×(List
  Nat×List (Option (List Int)))×Int×List Int×List Int×List Int×Int×Int×PUnit) ((List Nat×List (Option (List Int)))×Int×List Int×List Int×List Int×Int×Int ×
  Bool×PUnit) (fun (again:Int×(List Nat×List (Option (List Int)))×Int×List Int×List Int×List Int×Int×Int×PUnit→Option ((List Nat×List (Option (List Int)))×Int
  × List Int×List Int×List Int×Int×Int×Bool×PUnit)) (x_2:Int×(List Nat×List (Option (List Int)))×Int×List Int×List Int×List Int×Int×Int×PUnit)=>bif
  decide (x_2.1<(↑(List.length x.1.1):Int)) then lp (Int×(List Nat×List (Option (List Int)))×Int×List Int×List Int×List Int×Int×Int×PUnit) ((List Nat×List
  (Option (List Int)))×Int×List Int×List Int×List Int×Int×Int×Bool×PUnit) (fun (again_2:Int×(List Nat×List (Option (List Int)))×Int×List Int×List Int×List
  Int×Int×Int×PUnit→Option ((List Nat×List (Option (List Int)))×Int×List Int×List Int×List Int×Int×Int×Bool×PUnit)) (x:Int×(List Nat×List (Option (List
  Int)))×Int×List Int×List Int×List Int×Int×Int×PUnit) =>
 let v22:Int:=IntKind.wrap .i64 (x.1+(1:Int));
 let v23:Bool:=decide (x.1<x.2.2.2.2.2.2.1);
 let v24:Bool:=!v23;
 let v25:Bool:=v24||v23;
 let v26:(List Nat×List (Option (List Int)))×Int×List Int×List Int×List Int×Int×Int×PUnit:=(x.2.1,x.2.2.1,x.2.2.2.1,x.2.2.2.2.1,
  x.2.2.2.2.2.1,x.2.2.2.2.2.2.1,x.2.2.2.2.2.2.2.1,PUnit.unit);bif v25 then bif v25 then bif v25 then bif v25&&(v25&&(v24||inB x_2.1
  (List.length x.2.2.2.1))) then bif v25&&(v24||Nat.ble (Nat.succ (Int.toNat x_2.1)) (List.length x.2.2.2.1)) then bif v25 then bif v25 then bif v25 then bif v25 &&
  v25 then bif v25 then bif bif v23 then decide (List.getD x.2.2.2.1 (Int.toNat x_2.1) (0:Int)≥x.2.2.2.2.2.2.1) else false then bif inB x_2.1 (List.length
  x.2.1.1) then bif Nat.ble (Nat.succ (Int.toNat x_2.1)) (List.length x.2.1.1) then bif inB x.1 (List.length (rowD x.2.1.2 (List.getD x.2.1.1 (Int.toNat
  x_2.1) (0:Nat)))) then bif Nat.ble (Nat.succ (Int.toNat x.1)) (List.length (rowD x.2.1.2 (List.getD x.2.1.1 (Int.toNat x_2.1) (0:Nat)))) then bif !decide
  (List.getD (rowD x.2.1.2 (List.getD x.2.1.1 (Int.toNat x_2.1) (0:Nat))) (Int.toNat x.1) (0:Int)=(0:Int)) then obind (program_table_pivot x.2.1 x.2.2.1
  x.2.2.2.1 x.2.2.2.2.1 x.2.2.2.2.2.1 x.2.2.2.2.2.2.1 x.2.2.2.2.2.2.2.1 x_2.1 x.1) fun (y:(List Nat×List (Option (List
  Int)))×Int×List Int×List Int×List Int×Int×Int×PUnit)=>again_2 (v22,y.1,y.2.1,y.2.2.1,y.2.2.2.1,y.2.2.2.2.1,y.2.2.2.2.2.1,
  y.2.2.2.2.2.2.1,PUnit.unit) else again_2 (v22,v26) else none else none else none else none else again (IntKind.wrap .i64 (x_2.1+(1:Int)),v26) else none
  else none else none else none else none else none else none else none else none else none) ((0:Int),x_2.2.1,x_2.2.2.1,x_2.2.2.2.1,x_2.2.2.2.2.1,
  x_2.2.2.2.2.2.1,x_2.2.2.2.2.2.2.1,x_2.2.2.2.2.2.2.2.1,PUnit.unit) else some (x_2.2.1,x_2.2.2.1,x_2.2.2.2.1,
  x_2.2.2.2.2.1,x_2.2.2.2.2.2.1,x_2.2.2.2.2.2.2.1,x_2.2.2.2.2.2.2.2.1,true,PUnit.unit)) ((0:Int),x.1,x.2.1,
  x.2.2.1,x.2.2.2.1,x.2.2.2.2.1,x.2.2.2.2.2.1,x.2.2.2.2.2.2.1,PUnit.unit) else obind (bif List.all x.1.1 fun (x_2:Nat) =>
  liveB x.1.2 x_2 then program_table_leaving (List.map (fun (x_2:Nat)=>rowD x.1.2 x_2) x.1.1,x.2.1,x.2.2.1,x.2.2.2.1,x.2.2.2.2.1,
  x.2.2.2.2.2.1,x.2.2.2.2.2.2.1) x_1.1 else none) fun (t:Int)=>obind (program_table_pivot x.1 x.2.1 x.2.2.1 x.2.2.2.1
  x.2.2.2.2.1 x.2.2.2.2.2.1 x.2.2.2.2.2.2.1 t x_1.1) fun (y:(List Nat×List (Option (List Int)))×Int×List Int×List Int×List Int×Int ×
  Int×PUnit)=>again (y.1,y.2.1,y.2.2.1,y.2.2.2.1,y.2.2.2.2.1,y.2.2.2.2.2.1,y.2.2.2.2.2.2.1,PUnit.unit) else none else
  none) ((-1:Int),(0:Int),PUnit.unit)) (x0,x1,x2,x3,x4,x5,x6,PUnit.unit)
noncomputable def program_table_start (x0:List Nat×List (Option (List Int))) (x1:Int) (x2:List Int) (x3:List Int) (x4:List Int) (x5:Int) (x6:Int):Option ((List Nat×List (Option (List Int)))×Int×(List Int)×(List Int)×(List Int)×Int×Int×Bool×Unit):=program_table_start_b lpK jnK program_table_pivot program_table_artificial program_table_leaving x0 x1 x2 x3 x4 x5 x6
noncomputable def s64:SCtr:=⟨[.b [.x (.tab 22 .ref 3 i64),.d i64,.row 3 i64,.row 3 i64,.row 3 i64,.d i64,.d i64]],[(false,[.d .bool])],fun x=>program_table_start x.1 x.2.1 x.2.2.1 x.2.2.2.1 x.2.2.2.2.1 x.2.2.2.2.2.1 x.2.2.2.2.2.2.1⟩
theorem e64 (lp:Lp) (jn:Jn) (program_table_pivot:(List Nat×List (Option (List Int)))→(Int)→(List Int)→(List Int)→(List Int)→(Int)→(Int)→(Int)→(Int)→Option ((List Nat×List (Option (List Int)))×Int×(List Int)×(List Int)×(List Int)×Int×Int×Unit)) (program_table_artificial:((List (List Int))×Int×(List Int)×(List Int)×(List Int)×Int×Int)→(Int)→Option (Int)) (program_table_leaving:((List (List Int))×Int×(List Int)×(List Int)×(List Int)×Int×Int)→(Int)→Option (Int)):∀x:TsR (rhI 0 s64.ks),program_table_start_b lp jn program_table_pivot program_table_artificial program_table_leaving x.1 x.2.1 x.2.2.1 x.2.2.2.1 x.2.2.2.2.1 x.2.2.2.2.2.1 x.2.2.2.2.2.2.1=runS lp jn (Dn.look [(109,⟨[.b [.x (.tab 22 .ref 3 i64),.d i64,.row 3 i64,.row 3 i64,.row 3 i64,.d i64,.d i64],.d i64,.d i64],[],fun x=>program_table_pivot x.1 x.2.1 x.2.2.1 x.2.2.2.1 x.2.2.2.2.1 x.2.2.2.2.2.1 x.2.2.2.2.2.2.1 x.2.2.2.2.2.2.2.1 x.2.2.2.2.2.2.2.2.1⟩)]) (ctxT tabs lits (ctxP [(110,⟨T93,[i64],.one i64,fun x y=>program_table_leaving x y.1⟩),(73,⟨T93,[i64],.one i64,fun x y=>program_table_artificial x y.1⟩)] [] (ctxOf prog shs inls its [] [(24,r24),(22,r22)]))) hints 4 64 f64 s64 x:=fun x=>by kernel_rfl
theorem l64:(ctxT tabs lits (ctxP [(110,p110),(73,p73)] [] (ctxOf prog shs inls its [] [(24,r24),(22,r22)]))).ok:=ctxT_ok (ctxP_ok (q24) (pcOk_cons (by kernel_rfl) ok110 (pcOk_cons (by kernel_rfl) ok73 (pcOk_nil))) (mcOk_nil))
theorem ok64:s64.ok prog 64:=SCtr.of_den l64 hmix (scOk_cons ok109 (scOk_nil)) (hl:=hints) (d:=4) func64 rfl (by decide) (e64 lpK jnK program_table_pivot program_table_artificial program_table_leaving)
noncomputable def program_table_cost_b (_:Lp) (_:Jn) (x0:(List (List Int))×Int×(List Int)×(List Int)×(List Int)×Int×Int) (x1:Int):Option Int :=
 bif decide (x1<(↑(List.length x0.2.2.2.2.1):Int)) then bif inB x1 (List.length x0.2.2.2.2.1) then some (List.getD x0.2.2.2.2.1 (Int.toNat x1) (0:Int))
  else none else some (0:Int)
noncomputable def program_table_cost (x0:(List (List Int))×Int×(List Int)×(List Int)×(List Int)×Int×Int) (x1:Int):Option Int:=program_table_cost_b lpK jnK x0 x1
noncomputable def p66:PCtr:=⟨T93,[i64],.one i64,fun x y=>program_table_cost x y.1⟩
theorem e66 (lp:Lp) (jn:Jn):∀(x:p66.s.T) (y:TsS p66.as),program_table_cost_b lp jn x y.1=runP lp jn (ctxT tabs lits (ctxOf prog shs inls its [] [(24,r24),(22,r22)])) hints 4 66 f66 p66 x y:=fun x y=>by kernel_rfl
theorem l66:(ctxT tabs lits (ctxOf prog shs inls its [] [(24,r24),(22,r22)])).ok:=ctxT_ok (q24)
theorem ok66:p66.ok prog 66:=PCtr.of_den l66 hmix (hl:=hints) (d:=4) func66 rfl (by decide) (e66 lpK jnK)
noncomputable def program_table_reduced_b (lp:Lp) (_:Jn) (program_table_cost:((List (List Int))×Int×(List Int)×(List Int)×(List Int)×Int×Int)→(Int)→Option (Int)) (x0:(List (List Int))×Int×(List Int)×(List Int)×(List Int)×Int×Int) (x1:Int):Option Int :=
 obind (program_table_cost x0 x1) fun (t:Int)=>lp (Int×Int×PUnit) Int (fun (again:Int×Int×PUnit→Option Int) (x:Int×Int×PUnit) =>
 let v7:List Int:=List.getD x0.1 (Int.toNat x.2.1) [];bif decide (x.2.1<(↑(List.length x0.1):Int)) then bif inB x.2.1 (List.length x0.1) then bif inB x.2.1
  (List.length x0.2.2.1) then obind (program_table_cost x0 (List.getD x0.2.2.1 (Int.toNat x.2.1) (0:Int))) fun (t:Int)=>bif inB x1 (List.length v7) then again
  (IntKind.wrap .i64 (x.1 - IntKind.wrap .i64 (t*List.getD v7 (Int.toNat x1) (0:Int))),IntKind.wrap .i64 (x.2.1+(1:Int)),PUnit.unit) else none else
  none else none else some x.1) (IntKind.wrap .i64 (t*x0.2.1),(0:Int),PUnit.unit)
noncomputable def program_table_reduced (x0:(List (List Int))×Int×(List Int)×(List Int)×(List Int)×Int×Int) (x1:Int):Option Int:=program_table_reduced_b lpK jnK program_table_cost x0 x1
noncomputable def p111:PCtr:=⟨T93,[i64],.one i64,fun x y=>program_table_reduced x y.1⟩
theorem e111 (lp:Lp) (jn:Jn) (program_table_cost:((List (List Int))×Int×(List Int)×(List Int)×(List Int)×Int×Int)→(Int)→Option (Int)):∀(x:p111.s.T) (y:TsS p111.as),program_table_reduced_b lp jn program_table_cost x y.1=runP lp jn (ctxT tabs lits (ctxP [(66,⟨T93,[i64],.one i64,fun x y=>program_table_cost x y.1⟩)] [] (ctxOf prog shs inls its [] [(24,r24),(22,r22)]))) hints 4 111 f111 p111 x y:=fun x y=>by kernel_rfl
theorem l111:(ctxT tabs lits (ctxP [(66,p66)] [] (ctxOf prog shs inls its [] [(24,r24),(22,r22)]))).ok:=ctxT_ok (ctxP_ok (q24) (pcOk_cons (by kernel_rfl) ok66 (pcOk_nil)) (mcOk_nil))
theorem ok111:p111.ok prog 111:=PCtr.of_den l111 hmix (hl:=hints) (d:=4) func111 rfl (by decide) (e111 lpK jnK program_table_cost)
noncomputable def program_table_improve_b (lp:Lp) (_:Jn) (program_table_pivot:(List Nat×List (Option (List Int)))→(Int)→(List Int)→(List Int)→(List Int)→(Int)→(Int)→(Int)→(Int)→Option ((List Nat×List (Option (List Int)))×Int×(List Int)×(List Int)×(List Int)×Int×Int×Unit)) (program_table_leaving:((List (List Int))×Int×(List Int)×(List Int)×(List Int)×Int×Int)→(Int)→Option (Int)) (program_table_reduced:((List (List Int))×Int×(List Int)×(List Int)×(List Int)×Int×Int)→(Int)→Option (Int)) (x0:List Nat×List (Option (List Int))) (x1:Int) (x2:List Int) (x3:List Int) (x4:List Int) (x5:Int) (x6:Int):Option ((List Nat×List (Option (List Int)))×Int×(List Int)×(List Int)×(List Int)×Int×Int×Bool×Unit) :=
 lp ((List Nat×List (Option (List Int)))×Int×List Int×List Int×List Int×Int×Int×PUnit) ((List Nat×List (Option (List Int)))×Int×List Int×List Int×List Int×Int ×
  Int×Bool×PUnit) (fun (again:(List Nat×List (Option (List Int)))×Int×List Int×List Int×List Int×Int×Int×PUnit→Option ((List Nat×List (Option (List Int)))×Int
  × List Int×List Int×List Int×Int×Int×Bool×PUnit)) (x:(List Nat×List (Option (List Int)))×Int×List Int×List Int×List Int×Int×Int×PUnit)=>lp (Int×Int ×
  PUnit) ((List Nat×List (Option (List Int)))×Int×List Int×List Int×List Int×Int×Int×Bool×PUnit) (fun (again_1:Int×Int×PUnit→Option ((List Nat×List (Option
  (List Int)))×Int×List Int×List Int×List Int×Int×Int×Bool×PUnit)) (x_1:Int×Int×PUnit) =>
 let v13:Bool:=decide (x_1.1<(0:Int));
 let v14:Int×PUnit:=(IntKind.wrap .i64 (x_1.2.1+(1:Int)),PUnit.unit);
 let v15:Bool:=decide (x_1.2.1<x.2.2.2.2.2.1);
 let v16:Bool:=!v15||v15;bif v16 then bif v16 then bif bif v15 then v13 else false then obind (bif List.all x.1.1 fun (x_2:Nat)=>liveB x.1.2 x_2 then
  program_table_reduced (List.map (fun (x_2:Nat)=>rowD x.1.2 x_2) x.1.1,x.2.1,x.2.2.1,x.2.2.2.1,x.2.2.2.2.1,x.2.2.2.2.2.1,
  x.2.2.2.2.2.2.1) x_1.2.1 else none) fun (t:Int)=>bif decide (t<(0:Int)) then again_1 (x_1.2.1,v14) else again_1 (x_1.1,v14) else bif v13 then some
  (x.1,x.2.1,x.2.2.1,x.2.2.2.1,x.2.2.2.2.1,x.2.2.2.2.2.1,x.2.2.2.2.2.2.1,true,PUnit.unit) else obind (bif List.all
  x.1.1 fun (x_2:Nat)=>liveB x.1.2 x_2 then program_table_leaving (List.map (fun (x_2:Nat)=>rowD x.1.2 x_2) x.1.1,x.2.1,x.2.2.1,x.2.2.2.1,
  x.2.2.2.2.1,x.2.2.2.2.2.1,x.2.2.2.2.2.2.1) x_1.1 else none) fun (t:Int)=>bif decide (t<(0:Int)) then some (x.1,x.2.1,
  x.2.2.1,x.2.2.2.1,x.2.2.2.2.1,x.2.2.2.2.2.1,x.2.2.2.2.2.2.1,false,PUnit.unit) else obind (program_table_pivot x.1 x.2.1
  x.2.2.1 x.2.2.2.1 x.2.2.2.2.1 x.2.2.2.2.2.1 x.2.2.2.2.2.2.1 t x_1.1) fun (y:(List Nat×List (Option (List Int)))×Int×List Int
  × List Int×List Int×Int×Int×PUnit)=>again (y.1,y.2.1,y.2.2.1,y.2.2.2.1,y.2.2.2.2.1,y.2.2.2.2.2.1,y.2.2.2.2.2.2.1,
  PUnit.unit) else none else none) ((-1:Int),(0:Int),PUnit.unit)) (x0,x1,x2,x3,x4,x5,x6,PUnit.unit)
noncomputable def program_table_improve (x0:List Nat×List (Option (List Int))) (x1:Int) (x2:List Int) (x3:List Int) (x4:List Int) (x5:Int) (x6:Int):Option ((List Nat×List (Option (List Int)))×Int×(List Int)×(List Int)×(List Int)×Int×Int×Bool×Unit):=program_table_improve_b lpK jnK program_table_pivot program_table_leaving program_table_reduced x0 x1 x2 x3 x4 x5 x6
noncomputable def s65:SCtr:=⟨[.b [.x (.tab 22 .ref 3 i64),.d i64,.row 3 i64,.row 3 i64,.row 3 i64,.d i64,.d i64]],[(false,[.d .bool])],fun x=>program_table_improve x.1 x.2.1 x.2.2.1 x.2.2.2.1 x.2.2.2.2.1 x.2.2.2.2.2.1 x.2.2.2.2.2.2.1⟩
theorem e65 (lp:Lp) (jn:Jn) (program_table_pivot:(List Nat×List (Option (List Int)))→(Int)→(List Int)→(List Int)→(List Int)→(Int)→(Int)→(Int)→(Int)→Option ((List Nat×List (Option (List Int)))×Int×(List Int)×(List Int)×(List Int)×Int×Int×Unit)) (program_table_leaving:((List (List Int))×Int×(List Int)×(List Int)×(List Int)×Int×Int)→(Int)→Option (Int)) (program_table_reduced:((List (List Int))×Int×(List Int)×(List Int)×(List Int)×Int×Int)→(Int)→Option (Int)):∀x:TsR (rhI 0 s65.ks),program_table_improve_b lp jn program_table_pivot program_table_leaving program_table_reduced x.1 x.2.1 x.2.2.1 x.2.2.2.1 x.2.2.2.2.1 x.2.2.2.2.2.1 x.2.2.2.2.2.2.1=runS lp jn (Dn.look [(109,⟨[.b [.x (.tab 22 .ref 3 i64),.d i64,.row 3 i64,.row 3 i64,.row 3 i64,.d i64,.d i64],.d i64,.d i64],[],fun x=>program_table_pivot x.1 x.2.1 x.2.2.1 x.2.2.2.1 x.2.2.2.2.1 x.2.2.2.2.2.1 x.2.2.2.2.2.2.1 x.2.2.2.2.2.2.2.1 x.2.2.2.2.2.2.2.2.1⟩)]) (ctxT tabs lits (ctxP [(111,⟨T93,[i64],.one i64,fun x y=>program_table_reduced x y.1⟩),(110,⟨T93,[i64],.one i64,fun x y=>program_table_leaving x y.1⟩)] [] (ctxOf prog shs inls its [] [(24,r24),(22,r22)]))) hints 4 65 f65 s65 x:=fun x=>by kernel_rfl
theorem l65:(ctxT tabs lits (ctxP [(111,p111),(110,p110)] [] (ctxOf prog shs inls its [] [(24,r24),(22,r22)]))).ok:=ctxT_ok (ctxP_ok (q24) (pcOk_cons (by kernel_rfl) ok111 (pcOk_cons (by kernel_rfl) ok110 (pcOk_nil))) (mcOk_nil))
theorem ok65:s65.ok prog 65:=SCtr.of_den l65 hmix (scOk_cons ok109 (scOk_nil)) (hl:=hints) (d:=4) func65 rfl (by decide) (e65 lpK jnK program_table_pivot program_table_leaving program_table_reduced)
noncomputable def ratio_Make_b (_:Lp) (_:Jn) (ratio_size:(Int)→Option (Int)) (ratio_gcd:(Int)→(Int)→Option (Int)) (ratio_signed:(Bool)→(Int)→(Int)→Option ((Int×Int)×Int×Unit)) (x0:Int) (x1:Int):Option ((Int×Int)×Int×Unit) :=
 
 let v4:Bool:=!decide (x0=(0:Int));
 let v5:Bool:=!v4||v4;bif decide (x1=(0:Int)) then some (((0:Int),(0:Int)),(16:Int),PUnit.unit) else obind (ratio_size x0) fun (t:Int)=>obind (ratio_size x1) fun
  (t_1:Int)=>obind (ratio_gcd t t_1) fun (t_2:Int) =>
 let v9:Bool:=nzB t_2;bif v5 then bif v5 then bif v5&&v5 then bif v5 then bif v9 then bif v9 then obind (ratio_signed (bif v4 then !decide (decide (x0<(0:Int))=decide (x1<(0
  : Int))) else false) (IntKind.wrap .u64 (Int.tdiv t t_2)) (IntKind.wrap .u64 (Int.tdiv t_1 t_2))) fun (t:(Int×Int)×Int×PUnit)=>some (t.1,t.2.1,
  PUnit.unit) else none else none else none else none else none else none
noncomputable def ratio_Make (x0:Int) (x1:Int):Option ((Int×Int)×Int×Unit):=ratio_Make_b lpK jnK ratio_size ratio_gcd ratio_signed x0 x1
noncomputable def c112:Ctr:=⟨[i64,i64],[],[],.tup [T27,i64],fun x _ _=>ratio_Make x.1 x.2.1⟩
theorem e112 (lp:Lp) (jn:Jn) (ratio_size:(Int)→Option (Int)) (ratio_gcd:(Int)→(Int)→Option (Int)) (ratio_signed:(Bool)→(Int)→(Int)→Option ((Int×Int)×Int×Unit)):∀(x:TsS c112.as) (F:TsF c112.fs) (y:TsS c112.cs),ratio_Make_b lp jn ratio_size ratio_gcd ratio_signed x.1 x.2.1=runC lp jn (ctxT tabs lits (ctxOf prog shs inls its [(92,⟨[.bool,(.int .u64),(.int .u64)],[],[],.tup [T27,i64],fun x _ _=>ratio_signed x.1 x.2.1 x.2.2.1⟩),(88,⟨[(.int .u64),(.int .u64)],[],[],.one (.int .u64),fun x _ _=>ratio_gcd x.1 x.2.1⟩),(69,⟨[i64],[],[],.one (.int .u64),fun x _ _=>ratio_size x.1⟩)] [(24,r24),(22,r22)])) hints 4 112 f112 c112 x F y:=fun x F y=>by kernel_rfl
theorem l112:(ctxT tabs lits (ctxOf prog shs inls its [(92,c92),(88,c88),(69,c69)] [(24,r24),(22,r22)])).ok:=ctxT_ok (ctxOf_cons (ctxOf_cons (ctxOf_cons (q24) (by kernel_rfl) ok69) (by kernel_rfl) ok88) (by kernel_rfl) ok92)
theorem ok112:c112.ok prog 112:=Ctr.of_den l112 hmix (hl:=hints) (d:=4) func112 rfl (by decide) (e112 lpK jnK ratio_size ratio_gcd ratio_signed)
noncomputable def program_table_part_b (_:Lp) (_:Jn) (ratio_Make:(Int)→(Int)→Option ((Int×Int)×Int×Unit)) (x0:(List (List Int))×Int×(List Int)×(List Int)×(List Int)×Int×Int) (x1:Int):Option (Int×Int) :=
 obind (ratio_Make x1 x0.2.1) fun (t:(Int×Int)×Int×PUnit)=>some t.1
noncomputable def program_table_part (x0:(List (List Int))×Int×(List Int)×(List Int)×(List Int)×Int×Int) (x1:Int):Option (Int×Int):=program_table_part_b lpK jnK ratio_Make x0 x1
noncomputable def p67:PCtr:=⟨T93,[i64],.one T27,fun x y=>program_table_part x y.1⟩
theorem e67 (lp:Lp) (jn:Jn) (ratio_Make:(Int)→(Int)→Option ((Int×Int)×Int×Unit)):∀(x:p67.s.T) (y:TsS p67.as),program_table_part_b lp jn ratio_Make x y.1=runP lp jn (ctxT tabs lits (ctxOf prog shs inls its [(112,⟨[i64,i64],[],[],.tup [T27,i64],fun x _ _=>ratio_Make x.1 x.2.1⟩)] [(24,r24),(22,r22)])) hints 4 67 f67 p67 x y:=fun x y=>by kernel_rfl
theorem l67:(ctxT tabs lits (ctxOf prog shs inls its [(112,c112)] [(24,r24),(22,r22)])).ok:=ctxT_ok (ctxOf_cons (q24) (by kernel_rfl) ok112)
theorem ok67:p67.ok prog 67:=PCtr.of_den l67 hmix (hl:=hints) (d:=4) func67 rfl (by decide) (e67 lpK jnK ratio_Make)
noncomputable def program_Solve_b (lp:Lp) (jn:Jn) (program_Valid:((List Int)×List ((List Int)×Int×Int))→Option (Bool)) (program_fits:((List Int)×List ((List Int)×Int×Int))→Option (Bool)) (slices_Clone_22:(List Int)→Option (List Int)) (program_table_start:(List Nat×List (Option (List Int)))→(Int)→(List Int)→(List Int)→(List Int)→(Int)→(Int)→Option ((List Nat×List (Option (List Int)))×Int×(List Int)×(List Int)×(List Int)×Int×Int×Bool×Unit)) (program_table_improve:(List Nat×List (Option (List Int)))→(Int)→(List Int)→(List Int)→(List Int)→(Int)→(Int)→Option ((List Nat×List (Option (List Int)))×Int×(List Int)×(List Int)×(List Int)×Int×Int×Bool×Unit)) (program_table_cost:((List (List Int))×Int×(List Int)×(List Int)×(List Int)×Int×Int)→(Int)→Option (Int)) (program_table_part:((List (List Int))×Int×(List Int)×(List Int)×(List Int)×Int×Int)→(Int)→Option (Int×Int)) (x0:(List Int)×List ((List Int)×Int×Int)):Option (((Int×Int)×(List (Int×Int))×List (Int×Int))×Int×Unit) :=
 obind (program_Valid x0) fun (t:Bool)=>bif !t then some ((((0:Int),(0:Int)),[],[]),(1:Int),PUnit.unit) else obind (program_fits x0) fun (t:Bool)=>bif !t then some ((((0 :
  Int),(0:Int)),[],[]),(5:Int),PUnit.unit) else lp (Int×Int×PUnit) (((Int×Int)×List (Int×Int)×List (Int×Int))×Int×PUnit) (fun (again:Int×Int×PUnit →
  Option (((Int×Int)×List (Int×Int)×List (Int×Int))×Int×PUnit)) (x:Int×Int×PUnit) =>
 let v7:Int×PUnit:=(IntKind.wrap .i64 (x.2.1+(1:Int)),PUnit.unit);
 let v8:Int:=IntKind.wrap .i64 ((↑(List.length x0.1):Int)+x.1);bif decide (x.2.1<(↑(List.length x0.2):Int)) then bif inB x.2.1 (List.length x0.2) then
  bif !decide ((List.getD x0.2 (Int.toNat x.2.1) ([],(0:Int),(0:Int))).2.1=(3:Int)) then again (IntKind.wrap .i64 (x.1+(1:Int)),v7) else again (x.1,
  v7) else none else obind (slices_Clone_22 x0.1) fun (t:List Int)=>lp (Int×Int×(List Nat×List (Option (List Int)))×Int×List Int×List Int×List Int×Int×Int×PUnit)
  (((Int×Int)×List (Int×Int)×List (Int×Int))×Int×PUnit) (fun (again:Int×Int×(List Nat×List (Option (List Int)))×Int×List Int×List Int×List Int×Int×Int ×
  PUnit→Option (((Int×Int)×List (Int×Int)×List (Int×Int))×Int×PUnit)) (x:Int×Int×(List Nat×List (Option (List Int)))×Int×List Int×List Int×List Int×Int ×
  Int×PUnit) =>
 let v12:Int:=IntKind.wrap .i64 (x.1+(1:Int));
 let v13:List Int×Int×Int:=List.getD x0.2 (Int.toNat x.2.1) ([],(0:Int),(0:Int));
 let v14:List Int:=List.replicate (Int.toNat (IntKind.wrap .i64 (x.2.2.2.2.2.2.2.2.1+(1:Int)))) (0:Int);
 let v15:Bool:=inB x.1 (Int.toNat (IntKind.wrap .i64 (x.2.2.2.2.2.2.2.2.1+(1:Int))));
 let v16:Bool:=Nat.ble (Nat.succ (Int.toNat x.1)) (Int.toNat (IntKind.wrap .i64 (x.2.2.2.2.2.2.2.2.1+(1:Int))));
 let v17:Int:=IntKind.wrap .i64 (x.2.2.2.2.2.2.2.1+x.2.1);
 let v18:List Int:=List.take (Int.toNat (IntKind.wrap .i64 (x.2.2.2.2.2.2.2.2.1+(1:Int)))) v13.1;
 let v19:List Int:=List.set (List.take (0:Nat) v14++v18++List.drop ((0:Nat)+List.length v18) v14) (Int.toNat x.2.2.2.2.2.2.2.2.1) v13.2.2;bif decide
  (x.2.1<(↑(List.length x0.2):Int)) then bif inB x.2.1 (List.length x0.2) then bif decide ((0:Int)≤IntKind.wrap .i64 (x.2.2.2.2.2.2.2.2.1+(1
  : Int)))&&fitB (Int.toNat (IntKind.wrap .i64 (x.2.2.2.2.2.2.2.2.1+(1:Int)))) (8:Nat) then bif inB x.2.2.2.2.2.2.2.2.1 (Int.toNat
  (IntKind.wrap .i64 (x.2.2.2.2.2.2.2.2.1+(1:Int)))) then bif Nat.ble (Nat.succ (Int.toNat x.2.2.2.2.2.2.2.2.1)) (Int.toNat (IntKind.wrap
  IntKind.i64 (x.2.2.2.2.2.2.2.2.1+(1:Int)))) then jn (Int×List Int×PUnit) (((Int×Int)×List (Int×Int)×List (Int×Int))×Int×PUnit) (fun (x_1:Int ×
  List Int×PUnit) =>
 let v21:List Int×PUnit:=(x_1.2.1,PUnit.unit);jn (Int×List Int×PUnit) (((Int×Int)×List (Int×Int)×List (Int×Int))×Int×PUnit) (fun (x_2:Int×List Int ×
  PUnit)=>bif inB v17 (List.length x_2.2.1) then bif Nat.ble (Nat.succ (Int.toNat v17)) (List.length x_2.2.1) then bif fitB (List.length x.2.2.1.1+(1:Nat)) (24 :
  Nat) then bif fitB (List.length x.2.2.2.2.2.1+(1:Nat)) (8:Nat) then bif fitB (List.length x.2.2.2.2.1+(1:Nat)) (8:Nat) then again (x_1.1,
  IntKind.wrap .i64 (x.2.1+(1:Int)),(x.2.2.1.1++[List.length x.2.2.1.2+(0:Nat)],x.2.2.1.2++[some (List.set x_2.2.1 (Int.toNat v17) (1
  : Int))]),x.2.2.2.1,x.2.2.2.2.1++[v17],x.2.2.2.2.2.1++[x_2.1],x.2.2.2.2.2.2.1,x.2.2.2.2.2.2.2.1,
  x.2.2.2.2.2.2.2.2.1,PUnit.unit) else none else none else none else none else none) fun (j:Int×List Int×PUnit→Option (((Int×Int)×List (Int×Int)×List
  (Int×Int))×Int×PUnit))=>bif decide (v13.2.2<(0:Int)) then lp (Int×List Int×PUnit) (((Int×Int)×List (Int×Int)×List (Int×Int))×Int×PUnit) (fun (again :
  Int×List Int×PUnit→Option (((Int×Int)×List (Int×Int)×List (Int×Int))×Int×PUnit)) (x:Int×List Int×PUnit) =>
 let v25:Bool:=inB x.1 (List.length x.2.1);
 let v26:Bool:=Nat.ble (Nat.succ (Int.toNat x.1)) (List.length x.2.1);bif decide (x.1<(↑(List.length x_1.2.1):Int)) then bif v25 then bif v26 then bif v25 then bif v26
  then again (IntKind.wrap .i64 (x.1+(1:Int)),List.set x.2.1 (Int.toNat x.1) (IntKind.wrap .i64 ((0:Int) - List.getD x.2.1 (Int.toNat x.1) (0:Int))),
  PUnit.unit) else none else none else none else none else j ((-1:Int),x.2.1,PUnit.unit)) ((0:Int),v21) else j ((1:Int),v21)) fun (j:Int×List Int×PUnit→Option (((Int
  × Int)×List (Int×Int)×List (Int×Int))×Int×PUnit))=>bif decide (v13.2.1=(1:Int)) then bif v15 then bif v16 then j (v12,List.set v19 (Int.toNat x.1) (1:Int),
  PUnit.unit) else none else none else jn (Int×List Int×PUnit) (((Int×Int)×List (Int×Int)×List (Int×Int))×Int×PUnit) (fun (x:Int×List Int×PUnit)=>j (x.1,
  x.2.1,PUnit.unit)) fun (j:Int×List Int×PUnit→Option (((Int×Int)×List (Int×Int)×List (Int×Int))×Int×PUnit))=>bif decide (v13.2.1=(2:Int)) then bif
  v15 then bif v16 then j (v12,List.set v19 (Int.toNat x.1) (-1:Int),PUnit.unit) else none else none else j (x.1,v19,PUnit.unit) else none else none else none else none else
  obind (program_table_start x.2.2.1 x.2.2.2.1 x.2.2.2.2.1 x.2.2.2.2.2.1 x.2.2.2.2.2.2.1 x.2.2.2.2.2.2.2.1
  x.2.2.2.2.2.2.2.2.1) fun (y:(List Nat×List (Option (List Int)))×Int×List Int×List Int×List Int×Int×Int×Bool×PUnit)=>bif
  !y.2.2.2.2.2.2.2.1 then some ((((0:Int),(0:Int)),[],[]),(22:Int),PUnit.unit) else obind (program_table_improve y.1 y.2.1 y.2.2.1 y.2.2.2.1
  y.2.2.2.2.1 y.2.2.2.2.2.1 y.2.2.2.2.2.2.1) fun (y:(List Nat×List (Option (List Int)))×Int×List Int×List Int×List Int×Int×Int×Bool ×
  PUnit)=>bif !y.2.2.2.2.2.2.2.1 then some ((((0:Int),(0:Int)),[],[]),(21:Int),PUnit.unit) else bif decide ((0:Int)≤(↑(List.length x0.1):Int))&&fitB
  (Int.toNat (↑(List.length x0.1):Int)) (8:Nat) then lp (Int×Int×List Int×PUnit) (((Int×Int)×List (Int×Int)×List (Int×Int))×Int×PUnit) (fun (again:Int×Int ×
  List Int×PUnit→Option (((Int×Int)×List (Int×Int)×List (Int×Int))×Int×PUnit)) (x:Int×Int×List Int×PUnit) =>
 let v24:Int:=IntKind.wrap .i64 (x.2.1+(1:Int));
 let v25:Bool:=inB x.2.1 (List.length y.1.1);
 let v26:Bool:=Nat.ble (Nat.succ (Int.toNat x.2.1)) (List.length y.1.1);
 let v27:Int:=List.getD y.2.2.1 (Int.toNat x.2.1) (0:Int);bif decide (x.2.1<(↑(List.length y.2.2.1):Int)) then bif inB x.2.1 (List.length y.2.2.1)
  then bif Nat.ble (Nat.succ (Int.toNat x.2.1)) (List.length y.2.2.1) then obind (bif List.all y.1.1 fun (x:Nat)=>liveB y.1.2 x then program_table_cost (List.map
  (fun (x:Nat)=>rowD y.1.2 x) y.1.1,y.2.1,y.2.2.1,y.2.2.2.1,y.2.2.2.2.1,y.2.2.2.2.2.1,y.2.2.2.2.2.2.1) v27 else
  none) fun (t:Int)=>bif v25 then bif v26 then bif inB y.2.2.2.2.2.2.1 (List.length (rowD y.1.2 (List.getD y.1.1 (Int.toNat x.2.1) (0:Nat)))) then bif
  Nat.ble (Nat.succ (Int.toNat y.2.2.2.2.2.2.1)) (List.length (rowD y.1.2 (List.getD y.1.1 (Int.toNat x.2.1) (0:Nat)))) then bif decide (v27<(↑(List.length
  x.2.2.1):Int)) then bif v25 then bif v26 then bif inB y.2.2.2.2.2.2.1 (List.length (rowD y.1.2 (List.getD y.1.1 (Int.toNat x.2.1) (0:Nat)))) then bif
  Nat.ble (Nat.succ (Int.toNat y.2.2.2.2.2.2.1)) (List.length (rowD y.1.2 (List.getD y.1.1 (Int.toNat x.2.1) (0:Nat)))) then bif inB v27 (List.length
  x.2.2.1) then bif Nat.ble (Nat.succ (Int.toNat v27)) (List.length x.2.2.1) then again (IntKind.wrap .i64 (x.1+IntKind.wrap .i64 (t*List.getD (rowD
  y.1.2 (List.getD y.1.1 (Int.toNat x.2.1) (0:Nat))) (Int.toNat y.2.2.2.2.2.2.1) (0:Int))),v24,List.set x.2.2.1 (Int.toNat v27) (List.getD (rowD
  y.1.2 (List.getD y.1.1 (Int.toNat x.2.1) (0:Nat))) (Int.toNat y.2.2.2.2.2.2.1) (0:Int)),PUnit.unit) else none else none else none else none else none else
  none else again (IntKind.wrap .i64 (x.1+IntKind.wrap .i64 (t*List.getD (rowD y.1.2 (List.getD y.1.1 (Int.toNat x.2.1) (0:Nat))) (Int.toNat
  y.2.2.2.2.2.2.1) (0:Int))),v24,x.2.2.1,PUnit.unit) else none else none else none else none else none else none else obind (bif List.all y.1.1 fun (x:Nat)
  =>liveB y.1.2 x then program_table_part (List.map (fun (x:Nat)=>rowD y.1.2 x) y.1.1,y.2.1,y.2.2.1,y.2.2.2.1,y.2.2.2.2.1,
  y.2.2.2.2.2.1,y.2.2.2.2.2.2.1) x.1 else none) fun (t:Int×Int)=>lp (Int×(Int×Int)×List (Int×Int)×List (Int×Int)×PUnit) (((Int×Int) ×
  List (Int×Int)×List (Int×Int))×Int×PUnit) (fun (again:Int×(Int×Int)×List (Int×Int)×List (Int×Int)×PUnit→Option (((Int×Int)×List (Int×Int)×List (Int ×
  Int))×Int×PUnit)) (x_1:Int×(Int×Int)×List (Int×Int)×List (Int×Int)×PUnit) =>
 let v31:List (Int×Int)×PUnit:=(x_1.2.2.2.1,PUnit.unit);bif decide (x_1.1<(↑(List.length x.2.2.1):Int)) then bif inB x_1.1 (List.length x.2.2.1) then
  bif Nat.ble (Nat.succ (Int.toNat x_1.1)) (List.length x.2.2.1) then obind (bif List.all y.1.1 fun (x:Nat)=>liveB y.1.2 x then program_table_part (List.map (fun (x :
  Nat)=>rowD y.1.2 x) y.1.1,y.2.1,y.2.2.1,y.2.2.2.1,y.2.2.2.2.1,y.2.2.2.2.2.1,y.2.2.2.2.2.2.1) (List.getD
  x.2.2.1 (Int.toNat x_1.1) (0:Int)) else none) fun (t:Int×Int)=>bif fitB (List.length x_1.2.2.1+(1:Nat)) (16:Nat) then again (IntKind.wrap .i64
  (x_1.1+(1:Int)),x_1.2.1,x_1.2.2.1++[t],v31) else none else none else none else lp (Int×(Int×Int)×List (Int×Int)×List (Int×Int)×PUnit) (((Int×Int) ×
  List (Int×Int)×List (Int×Int))×Int×PUnit) (fun (again:Int×(Int×Int)×List (Int×Int)×List (Int×Int)×PUnit→Option (((Int×Int)×List (Int×Int)×List (Int ×
  Int))×Int×PUnit)) (x:Int×(Int×Int)×List (Int×Int)×List (Int×Int)×PUnit) =>
 let v34:Int:=IntKind.wrap .i64 (y.2.2.2.2.2.1+x.1);bif decide (x.1<(↑(List.length x0.2):Int)) then lp (Int×Int×PUnit) (((Int×Int)×List (Int ×
  Int)×List (Int×Int))×Int×PUnit) (fun (again_1:Int×Int×PUnit→Option (((Int×Int)×List (Int×Int)×List (Int×Int))×Int×PUnit)) (x_2:Int×Int×PUnit)=>bif
  decide (x_2.2.1<(↑(List.length y.2.2.1):Int)) then bif inB x_2.2.1 (List.length y.2.2.1) then bif Nat.ble (Nat.succ (Int.toNat x_2.2.1)) (List.length
  y.2.2.1) then obind (bif List.all y.1.1 fun (x:Nat)=>liveB y.1.2 x then program_table_cost (List.map (fun (x:Nat)=>rowD y.1.2 x) y.1.1,y.2.1,
  y.2.2.1,y.2.2.2.1,y.2.2.2.2.1,y.2.2.2.2.2.1,y.2.2.2.2.2.2.1) (List.getD y.2.2.1 (Int.toNat x_2.2.1) (0:Int)) else none)
  fun (t:Int)=>bif inB x_2.2.1 (List.length y.1.1) then bif Nat.ble (Nat.succ (Int.toNat x_2.2.1)) (List.length y.1.1) then bif inB v34 (List.length (rowD y.1.2
  (List.getD y.1.1 (Int.toNat x_2.2.1) (0:Nat)))) then bif Nat.ble (Nat.succ (Int.toNat v34)) (List.length (rowD y.1.2 (List.getD y.1.1 (Int.toNat x_2.2.1) (0 :
  Nat)))) then again_1 (IntKind.wrap .i64 (x_2.1+IntKind.wrap .i64 (t*List.getD (rowD y.1.2 (List.getD y.1.1 (Int.toNat x_2.2.1) (0:Nat))) (Int.toNat
  v34) (0:Int))),IntKind.wrap .i64 (x_2.2.1+(1:Int)),PUnit.unit) else none else none else none else none else none else none else bif inB x.1 (List.length
  y.2.2.2.1) then bif Nat.ble (Nat.succ (Int.toNat x.1)) (List.length y.2.2.2.1) then obind (bif List.all y.1.1 fun (x:Nat)=>liveB y.1.2 x then
  program_table_part (List.map (fun (x:Nat)=>rowD y.1.2 x) y.1.1,y.2.1,y.2.2.1,y.2.2.2.1,y.2.2.2.2.1,y.2.2.2.2.2.1,
  y.2.2.2.2.2.2.1) (IntKind.wrap .i64 (List.getD y.2.2.2.1 (Int.toNat x.1) (0:Int)*x_2.1)) else none) fun (t:Int×Int)=>bif fitB (List.length
  x.2.2.2.1+(1:Nat)) (16:Nat) then again (IntKind.wrap .i64 (x.1+(1:Int)),x.2.1,x.2.2.1,x.2.2.2.1++[t],PUnit.unit) else none else none
  else none) ((0:Int),(0:Int),PUnit.unit) else some ((x.2.1,x.2.2.1,x.2.2.2.1),(0:Int),PUnit.unit)) ((0:Int),x_1.2.1,x_1.2.2.1,v31)) ((0 :
  Int),t,[],[],PUnit.unit)) ((0:Int),(0:Int),List.replicate (Int.toNat (↑(List.length x0.1):Int)) (0:Int),PUnit.unit) else none) ((↑(List.length x0.1):Int),(0 :
  Int),([],[]),(1:Int),[],[],t,v8,IntKind.wrap .i64 (v8+(↑(List.length x0.2):Int)),PUnit.unit)) ((0:Int),(0:Int),PUnit.unit)
noncomputable def program_Solve (x0:(List Int)×List ((List Int)×Int×Int)):Option (((Int×Int)×(List (Int×Int))×List (Int×Int))×Int×Unit):=program_Solve_b lpK jnK program_Valid program_fits slices_Clone_22 program_table_start program_table_improve program_table_cost program_table_part x0
noncomputable def c21:Ctr:=⟨[T25],[],[],.tup [T30,i64],fun x _ _=>program_Solve x.1⟩
theorem e21 (lp:Lp) (jn:Jn) (program_Valid:((List Int)×List ((List Int)×Int×Int))→Option (Bool)) (program_fits:((List Int)×List ((List Int)×Int×Int))→Option (Bool)) (slices_Clone_22:(List Int)→Option (List Int)) (program_table_start:(List Nat×List (Option (List Int)))→(Int)→(List Int)→(List Int)→(List Int)→(Int)→(Int)→Option ((List Nat×List (Option (List Int)))×Int×(List Int)×(List Int)×(List Int)×Int×Int×Bool×Unit)) (program_table_improve:(List Nat×List (Option (List Int)))→(Int)→(List Int)→(List Int)→(List Int)→(Int)→(Int)→Option ((List Nat×List (Option (List Int)))×Int×(List Int)×(List Int)×(List Int)×Int×Int×Bool×Unit)) (program_table_cost:((List (List Int))×Int×(List Int)×(List Int)×(List Int)×Int×Int)→(Int)→Option (Int)) (program_table_part:((List (List Int))×Int×(List Int)×(List Int)×(List Int)×Int×Int)→(Int)→Option (Int×Int)):∀(x:TsS c21.as) (F:TsF c21.fs) (y:TsS c21.cs),program_Solve_b lp jn program_Valid program_fits slices_Clone_22 program_table_start program_table_improve program_table_cost program_table_part x.1=runCS lp jn (Dn.look [(65,⟨[.b [.x (.tab 22 .ref 3 i64),.d i64,.row 3 i64,.row 3 i64,.row 3 i64,.d i64,.d i64]],[(false,[.d .bool])],fun x=>program_table_improve x.1 x.2.1 x.2.2.1 x.2.2.2.1 x.2.2.2.2.1 x.2.2.2.2.2.1 x.2.2.2.2.2.2.1⟩),(64,⟨[.b [.x (.tab 22 .ref 3 i64),.d i64,.row 3 i64,.row 3 i64,.row 3 i64,.d i64,.d i64]],[(false,[.d .bool])],fun x=>program_table_start x.1 x.2.1 x.2.2.1 x.2.2.2.1 x.2.2.2.2.1 x.2.2.2.2.2.1 x.2.2.2.2.2.2.1⟩)]) (ctxT tabs lits (ctxP [(67,⟨T93,[i64],.one T27,fun x y=>program_table_part x y.1⟩),(66,⟨T93,[i64],.one i64,fun x y=>program_table_cost x y.1⟩)] [] (ctxOf prog shs inls its [(62,⟨[T25],[],[],.one .bool,fun x _ _=>program_fits x.1⟩),(33,⟨[T25],[],[],.one .bool,fun x _ _=>program_Valid x.1⟩)] [(24,r24),(22,⟨[(.sl i64)],3,i64,fun x=>slices_Clone_22 x.1⟩)]))) hints 4 21 f21 c21 x F y:=fun x F y=>by kernel_rfl
theorem l21:(ctxT tabs lits (ctxP [(67,p67),(66,p66)] [] (ctxOf prog shs inls its [(62,c62),(33,c33)] [(24,r24),(22,r22)]))).ok:=ctxT_ok (ctxP_ok (ctxOf_cons (ctxOf_cons (q24) (by kernel_rfl) ok33) (by kernel_rfl) ok62) (pcOk_cons (by kernel_rfl) ok67 (pcOk_cons (by kernel_rfl) ok66 (pcOk_nil))) (mcOk_nil))
theorem ok21:c21.ok prog 21:=Ctr.of_denS l21 hmix (scOk_cons ok65 (scOk_cons ok64 (scOk_nil))) (hl:=hints) (d:=4) func21 rfl (by decide) (e21 lpK jnK program_Valid program_fits slices_Clone_22 program_table_start program_table_improve program_table_cost program_table_part)
end Go.Proofs.Ytnbbackjofgcfaa
