/- r05: the shapes of its types, and the places of its loops. r05: what its functions answer (printed by a program), and that they do. r05: what its functions answer (printed by a program), and that they do; part 2. -/
import Derived.Test.YtnbbackjofgcfaaProg
import Derived.KernelRfl
import Derived.Test.YtnbbackjofgcfaaMgJ

namespace Go.Proofs.Ytnbbackjofgcfaa
open Try Dn Dn.Sh
abbrev i64:Sh:=.int .i64
abbrev T45:Sh:=.agg (.pair (.sl i64) (.pair i64 i64))
abbrev T25:Sh:=.agg (.pair (.sl i64) (.sl T45))
abbrev T27:Sh:=.agg (.pair i64 i64)
abbrev T30:Sh:=.agg (.pair T27 (.pair (.sl T27) (.sl T27)))
abbrev T75:Sh:=.agg i64
abbrev T83:Sh:=.agg (.pair (.int .u64) (.int .u64))
abbrev T93:Sh:=.agg (.pair (.sl (.sl i64)) (.pair i64 (.pair (.sl i64) (.pair (.sl i64) (.pair (.sl i64) (.pair i64 i64))))))
abbrev T96:Sh:=.agg (.pair (.int .u64) (.int .u64))
abbrev T142:Sh:=.agg (.pair .bool (.pair (.int .u64) (.int .u64)))
def shs:TypeId→Option Sh
 | 3=>some i64
 | 22=>some (.sl i64)
 | 27=>some T27
 | 28=>some (.sl T27)
 | 45=>some T45
 | _=>none
def loops93:Nat→Option Hd
 | 2=>some ⟨[(8,false,[.d i64])],[],[]⟩
 | _=>none
def loops117:Nat→Option Hd
 | 2=>some ⟨[(8,false,[.d i64])],[],[]⟩
 | _=>none
def loops88:Nat→Option Hd
 | 1=>some ⟨[(0,false,[.d (.int .u64)]),(1,false,[.d (.int .u64)])],[],[]⟩
 | _=>none
def loops122:Nat→Option Hd
 | 2=>some ⟨[(8,false,[.d i64])],[],[]⟩
 | _=>none
def joins130:Nat→Option Hd
 | 1000002=>some ⟨[(0,false,[.d (.int .u64)]),(2,false,[.d i64])],[],[]⟩
 | 1000005=>some ⟨[(0,false,[.d (.int .u64)]),(2,false,[.d i64])],[],[]⟩
 | _=>none
def loops121:Nat→Option Hd
 | 17=>some ⟨[(15,false,[.d (.int .u64)]),(16,false,[.d (.int .u64)])],[],[]⟩
 | 24=>some ⟨[(16,false,[.d (.int .u64)]),(18,false,[.d (.int .u64)])],[],[]⟩
 | _=>none
def joins121:Nat→Option Hd
 | 0=>some ⟨[(15,false,[.d (.int .u64)])],[],[]⟩
 | 2=>some ⟨[(18,false,[.d (.int .u64)])],[],[]⟩
 | 1000002=>some ⟨[],[],[]⟩
 | 1000004=>some ⟨[],[],[]⟩
 | _=>none
def joins39:Nat→Option Hd
 | 1000008=>some ⟨[(9,false,[.d .bool])],[(10,[.d T96])],[]⟩
 | 1000010=>some ⟨[(9,false,[.d .bool])],[(10,[.d T96])],[]⟩
 | _=>none
def loops48:Nat→Option Hd
 | 3=>some ⟨[(15,false,[.d i64])],[(0,[.d T75]),(6,[.d T27]),(7,[.d T27])],[]⟩
 | _=>none
def joins48:Nat→Option Hd
 | 1000007=>some ⟨[(11,false,[.d i64])],[(10,[.d T27])],[]⟩
 | _=>none
def joins26:Nat→Option Hd
 | 1000009=>some ⟨[],[(6,[.d T96]),(7,[.d T96])],[]⟩
 | _=>none
def loops47:Nat→Option Hd
 | 3=>some ⟨[(7,false,[.d .bool]),(17,false,[.d i64])],[(0,[.d T75])],[]⟩
 | _=>none
def loops100:Nat→Option Hd
 | 3=>some ⟨[(5,false,[.row 3 i64]),(11,false,[.d i64])],[],[]⟩
 | _=>none
def loops49:Nat→Option Hd
 | 3=>some ⟨[(9,false,[.d .bool]),(14,false,[.d i64])],[(0,[.d T75])],[]⟩
 | _=>none
def loops51:Nat→Option Hd
 | 3=>some ⟨[(3,false,[.row 3 i64]),(9,false,[.d i64])],[],[]⟩
 | _=>none
def loops52:Nat→Option Hd
 | 2=>some ⟨[(10,false,[.d i64])],[],[]⟩
 | _=>none
def loops106:Nat→Option Hd
 | 3=>some ⟨[(5,false,[.d i64]),(14,false,[.d i64])],[],[]⟩
 | _=>none
def loops108:Nat→Option Hd
 | 5=>some ⟨[(3,false,[.d i64]),(4,false,[.d i64])],[],[]⟩
 | _=>none
def joins108:Nat→Option Hd
 | 1000002=>some ⟨[],[],[]⟩
 | _=>none
def loops62:Nat→Option Hd
 | 4=>some ⟨[(4,false,[.row 3 i64]),(18,false,[.d i64])],[],[]⟩
 | 10=>some ⟨[(7,false,[.d i64]),(34,false,[.d i64])],[],[]⟩
 | _=>none
def loops63:Nat→Option Hd
 | 4=>some ⟨[(5,false,[.d i64]),(24,false,[.d i64])],[],[]⟩
 | 12=>some ⟨[(9,false,[.d i64]),(51,false,[.d i64])],[(46,[.x (.tab 22 .ref 3 i64),.d i64,.row 3 i64,.row 3 i64,.row 3 i64,.d i64,.d i64])],[]⟩
 | 28=>some ⟨[(95,false,[.d i64])],[],[(12,none,.row 3 i64)]⟩
 | _=>none
def joins63:Nat→Option Hd
 | 1000019=>some ⟨[(9,false,[.d i64])],[],[(12,none,.row 3 i64)]⟩
 | 1000022=>some ⟨[(9,false,[.d i64])],[],[(12,none,.row 3 i64)]⟩
 | 1000026=>some ⟨[(13,false,[.d i64])],[],[(12,none,.row 3 i64)]⟩
 | _=>none
def loops73:Nat→Option Hd
 | 3=>some ⟨[(5,false,[.d i64]),(13,false,[.d i64])],[],[]⟩
 | _=>none
def joins124:Nat→Option Hd
 | 1000008=>some ⟨[(10,false,[.d .bool])],[(2,[.d T142]),(3,[.d T142])],[]⟩
 | _=>none
def loops109:Nat→Option Hd
 | 2=>some ⟨[(29,false,[.d i64])],[],[(0,some 0,.x (.tab 22 .ref 3 i64))]⟩
 | 7=>some ⟨[(43,false,[.d i64])],[],[(0,some 0,.x (.tab 22 .ref 3 i64))]⟩
 | 17=>some ⟨[(98,false,[.d i64])],[],[(0,some 0,.x (.tab 22 .ref 3 i64))]⟩
 | 20=>some ⟨[(104,false,[.d i64])],[],[(0,some 0,.x (.tab 22 .ref 3 i64))]⟩
 | _=>none
def loops110:Nat→Option Hd
 | 3=>some ⟨[(5,false,[.d i64]),(14,false,[.d i64])],[],[]⟩
 | _=>none
def loops64:Nat→Option Hd
 | 1=>some ⟨[],[(0,[.x (.tab 22 .ref 3 i64),.d i64,.row 3 i64,.row 3 i64,.row 3 i64,.d i64,.d i64])],[]⟩
 | 3=>some ⟨[(3,false,[.d i64]),(4,false,[.d i64])],[],[]⟩
 | 12=>some ⟨[(44,false,[.d i64])],[(0,[.x (.tab 22 .ref 3 i64),.d i64,.row 3 i64,.row 3 i64,.row 3 i64,.d i64,.d i64])],[]⟩
 | 15=>some ⟨[(6,false,[.d i64])],[(0,[.x (.tab 22 .ref 3 i64),.d i64,.row 3 i64,.row 3 i64,.row 3 i64,.d i64,.d i64])],[]⟩
 | _=>none
def loops111:Nat→Option Hd
 | 3=>some ⟨[(5,false,[.d i64]),(21,false,[.d i64])],[],[]⟩
 | _=>none
def loops65:Nat→Option Hd
 | 1=>some ⟨[],[(0,[.x (.tab 22 .ref 3 i64),.d i64,.row 3 i64,.row 3 i64,.row 3 i64,.d i64,.d i64])],[]⟩
 | 3=>some ⟨[(3,false,[.d i64]),(4,false,[.d i64])],[],[]⟩
 | _=>none
def loops21:Nat→Option Hd
 | 14=>some ⟨[(6,false,[.d i64]),(43,false,[.d i64])],[],[(7,none,.row 3 i64)]⟩
 | 22=>some ⟨[(94,false,[.d i64])],[(5,[.d T27,.row 27 T27,.row 27 T27])],[]⟩
 | 27=>some ⟨[(110,false,[.d i64])],[(5,[.d T27,.row 27 T27,.row 27 T27])],[]⟩
 | 31=>some ⟨[(13,false,[.d i64]),(118,false,[.d i64])],[],[]⟩
 | _=>none
def loops94:Nat→Option Hd
 | 2=>some ⟨[(8,false,[.d i64])],[],[]⟩
 | _=>none
def loops16:Nat→Option Hd
 | 4=>some ⟨[(3,false,[.d i64])],[],[]⟩
 | 9=>some ⟨[(4,false,[.d i64])],[],[]⟩
 | 15=>some ⟨[(6,false,[.d i64])],[],[]⟩
 | _=>none
def loops55:Nat→Option Hd
 | 4=>some ⟨[(5,false,[.d i64])],[(2,[.d T83]),(3,[.d T83])],[]⟩
 | 6=>some ⟨[],[(2,[.d T83]),(3,[.d T83])],[]⟩
 | 7=>some ⟨[],[(2,[.d T83])],[]⟩
 | 9=>some ⟨[],[(3,[.d T83])],[]⟩
 | 14=>some ⟨[(5,false,[.d i64])],[(3,[.d T83])],[]⟩
 | _=>none
def loops18:Nat→Option Hd
 | 2=>some ⟨[(3,false,[.d i64])],[],[]⟩
 | _=>none
def loops127:Nat→Option Hd
 | 5=>some ⟨[(8,false,[.d i64])],[(2,[.d T83]),(6,[.d T83]),(7,[.d T83])],[]⟩
 | _=>none
def loops35:Nat→Option Hd
 | 3=>some ⟨[(7,false,[.d i64])],[(4,[.d T27]),(6,[.d T27])],[]⟩
 | _=>none
def loops34:Nat→Option Hd
 | 3=>some ⟨[(6,false,[.d .bool]),(7,false,[.d i64])],[],[]⟩
 | 7=>some ⟨[(6,false,[.d .bool]),(8,false,[.d i64])],[],[]⟩
 | _=>none
def loops105:Nat→Option Hd
 | 3=>some ⟨[(5,false,[.row 3 i64]),(6,false,[.d i64])],[],[]⟩
 | _=>none
def loops58:Nat→Option Hd
 | 3=>some ⟨[(8,false,[.d .bool]),(9,false,[.d i64])],[],[]⟩
 | _=>none
def loops59:Nat→Option Hd
 | 3=>some ⟨[(3,false,[.row 3 i64]),(4,false,[.d i64])],[],[]⟩
 | _=>none
def loops61:Nat→Option Hd
 | 2=>some ⟨[(5,false,[.d i64])],[],[]⟩
 | _=>none
def joins3:Nat→Option Hd
 | 1000012=>some ⟨[],[],[]⟩
 | 1000015=>some ⟨[],[],[]⟩
 | _=>none
def loops23:Nat→Option Hd
 | 1=>some ⟨[(2,false,[.d i64]),(3,false,[.d i64])],[],[(0,none,.row 3 i64)]⟩
 | _=>none
def loops4:Nat→Option Hd
 | 9=>some ⟨[(43,false,[.d i64])],[(7,[.d (.sl i64),.row 45 T45])],[]⟩
 | _=>none
def loops71:Nat→Option Hd
 | 3=>some ⟨[(3,false,[.d i64]),(4,false,[.d i64])],[],[]⟩
 | 8=>some ⟨[(5,false,[.row 3 i64]),(6,false,[.d i64])],[],[]⟩
 | 12=>some ⟨[(7,false,[.d i64]),(8,false,[.d i64])],[],[]⟩
 | _=>none
def loops72:Nat→Option Hd
 | 3=>some ⟨[(6,false,[.d i64]),(7,false,[.d i64])],[],[]⟩
 | _=>none
def loops27:Nat→Option Hd
 | 5=>some ⟨[(6,false,[.d i64]),(7,false,[.d i64])],[],[]⟩
 | _=>none
def loops29:Nat→Option Hd
 | 10=>some ⟨[(5,false,[.row 27 T27]),(20,false,[.d i64])],[],[]⟩
 | _=>none
def loops115:Nat→Option Hd
 | 3=>some ⟨[(8,false,[.d i64])],[],[(3,some 0,.x (.tab 22 .ref 3 i64))]⟩
 | 8=>some ⟨[(10,false,[.d i64])],[],[(3,some 0,.x (.tab 22 .ref 3 i64))]⟩
 | _=>none
def loops74:Nat→Option Hd
 | 2=>some ⟨[],[(1,[.x (.tab 22 .ref 3 i64),.row 3 i64,.d i64,.d i64]),(2,[.x (.tab 22 .ref 3 i64),.row 3 i64,.d i64,.d i64])],[]⟩
 | 3=>some ⟨[(5,false,[.d i64])],[],[]⟩
 | 9=>some ⟨[(6,false,[.d i64]),(8,false,[.d i64])],[],[]⟩
 | _=>none
def loops77:Nat→Option Hd
 | 1=>some ⟨[(4,false,[.d i64])],[],[(0,none,.row 3 i64)]⟩
 | _=>none
def loops75:Nat→Option Hd
 | 5=>some ⟨[(7,false,[.d i64])],[(5,[.x (.tab 22 .ref 3 i64),.row 3 i64,.d i64,.d i64])],[(6,none,.row 3 i64)]⟩
 | 16=>some ⟨[(9,false,[.d i64])],[],[(8,none,.row 3 i64)]⟩
 | 20=>some ⟨[(10,false,[.d i64])],[],[(6,none,.row 3 i64)]⟩
 | _=>none
def joins75:Nat→Option Hd
 | 1000010=>some ⟨[],[],[(8,none,.row 3 i64)]⟩
 | 1000012=>some ⟨[],[],[(8,none,.row 3 i64)]⟩
 | 1000015=>some ⟨[],[],[(8,none,.row 3 i64)]⟩
 | _=>none
def loops76:Nat→Option Hd
 | 2=>some ⟨[(3,false,[.d i64])],[(1,[.x (.tab 22 .ref 3 i64),.row 3 i64,.d i64,.d i64])],[]⟩
 | 6=>some ⟨[(4,false,[.d i64])],[],[]⟩
 | 11=>some ⟨[(5,false,[.d i64])],[],[(1,some 0,.x (.tab 22 .ref 3 i64))]⟩
 | _=>none
def loops30:Nat→Option Hd
 | 9=>some ⟨[(9,false,[.d i64])],[],[(4,some 0,.x (.tab 22 .ref 3 i64))]⟩
 | 13=>some ⟨[(10,false,[.d i64]),(11,false,[.d i64])],[],[]⟩
 | _=>none
def loops87:Nat→Option Hd
 | 3=>some ⟨[(19,false,[.d i64])],[],[(2,some 1,.x (.tab 45 (.agg (.pair .ref (.pair i64 i64))) 3 i64))]⟩
 | _=>none
def loops36:Nat→Option Hd
 | 7=>some ⟨[(28,false,[.d i64])],[],[(4,some 1,.x (.tab 45 (.agg (.pair .ref (.pair i64 i64))) 3 i64))]⟩
 | 14=>some ⟨[(8,false,[.d .bool]),(44,false,[.d i64])],[(4,[.row 3 i64,.x (.tab 45 (.agg (.pair .ref (.pair i64 i64))) 3 i64)])],[]⟩
 | _=>none
def loops37:Nat→Option Hd
 | 4=>some ⟨[(5,false,[.d i64])],[],[]⟩
 | 9=>some ⟨[(6,false,[.d i64])],[],[]⟩
 | 15=>some ⟨[(9,false,[.d i64])],[],[]⟩
 | _=>none
def loops38:Nat→Option Hd
 | 5=>some ⟨[(4,false,[.row 3 i64]),(5,false,[.row 3 i64]),(6,false,[.d i64])],[],[]⟩
 | 19=>some ⟨[(9,false,[.d i64])],[(2,[.d T25]),(8,[.row 3 i64,.row 45 T45])],[]⟩
 | 25=>some ⟨[(10,false,[.d i64])],[(8,[.row 3 i64,.row 45 T45])],[]⟩
 | 29=>some ⟨[(12,false,[.d i64])],[(11,[.row 3 i64,.d i64,.d i64])],[]⟩
 | _=>none
def joins38:Nat→Option Hd
 | 1000009=>some ⟨[(7,false,[.d i64])],[],[]⟩
 | _=>none
def hints:FuncId→Hint
 | 93=>{loop:=loops93}
 | 117=>{loop:=loops117}
 | 88=>{loop:=loops88}
 | 122=>{loop:=loops122}
 | 130=>{join:=joins130}
 | 121=>{loop:=loops121,join:=joins121}
 | 39=>{join:=joins39}
 | 48=>{loop:=loops48,join:=joins48}
 | 26=>{join:=joins26}
 | 47=>{loop:=loops47}
 | 100=>{loop:=loops100}
 | 49=>{loop:=loops49}
 | 51=>{loop:=loops51}
 | 52=>{loop:=loops52}
 | 106=>{loop:=loops106}
 | 108=>{loop:=loops108,join:=joins108}
 | 62=>{loop:=loops62}
 | 63=>{loop:=loops63,join:=joins63}
 | 73=>{loop:=loops73}
 | 124=>{join:=joins124}
 | 109=>{loop:=loops109}
 | 110=>{loop:=loops110}
 | 64=>{loop:=loops64}
 | 111=>{loop:=loops111}
 | 65=>{loop:=loops65}
 | 21=>{loop:=loops21}
 | 94=>{loop:=loops94}
 | 16=>{loop:=loops16}
 | 55=>{loop:=loops55}
 | 18=>{loop:=loops18}
 | 127=>{loop:=loops127}
 | 35=>{loop:=loops35}
 | 34=>{loop:=loops34}
 | 105=>{loop:=loops105}
 | 58=>{loop:=loops58}
 | 59=>{loop:=loops59}
 | 61=>{loop:=loops61}
 | 3=>{join:=joins3}
 | 23=>{loop:=loops23}
 | 4=>{loop:=loops4}
 | 71=>{loop:=loops71}
 | 72=>{loop:=loops72}
 | 27=>{loop:=loops27}
 | 29=>{loop:=loops29}
 | 115=>{loop:=loops115}
 | 74=>{loop:=loops74}
 | 77=>{loop:=loops77}
 | 75=>{loop:=loops75,join:=joins75}
 | 76=>{loop:=loops76}
 | 30=>{loop:=loops30}
 | 87=>{loop:=loops87}
 | 36=>{loop:=loops36}
 | 37=>{loop:=loops37}
 | 38=>{loop:=loops38,join:=joins38}
 | _=>{}
def lits (p : String) : Bool := p == "law.go:242" || p == "program.go:104" || p == "ref.go:45"
def tabs:TypeId→Option XP
 | 91=>some (.tab 22 .ref 3 i64)
 | _=>none
def inls:List Nat:=[93,41,82,49,63,109,64,65,23,115,74,77,75,76,87]
def its:List (Nat×ICtr):=[]
theorem itsOk:ItsOk prog its:=itsOk_nil
end Go.Proofs.Ytnbbackjofgcfaa

namespace Go.Proofs.Ytnbbackjofgcfaa
open Try Dn Dn.Sh
set_option maxRecDepth 100000
theorem hmix:prog.follows .mixedOrders=true:=by kernel_rfl
theorem inlsOk:inlOk prog inls=true:=by kernel_rfl
theorem q0:(ctxOf prog shs inls its [] []).ok:=ctxOf_nil inlsOk itsOk
noncomputable abbrev cx (l) (r):=ctxT tabs lits (ctxOf prog shs inls its l r)
noncomputable def slices_Clone_22_b (_:Lp) (_:Jn) (x0:List Int):Option (List Int) :=
 bif fitB (0+List.length x0) 8 then some x0 else none
noncomputable def slices_Clone_22 (x0:List Int):Option (List Int):=slices_Clone_22_b lpK jnK x0
abbrev t22:=(List Int)→Option (List Int)
noncomputable def k22 (slices_Clone_22:t22):RCtr:=⟨[(.sl i64)],3,i64,fun x=>slices_Clone_22 x.1⟩
noncomputable def r22:RCtr:=k22 slices_Clone_22
theorem e22 (lp:Lp) (jn:Jn):∀x:TsS r22.as,slices_Clone_22_b lp jn x.1=runR lp jn (cx [] []) hints 4 22 f22 r22.t r22.e (initN r22.as x true):=fun x=>by kernel_rfl
theorem okr22:r22.ok prog 22:=RCtr.of_den_nil (c:=r22) (ctxT_ok (q0)) hmix (hl:=hints) (d:=4) rfl func22 rfl (by decide) (e22 lpK jnK) fun x h=>by
 obtain ⟨l,u⟩:=x
 simp only at h
 subst h
 kernel_rfl
theorem q22:(ctxOf prog shs inls its [] [(22,r22)]).ok:=ctxOf_row q0 (by kernel_rfl) okr22
noncomputable def slices_Clone_24_b (_:Lp) (_:Jn) (x0:List ((List Int)×Int×Int)):Option (List ((List Int)×Int×Int)) :=
 bif fitB (0+List.length x0) 40 then some x0 else none
noncomputable def slices_Clone_24 (x0:List ((List Int)×Int×Int)):Option (List ((List Int)×Int×Int)):=slices_Clone_24_b lpK jnK x0
noncomputable def r24:RCtr:=⟨[(.sl T45)],45,T45,fun x=>slices_Clone_24 x.1⟩
theorem e24 (lp:Lp) (jn:Jn):∀x:TsS r24.as,slices_Clone_24_b lp jn x.1=runR lp jn (cx [] [(22,r22)]) hints 4 24 f24 r24.t r24.e (initN r24.as x true):=fun x=>by kernel_rfl
theorem okr24:r24.ok prog 24:=RCtr.of_den_nil (c:=r24) (ctxT_ok (q22)) hmix (hl:=hints) (d:=4) rfl func24 rfl (by decide) (e24 lpK jnK) fun x h=>by
 obtain ⟨l,u⟩:=x
 simp only at h
 subst h
 kernel_rfl
theorem q24:(ctxOf prog shs inls its [] [(24,r24),(22,r22)]).ok:=ctxOf_row q22 (by kernel_rfl) okr24
noncomputable def slices_IndexFunc_93_b (lp:Lp) (_:Jn) (x0:List ((List Int)×Int×Int)) (f0:((((List Int)×Int×Int)×Unit)→Option Bool)):Option Int :=
 lp (Int×PUnit) Int (fun (again:Int×PUnit→Option Int) (x:Int×PUnit)=>bif decide (x.1<(↑(List.length x0):Int)) then bif inB x.1 (List.length x0) then obind (f0
  (List.getD x0 (Int.toNat x.1) ([],0,0),PUnit.unit)) fun (t:Bool)=>bif t then some x.1 else again (IntKind.wrap .i64 (x.1+1),PUnit.unit)
  else none else some (-1)) (0,PUnit.unit)
noncomputable def slices_IndexFunc_93 (x0:List ((List Int)×Int×Int)) (f0:((((List Int)×Int×Int)×Unit)→Option Bool)):Option Int:=slices_IndexFunc_93_b lpK jnK x0 f0
abbrev t93:=(List ((List Int)×Int×Int))→(((((List Int)×Int×Int)×Unit)→Option Bool))→Option (Int)
noncomputable def k93 (slices_IndexFunc_93:t93):Ctr:=⟨[(.sl T45)],[([T45],.bool)],[],.one i64,fun x F _=>slices_IndexFunc_93 x.1 F.1⟩
noncomputable def c93:Ctr:=k93 slices_IndexFunc_93
theorem e93 (lp:Lp) (jn:Jn):∀(x:TsS c93.as) (F:TsF c93.fs) (y:TsS c93.cs),slices_IndexFunc_93_b lp jn x.1 F.1=runC lp jn (cx [] [(24,r24),(22,r22)]) hints 4 93 f93 c93 x F y:=fun x F y=>by kernel_rfl
theorem ok93:c93.ok prog 93:=Ctr.of_den (ctxT_ok (q24)) hmix (hl:=hints) (d:=4) func93 rfl (by decide) (e93 lpK jnK)
noncomputable def slices_ContainsFunc_41_b (_:Lp) (_:Jn) (slices_IndexFunc_93:t93) (x0:List ((List Int)×Int×Int)) (f0:((((List Int)×Int×Int)×Unit)→Option Bool)):Option Bool :=
 obind (slices_IndexFunc_93 x0 f0) fun (t:Int)=>some (decide (t≥0))
noncomputable def slices_ContainsFunc_41 (x0:List ((List Int)×Int×Int)) (f0:((((List Int)×Int×Int)×Unit)→Option Bool)):Option Bool:=slices_ContainsFunc_41_b lpK jnK slices_IndexFunc_93 x0 f0
abbrev t41:=(List ((List Int)×Int×Int))→(((((List Int)×Int×Int)×Unit)→Option Bool))→Option (Bool)
noncomputable def k41 (slices_ContainsFunc_41:t41):Ctr:=⟨[(.sl T45)],[([T45],.bool)],[],.one .bool,fun x F _=>slices_ContainsFunc_41 x.1 F.1⟩
noncomputable def c41:Ctr:=k41 slices_ContainsFunc_41
theorem e41 (lp:Lp) (jn:Jn) (slices_IndexFunc_93:t93):∀(x:TsS c41.as) (F:TsF c41.fs) (y:TsS c41.cs),slices_ContainsFunc_41_b lp jn slices_IndexFunc_93 x.1 F.1=runC lp jn (cx [(93,k93 slices_IndexFunc_93)] [(24,r24),(22,r22)]) hints 4 41 f41 c41 x F y:=fun x F y=>by kernel_rfl
theorem ok41:c41.ok prog 41:=Ctr.of_den (ctxT_ok (ctxOf_cons (q24) (by kernel_rfl) ok93)) hmix (hl:=hints) (d:=4) func41 rfl (by decide) (e41 lpK jnK slices_IndexFunc_93)
noncomputable def program_Valid_1_1_b (_:Lp) (_:Jn) (x0:Int) (y0:Int):Option Bool :=
 
 let v4:Bool:=decide (x0<IntKind.wrap .i64 (0 - y0));
 let v5:Bool:=!v4;
 let v6:Bool:=!v5||v5;bif v6&&v6 then bif v4||v5 then some (bif v4 then true else decide (x0>y0)) else none else none
noncomputable def program_Valid_1_1 (x0:Int) (y0:Int):Option Bool:=program_Valid_1_1_b lpK jnK x0 y0
abbrev t80:=(Int)→(Int)→Option (Bool)
noncomputable def c80:Ctr:=⟨[i64],[],[i64],.one .bool,fun x _ y=>program_Valid_1_1 x.1 y.1⟩
theorem e80 (lp:Lp) (jn:Jn):∀(x:TsS c80.as) (F:TsF c80.fs) (y:TsS c80.cs),program_Valid_1_1_b lp jn x.1 y.1=runC lp jn (cx [] [(24,r24),(22,r22)]) hints 4 80 f80 c80 x F y:=fun x F y=>by kernel_rfl
theorem ok80:c80.ok prog 80:=Ctr.of_den (ctxT_ok (q24)) hmix (hl:=hints) (d:=4) func80 rfl (by decide) (e80 lpK jnK)
noncomputable def program_Valid_1_b (_:Lp) (_:Jn) (program_Valid_1_1:t80) (x0:Int):Option ((Int×Unit)→Option Bool) :=
 some fun (x:Int×PUnit)=>program_Valid_1_1 x.1 x0
noncomputable def program_Valid_1 (x0:Int):Option ((Int×Unit)→Option Bool):=program_Valid_1_b lpK jnK program_Valid_1_1 x0
abbrev t79:=(Int)→Option ((Int×Unit)→Option Bool)
noncomputable def g79:FCtr:=⟨[i64],[i64],.bool,fun x=>program_Valid_1 x.1⟩
theorem e79 (lp:Lp) (jn:Jn) (program_Valid_1_1:t80):∀x:TsS g79.as,program_Valid_1_b lp jn program_Valid_1_1 x.1=runF lp jn (cx [(80,⟨[i64],[],[i64],.one .bool,fun x _ y=>program_Valid_1_1 x.1 y.1⟩)] [(24,r24),(22,r22)]) hints 4 79 f79 g79 x:=fun x=>by kernel_rfl
theorem okg79:g79.ok prog 79:=FCtr.of_den (ctxT_ok (ctxOf_cons (q24) (by kernel_rfl) ok80)) hmix (hl:=hints) (d:=4) func79 rfl (by decide) (e79 lpK jnK program_Valid_1_1)
noncomputable def slices_IndexFunc_117_b (lp:Lp) (_:Jn) (x0:List Int) (f0:((Int×Unit)→Option Bool)):Option Int :=
 lp (Int×PUnit) Int (fun (again:Int×PUnit→Option Int) (x:Int×PUnit)=>bif decide (x.1<(↑(List.length x0):Int)) then bif inB x.1 (List.length x0) then obind (f0
  (List.getD x0 (Int.toNat x.1) 0,PUnit.unit)) fun (t:Bool)=>bif t then some x.1 else again (IntKind.wrap .i64 (x.1+1),PUnit.unit) else none else some
  (-1)) (0,PUnit.unit)
noncomputable def slices_IndexFunc_117 (x0:List Int) (f0:((Int×Unit)→Option Bool)):Option Int:=slices_IndexFunc_117_b lpK jnK x0 f0
abbrev t117:=(List Int)→(((Int×Unit)→Option Bool))→Option (Int)
noncomputable def k117 (slices_IndexFunc_117:t117):Ctr:=⟨[(.sl i64)],[([i64],.bool)],[],.one i64,fun x F _=>slices_IndexFunc_117 x.1 F.1⟩
noncomputable def c117:Ctr:=k117 slices_IndexFunc_117
theorem e117 (lp:Lp) (jn:Jn):∀(x:TsS c117.as) (F:TsF c117.fs) (y:TsS c117.cs),slices_IndexFunc_117_b lp jn x.1 F.1=runC lp jn (cx [] [(24,r24),(22,r22)]) hints 4 117 f117 c117 x F y:=fun x F y=>by kernel_rfl
theorem ok117:c117.ok prog 117:=Ctr.of_den (ctxT_ok (q24)) hmix (hl:=hints) (d:=4) func117 rfl (by decide) (e117 lpK jnK)
noncomputable def slices_ContainsFunc_81_b (_:Lp) (_:Jn) (slices_IndexFunc_117:t117) (x0:List Int) (f0:((Int×Unit)→Option Bool)):Option Bool :=
 obind (slices_IndexFunc_117 x0 f0) fun (t:Int)=>some (decide (t≥0))
noncomputable def slices_ContainsFunc_81 (x0:List Int) (f0:((Int×Unit)→Option Bool)):Option Bool:=slices_ContainsFunc_81_b lpK jnK slices_IndexFunc_117 x0 f0
abbrev t81:=(List Int)→(((Int×Unit)→Option Bool))→Option (Bool)
noncomputable def k81 (slices_ContainsFunc_81:t81):Ctr:=⟨[(.sl i64)],[([i64],.bool)],[],.one .bool,fun x F _=>slices_ContainsFunc_81 x.1 F.1⟩
noncomputable def c81:Ctr:=k81 slices_ContainsFunc_81
theorem e81 (lp:Lp) (jn:Jn) (slices_IndexFunc_117:t117):∀(x:TsS c81.as) (F:TsF c81.fs) (y:TsS c81.cs),slices_ContainsFunc_81_b lp jn slices_IndexFunc_117 x.1 F.1=runC lp jn (cx [(117,k117 slices_IndexFunc_117)] [(24,r24),(22,r22)]) hints 4 81 f81 c81 x F y:=fun x F y=>by kernel_rfl
theorem ok81:c81.ok prog 81:=Ctr.of_den (ctxT_ok (ctxOf_cons (q24) (by kernel_rfl) ok117)) hmix (hl:=hints) (d:=4) func81 rfl (by decide) (e81 lpK jnK slices_IndexFunc_117)
noncomputable def program_Valid_b (lp:Lp) (_:Jn) (_:(List ((List Int)×Int×Int))→(((((List Int)×Int×Int)×Unit)→Option Bool))→Option (Bool)) (slices_ContainsFunc_81:t81) (program_Valid_1:t79) (x0:(List Int)×List ((List Int)×Int×Int)):Option Bool :=
 
 let v3:Bool:=decide ((↑(List.length x0.1):Int)<1);
 let v4:Bool:=!v3;
 let v5:Bool:=bif v3 then true else decide ((↑(List.length x0.1):Int)>12);
 let v6:Bool:=!v4||v4;
 let v7:Bool:=!v5;
 let v8:Bool:=bif v5 then true else decide ((↑(List.length x0.2):Int)>6);
 let v9:Bool:=!v8;
 let v10:Bool:=!v7||v7;
 let v11:Bool:=!v9||v9;bif v6 then bif v6 then bif v6 then bif v3||v4 then bif v10 then bif v10 then bif v10 then bif v5||v7 then bif v11 then bif v11 then obind (bif v9 then
  program_Valid_1 1048576 else some fun (_:Int×PUnit)=>none) fun (t:Int×PUnit→Option Bool)=>bif v11&&v11 then obind (bif v9 then slices_ContainsFunc_81 x0.1 t
  else some false) fun (t:Bool)=>bif v8||v9 then bif bif v8 then true else t then some false else lp (Int×PUnit) Bool (fun (again:Int×PUnit→Option Bool) (x:Int×PUnit) =>
 let v16:List Int×Int×Int:=List.getD x0.2 (Int.toNat x.1) ([],0,0);
 let v17:Bool:=decide (v16.2.1<1);
 let v18:Bool:=decide (v16.2.1>3);
 let v19:Bool:=!decide ((↑(List.length v16.1):Int)=(↑(List.length x0.1):Int));
 let v20:Bool:=!v19;
 let v21:Bool:=!v20||v20;bif decide (x.1<(↑(List.length x0.2):Int)) then bif inB x.1 (List.length x0.2) then bif v21 then bif v21 then obind (bif v20 then
  program_Valid_1 1048576 else some fun (_:Int×PUnit)=>none) fun (t:Int×PUnit→Option Bool)=>bif v21&&v21 then obind (bif v20 then slices_ContainsFunc_81 v16.1 t
  else some false) fun (t:Bool) =>
 let v24:Bool:=bif v19 then true else t;
 let v25:Bool:=!v24;
 let v26:Bool:=bif v24 then true else v17;
 let v27:Bool:=!v26;
 let v28:Bool:=bif v26 then true else v18;
 let v29:Bool:=!v25||v25;
 let v30:Bool:=!v28;
 let v31:Bool:=!v27||v27;
 let v32:Bool:=!v30||v30;bif v19||v20 then bif v29 then bif v29 then bif v24||v25 then bif v31 then bif v31 then bif v26||v27 then bif v32 then obind (bif v30 then
  program_Valid_1 1073741824 else some fun (_:Int×PUnit)=>none) fun (t:Int×PUnit→Option Bool)=>bif v32 then bif v32&&v32 then obind (bif v30 then t (v16.2.2,
  PUnit.unit) else some false) fun (t:Bool)=>bif v28||v30 then bif bif v28 then true else t then some !decide (x.1≥0) else again (IntKind.wrap .i64 (x.1+(1 :
  Int)),PUnit.unit) else none else none else none else none else none else none else none else none else none else none else none else none else none else none else none else some
  !decide ((-1:Int)≥0)) (0,PUnit.unit) else none else none else none else none else none else none else none else none else none else none else none else none
noncomputable def program_Valid (x0:(List Int)×List ((List Int)×Int×Int)):Option Bool:=program_Valid_b lpK jnK slices_ContainsFunc_41 slices_ContainsFunc_81 program_Valid_1 x0
abbrev t33:=((List Int)×List ((List Int)×Int×Int))→Option (Bool)
noncomputable def k33 (program_Valid:t33):Ctr:=⟨[T25],[],[],.one .bool,fun x _ _=>program_Valid x.1⟩
noncomputable def c33:Ctr:=k33 program_Valid
theorem e33 (lp:Lp) (jn:Jn) (slices_ContainsFunc_41:t41) (slices_ContainsFunc_81:t81) (program_Valid_1:t79):∀(x:TsS c33.as) (F:TsF c33.fs) (y:TsS c33.cs),program_Valid_b lp jn slices_ContainsFunc_41 slices_ContainsFunc_81 program_Valid_1 x.1=runC lp jn (ctxT tabs lits (ctxG [(79,⟨[i64],[i64],.bool,fun x=>program_Valid_1 x.1⟩)] (ctxOf prog shs inls its [(81,k81 slices_ContainsFunc_81),(41,k41 slices_ContainsFunc_41)] [(24,r24),(22,r22)]))) hints 4 33 f33 c33 x F y:=fun x F y=>by kernel_rfl
theorem ok33:c33.ok prog 33:=Ctr.of_den (ctxT_ok (ctxG_ok (ctxOf_cons (ctxOf_cons (q24) (by kernel_rfl) ok41) (by kernel_rfl) ok81) (fcOk_cons (by kernel_rfl) okg79 (fcOk_nil)))) hmix (hl:=hints) (d:=4) func33 rfl (by decide) (e33 lpK jnK slices_ContainsFunc_41 slices_ContainsFunc_81 program_Valid_1)
noncomputable def ratio_size_b (_:Lp) (_:Jn) (x0:Int):Option Int :=
 
 let v3:Int:=IntKind.wrap .u64 x0;bif decide (x0<0) then some (IntKind.wrap .u64 (0 - v3)) else some v3
noncomputable def ratio_size (x0:Int):Option Int:=ratio_size_b lpK jnK x0
abbrev t69:=(Int)→Option (Int)
noncomputable def k69 (ratio_size:t69):Ctr:=⟨[i64],[],[],.one (.int .u64),fun x _ _=>ratio_size x.1⟩
noncomputable def c69:Ctr:=k69 ratio_size
theorem e69 (lp:Lp) (jn:Jn):∀(x:TsS c69.as) (F:TsF c69.fs) (y:TsS c69.cs),ratio_size_b lp jn x.1=runC lp jn (cx [] [(24,r24),(22,r22)]) hints 4 69 f69 c69 x F y:=fun x F y=>by kernel_rfl
theorem ok69:c69.ok prog 69:=Ctr.of_den (ctxT_ok (q24)) hmix (hl:=hints) (d:=4) func69 rfl (by decide) (e69 lpK jnK)
noncomputable def ratio_gcd_b (lp:Lp) (_:Jn) (x0:Int) (x1:Int):Option Int :=
 lp (Int×Int×PUnit) Int (fun (again:Int×Int×PUnit→Option Int) (x:Int×Int×PUnit)=>bif !decide (x.2.1=0) then bif nzB x.2.1 then again (x.2.1,
  Int.tmod x.1 x.2.1,PUnit.unit) else none else some x.1) (x0,x1,PUnit.unit)
noncomputable def ratio_gcd (x0:Int) (x1:Int):Option Int:=ratio_gcd_b lpK jnK x0 x1
abbrev t88:=(Int)→(Int)→Option (Int)
noncomputable def k88 (ratio_gcd:t88):Ctr:=⟨[(.int .u64),(.int .u64)],[],[],.one (.int .u64),fun x _ _=>ratio_gcd x.1 x.2.1⟩
noncomputable def c88:Ctr:=k88 ratio_gcd
theorem e88 (lp:Lp) (jn:Jn):∀(x:TsS c88.as) (F:TsF c88.fs) (y:TsS c88.cs),ratio_gcd_b lp jn x.1 x.2.1=runC lp jn (cx [] [(24,r24),(22,r22)]) hints 4 88 f88 c88 x F y:=fun x F y=>by kernel_rfl
theorem ok88:c88.ok prog 88:=Ctr.of_den (ctxT_ok (q24)) hmix (hl:=hints) (d:=4) func88 rfl (by decide) (e88 lpK jnK)
noncomputable def ratio_Valid_b (_:Lp) (_:Jn) (ratio_size:t69) (ratio_gcd:t88) (x0:Int×Int):Option Bool :=
 
 let v3:Bool:=decide (x0.2≥1);
 let v4:Bool:=!v3||v3;
 let v5:Bool:=bif v3 then decide (x0.2≤1152921504606846976) else false;
 let v6:Bool:=bif v5 then decide (x0.1≥(-1152921504606846976)) else false;
 let v7:Bool:=!v5||v5;
 let v8:Bool:=bif v6 then decide (x0.1≤1152921504606846976) else false;
 let v9:Bool:=!v6||v6;
 let v10:Bool:=!v8||v8;bif v4 then bif v4 then bif v4 then bif v7 then bif v7 then bif v7 then bif v9 then bif v9 then bif v9 then bif v10 then bif v10 then obind (bif v8 then
  ratio_size x0.1 else some 0) fun (t:Int)=>bif v10 then bif v10 then bif v10&&v10 then obind (bif v8 then ratio_gcd t (IntKind.wrap .u64 x0.2) else some (0 :
  Int)) fun (t:Int)=>bif v10 then bif v10 then some (bif v8 then decide (t=1) else false) else none else none else none else none else none else none else none else none
  else none else none else none else none else none else none else none else none
noncomputable def ratio_Valid (x0:Int×Int):Option Bool:=ratio_Valid_b lpK jnK ratio_size ratio_gcd x0
abbrev t45:=(Int×Int)→Option (Bool)
noncomputable def k45 (ratio_Valid:t45):Ctr:=⟨[T27],[],[],.one .bool,fun x _ _=>ratio_Valid x.1⟩
noncomputable def c45:Ctr:=k45 ratio_Valid
theorem e45 (lp:Lp) (jn:Jn) (ratio_size:t69) (ratio_gcd:t88):∀(x:TsS c45.as) (F:TsF c45.fs) (y:TsS c45.cs),ratio_Valid_b lp jn ratio_size ratio_gcd x.1=runC lp jn (cx [(88,k88 ratio_gcd),(69,k69 ratio_size)] [(24,r24),(22,r22)]) hints 4 45 f45 c45 x F y:=fun x F y=>by kernel_rfl
theorem ok45:c45.ok prog 45:=Ctr.of_den (ctxT_ok (ctxOf_cons (ctxOf_cons (q24) (by kernel_rfl) ok69) (by kernel_rfl) ok88)) hmix (hl:=hints) (d:=4) func45 rfl (by decide) (e45 lpK jnK ratio_size ratio_gcd)
noncomputable def slices_IndexFunc_122_b (lp:Lp) (_:Jn) (x0:List (Int×Int)) (f0:(((Int×Int)×Unit)→Option Bool)):Option Int :=
 lp (Int×PUnit) Int (fun (again:Int×PUnit→Option Int) (x:Int×PUnit)=>bif decide (x.1<(↑(List.length x0):Int)) then bif inB x.1 (List.length x0) then obind (f0
  (List.getD x0 (Int.toNat x.1) (0,0),PUnit.unit)) fun (t:Bool)=>bif t then some x.1 else again (IntKind.wrap .i64 (x.1+1),PUnit.unit) else
  none else some (-1)) (0,PUnit.unit)
noncomputable def slices_IndexFunc_122 (x0:List (Int×Int)) (f0:(((Int×Int)×Unit)→Option Bool)):Option Int:=slices_IndexFunc_122_b lpK jnK x0 f0
abbrev t122:=(List (Int×Int))→((((Int×Int)×Unit)→Option Bool))→Option (Int)
noncomputable def k122 (slices_IndexFunc_122:t122):Ctr:=⟨[(.sl T27)],[([T27],.bool)],[],.one i64,fun x F _=>slices_IndexFunc_122 x.1 F.1⟩
noncomputable def c122:Ctr:=k122 slices_IndexFunc_122
theorem e122 (lp:Lp) (jn:Jn):∀(x:TsS c122.as) (F:TsF c122.fs) (y:TsS c122.cs),slices_IndexFunc_122_b lp jn x.1 F.1=runC lp jn (cx [] [(24,r24),(22,r22)]) hints 4 122 f122 c122 x F y:=fun x F y=>by kernel_rfl
theorem ok122:c122.ok prog 122:=Ctr.of_den (ctxT_ok (q24)) hmix (hl:=hints) (d:=4) func122 rfl (by decide) (e122 lpK jnK)
noncomputable def slices_ContainsFunc_95_b (_:Lp) (_:Jn) (slices_IndexFunc_122:t122) (x0:List (Int×Int)) (f0:(((Int×Int)×Unit)→Option Bool)):Option Bool :=
 obind (slices_IndexFunc_122 x0 f0) fun (t:Int)=>some (decide (t≥0))
noncomputable def slices_ContainsFunc_95 (x0:List (Int×Int)) (f0:(((Int×Int)×Unit)→Option Bool)):Option Bool:=slices_ContainsFunc_95_b lpK jnK slices_IndexFunc_122 x0 f0
abbrev t95:=(List (Int×Int))→((((Int×Int)×Unit)→Option Bool))→Option (Bool)
noncomputable def k95 (slices_ContainsFunc_95:t95):Ctr:=⟨[(.sl T27)],[([T27],.bool)],[],.one .bool,fun x F _=>slices_ContainsFunc_95 x.1 F.1⟩
noncomputable def c95:Ctr:=k95 slices_ContainsFunc_95
theorem e95 (lp:Lp) (jn:Jn) (slices_IndexFunc_122:t122):∀(x:TsS c95.as) (F:TsF c95.fs) (y:TsS c95.cs),slices_ContainsFunc_95_b lp jn slices_IndexFunc_122 x.1 F.1=runC lp jn (cx [(122,k122 slices_IndexFunc_122)] [(24,r24),(22,r22)]) hints 4 95 f95 c95 x F y:=fun x F y=>by kernel_rfl
theorem ok95:c95.ok prog 95:=Ctr.of_den (ctxT_ok (ctxOf_cons (q24) (by kernel_rfl) ok122)) hmix (hl:=hints) (d:=4) func95 rfl (by decide) (e95 lpK jnK slices_IndexFunc_122)
noncomputable def program_right_1_b (_:Lp) (_:Jn) (ratio_Valid:t45) (x0:Int×Int):Option Bool :=
 obind (ratio_Valid x0) fun (t:Bool)=>some !t
noncomputable def program_right_1 (x0:Int×Int):Option Bool:=program_right_1_b lpK jnK ratio_Valid x0
abbrev t96:=(Int×Int)→Option (Bool)
noncomputable def c96:Ctr:=⟨[T27],[],[],.one .bool,fun x _ _=>program_right_1 x.1⟩
theorem e96 (lp:Lp) (jn:Jn) (ratio_Valid:t45):∀(x:TsS c96.as) (F:TsF c96.fs) (y:TsS c96.cs),program_right_1_b lp jn ratio_Valid x.1=runC lp jn (cx [(45,k45 ratio_Valid)] [(24,r24),(22,r22)]) hints 4 96 f96 c96 x F y:=fun x F y=>by kernel_rfl
theorem ok96:c96.ok prog 96:=Ctr.of_den (ctxT_ok (ctxOf_cons (q24) (by kernel_rfl) ok45)) hmix (hl:=hints) (d:=4) func96 rfl (by decide) (e96 lpK jnK ratio_Valid)
noncomputable def program_right_b (_:Lp) (_:Jn) (slices_ContainsFunc_95:t95) (program_right_1:t96) (x0:List (Int×Int)):Option Bool :=
 obind (slices_ContainsFunc_95 x0 fun (x:(Int×Int)×PUnit)=>program_right_1 x.1) fun (t:Bool)=>some !t
noncomputable def program_right (x0:List (Int×Int)):Option Bool:=program_right_b lpK jnK slices_ContainsFunc_95 program_right_1 x0
abbrev t46:=(List (Int×Int))→Option (Bool)
noncomputable def k46 (program_right:t46):Ctr:=⟨[(.sl T27)],[],[],.one .bool,fun x _ _=>program_right x.1⟩
noncomputable def c46:Ctr:=k46 program_right
theorem e46 (lp:Lp) (jn:Jn) (slices_ContainsFunc_95:t95) (program_right_1:t96):∀(x:TsS c46.as) (F:TsF c46.fs) (y:TsS c46.cs),program_right_b lp jn slices_ContainsFunc_95 program_right_1 x.1=runC lp jn (cx [(96,⟨[T27],[],[],.one .bool,fun x _ _=>program_right_1 x.1⟩),(95,k95 slices_ContainsFunc_95)] [(24,r24),(22,r22)]) hints 4 46 f46 c46 x F y:=fun x F y=>by kernel_rfl
theorem ok46:c46.ok prog 46:=Ctr.of_den (ctxT_ok (ctxOf_cons (ctxOf_cons (q24) (by kernel_rfl) ok95) (by kernel_rfl) ok96)) hmix (hl:=hints) (d:=4) func46 rfl (by decide) (e46 lpK jnK slices_ContainsFunc_95 program_right_1)
noncomputable def bits_Mul64_b (_:Lp) (_:Jn) (x0:Int) (x1:Int):Option (Int×Int×Unit) :=
 
 let v4:Int:=2 ^ 32;
 let v5:Int:=Int.fdiv x0 v4;
 let v6:Int:=Int.fdiv x1 v4;
 let v7:Bool:=decide ((0:Int)≤32);
 let v8:Int:=IntKind.wrap .u64 (↑(Nat.land (Int.toNat (x1 % Int.ofNat 18446744073709551616)) (Int.toNat (4294967295 % Int.ofNat 18446744073709551616))) :
  Int);
 let v9:Int:=IntKind.wrap .u64 (↑(Nat.land (Int.toNat (x0 % Int.ofNat 18446744073709551616)) (Int.toNat (4294967295 % Int.ofNat 18446744073709551616))) :
  Int);
 let v10:Int:=IntKind.wrap .u64 (IntKind.wrap .u64 (v5*v8)+Int.fdiv (IntKind.wrap .u64 (v9*v8)) v4);bif v7 then bif v7 then bif v7 then bif v7 then bif v7
  then some (IntKind.wrap .u64 (IntKind.wrap .u64 (IntKind.wrap .u64 (v5*v6)+Int.fdiv v10 v4)+Int.fdiv (IntKind.wrap .u64 (IntKind.wrap .u64
  (↑(Nat.land (Int.toNat (v10 % Int.ofNat 18446744073709551616)) (Int.toNat (4294967295 % Int.ofNat 18446744073709551616))):Int)+IntKind.wrap .u64 (v9 *
  v6))) v4),IntKind.wrap .u64 (x0*x1),PUnit.unit) else none else none else none else none else none
noncomputable def bits_Mul64 (x0:Int) (x1:Int):Option (Int×Int×Unit):=bits_Mul64_b lpK jnK x0 x1
abbrev t113:=(Int)→(Int)→Option (Int×Int×Unit)
noncomputable def k113 (bits_Mul64:t113):Ctr:=⟨[(.int .u64),(.int .u64)],[],[],.tup [(.int .u64),(.int .u64)],fun x _ _=>bits_Mul64 x.1 x.2.1⟩
noncomputable def c113:Ctr:=k113 bits_Mul64
theorem e113 (lp:Lp) (jn:Jn):∀(x:TsS c113.as) (F:TsF c113.fs) (y:TsS c113.cs),bits_Mul64_b lp jn x.1 x.2.1=runC lp jn (cx [] [(24,r24),(22,r22)]) hints 4 113 f113 c113 x F y:=fun x F y=>by kernel_rfl
theorem ok113:c113.ok prog 113:=Ctr.of_den (ctxT_ok (q24)) hmix (hl:=hints) (d:=4) func113 rfl (by decide) (e113 lpK jnK)
noncomputable def ratio_product_b (_:Lp) (_:Jn) (bits_Mul64:t113) (x0:Int) (x1:Int):Option (Int×Int) :=
 obind (bits_Mul64 x0 x1) fun (t:Int×Int×PUnit)=>some (t.1,t.2.1)
noncomputable def ratio_product (x0:Int) (x1:Int):Option (Int×Int):=ratio_product_b lpK jnK bits_Mul64 x0 x1
abbrev t68:=(Int)→(Int)→Option (Int×Int)
noncomputable def k68 (ratio_product:t68):Ctr:=⟨[(.int .u64),(.int .u64)],[],[],.one T96,fun x _ _=>ratio_product x.1 x.2.1⟩
noncomputable def c68:Ctr:=k68 ratio_product
theorem e68 (lp:Lp) (jn:Jn) (bits_Mul64:t113):∀(x:TsS c68.as) (F:TsF c68.fs) (y:TsS c68.cs),ratio_product_b lp jn bits_Mul64 x.1 x.2.1=runC lp jn (cx [(113,k113 bits_Mul64)] [(24,r24),(22,r22)]) hints 4 68 f68 c68 x F y:=fun x F y=>by kernel_rfl
theorem ok68:c68.ok prog 68:=Ctr.of_den (ctxT_ok (ctxOf_cons (q24) (by kernel_rfl) ok113)) hmix (hl:=hints) (d:=4) func68 rfl (by decide) (e68 lpK jnK bits_Mul64)
noncomputable def ratio_less_b (_:Lp) (_:Jn) (x0:Int×Int) (x1:Int×Int):Option Bool :=
 
 let v4:Bool:=decide (x0.1=x1.1);
 let v5:Bool:=decide (x0.1<x1.1);
 let v6:Bool:=!v5;
 let v7:Bool:=!v6;
 let v8:Bool:=v6&&v4;
 let v9:Bool:=v7||v6;
 let v10:Bool:=!v8||v8;bif v9 then bif v9 then bif v9&&v9 then bif v9 then bif v10 then bif v10 then bif v10&&v10 then bif (v7||v9)&&(v7||(!v4||(v7||v8))) then bif v5
  || v6 then some (bif v5 then true else bif v4 then decide (x0.2<x1.2) else false) else none else none else none else none else none else none else none else none else none
noncomputable def ratio_less (x0:Int×Int) (x1:Int×Int):Option Bool:=ratio_less_b lpK jnK x0 x1
abbrev t70:=(Int×Int)→(Int×Int)→Option (Bool)
noncomputable def k70 (ratio_less:t70):Ctr:=⟨[T96,T96],[],[],.one .bool,fun x _ _=>ratio_less x.1 x.2.1⟩
noncomputable def c70:Ctr:=k70 ratio_less
theorem e70 (lp:Lp) (jn:Jn):∀(x:TsS c70.as) (F:TsF c70.fs) (y:TsS c70.cs),ratio_less_b lp jn x.1 x.2.1=runC lp jn (cx [] [(24,r24),(22,r22)]) hints 4 70 f70 c70 x F y:=fun x F y=>by kernel_rfl
theorem ok70:c70.ok prog 70:=Ctr.of_den (ctxT_ok (q24)) hmix (hl:=hints) (d:=4) func70 rfl (by decide) (e70 lpK jnK)
noncomputable def ratio_plus_b (_:Lp) (_:Jn) (x0:Int×Int) (x1:Int×Int):Option (Int×Int) :=
 bif decide ((0:Int)≤0)&&decide ((0:Int)≤1) then bif decide (0≤addC x0.2 x1.2 0)&&decide (addC x0.2 x1.2 0≤1) then
  some (addO x0.1 x1.1 (addC x0.2 x1.2 0),addO x0.2 x1.2 0) else none else none
noncomputable def ratio_plus (x0:Int×Int) (x1:Int×Int):Option (Int×Int):=ratio_plus_b lpK jnK x0 x1
abbrev t89:=(Int×Int)→(Int×Int)→Option (Int×Int)
noncomputable def c89:Ctr:=⟨[T96,T96],[],[],.one T96,fun x _ _=>ratio_plus x.1 x.2.1⟩
theorem e89 (lp:Lp) (jn:Jn):∀(x:TsS c89.as) (F:TsF c89.fs) (y:TsS c89.cs),ratio_plus_b lp jn x.1 x.2.1=runC lp jn (cx [] [(24,r24),(22,r22)]) hints 4 89 f89 c89 x F y:=fun x F y=>by kernel_rfl
theorem ok89:c89.ok prog 89:=Ctr.of_den (ctxT_ok (q24)) hmix (hl:=hints) (d:=4) func89 rfl (by decide) (e89 lpK jnK)
noncomputable def ratio_minus_b (_:Lp) (_:Jn) (x0:Int×Int) (x1:Int×Int):Option (Int×Int) :=
 bif decide ((0:Int)≤0)&&decide ((0:Int)≤1) then bif decide (0≤subC x0.2 x1.2 0)&&decide (subC x0.2 x1.2 0≤1) then
  some (subO x0.1 x1.1 (subC x0.2 x1.2 0),subO x0.2 x1.2 0) else none else none
noncomputable def ratio_minus (x0:Int×Int) (x1:Int×Int):Option (Int×Int):=ratio_minus_b lpK jnK x0 x1
abbrev t90:=(Int×Int)→(Int×Int)→Option (Int×Int)
noncomputable def c90:Ctr:=⟨[T96,T96],[],[],.one T96,fun x _ _=>ratio_minus x.1 x.2.1⟩
theorem e90 (lp:Lp) (jn:Jn):∀(x:TsS c90.as) (F:TsF c90.fs) (y:TsS c90.cs),ratio_minus_b lp jn x.1 x.2.1=runC lp jn (cx [] [(24,r24),(22,r22)]) hints 4 90 f90 c90 x F y:=fun x F y=>by kernel_rfl
theorem ok90:c90.ok prog 90:=Ctr.of_den (ctxT_ok (q24)) hmix (hl:=hints) (d:=4) func90 rfl (by decide) (e90 lpK jnK)
noncomputable def bits_Len64_b (_:Lp) (jn:Jn) (x0:Int):Option Int :=
 jn (Int×Int×PUnit) Int (fun (x:Int×Int×PUnit)=>jn (Int×Int×PUnit) Int (fun (x:Int×Int×PUnit) =>
 let v5:Int:=IntKind.wrap IntKind.u8 x.1;
 let v6:Int:=IntKind.wrap IntKind.u8 (Int.fdiv x.1 (2 ^ 8));bif decide (x.1≥256) then bif decide ((0:Int)≤8) then bif inB v6 256 then
  some (IntKind.wrap .i64 (IntKind.wrap .i64 (x.2.1+8)+IntKind.wrap .i64 (byteAt { data:=List.toArray (List.append (List.append [(0:UInt8),(1 :
  UInt8),(2:UInt8),(2:UInt8),(3:UInt8),(3:UInt8),(3:UInt8),(3:UInt8),(4:UInt8),(4:UInt8),(4:UInt8),(4:UInt8),(4:UInt8),(4:UInt8),(4:UInt8),(4 :
  UInt8),(5:UInt8),(5:UInt8),(5:UInt8),(5:UInt8),(5:UInt8),(5:UInt8),(5:UInt8),(5:UInt8),(5:UInt8),(5:UInt8),(5:UInt8),(5:UInt8),(5:UInt8),(5 :
  UInt8),(5:UInt8),(5:UInt8),(6:UInt8),(6:UInt8),(6:UInt8),(6:UInt8),(6:UInt8),(6:UInt8),(6:UInt8),(6:UInt8),(6:UInt8),(6:UInt8),(6:UInt8),(6 :
  UInt8),(6:UInt8),(6:UInt8),(6:UInt8),(6:UInt8),(6:UInt8),(6:UInt8),(6:UInt8),(6:UInt8),(6:UInt8),(6:UInt8),(6:UInt8),(6:UInt8),(6:UInt8),(6 :
  UInt8),(6:UInt8),(6:UInt8),(6:UInt8),(6:UInt8),(6:UInt8),(6:UInt8)] [(7:UInt8),(7:UInt8),(7:UInt8),(7:UInt8),(7:UInt8),(7:UInt8),(7:UInt8),(7 :
  UInt8),(7:UInt8),(7:UInt8),(7:UInt8),(7:UInt8),(7:UInt8),(7:UInt8),(7:UInt8),(7:UInt8),(7:UInt8),(7:UInt8),(7:UInt8),(7:UInt8),(7:UInt8),(7 :
  UInt8),(7:UInt8),(7:UInt8),(7:UInt8),(7:UInt8),(7:UInt8),(7:UInt8),(7:UInt8),(7:UInt8),(7:UInt8),(7:UInt8),(7:UInt8),(7:UInt8),(7:UInt8),(7 :
  UInt8),(7:UInt8),(7:UInt8),(7:UInt8),(7:UInt8),(7:UInt8),(7:UInt8),(7:UInt8),(7:UInt8),(7:UInt8),(7:UInt8),(7:UInt8),(7:UInt8),(7:UInt8),(7 :
  UInt8),(7:UInt8),(7:UInt8),(7:UInt8),(7:UInt8),(7:UInt8),(7:UInt8),(7:UInt8),(7:UInt8),(7:UInt8),(7:UInt8),(7:UInt8),(7:UInt8),(7:UInt8),(7 :
  UInt8)]) (List.append [(8:UInt8),(8:UInt8),(8:UInt8),(8:UInt8),(8:UInt8),(8:UInt8),(8:UInt8),(8:UInt8),(8:UInt8),(8:UInt8),(8:UInt8),(8:UInt8),(8 :
  UInt8),(8:UInt8),(8:UInt8),(8:UInt8),(8:UInt8),(8:UInt8),(8:UInt8),(8:UInt8),(8:UInt8),(8:UInt8),(8:UInt8),(8:UInt8),(8:UInt8),(8:UInt8),(8 :
  UInt8),(8:UInt8),(8:UInt8),(8:UInt8),(8:UInt8),(8:UInt8),(8:UInt8),(8:UInt8),(8:UInt8),(8:UInt8),(8:UInt8),(8:UInt8),(8:UInt8),(8:UInt8),(8 :
  UInt8),(8:UInt8),(8:UInt8),(8:UInt8),(8:UInt8),(8:UInt8),(8:UInt8),(8:UInt8),(8:UInt8),(8:UInt8),(8:UInt8),(8:UInt8),(8:UInt8),(8:UInt8),(8 :
  UInt8),(8:UInt8),(8:UInt8),(8:UInt8),(8:UInt8),(8:UInt8),(8:UInt8),(8:UInt8),(8:UInt8),(8:UInt8)] [(8:UInt8),(8:UInt8),(8:UInt8),(8:UInt8),(8 :
  UInt8),(8:UInt8),(8:UInt8),(8:UInt8),(8:UInt8),(8:UInt8),(8:UInt8),(8:UInt8),(8:UInt8),(8:UInt8),(8:UInt8),(8:UInt8),(8:UInt8),(8:UInt8),(8 :
  UInt8),(8:UInt8),(8:UInt8),(8:UInt8),(8:UInt8),(8:UInt8),(8:UInt8),(8:UInt8),(8:UInt8),(8:UInt8),(8:UInt8),(8:UInt8),(8:UInt8),(8:UInt8),(8 :
  UInt8),(8:UInt8),(8:UInt8),(8:UInt8),(8:UInt8),(8:UInt8),(8:UInt8),(8:UInt8),(8:UInt8),(8:UInt8),(8:UInt8),(8:UInt8),(8:UInt8),(8:UInt8),(8 :
  UInt8),(8:UInt8),(8:UInt8),(8:UInt8),(8:UInt8),(8:UInt8),(8:UInt8),(8:UInt8),(8:UInt8),(8:UInt8),(8:UInt8),(8:UInt8),(8:UInt8),(8:UInt8),(8 :
  UInt8),(8:UInt8),(8:UInt8),(8:UInt8)])) } (Int.toNat v6)))) else none else none else bif inB v5 256 then some (IntKind.wrap .i64 (x.2.1+IntKind.wrap
  IntKind.i64 (byteAt { data:=List.toArray (List.append (List.append [(0:UInt8),(1:UInt8),(2:UInt8),(2:UInt8),(3:UInt8),(3:UInt8),(3:UInt8),(3:UInt8),(4 :
  UInt8),(4:UInt8),(4:UInt8),(4:UInt8),(4:UInt8),(4:UInt8),(4:UInt8),(4:UInt8),(5:UInt8),(5:UInt8),(5:UInt8),(5:UInt8),(5:UInt8),(5:UInt8),(5 :
  UInt8),(5:UInt8),(5:UInt8),(5:UInt8),(5:UInt8),(5:UInt8),(5:UInt8),(5:UInt8),(5:UInt8),(5:UInt8),(6:UInt8),(6:UInt8),(6:UInt8),(6:UInt8),(6 :
  UInt8),(6:UInt8),(6:UInt8),(6:UInt8),(6:UInt8),(6:UInt8),(6:UInt8),(6:UInt8),(6:UInt8),(6:UInt8),(6:UInt8),(6:UInt8),(6:UInt8),(6:UInt8),(6 :
  UInt8),(6:UInt8),(6:UInt8),(6:UInt8),(6:UInt8),(6:UInt8),(6:UInt8),(6:UInt8),(6:UInt8),(6:UInt8),(6:UInt8),(6:UInt8),(6:UInt8),(6:UInt8)] [(7 :
  UInt8),(7:UInt8),(7:UInt8),(7:UInt8),(7:UInt8),(7:UInt8),(7:UInt8),(7:UInt8),(7:UInt8),(7:UInt8),(7:UInt8),(7:UInt8),(7:UInt8),(7:UInt8),(7 :
  UInt8),(7:UInt8),(7:UInt8),(7:UInt8),(7:UInt8),(7:UInt8),(7:UInt8),(7:UInt8),(7:UInt8),(7:UInt8),(7:UInt8),(7:UInt8),(7:UInt8),(7:UInt8),(7 :
  UInt8),(7:UInt8),(7:UInt8),(7:UInt8),(7:UInt8),(7:UInt8),(7:UInt8),(7:UInt8),(7:UInt8),(7:UInt8),(7:UInt8),(7:UInt8),(7:UInt8),(7:UInt8),(7 :
  UInt8),(7:UInt8),(7:UInt8),(7:UInt8),(7:UInt8),(7:UInt8),(7:UInt8),(7:UInt8),(7:UInt8),(7:UInt8),(7:UInt8),(7:UInt8),(7:UInt8),(7:UInt8),(7 :
  UInt8),(7:UInt8),(7:UInt8),(7:UInt8),(7:UInt8),(7:UInt8),(7:UInt8),(7:UInt8)]) (List.append [(8:UInt8),(8:UInt8),(8:UInt8),(8:UInt8),(8:UInt8),(8 :
  UInt8),(8:UInt8),(8:UInt8),(8:UInt8),(8:UInt8),(8:UInt8),(8:UInt8),(8:UInt8),(8:UInt8),(8:UInt8),(8:UInt8),(8:UInt8),(8:UInt8),(8:UInt8),(8 :
  UInt8),(8:UInt8),(8:UInt8),(8:UInt8),(8:UInt8),(8:UInt8),(8:UInt8),(8:UInt8),(8:UInt8),(8:UInt8),(8:UInt8),(8:UInt8),(8:UInt8),(8:UInt8),(8 :
  UInt8),(8:UInt8),(8:UInt8),(8:UInt8),(8:UInt8),(8:UInt8),(8:UInt8),(8:UInt8),(8:UInt8),(8:UInt8),(8:UInt8),(8:UInt8),(8:UInt8),(8:UInt8),(8 :
  UInt8),(8:UInt8),(8:UInt8),(8:UInt8),(8:UInt8),(8:UInt8),(8:UInt8),(8:UInt8),(8:UInt8),(8:UInt8),(8:UInt8),(8:UInt8),(8:UInt8),(8:UInt8),(8 :
  UInt8),(8:UInt8),(8:UInt8)] [(8:UInt8),(8:UInt8),(8:UInt8),(8:UInt8),(8:UInt8),(8:UInt8),(8:UInt8),(8:UInt8),(8:UInt8),(8:UInt8),(8:UInt8),(8 :
  UInt8),(8:UInt8),(8:UInt8),(8:UInt8),(8:UInt8),(8:UInt8),(8:UInt8),(8:UInt8),(8:UInt8),(8:UInt8),(8:UInt8),(8:UInt8),(8:UInt8),(8:UInt8),(8 :
  UInt8),(8:UInt8),(8:UInt8),(8:UInt8),(8:UInt8),(8:UInt8),(8:UInt8),(8:UInt8),(8:UInt8),(8:UInt8),(8:UInt8),(8:UInt8),(8:UInt8),(8:UInt8),(8 :
  UInt8),(8:UInt8),(8:UInt8),(8:UInt8),(8:UInt8),(8:UInt8),(8:UInt8),(8:UInt8),(8:UInt8),(8:UInt8),(8:UInt8),(8:UInt8),(8:UInt8),(8:UInt8),(8 :
  UInt8),(8:UInt8),(8:UInt8),(8:UInt8),(8:UInt8),(8:UInt8),(8:UInt8),(8:UInt8),(8:UInt8),(8:UInt8),(8:UInt8)])) } (Int.toNat v5)))) else none) fun (j:Int ×
  Int×PUnit→Option Int)=>bif decide (x.1≥65536) then bif decide ((0:Int)≤16) then j (Int.fdiv x.1 (2 ^ 16),IntKind.wrap .i64
  (x.2.1+16),PUnit.unit) else none else j (x.1,x.2.1,PUnit.unit)) fun (j:Int×Int×PUnit→Option Int)=>bif decide (x0≥4294967296) then bif decide
  (0≤32) then j (Int.fdiv x0 (2 ^ 32),32,PUnit.unit) else none else j (x0,0,PUnit.unit)
noncomputable def bits_Len64 (x0:Int):Option Int:=bits_Len64_b lpK jnK x0
abbrev t130:=(Int)→Option (Int)
noncomputable def c130:Ctr:=⟨[(.int .u64)],[],[],.one i64,fun x _ _=>bits_Len64 x.1⟩
theorem e130 (lp:Lp) (jn:Jn):∀(x:TsS c130.as) (F:TsF c130.fs) (y:TsS c130.cs),bits_Len64_b lp jn x.1=runC lp jn (cx [] [(24,r24),(22,r22)]) hints 4 130 f130 c130 x F y:=fun x F y=>by kernel_rfl
theorem ok130:c130.ok prog 130:=Ctr.of_den (ctxT_ok (q24)) hmix (hl:=hints) (d:=4) func130 rfl (by decide) (e130 lpK jnK)
noncomputable def bits_LeadingZeros64_b (_:Lp) (_:Jn) (bits_Len64:t130) (x0:Int):Option Int :=
 obind (bits_Len64 x0) fun (t:Int)=>some (IntKind.wrap .i64 (64 - t))
noncomputable def bits_LeadingZeros64 (x0:Int):Option Int:=bits_LeadingZeros64_b lpK jnK bits_Len64 x0
abbrev t128:=(Int)→Option (Int)
noncomputable def c128:Ctr:=⟨[(.int .u64)],[],[],.one i64,fun x _ _=>bits_LeadingZeros64 x.1⟩
theorem e128 (lp:Lp) (jn:Jn) (bits_Len64:t130):∀(x:TsS c128.as) (F:TsF c128.fs) (y:TsS c128.cs),bits_LeadingZeros64_b lp jn bits_Len64 x.1=runC lp jn (cx [(130,⟨[(.int .u64)],[],[],.one i64,fun x _ _=>bits_Len64 x.1⟩)] [(24,r24),(22,r22)]) hints 4 128 f128 c128 x F y:=fun x F y=>by kernel_rfl
theorem ok128:c128.ok prog 128:=Ctr.of_den (ctxT_ok (ctxOf_cons (q24) (by kernel_rfl) ok130)) hmix (hl:=hints) (d:=4) func128 rfl (by decide) (e128 lpK jnK bits_Len64)
noncomputable def bits_Div64_b (lp:Lp) (jn:Jn) (bits_LeadingZeros64:t128) (x0:Int) (x1:Int) (x2:Int):Option (Int×Int×Unit) :=
 
 let v5:Bool:=nzB x2;
 let v6:Int:=2 ^ 32;
 let v7:Bool:=decide ((0:Int)≤32);jn PUnit (Int×Int×PUnit) (fun (_:PUnit)=>jn PUnit (Int×Int×PUnit) (fun (_:PUnit)=>bif decide (x0=0) then bif v5
  then bif v5 then some (IntKind.wrap .u64 (Int.tdiv x1 x2),Int.tmod x1 x2,PUnit.unit) else none else none else obind (bits_LeadingZeros64 x2) fun (t:Int) =>
 let v11:Int:=IntKind.wrap .u64 t;
 let v12:Bool:=decide (0≤v11);
 let v13:Int:=2 ^ min (Int.toNat v11) 64;
 let v14:Int:=IntKind.wrap .u64 (x2*v13);
 let v15:Int:=IntKind.wrap .u64 (x1*v13);
 let v16:Int:=Int.fdiv v14 v6;
 let v17:Int:=Int.fdiv v15 v6;
 let v18:Bool:=nzB v16;
 let v19:Int:=IntKind.wrap .u64 (↑(Nat.land (Int.toNat (v15 % Int.ofNat 18446744073709551616)) (Int.toNat (4294967295 % Int.ofNat 18446744073709551616)))
  : Int);
 let v20:Int:=IntKind.wrap .u64 (↑(Nat.land (Int.toNat (v14 % Int.ofNat 18446744073709551616)) (Int.toNat (4294967295 % Int.ofNat 18446744073709551616)))
  : Int);
 let v21:Int:=IntKind.wrap .u64 (↑(Nat.lor (Int.toNat (IntKind.wrap .u64 (x0*v13) % Int.ofNat 18446744073709551616)) (Int.toNat (Int.fdiv x1 (2 ^ min
  (Int.toNat (IntKind.wrap .u64 (64 - v11))) 64) % Int.ofNat 18446744073709551616))):Int);
 let v22:Int:=IntKind.wrap .u64 (Int.tdiv v21 v16);bif v12 then bif v7 then bif v12 then bif decide (0≤IntKind.wrap .u64 (64 - v11)) then bif v12 then
  bif v7 then bif v18 then jn (Int×PUnit) (Int×Int×PUnit) (fun (x:Int×PUnit) =>
 let v24:Int:=IntKind.wrap .u64 (IntKind.wrap .u64 (IntKind.wrap .u64 (v21*4294967296)+v17) - IntKind.wrap .u64 (x.1*v14));
 let v25:Int:=IntKind.wrap .u64 (Int.tdiv v24 v16);bif v18 then jn (Int×PUnit) (Int×Int×PUnit) (fun (x_1:Int×PUnit)=>bif v12 then some (IntKind.wrap .u64
  (IntKind.wrap .u64 (x.1*4294967296)+x_1.1),Int.fdiv (IntKind.wrap .u64 (IntKind.wrap .u64 (IntKind.wrap .u64 (v24*4294967296) +
  v19) - IntKind.wrap .u64 (x_1.1*v14))) v13,PUnit.unit) else none) fun (j:Int×PUnit→Option (Int×Int×PUnit))=>lp (Int×Int×PUnit) (Int×Int×PUnit) (fun
  (again:Int×Int×PUnit→Option (Int×Int×PUnit)) (x:Int×Int×PUnit) =>
 let v29:Int×PUnit:=(IntKind.wrap .u64 (x.2.1 - 1),PUnit.unit);
 let v30:Bool:=decide (x.2.1≥4294967296);
 let v31:Bool:=!v30;
 let v32:Bool:=!v31||v31;
 let v33:Bool:=v32&&v32;bif v33 then bif v32 then bif v33 then bif v33 then bif v30||v31 then bif bif v30 then true else decide (IntKind.wrap .u64 (x.2.1*v20) >
  IntKind.wrap .u64 (IntKind.wrap .u64 (4294967296*x.1)+v19)) then bif decide (IntKind.wrap .u64 (x.1+v16)≥4294967296) then j v29 else
  again (IntKind.wrap .u64 (x.1+v16),v29) else j (x.2.1,PUnit.unit) else none else none else none else none else none) (IntKind.wrap .u64 (v24 - IntKind.wrap
  IntKind.u64 (v25*v16)),v25,PUnit.unit) else none) fun (j:Int×PUnit→Option (Int×Int×PUnit))=>lp (Int×Int×PUnit) (Int×Int×PUnit) (fun (again:Int×Int×PUnit →
  Option (Int×Int×PUnit)) (x:Int×Int×PUnit) =>
 let v26:Int:=IntKind.wrap .u64 (x.1 - 1);
 let v27:Bool:=decide (x.1≥4294967296);
 let v28:Bool:=!v27;
 let v29:Bool:=!v28||v28;
 let v30:Bool:=v29&&v29;bif v30 then bif v29 then bif v30 then bif v30 then bif v27||v28 then bif bif v27 then true else decide (IntKind.wrap .u64 (x.1*v20) >
  IntKind.wrap .u64 (IntKind.wrap .u64 (4294967296*x.2.1)+v17)) then bif decide (IntKind.wrap .u64 (x.2.1+v16)≥4294967296) then j
  (v26,PUnit.unit) else again (v26,IntKind.wrap .u64 (x.2.1+v16),PUnit.unit) else j (x.1,PUnit.unit) else none else none else none else none else none) (v22,
  IntKind.wrap .u64 (v21 - IntKind.wrap .u64 (v22*v16)),PUnit.unit) else none else none else none else none else none else none else none) fun (j:PUnit→Option (Int ×
  Int×PUnit))=>bif decide (x2≤x0) then none else j PUnit.unit) fun (j:PUnit→Option (Int×Int×PUnit))=>bif decide (x2=0) then none else j PUnit.unit
noncomputable def bits_Div64 (x0:Int) (x1:Int) (x2:Int):Option (Int×Int×Unit):=bits_Div64_b lpK jnK bits_LeadingZeros64 x0 x1 x2
abbrev t121:=(Int)→(Int)→(Int)→Option (Int×Int×Unit)
noncomputable def k121 (bits_Div64:t121):Ctr:=⟨[(.int .u64),(.int .u64),(.int .u64)],[],[],.tup [(.int .u64),(.int .u64)],fun x _ _=>bits_Div64 x.1 x.2.1 x.2.2.1⟩
noncomputable def c121:Ctr:=k121 bits_Div64
theorem e121 (lp:Lp) (jn:Jn) (bits_LeadingZeros64:t128):∀(x:TsS c121.as) (F:TsF c121.fs) (y:TsS c121.cs),bits_Div64_b lp jn bits_LeadingZeros64 x.1 x.2.1 x.2.2.1=runC lp jn (cx [(128,⟨[(.int .u64)],[],[],.one i64,fun x _ _=>bits_LeadingZeros64 x.1⟩)] [(24,r24),(22,r22)]) hints 4 121 f121 c121 x F y:=fun x F y=>by kernel_rfl
theorem ok121:c121.ok prog 121:=Ctr.of_den (ctxT_ok (ctxOf_cons (q24) (by kernel_rfl) ok128)) hmix (hl:=hints) (d:=4) func121 rfl (by decide) (e121 lpK jnK bits_LeadingZeros64)
noncomputable def ratio_over_b (_:Lp) (_:Jn) (bits_Div64:t121) (x0:Int×Int) (x1:Int):Option ((Int×Int)×Int×Unit) :=
 
 let v4:Bool:=nzB x1;bif v4 then obind (bits_Div64 (Int.tmod x0.1 x1) x0.2 x1) fun (t:Int×Int×PUnit)=>bif v4 then some ((IntKind.wrap .u64 (Int.tdiv x0.1 x1),
  t.1),t.2.1,PUnit.unit) else none else none
noncomputable def ratio_over (x0:Int×Int) (x1:Int):Option ((Int×Int)×Int×Unit):=ratio_over_b lpK jnK bits_Div64 x0 x1
abbrev t91:=(Int×Int)→(Int)→Option ((Int×Int)×Int×Unit)
noncomputable def k91 (ratio_over:t91):Ctr:=⟨[T96,(.int .u64)],[],[],.tup [T96,(.int .u64)],fun x _ _=>ratio_over x.1 x.2.1⟩
noncomputable def c91:Ctr:=k91 ratio_over
theorem e91 (lp:Lp) (jn:Jn) (bits_Div64:t121):∀(x:TsS c91.as) (F:TsF c91.fs) (y:TsS c91.cs),ratio_over_b lp jn bits_Div64 x.1 x.2.1=runC lp jn (cx [(121,k121 bits_Div64)] [(24,r24),(22,r22)]) hints 4 91 f91 c91 x F y:=fun x F y=>by kernel_rfl
theorem ok91:c91.ok prog 91:=Ctr.of_den (ctxT_ok (ctxOf_cons (q24) (by kernel_rfl) ok121)) hmix (hl:=hints) (d:=4) func91 rfl (by decide) (e91 lpK jnK bits_Div64)
noncomputable def ratio_signed_b (_:Lp) (_:Jn) (x0:Bool) (x1:Int) (x2:Int):Option ((Int×Int)×Int×Unit) :=
 
 let v5:Int:=IntKind.wrap .i64 x1;
 let v6:Int:=IntKind.wrap .i64 x2;
 let v7:Bool:=decide (x1>1152921504606846976);
 let v8:Bool:=!v7;bif !v8||v8 then bif v7||v8 then bif bif v7 then true else decide (x2>1152921504606846976) then some ((0,0),5,PUnit.unit)
  else bif x0 then some ((IntKind.wrap .i64 (0 - v5),v6),0,PUnit.unit) else some ((v5,v6),0,PUnit.unit) else none else none
noncomputable def ratio_signed (x0:Bool) (x1:Int) (x2:Int):Option ((Int×Int)×Int×Unit):=ratio_signed_b lpK jnK x0 x1 x2
abbrev t92:=(Bool)→(Int)→(Int)→Option ((Int×Int)×Int×Unit)
noncomputable def k92 (ratio_signed:t92):Ctr:=⟨[.bool,(.int .u64),(.int .u64)],[],[],.tup [T27,i64],fun x _ _=>ratio_signed x.1 x.2.1 x.2.2.1⟩
noncomputable def c92:Ctr:=k92 ratio_signed
theorem e92 (lp:Lp) (jn:Jn):∀(x:TsS c92.as) (F:TsF c92.fs) (y:TsS c92.cs),ratio_signed_b lp jn x.1 x.2.1 x.2.2.1=runC lp jn (cx [] [(24,r24),(22,r22)]) hints 4 92 f92 c92 x F y:=fun x F y=>by kernel_rfl
theorem ok92:c92.ok prog 92:=Ctr.of_den (ctxT_ok (q24)) hmix (hl:=hints) (d:=4) func92 rfl (by decide) (e92 lpK jnK)
noncomputable def ratio_Add_b (_:Lp) (jn:Jn) (ratio_size:t69) (ratio_gcd:t88) (ratio_Valid:t45) (ratio_product:t68) (ratio_less:t70) (ratio_plus:t89) (ratio_minus:t90) (ratio_over:t91) (ratio_signed:t92) (x0:Int×Int) (x1:Int×Int):Option ((Int×Int)×Int×Unit) :=
 
 let v4:Int:=IntKind.wrap .u64 x0.2;
 let v5:Int:=IntKind.wrap .u64 x1.2;
 let v6:Bool:=decide (x0.1<0);obind (ratio_Valid x0) fun (t:Bool) =>
 let v8:Bool:=!t;
 let v9:Bool:=!v8;
 let v10:Bool:=!v9||v9;bif v10 then obind (bif v9 then ratio_Valid x1 else some false) fun (t:Bool)=>bif v10 then bif v8||v9 then bif bif v8 then true else !t then some (((0 :
  Int),0),1,PUnit.unit) else obind (ratio_gcd v4 v5) fun (t:Int) =>
 let v13:Bool:=nzB t;
 let v14:Int:=IntKind.wrap .u64 (Int.tdiv v4 t);obind (ratio_size x0.1) fun (t_1:Int)=>bif v13 then obind (ratio_product t_1 (IntKind.wrap .u64 (Int.tdiv v5 t)))
  fun (t_2:Int×Int)=>obind (ratio_size x1.1) fun (t_3:Int)=>bif v13 then obind (ratio_product t_3 v14) fun (t_4:Int×Int)=>jn (Bool×(Int×Int)×PUnit) ((Int×Int) ×
  Int×PUnit) (fun (x:Bool×(Int×Int)×PUnit)=>bif decide (x.2.1.1=0)&&(decide (x.2.1.2=0)&&true) then some ((0,1),(0 :
  Int),PUnit.unit) else obind (ratio_over x.2.1 t) fun (t_5:(Int×Int)×Int×PUnit)=>obind (ratio_gcd t t_5.2.1) fun (t:Int)=>obind (ratio_over x.2.1 t) fun (t_6 :
  (Int×Int)×Int×PUnit) =>
 let v23:Bool:=decide (t_6.1.1>0);
 let v24:Bool:=!v23;
 let v25:Bool:=!v24||v24;bif v13 then bif nzB t then obind (ratio_product v14 (IntKind.wrap .u64 (Int.tdiv v5 t))) fun (t:Int×Int)=>bif v25 then bif v25 then bif v23 ||
  v24 then bif bif v23 then true else decide (t.1>0) then some ((0,0),5,PUnit.unit) else obind (ratio_signed x.1 t_6.1.2 t.2) fun (t:(Int
  × Int)×Int×PUnit)=>some (t.1,t.2.1,PUnit.unit) else none else none else none else none else none) fun (j:Bool×(Int×Int)×PUnit→Option ((Int×Int)×Int×PUnit))
  =>bif decide (v6=decide (x1.1<0)) then obind (ratio_plus t_2 t_4) fun (t:Int×Int)=>j (v6,t,PUnit.unit) else obind (ratio_less t_2 t_4) fun (t:Bool)=>jn (Bool
  × (Int×Int)×PUnit) ((Int×Int)×Int×PUnit) (fun (x:Bool×(Int×Int)×PUnit)=>j (x.1,x.2.1,PUnit.unit)) fun (j:Bool×(Int×Int)×PUnit→Option ((Int×Int) ×
  Int×PUnit))=>bif t then obind (ratio_minus t_4 t_2) fun (t:Int×Int)=>j (!v6,t,PUnit.unit) else obind (ratio_minus t_2 t_4) fun (t:Int×Int)=>j (v6,t,PUnit.unit) else
  none else none else none else none else none
noncomputable def ratio_Add (x0:Int×Int) (x1:Int×Int):Option ((Int×Int)×Int×Unit):=ratio_Add_b lpK jnK ratio_size ratio_gcd ratio_Valid ratio_product ratio_less ratio_plus ratio_minus ratio_over ratio_signed x0 x1
abbrev t39:=(Int×Int)→(Int×Int)→Option ((Int×Int)×Int×Unit)
noncomputable def k39 (ratio_Add:t39):Ctr:=⟨[T27,T27],[],[],.tup [T27,i64],fun x _ _=>ratio_Add x.1 x.2.1⟩
noncomputable def c39:Ctr:=k39 ratio_Add
theorem e39 (lp:Lp) (jn:Jn) (ratio_size:t69) (ratio_gcd:t88) (ratio_Valid:t45) (ratio_product:t68) (ratio_less:t70) (ratio_plus:t89) (ratio_minus:t90) (ratio_over:t91) (ratio_signed:t92):∀(x:TsS c39.as) (F:TsF c39.fs) (y:TsS c39.cs),ratio_Add_b lp jn ratio_size ratio_gcd ratio_Valid ratio_product ratio_less ratio_plus ratio_minus ratio_over ratio_signed x.1 x.2.1=runC lp jn (cx [(92,k92 ratio_signed),(91,k91 ratio_over),(90,⟨[T96,T96],[],[],.one T96,fun x _ _=>ratio_minus x.1 x.2.1⟩),(89,⟨[T96,T96],[],[],.one T96,fun x _ _=>ratio_plus x.1 x.2.1⟩),(70,k70 ratio_less),(68,k68 ratio_product),(45,k45 ratio_Valid),(88,k88 ratio_gcd),(69,k69 ratio_size)] [(24,r24),(22,r22)]) hints 4 39 f39 c39 x F y:=fun x F y=>by kernel_rfl
theorem ok39:c39.ok prog 39:=Ctr.of_den (ctxT_ok (ctxOf_cons (ctxOf_cons (ctxOf_cons (ctxOf_cons (ctxOf_cons (ctxOf_cons (ctxOf_cons (ctxOf_cons (ctxOf_cons (q24) (by kernel_rfl) ok69) (by kernel_rfl) ok88) (by kernel_rfl) ok45) (by kernel_rfl) ok68) (by kernel_rfl) ok70) (by kernel_rfl) ok89) (by kernel_rfl) ok90) (by kernel_rfl) ok91) (by kernel_rfl) ok92)) hmix (hl:=hints) (d:=4) func39 rfl (by decide) (e39 lpK jnK ratio_size ratio_gcd ratio_Valid ratio_product ratio_less ratio_plus ratio_minus ratio_over ratio_signed)
noncomputable def ratio_Mul_b (_:Lp) (_:Jn) (ratio_size:t69) (ratio_gcd:t88) (ratio_Valid:t45) (ratio_product:t68) (ratio_signed:t92) (x0:Int×Int) (x1:Int×Int):Option ((Int×Int)×Int×Unit) :=
 
 let v4:Int:=IntKind.wrap .u64 x1.2;
 let v5:Int:=IntKind.wrap .u64 x0.2;obind (ratio_Valid x0) fun (t:Bool) =>
 let v7:Bool:=!t;
 let v8:Bool:=!v7;
 let v9:Bool:=!v8||v8;bif v9 then obind (bif v8 then ratio_Valid x1 else some false) fun (t:Bool)=>bif v9 then bif v7||v8 then bif bif v7 then true else !t then some (((0 :
  Int),0),1,PUnit.unit) else obind (ratio_size x0.1) fun (t:Int)=>obind (ratio_gcd t v4) fun (t:Int) =>
 let v13:Bool:=nzB t;obind (ratio_size x1.1) fun (t_1:Int)=>obind (ratio_gcd t_1 v5) fun (t_2:Int) =>
 let v16:Bool:=nzB t_2;obind (ratio_size x0.1) fun (t_3:Int)=>bif v13 then obind (ratio_size x1.1) fun (t_4:Int)=>bif v16 then obind (ratio_product (IntKind.wrap
  IntKind.u64 (Int.tdiv t_3 t)) (IntKind.wrap .u64 (Int.tdiv t_4 t_2))) fun (t_5:Int×Int) =>
 let v20:Bool:=decide (t_5.1>0);
 let v21:Bool:=decide (t_5.2>0);
 let v22:Bool:=!v20;
 let v23:Bool:=!v21||v21;
 let v24:Bool:=!v22||v22;bif v16 then bif v13 then obind (ratio_product (IntKind.wrap .u64 (Int.tdiv v5 t_2)) (IntKind.wrap .u64 (Int.tdiv v4 t))) fun (t:Int×Int)
  =>bif v24 then bif v24 then bif v20||v22 then bif bif v20 then true else decide (t.1>0) then some ((0,0),5,PUnit.unit) else bif v23 then bif
  v23 then bif v23 then bif v23 then bif v23&&v23 then bif v23 then obind (ratio_signed (bif v21 then !decide (decide (x0.1<0)=decide (x1.1<0)) else false)
  t_5.2 t.2) fun (t:(Int×Int)×Int×PUnit)=>some (t.1,t.2.1,PUnit.unit) else none else none else none else none else none else none else none else none else none else
  none else none else none else none else none else none else none
noncomputable def ratio_Mul (x0:Int×Int) (x1:Int×Int):Option ((Int×Int)×Int×Unit):=ratio_Mul_b lpK jnK ratio_size ratio_gcd ratio_Valid ratio_product ratio_signed x0 x1
abbrev t99:=(Int×Int)→(Int×Int)→Option ((Int×Int)×Int×Unit)
noncomputable def c99:Ctr:=⟨[T27,T27],[],[],.tup [T27,i64],fun x _ _=>ratio_Mul x.1 x.2.1⟩
theorem e99 (lp:Lp) (jn:Jn) (ratio_size:t69) (ratio_gcd:t88) (ratio_Valid:t45) (ratio_product:t68) (ratio_signed:t92):∀(x:TsS c99.as) (F:TsF c99.fs) (y:TsS c99.cs),ratio_Mul_b lp jn ratio_size ratio_gcd ratio_Valid ratio_product ratio_signed x.1 x.2.1=runC lp jn (cx [(92,k92 ratio_signed),(68,k68 ratio_product),(45,k45 ratio_Valid),(88,k88 ratio_gcd),(69,k69 ratio_size)] [(24,r24),(22,r22)]) hints 4 99 f99 c99 x F y:=fun x F y=>by kernel_rfl
theorem ok99:c99.ok prog 99:=Ctr.of_den (ctxT_ok (ctxOf_cons (ctxOf_cons (ctxOf_cons (ctxOf_cons (ctxOf_cons (q24) (by kernel_rfl) ok69) (by kernel_rfl) ok88) (by kernel_rfl) ok45) (by kernel_rfl) ok68) (by kernel_rfl) ok92)) hmix (hl:=hints) (d:=4) func99 rfl (by decide) (e99 lpK jnK ratio_size ratio_gcd ratio_Valid ratio_product ratio_signed)
noncomputable def program_sums_of_b (lp:Lp) (jn:Jn) (ratio_Add:t39) (ratio_Mul:t99) (x0:Int) (x1:List Int) (x2:List (Int×Int)):Option (Int×(Int×Int)) :=
 lp (Int×Int×(Int×Int)×(Int×Int)×PUnit) (Int×Int×Int) (fun (again:Int×Int×(Int×Int)×(Int×Int)×PUnit→Option (Int×Int×Int)) (x:Int×Int×(Int×Int) ×
  (Int×Int)×PUnit)=>bif decide (x.1<(↑(List.length x1):Int)) then bif inB x.1 (List.length x1) then bif inB x.1 (List.length x2) then obind (ratio_Mul (List.getD x1
  (Int.toNat x.1) 0,1) (List.getD x2 (Int.toNat x.1) (0,0))) fun (t:(Int×Int)×Int×PUnit)=>jn (Int×(Int×Int)×PUnit) (Int×Int×Int)
  (fun (x_1:Int×(Int×Int)×PUnit)=>bif !decide (x_1.1=0) then some (x_1.1,0,1) else again (IntKind.wrap .i64 (x.1+1),
  x.2.1,x.2.2.1,x_1.2.1,PUnit.unit)) fun (j:Int×(Int×Int)×PUnit→Option (Int×Int×Int))=>bif decide (t.2.1=0) then obind (ratio_Add
  x.2.2.2.1 t.1) fun (t:(Int×Int)×Int×PUnit)=>j (t.2.1,t.1,PUnit.unit) else j (t.2.1,t.1,PUnit.unit) else none else none else some (x.2.1,
  x.2.2.2.1)) (0,x0,(0,0),(0,1),PUnit.unit)
noncomputable def program_sums_of (x0:Int) (x1:List Int) (x2:List (Int×Int)):Option (Int×(Int×Int)):=program_sums_of_b lpK jnK ratio_Add ratio_Mul x0 x1 x2
abbrev t48:=(Int)→(List Int)→(List (Int×Int))→Option (Int×(Int×Int))
noncomputable def k48 (program_sums_of:t48):MCtr:=⟨T75,[(.sl i64),(.sl T27)],.one T27,fun x y=>program_sums_of x y.1 y.2.1⟩
noncomputable def m48:MCtr:=k48 program_sums_of
theorem e48 (lp:Lp) (jn:Jn) (ratio_Add:t39) (ratio_Mul:t99):∀(x:m48.s.T) (y:TsS m48.as),program_sums_of_b lp jn ratio_Add ratio_Mul x y.1 y.2.1=runM lp jn (cx [(99,⟨[T27,T27],[],[],.tup [T27,i64],fun x _ _=>ratio_Mul x.1 x.2.1⟩),(39,k39 ratio_Add)] [(24,r24),(22,r22)]) hints 4 48 f48 m48 x y:=fun x y=>by kernel_rfl
theorem ok48:m48.ok prog 48:=MCtr.of_den (ctxT_ok (ctxOf_cons (ctxOf_cons (q24) (by kernel_rfl) ok39) (by kernel_rfl) ok99)) hmix (hl:=hints) (d:=4) func48 rfl (by decide) rfl (e48 lpK jnK ratio_Add ratio_Mul)
noncomputable def program_sums_feasible_1_b (_:Lp) (_:Jn) (x0:Int×Int):Option Bool :=
 some (decide (x0.1<0))
noncomputable def program_sums_feasible_1 (x0:Int×Int):Option Bool:=program_sums_feasible_1_b lpK jnK x0
abbrev t97:=(Int×Int)→Option (Bool)
noncomputable def c97:Ctr:=⟨[T27],[],[],.one .bool,fun x _ _=>program_sums_feasible_1 x.1⟩
theorem e97 (lp:Lp) (jn:Jn):∀(x:TsS c97.as) (F:TsF c97.fs) (y:TsS c97.cs),program_sums_feasible_1_b lp jn x.1=runC lp jn (cx [] [(24,r24),(22,r22)]) hints 4 97 f97 c97 x F y:=fun x F y=>by kernel_rfl
theorem ok97:c97.ok prog 97:=Ctr.of_den (ctxT_ok (q24)) hmix (hl:=hints) (d:=4) func97 rfl (by decide) (e97 lpK jnK)
noncomputable def ratio_Cmp_b (_:Lp) (jn:Jn) (ratio_size:t69) (ratio_Valid:t45) (ratio_product:t68) (ratio_less:t70) (x0:Int×Int) (x1:Int×Int):Option (Int×Int×Unit) :=
 
 let v4:Bool:=decide (x0.1<0);obind (ratio_Valid x0) fun (t:Bool) =>
 let v6:Bool:=!t;
 let v7:Bool:=!v6;
 let v8:Bool:=!v7||v7;bif v8 then obind (bif v7 then ratio_Valid x1 else some false) fun (t:Bool)=>bif v8 then bif v6||v7 then bif bif v6 then true else !t then some ((0 :
  Int),1,PUnit.unit) else obind (ratio_size x0.1) fun (t:Int)=>obind (ratio_product t (IntKind.wrap .u64 x1.2)) fun (t:Int×Int)=>obind (ratio_size x1.1)
  fun (t_1:Int)=>obind (ratio_product t_1 (IntKind.wrap .u64 x0.2)) fun (t_2:Int×Int)=>bif !decide (v4=decide (x1.1<0)) then bif v4 then some ((-1),
  0,PUnit.unit) else some (1,0,PUnit.unit) else jn ((Int×Int)×(Int×Int)×PUnit) (Int×Int×PUnit) (fun (x:(Int×Int)×(Int×Int)×PUnit)=>obind
  (ratio_less x.1 x.2.1) fun (t:Bool)=>bif t then some ((-1),0,PUnit.unit) else obind (ratio_less x.2.1 x.1) fun (t:Bool)=>bif t then some (1,
  0,PUnit.unit) else some (0,0,PUnit.unit)) fun (j:(Int×Int)×(Int×Int)×PUnit→Option (Int×Int×PUnit))=>bif v4 then j (t_2,t,PUnit.unit) else
  j (t,t_2,PUnit.unit) else none else none else none
noncomputable def ratio_Cmp (x0:Int×Int) (x1:Int×Int):Option (Int×Int×Unit):=ratio_Cmp_b lpK jnK ratio_size ratio_Valid ratio_product ratio_less x0 x1
abbrev t26:=(Int×Int)→(Int×Int)→Option (Int×Int×Unit)
noncomputable def k26 (ratio_Cmp:t26):Ctr:=⟨[T27,T27],[],[],.tup [i64,i64],fun x _ _=>ratio_Cmp x.1 x.2.1⟩
noncomputable def c26:Ctr:=k26 ratio_Cmp
theorem e26 (lp:Lp) (jn:Jn) (ratio_size:t69) (ratio_Valid:t45) (ratio_product:t68) (ratio_less:t70):∀(x:TsS c26.as) (F:TsF c26.fs) (y:TsS c26.cs),ratio_Cmp_b lp jn ratio_size ratio_Valid ratio_product ratio_less x.1 x.2.1=runC lp jn (cx [(70,k70 ratio_less),(68,k68 ratio_product),(45,k45 ratio_Valid),(69,k69 ratio_size)] [(24,r24),(22,r22)]) hints 4 26 f26 c26 x F y:=fun x F y=>by kernel_rfl
theorem ok26:c26.ok prog 26:=Ctr.of_den (ctxT_ok (ctxOf_cons (ctxOf_cons (ctxOf_cons (ctxOf_cons (q24) (by kernel_rfl) ok69) (by kernel_rfl) ok45) (by kernel_rfl) ok68) (by kernel_rfl) ok70)) hmix (hl:=hints) (d:=4) func26 rfl (by decide) (e26 lpK jnK ratio_size ratio_Valid ratio_product ratio_less)
noncomputable def program_cmp_b (_:Lp) (_:Jn) (ratio_Cmp:t26) (x0:Int×Int) (x1:Int):Option Int :=
 obind (ratio_Cmp x0 (x1,1)) fun (t:Int×Int×PUnit)=>some t.1
noncomputable def program_cmp (x0:Int×Int) (x1:Int):Option Int:=program_cmp_b lpK jnK ratio_Cmp x0 x1
abbrev t98:=(Int×Int)→(Int)→Option (Int)
noncomputable def k98 (program_cmp:t98):Ctr:=⟨[T27,i64],[],[],.one i64,fun x _ _=>program_cmp x.1 x.2.1⟩
noncomputable def c98:Ctr:=k98 program_cmp
theorem e98 (lp:Lp) (jn:Jn) (ratio_Cmp:t26):∀(x:TsS c98.as) (F:TsF c98.fs) (y:TsS c98.cs),program_cmp_b lp jn ratio_Cmp x.1 x.2.1=runC lp jn (cx [(26,k26 ratio_Cmp)] [(24,r24),(22,r22)]) hints 4 98 f98 c98 x F y:=fun x F y=>by kernel_rfl
theorem ok98:c98.ok prog 98:=Ctr.of_den (ctxT_ok (ctxOf_cons (q24) (by kernel_rfl) ok26)) hmix (hl:=hints) (d:=4) func98 rfl (by decide) (e98 lpK jnK ratio_Cmp)
noncomputable def program_sums_feasible_b (lp:Lp) (_:Jn) (slices_ContainsFunc_95:t95) (program_sums_feasible_1:t97) (program_cmp:t98) (program_sums_of:t48) (x0:Int) (x1:(List Int)×List ((List Int)×Int×Int)) (x2:List (Int×Int)):Option (Int×Bool) :=
 obind (slices_ContainsFunc_95 x2 fun (x:(Int×Int)×PUnit)=>program_sums_feasible_1 x.1) fun (t:Bool)=>lp (Bool×Int×Int×PUnit) (Int×Bool) (fun (again:Bool×Int×Int
  × PUnit→Option (Int×Bool)) (x:Bool×Int×Int×PUnit) =>
 let v8:Bool:=!x.1;
 let v9:Bool:=v8||x.1;
 let v10:List Int×Int×Int:=List.getD x1.2 (Int.toNat x.2.1) ([],0,0);
 let v11:Bool:=!decide (v10.2.1=1);
 let v12:Bool:=!decide (v10.2.1=2);
 let v13:Bool:=!decide (v10.2.1=3);
 let v14:Bool:=x.1&&!v11;bif decide (x.2.1<(↑(List.length x1.2):Int)) then bif inB x.2.1 (List.length x1.2) then obind (program_sums_of x.2.2.1 v10.1 x2)
  fun (t:Int×Int×Int)=>obind (program_cmp t.2 v10.2.2) fun (t_1:Int) =>
 let v17:Bool:=bif x.1 then bif v11 then true else decide (t_1≤0) else false;
 let v18:Bool:=!v17;
 let v19:Bool:=v17&&!v12;
 let v20:Bool:=bif v17 then bif v12 then true else decide (t_1≥0) else false;
 let v21:Bool:=!v20;
 let v22:Bool:=v20&&!v13;
 let v23:Bool:=v18||v17;
 let v24:Bool:=v21||v20;bif v9 then bif v9 then bif v9 then bif !v14||v14 then bif (v8||v9)&&(v8||(v11||(v8||v14))) then bif v9 then bif v23 then bif v23 then bif v23
  then bif !v19||v19 then bif (v18||v23)&&(v18||(v12||(v18||v19))) then bif v23 then bif v24 then bif v24 then bif v24 then bif !v22||v22 then bif (v21||v24)&&(v21 ||
  (v13||(v21||v22))) then bif v24 then again (bif v20 then bif v13 then true else decide (t_1=0) else false,IntKind.wrap .i64 (x.2.1+1),t.1,
  PUnit.unit) else none else none else none else none else none else none else none else none else none else none else none else none else none else none else none else none else none
  else none else none else some (x.2.2.1,x.1)) (!t,0,x0,PUnit.unit)
noncomputable def program_sums_feasible (x0:Int) (x1:(List Int)×List ((List Int)×Int×Int)) (x2:List (Int×Int)):Option (Int×Bool):=program_sums_feasible_b lpK jnK slices_ContainsFunc_95 program_sums_feasible_1 program_cmp program_sums_of x0 x1 x2
abbrev t47:=(Int)→((List Int)×List ((List Int)×Int×Int))→(List (Int×Int))→Option (Int×Bool)
noncomputable def k47 (program_sums_feasible:t47):MCtr:=⟨T75,[T25,(.sl T27)],.one .bool,fun x y=>program_sums_feasible x y.1 y.2.1⟩
noncomputable def m47:MCtr:=k47 program_sums_feasible
theorem e47 (lp:Lp) (jn:Jn) (slices_ContainsFunc_95:t95) (program_sums_feasible_1:t97) (program_cmp:t98) (program_sums_of:t48):∀(x:m47.s.T) (y:TsS m47.as),program_sums_feasible_b lp jn slices_ContainsFunc_95 program_sums_feasible_1 program_cmp program_sums_of x y.1 y.2.1=runM lp jn (ctxT tabs lits (ctxP [] [(48,k48 program_sums_of)] (ctxOf prog shs inls its [(98,k98 program_cmp),(97,⟨[T27],[],[],.one .bool,fun x _ _=>program_sums_feasible_1 x.1⟩),(95,k95 slices_ContainsFunc_95)] [(24,r24),(22,r22)]))) hints 4 47 f47 m47 x y:=fun x y=>by kernel_rfl
theorem ok47:m47.ok prog 47:=MCtr.of_den (ctxT_ok (ctxP_ok (ctxOf_cons (ctxOf_cons (ctxOf_cons (q24) (by kernel_rfl) ok95) (by kernel_rfl) ok97) (by kernel_rfl) ok98) (pcOk_nil) (mcOk_cons (by kernel_rfl) ok48 (mcOk_nil)))) hmix (hl:=hints) (d:=4) func47 rfl (by decide) rfl (e47 lpK jnK slices_ContainsFunc_95 program_sums_feasible_1 program_cmp program_sums_of)
noncomputable def program_column_b (lp:Lp) (_:Jn) (x0:(List Int)×List ((List Int)×Int×Int)) (x1:Int):Option (List Int) :=
 lp (List Int×Int×PUnit) (List Int) (fun (again:List Int×Int×PUnit→Option (List Int)) (x:List Int×Int×PUnit)=>bif decide (x.2.1<(↑(List.length x0.2):Int)) then
  bif inB x.2.1 (List.length x0.2) then bif inB x1 (List.length (List.getD x0.2 (Int.toNat x.2.1) ([],0,0)).1) then bif fitB (List.length x.1+(1 :
  Nat)) 8 then again (x.1++[List.getD (List.getD x0.2 (Int.toNat x.2.1) ([],0,0)).1 (Int.toNat x1) 0],IntKind.wrap .i64 (x.2.1 +
  1),PUnit.unit) else none else none else none else some x.1) ([],0,PUnit.unit)
noncomputable def program_column (x0:(List Int)×List ((List Int)×Int×Int)) (x1:Int):Option (List Int):=program_column_b lpK jnK x0 x1
abbrev t100:=((List Int)×List ((List Int)×Int×Int))→(Int)→Option (List Int)
noncomputable def k100 (program_column:t100):Ctr:=⟨[T25,i64],[],[],.one (.sl i64),fun x _ _=>program_column x.1 x.2.1⟩
noncomputable def c100:Ctr:=k100 program_column
theorem e100 (lp:Lp) (jn:Jn):∀(x:TsS c100.as) (F:TsF c100.fs) (y:TsS c100.cs),program_column_b lp jn x.1 x.2.1=runC lp jn (cx [] [(24,r24),(22,r22)]) hints 4 100 f100 c100 x F y:=fun x F y=>by kernel_rfl
theorem ok100:c100.ok prog 100:=Ctr.of_den (ctxT_ok (q24)) hmix (hl:=hints) (d:=4) func100 rfl (by decide) (e100 lpK jnK)
noncomputable def program_Check_1_b (_:Lp) (_:Jn) (x0:Int) (y0:(List Int)×List ((List Int)×Int×Int)):Option Int :=
 bif inB x0 (List.length y0.1) then some (List.getD y0.1 (Int.toNat x0) 0) else none
noncomputable def program_Check_1 (x0:Int) (y0:(List Int)×List ((List Int)×Int×Int)):Option Int:=program_Check_1_b lpK jnK x0 y0
abbrev t50:=(Int)→((List Int)×List ((List Int)×Int×Int))→Option (Int)
noncomputable def c50:Ctr:=⟨[i64],[],[T25],.one i64,fun x _ y=>program_Check_1 x.1 y.1⟩
theorem e50 (lp:Lp) (jn:Jn):∀(x:TsS c50.as) (F:TsF c50.fs) (y:TsS c50.cs),program_Check_1_b lp jn x.1 y.1=runC lp jn (cx [] [(24,r24),(22,r22)]) hints 4 50 f50 c50 x F y:=fun x F y=>by kernel_rfl
theorem ok50:c50.ok prog 50:=Ctr.of_den (ctxT_ok (q24)) hmix (hl:=hints) (d:=4) func50 rfl (by decide) (e50 lpK jnK)
noncomputable def program_rights_b (lp:Lp) (_:Jn) (x0:(List Int)×List ((List Int)×Int×Int)):Option (List Int) :=
 lp (List Int×Int×PUnit) (List Int) (fun (again:List Int×Int×PUnit→Option (List Int)) (x:List Int×Int×PUnit)=>bif decide (x.2.1<(↑(List.length x0.2):Int)) then
  bif inB x.2.1 (List.length x0.2) then bif fitB (List.length x.1+1) 8 then again (x.1++[(List.getD x0.2 (Int.toNat x.2.1) ([],0,(0 :
  Int))).2.2],IntKind.wrap .i64 (x.2.1+1),PUnit.unit) else none else none else some x.1) ([],0,PUnit.unit)
noncomputable def program_rights (x0:(List Int)×List ((List Int)×Int×Int)):Option (List Int):=program_rights_b lpK jnK x0
abbrev t51:=((List Int)×List ((List Int)×Int×Int))→Option (List Int)
noncomputable def k51 (program_rights:t51):Ctr:=⟨[T25],[],[],.one (.sl i64),fun x _ _=>program_rights x.1⟩
noncomputable def c51:Ctr:=k51 program_rights
theorem e51 (lp:Lp) (jn:Jn):∀(x:TsS c51.as) (F:TsF c51.fs) (y:TsS c51.cs),program_rights_b lp jn x.1=runC lp jn (cx [] [(24,r24),(22,r22)]) hints 4 51 f51 c51 x F y:=fun x F y=>by kernel_rfl
theorem ok51:c51.ok prog 51:=Ctr.of_den (ctxT_ok (q24)) hmix (hl:=hints) (d:=4) func51 rfl (by decide) (e51 lpK jnK)
noncomputable def program_signed_b (lp:Lp) (_:Jn) (x0:(List Int)×List ((List Int)×Int×Int)) (x1:List (Int×Int)):Option Bool :=
 lp (Int×PUnit) Bool (fun (again:Int×PUnit→Option Bool) (x:Int×PUnit) =>
 let v6:Bool:=inB x.1 (List.length x1);
 let v7:Bool:=decide ((List.getD x0.2 (Int.toNat x.1) ([],0,0)).2.1=1);
 let v8:Bool:=decide ((List.getD x0.2 (Int.toNat x.1) ([],0,0)).2.1=2);
 let v9:Bool:=!v7;
 let v10:Bool:=bif v7 then decide ((List.getD x1 (Int.toNat x.1) (0,0)).1>0) else false;
 let v11:Bool:=!v10;
 let v12:Bool:=!v11;
 let v13:Bool:=v9||v7;
 let v14:Bool:=v11&&v8;
 let v15:Bool:=!v14;
 let v16:Bool:=v12||v11;
 let v17:Bool:=v15||v14;bif decide (x.1<(↑(List.length x0.2):Int)) then bif inB x.1 (List.length x0.2) then bif v13&&(v13&&(v9||v6)) then bif v13 then bif v13 then
  bif v13 then bif v13 then bif v16 then bif v16 then bif v16 then bif v17&&(v17&&(v15||v6)) then bif v17 then bif v17 then bif v17 then bif (v12||v16)&&(v12||(!v8||(v12 ||
  v14))) then bif v10||v11 then bif bif v10 then true else bif v8 then decide ((List.getD x1 (Int.toNat x.1) (0,0)).1<0) else false then some false else
  again (IntKind.wrap .i64 (x.1+1),PUnit.unit) else none else none else none else none else none else none else none else none else none else none else none else none
  else none else none else none else some true) (0,PUnit.unit)
noncomputable def program_signed (x0:(List Int)×List ((List Int)×Int×Int)) (x1:List (Int×Int)):Option Bool:=program_signed_b lpK jnK x0 x1
abbrev t52:=((List Int)×List ((List Int)×Int×Int))→(List (Int×Int))→Option (Bool)
noncomputable def k52 (program_signed:t52):Ctr:=⟨[T25,(.sl T27)],[],[],.one .bool,fun x _ _=>program_signed x.1 x.2.1⟩
noncomputable def c52:Ctr:=k52 program_signed
theorem e52 (lp:Lp) (jn:Jn):∀(x:TsS c52.as) (F:TsF c52.fs) (y:TsS c52.cs),program_signed_b lp jn x.1 x.2.1=runC lp jn (cx [] [(24,r24),(22,r22)]) hints 4 52 f52 c52 x F y:=fun x F y=>by kernel_rfl
theorem ok52:c52.ok prog 52:=Ctr.of_den (ctxT_ok (q24)) hmix (hl:=hints) (d:=4) func52 rfl (by decide) (e52 lpK jnK)
noncomputable def program_Check_b (lp:Lp) (_:Jn) (program_Valid:t33) (ratio_Valid:t45) (program_right:t46) (program_cmp:t98) (program_column:t100) (program_Check_1:t50) (program_rights:t51) (program_signed:t52) (program_sums_of:t48) (program_sums_feasible:t47) (x0:(List Int)×List ((List Int)×Int×Int)) (x1:(Int×Int)×(List (Int×Int))×List (Int×Int)):Option (Bool×Int×Unit) :=
 
 let v4:Bool:=!decide ((↑(List.length x1.2.1):Int)=(↑(List.length x0.1):Int));
 let v5:Bool:=!v4;
 let v6:Bool:=!v5||v5;obind (program_Valid x0) fun (t:Bool) =>
 let v8:Bool:=!t;
 let v9:Bool:=!v8;
 let v10:Bool:=!v9||v9;bif v10 then bif v10 then obind (bif v9 then ratio_Valid x1.1 else some false) fun (t:Bool) =>
 let v12:Bool:=bif v8 then true else !t;
 let v13:Bool:=!v12;
 let v14:Bool:=!v13||v13;bif v10 then bif v8||v9 then bif v14 then bif v14 then obind (bif v13 then program_right x1.2.1 else some false) fun (t:Bool) =>
 let v16:Bool:=bif v12 then true else !t;
 let v17:Bool:=!v16;
 let v18:Bool:=!v17||v17;bif v14 then bif v12||v13 then bif v18 then bif v18 then obind (bif v17 then program_right x1.2.2 else some false) fun (t:Bool)=>bif v18 then bif
  v16||v17 then bif bif v16 then true else !t then some (false,1,PUnit.unit) else bif v6 then bif v6 then bif v6 then bif v6 then bif v6&&v6 then bif v4||v5 then bif bif
  v4 then true else !decide ((↑(List.length x1.2.2):Int)=(↑(List.length x0.2):Int)) then some (false,3,PUnit.unit) else obind (program_sums_feasible 0 x0
  x1.2.1) fun (t:Int×Bool)=>obind (program_sums_of t.1 x0.1 x1.2.1) fun (t_1:Int×Int×Int) =>
 let v22:Bool:=decide (t_1.2.1=x1.1.1)&&(decide (t_1.2.2=x1.1.2)&&true);bif !v22||v22 then lp (Bool×Int×Int×PUnit) (Bool×Int×PUnit) (fun (again :
  Bool×Int×Int×PUnit→Option (Bool×Int×PUnit)) (x:Bool×Int×Int×PUnit)=>bif decide (x.2.1<(↑(List.length x0.1):Int)) then obind (program_column x0 x.2.1)
  fun (t:List Int)=>obind (program_sums_of x.2.2.1 t x1.2.2) fun (t:Int×Int×Int)=>obind (program_Check_1 x.2.1 x0) fun (t_2:Int)=>obind (program_cmp t.2
  t_2) fun (t_3:Int) =>
 let v29:Bool:=decide (t_3≤0);bif !v29||v29 then again (bif v29 then x.1 else false,IntKind.wrap .i64 (x.2.1+1),t.1,PUnit.unit) else none else
  bif !x.1||x.1 then obind (program_rights x0) fun (t_2:List Int)=>obind (program_sums_of x.2.2.1 t_2 x1.2.2) fun (t_3:Int×Int×Int) =>
 let v27:Bool:=decide (t_3.2.1=x1.1.1)&&(decide (t_3.2.2=x1.1.2)&&true);
 let v28:Bool:=!v27||v27;bif v28 then bif v28&&v28 then obind (bif v27 then program_signed x0 x1.2.2 else some false) fun (t_4:Bool) =>
 let v30:Bool:=bif v27 then t_4 else false;
 let v31:Bool:=bif v30 then bif x.1 then bif v22 then t.2 else false else false else false;
 let v32:Bool:=!v31||v31;bif v28 then bif !v30||v30 then bif v32 then bif v32 then bif v32 then some (bif v31 then decide (t_3.1=0) else false,t_3.1,PUnit.unit)
  else none else none else none else none else none else none else none else none) (true,0,t_1.1,PUnit.unit) else none else none else none else none else none else none else
  none else none else none else none else none else none else none else none else none else none else none else none else none
noncomputable def program_Check (x0:(List Int)×List ((List Int)×Int×Int)) (x1:(Int×Int)×(List (Int×Int))×List (Int×Int)):Option (Bool×Int×Unit):=program_Check_b lpK jnK program_Valid ratio_Valid program_right program_cmp program_column program_Check_1 program_rights program_signed program_sums_of program_sums_feasible x0 x1
abbrev t14:=((List Int)×List ((List Int)×Int×Int))→((Int×Int)×(List (Int×Int))×List (Int×Int))→Option (Bool×Int×Unit)
noncomputable def k14 (program_Check:t14):Ctr:=⟨[T25,T30],[],[],.tup [.bool,i64],fun x _ _=>program_Check x.1 x.2.1⟩
noncomputable def c14:Ctr:=k14 program_Check
theorem e14 (lp:Lp) (jn:Jn) (program_Valid:t33) (ratio_Valid:t45) (program_right:t46) (program_cmp:t98) (program_column:t100) (program_Check_1:t50) (program_rights:t51) (program_signed:t52) (program_sums_of:t48) (program_sums_feasible:t47):∀(x:TsS c14.as) (F:TsF c14.fs) (y:TsS c14.cs),program_Check_b lp jn program_Valid ratio_Valid program_right program_cmp program_column program_Check_1 program_rights program_signed program_sums_of program_sums_feasible x.1 x.2.1=runC lp jn (ctxT tabs lits (ctxP [] [(47,k47 program_sums_feasible),(48,k48 program_sums_of)] (ctxOf prog shs inls its [(52,k52 program_signed),(51,k51 program_rights),(50,⟨[i64],[],[T25],.one i64,fun x _ y=>program_Check_1 x.1 y.1⟩),(100,k100 program_column),(98,k98 program_cmp),(46,k46 program_right),(45,k45 ratio_Valid),(33,k33 program_Valid)] [(24,r24),(22,r22)]))) hints 4 14 f14 c14 x F y:=fun x F y=>by kernel_rfl
theorem ok14:c14.ok prog 14:=Ctr.of_den (ctxT_ok (ctxP_ok (ctxOf_cons (ctxOf_cons (ctxOf_cons (ctxOf_cons (ctxOf_cons (ctxOf_cons (ctxOf_cons (ctxOf_cons (q24) (by kernel_rfl) ok33) (by kernel_rfl) ok45) (by kernel_rfl) ok46) (by kernel_rfl) ok98) (by kernel_rfl) ok100) (by kernel_rfl) ok50) (by kernel_rfl) ok51) (by kernel_rfl) ok52) (pcOk_nil) (mcOk_cons (by kernel_rfl) ok47 (mcOk_cons (by kernel_rfl) ok48 (mcOk_nil))))) hmix (hl:=hints) (d:=4) func14 rfl (by decide) (e14 lpK jnK program_Valid ratio_Valid program_right program_cmp program_column program_Check_1 program_rights program_signed program_sums_of program_sums_feasible)
noncomputable def program_Refutes_1_b (_:Lp) (_:Jn) (_:Int):Option Int :=
 some 0
noncomputable def program_Refutes_1 (x0:Int):Option Int:=program_Refutes_1_b lpK jnK x0
abbrev t53:=(Int)→Option (Int)
noncomputable def c53:Ctr:=⟨[i64],[],[],.one i64,fun x _ _=>program_Refutes_1 x.1⟩
theorem e53 (lp:Lp) (jn:Jn):∀(x:TsS c53.as) (F:TsF c53.fs) (y:TsS c53.cs),program_Refutes_1_b lp jn x.1=runC lp jn (cx [] [(24,r24),(22,r22)]) hints 4 53 f53 c53 x F y:=fun x F y=>by kernel_rfl
theorem ok53:c53.ok prog 53:=Ctr.of_den (ctxT_ok (q24)) hmix (hl:=hints) (d:=4) func53 rfl (by decide) (e53 lpK jnK)
noncomputable def program_Refutes_b (lp:Lp) (_:Jn) (program_Valid:t33) (program_right:t46) (program_cmp:t98) (program_column:t100) (program_rights:t51) (program_signed:t52) (program_Refutes_1:t53) (program_sums_of:t48) (x0:(List Int)×List ((List Int)×Int×Int)) (x1:List (Int×Int)):Option (Bool×Int×Unit) :=
 obind (program_Valid x0) fun (t:Bool) =>
 let v5:Bool:=!t;
 let v6:Bool:=!v5;
 let v7:Bool:=!v6||v6;bif v7 then obind (bif v6 then program_right x1 else some false) fun (t:Bool)=>bif v7 then bif v5||v6 then bif bif v5 then true else !t then some (false,
  1,PUnit.unit) else bif !decide ((↑(List.length x1):Int)=(↑(List.length x0.2):Int)) then some (false,3,PUnit.unit) else lp (Bool×Int×Int×PUnit) (Bool ×
  Int×PUnit) (fun (again:Bool×Int×Int×PUnit→Option (Bool×Int×PUnit)) (x:Bool×Int×Int×PUnit)=>bif decide (x.2.1<(↑(List.length x0.1):Int)) then obind
  (program_column x0 x.2.1) fun (t:List Int)=>obind (program_sums_of x.2.2.1 t x1) fun (t:Int×Int×Int)=>obind (program_Refutes_1 x.2.1) fun (t_1:Int)=>obind
  (program_cmp t.2 t_1) fun (t_2:Int) =>
 let v15:Bool:=decide (t_2≤0);bif !v15||v15 then again (bif v15 then x.1 else false,IntKind.wrap .i64 (x.2.1+1),t.1,PUnit.unit) else none else
  obind (program_rights x0) fun (t:List Int)=>obind (program_sums_of x.2.2.1 t x1) fun (t:Int×Int×Int) =>
 let v13:Bool:=decide (t.2.1>0);
 let v14:Bool:=!v13||v13;bif v14&&v14 then obind (bif v13 then program_signed x0 x1 else some false) fun (t_1:Bool) =>
 let v16:Bool:=bif v13 then t_1 else false;
 let v17:Bool:=bif v16 then x.1 else false;
 let v18:Bool:=!v17||v17;bif v14 then bif !v16||v16 then bif v18 then bif v18 then bif v18 then some (bif v17 then decide (t.1=0) else false,t.1,PUnit.unit) else
  none else none else none else none else none else none) (true,0,0,PUnit.unit) else none else none else none
noncomputable def program_Refutes (x0:(List Int)×List ((List Int)×Int×Int)) (x1:List (Int×Int)):Option (Bool×Int×Unit):=program_Refutes_b lpK jnK program_Valid program_right program_cmp program_column program_rights program_signed program_Refutes_1 program_sums_of x0 x1
abbrev t15:=((List Int)×List ((List Int)×Int×Int))→(List (Int×Int))→Option (Bool×Int×Unit)
noncomputable def k15 (program_Refutes:t15):Ctr:=⟨[T25,(.sl T27)],[],[],.tup [.bool,i64],fun x _ _=>program_Refutes x.1 x.2.1⟩
noncomputable def c15:Ctr:=k15 program_Refutes
theorem e15 (lp:Lp) (jn:Jn) (program_Valid:t33) (program_right:t46) (program_cmp:t98) (program_column:t100) (program_rights:t51) (program_signed:t52) (program_Refutes_1:t53) (program_sums_of:t48):∀(x:TsS c15.as) (F:TsF c15.fs) (y:TsS c15.cs),program_Refutes_b lp jn program_Valid program_right program_cmp program_column program_rights program_signed program_Refutes_1 program_sums_of x.1 x.2.1=runC lp jn (ctxT tabs lits (ctxP [] [(48,k48 program_sums_of)] (ctxOf prog shs inls its [(53,⟨[i64],[],[],.one i64,fun x _ _=>program_Refutes_1 x.1⟩),(52,k52 program_signed),(51,k51 program_rights),(100,k100 program_column),(98,k98 program_cmp),(46,k46 program_right),(33,k33 program_Valid)] [(24,r24),(22,r22)]))) hints 4 15 f15 c15 x F y:=fun x F y=>by kernel_rfl
theorem ok15:c15.ok prog 15:=Ctr.of_den (ctxT_ok (ctxP_ok (ctxOf_cons (ctxOf_cons (ctxOf_cons (ctxOf_cons (ctxOf_cons (ctxOf_cons (ctxOf_cons (q24) (by kernel_rfl) ok33) (by kernel_rfl) ok46) (by kernel_rfl) ok98) (by kernel_rfl) ok100) (by kernel_rfl) ok51) (by kernel_rfl) ok52) (by kernel_rfl) ok53) (pcOk_nil) (mcOk_cons (by kernel_rfl) ok48 (mcOk_nil)))) hmix (hl:=hints) (d:=4) func15 rfl (by decide) (e15 lpK jnK program_Valid program_right program_cmp program_column program_rights program_signed program_Refutes_1 program_sums_of)
noncomputable def program_size_b (_:Lp) (_:Jn) (x0:Int):Option Int :=
 
 let v3:Int:=IntKind.wrap .u64 x0;bif decide (x0<0) then some (IntKind.wrap .u64 (0 - v3)) else some v3
noncomputable def program_size (x0:Int):Option Int:=program_size_b lpK jnK x0
abbrev t107:=(Int)→Option (Int)
noncomputable def k107 (program_size:t107):Ctr:=⟨[i64],[],[],.one (.int .u64),fun x _ _=>program_size x.1⟩
noncomputable def c107:Ctr:=k107 program_size
theorem e107 (lp:Lp) (jn:Jn):∀(x:TsS c107.as) (F:TsF c107.fs) (y:TsS c107.cs),program_size_b lp jn x.1=runC lp jn (cx [] [(24,r24),(22,r22)]) hints 4 107 f107 c107 x F y:=fun x F y=>by kernel_rfl
theorem ok107:c107.ok prog 107:=Ctr.of_den (ctxT_ok (q24)) hmix (hl:=hints) (d:=4) func107 rfl (by decide) (e107 lpK jnK)
noncomputable def program_fits_1_b (lp:Lp) (_:Jn) (program_size:t107) (x0:List Int) (x1:Int):Option Int :=
 obind (program_size x1) fun (t:Int)=>lp (Int×Int×PUnit) Int (fun (again:Int×Int×PUnit→Option Int) (x:Int×Int×PUnit)=>bif decide (x.2.1<(↑(List.length x0) :
  Int)) then bif inB x.2.1 (List.length x0) then obind (program_size (List.getD x0 (Int.toNat x.2.1) 0)) fun (t:Int)=>again (IntKind.wrap .i64 (x.1 +
  IntKind.wrap .i64 t),IntKind.wrap .i64 (x.2.1+1),PUnit.unit) else none else some x.1) (IntKind.wrap .i64 (1+IntKind.wrap .i64 t),
  0,PUnit.unit)
noncomputable def program_fits_1 (x0:List Int) (x1:Int):Option Int:=program_fits_1_b lpK jnK program_size x0 x1
abbrev t106:=(List Int)→(Int)→Option (Int)
noncomputable def c106:Ctr:=⟨[(.sl i64),i64],[],[],.one i64,fun x _ _=>program_fits_1 x.1 x.2.1⟩
theorem e106 (lp:Lp) (jn:Jn) (program_size:t107):∀(x:TsS c106.as) (F:TsF c106.fs) (y:TsS c106.cs),program_fits_1_b lp jn program_size x.1 x.2.1=runC lp jn (cx [(107,k107 program_size)] [(24,r24),(22,r22)]) hints 4 106 f106 c106 x F y:=fun x F y=>by kernel_rfl
theorem ok106:c106.ok prog 106:=Ctr.of_den (ctxT_ok (ctxOf_cons (q24) (by kernel_rfl) ok107)) hmix (hl:=hints) (d:=4) func106 rfl (by decide) (e106 lpK jnK program_size)
noncomputable def slices_Max_108_b (lp:Lp) (jn:Jn) (x0:List Int):Option Int :=
 jn PUnit Int (fun (_:PUnit)=>bif inB 0 (List.length x0) then lp (Int×Int×PUnit) Int (fun (again:Int×Int×PUnit→Option Int) (x:Int×Int×PUnit)=>bif decide
  (x.2.1<(↑(List.length x0):Int)) then bif inB x.2.1 (List.length x0) then again (if List.getD x0 (Int.toNat x.2.1) 0>x.1 then List.getD x0 (Int.toNat
  x.2.1) 0 else x.1,IntKind.wrap .i64 (x.2.1+1),PUnit.unit) else none else some x.1) (List.getD x0 0 0,1,PUnit.unit) else
  none) fun (j:PUnit→Option Int)=>bif decide ((↑(List.length x0):Int)<1) then none else j PUnit.unit
noncomputable def slices_Max_108 (x0:List Int):Option Int:=slices_Max_108_b lpK jnK x0
abbrev t108:=(List Int)→Option (Int)
noncomputable def c108:Ctr:=⟨[(.sl i64)],[],[],.one i64,fun x _ _=>slices_Max_108 x.1⟩
theorem e108 (lp:Lp) (jn:Jn):∀(x:TsS c108.as) (F:TsF c108.fs) (y:TsS c108.cs),slices_Max_108_b lp jn x.1=runC lp jn (cx [] [(24,r24),(22,r22)]) hints 4 108 f108 c108 x F y:=fun x F y=>by kernel_rfl
theorem ok108:c108.ok prog 108:=Ctr.of_den (ctxT_ok (q24)) hmix (hl:=hints) (d:=4) func108 rfl (by decide) (e108 lpK jnK)
noncomputable def program_fits_b (lp:Lp) (_:Jn) (program_fits_1:t106) (slices_Max_108:t108) (x0:(List Int)×List ((List Int)×Int×Int)):Option Bool :=
 obind (program_fits_1 x0.1 0) fun (t:Int)=>lp (List Int×Int×PUnit) Bool (fun (again:List Int×Int×PUnit→Option Bool) (x:List Int×Int×PUnit) =>
 let v6:List Int×Int×Int:=List.getD x0.2 (Int.toNat x.2.1) ([],0,0);bif decide (x.2.1<(↑(List.length x0.2):Int)) then bif inB x.2.1
  (List.length x0.2) then obind (program_fits_1 v6.1 v6.2.2) fun (t:Int)=>bif fitB (List.length x.1+1) 8 then again (x.1++[t],IntKind.wrap .i64
  (x.2.1+1),PUnit.unit) else none else none else lp (Int×Int×PUnit) Bool (fun (again:Int×Int×PUnit→Option Bool) (x_1:Int×Int×PUnit) =>
 let v9:Int:=List.getD x.1 (Int.toNat x_1.2.1) 0;bif decide (x_1.2.1<(↑(List.length x.1):Int)) then bif inB x_1.2.1 (List.length x.1) then bif Nat.ble
  (Nat.succ (Int.toNat x_1.2.1)) (List.length x.1) then bif nzB v9 then bif decide (x_1.1>IntKind.wrap .i64 (Int.tdiv 17592186044416 v9)) then some false else
  again (IntKind.wrap .i64 (x_1.1*v9),IntKind.wrap .i64 (x_1.2.1+1),PUnit.unit) else none else none else none else obind (slices_Max_108 x.1) fun (t :
  Int)=>bif nzB t then some (decide (x_1.1≤IntKind.wrap .i64 (Int.tdiv 144115188075855872 t))) else none) (1,0,PUnit.unit)) ([t],0,
  PUnit.unit)
noncomputable def program_fits (x0:(List Int)×List ((List Int)×Int×Int)):Option Bool:=program_fits_b lpK jnK program_fits_1 slices_Max_108 x0
abbrev t62:=((List Int)×List ((List Int)×Int×Int))→Option (Bool)
noncomputable def k62 (program_fits:t62):Ctr:=⟨[T25],[],[],.one .bool,fun x _ _=>program_fits x.1⟩
noncomputable def c62:Ctr:=k62 program_fits
theorem e62 (lp:Lp) (jn:Jn) (program_fits_1:t106) (slices_Max_108:t108):∀(x:TsS c62.as) (F:TsF c62.fs) (y:TsS c62.cs),program_fits_b lp jn program_fits_1 slices_Max_108 x.1=runC lp jn (cx [(108,⟨[(.sl i64)],[],[],.one i64,fun x _ _=>slices_Max_108 x.1⟩),(106,⟨[(.sl i64),i64],[],[],.one i64,fun x _ _=>program_fits_1 x.1 x.2.1⟩)] [(24,r24),(22,r22)]) hints 4 62 f62 c62 x F y:=fun x F y=>by kernel_rfl
theorem ok62:c62.ok prog 62:=Ctr.of_den (ctxT_ok (ctxOf_cons (ctxOf_cons (q24) (by kernel_rfl) ok106) (by kernel_rfl) ok108)) hmix (hl:=hints) (d:=4) func62 rfl (by decide) (e62 lpK jnK program_fits_1 slices_Max_108)
noncomputable def program_table_artificial_b (lp:Lp) (_:Jn) (x0:(List (List Int))×Int×(List Int)×(List Int)×(List Int)×Int×Int) (x1:Int):Option Int :=
 lp (Int×Int×PUnit) Int (fun (again:Int×Int×PUnit→Option Int) (x:Int×Int×PUnit) =>
 let v6:Int×PUnit:=(IntKind.wrap .i64 (x.2.1+1),PUnit.unit);
 let v7:List Int:=List.getD x0.1 (Int.toNat x.2.1) [];bif decide (x.2.1<(↑(List.length x0.1):Int)) then bif inB x.2.1 (List.length x0.1) then bif inB x.2.1
  (List.length x0.2.2.1) then bif decide (List.getD x0.2.2.1 (Int.toNat x.2.1) 0≥x0.2.2.2.2.2.1) then bif inB x1 (List.length v7) then again
  (IntKind.wrap .i64 (x.1+List.getD v7 (Int.toNat x1) 0),v6) else none else again (x.1,v6) else none else none else some x.1) (0,0,PUnit.unit)
noncomputable def program_table_artificial (x0:(List (List Int))×Int×(List Int)×(List Int)×(List Int)×Int×Int) (x1:Int):Option Int:=program_table_artificial_b lpK jnK x0 x1
abbrev t73:=((List (List Int))×Int×(List Int)×(List Int)×(List Int)×Int×Int)→(Int)→Option (Int)
noncomputable def k73 (program_table_artificial:t73):PCtr:=⟨T93,[i64],.one i64,fun x y=>program_table_artificial x y.1⟩
noncomputable def p73:PCtr:=k73 program_table_artificial
theorem e73 (lp:Lp) (jn:Jn):∀(x:p73.s.T) (y:TsS p73.as),program_table_artificial_b lp jn x y.1=runP lp jn (cx [] [(24,r24),(22,r22)]) hints 4 73 f73 p73 x y:=fun x y=>by kernel_rfl
theorem ok73:p73.ok prog 73:=PCtr.of_den (ctxT_ok (q24)) hmix (hl:=hints) (d:=4) func73 rfl (by decide) (e73 lpK jnK)
noncomputable def program_times_b (_:Lp) (_:Jn) (bits_Mul64:t113) (program_size:t107) (x0:Int) (x1:Int):Option (Bool×Int×Int) :=
 
 let v4:Bool:=!decide (decide (x0<0)=decide (x1<0));
 let v5:Bool:=!v4;
 let v6:Bool:=v5||v4;obind (program_size x0) fun (t:Int)=>obind (program_size x1) fun (t_1:Int)=>obind (bits_Mul64 t t_1) fun (t:Int×Int×PUnit) =>
 let v10:Bool:=!decide (t.1=0);
 let v11:Bool:=v4&&!v10;bif v6 then bif v6 then bif !v11||v11 then bif (v5||v6)&&(v5||(v10||(v5||v11))) then bif v6 then some (bif v4 then bif v10 then true else !decide
  (t.2.1=0) else false,t.1,t.2.1) else none else none else none else none else none
noncomputable def program_times (x0:Int) (x1:Int):Option (Bool×Int×Int):=program_times_b lpK jnK bits_Mul64 program_size x0 x1
abbrev t123:=(Int)→(Int)→Option (Bool×Int×Int)
noncomputable def k123 (program_times:t123):Ctr:=⟨[i64,i64],[],[],.one T142,fun x _ _=>program_times x.1 x.2.1⟩
noncomputable def c123:Ctr:=k123 program_times
theorem e123 (lp:Lp) (jn:Jn) (bits_Mul64:t113) (program_size:t107):∀(x:TsS c123.as) (F:TsF c123.fs) (y:TsS c123.cs),program_times_b lp jn bits_Mul64 program_size x.1 x.2.1=runC lp jn (cx [(107,k107 program_size),(113,k113 bits_Mul64)] [(24,r24),(22,r22)]) hints 4 123 f123 c123 x F y:=fun x F y=>by kernel_rfl
theorem ok123:c123.ok prog 123:=Ctr.of_den (ctxT_ok (ctxOf_cons (ctxOf_cons (q24) (by kernel_rfl) ok113) (by kernel_rfl) ok107)) hmix (hl:=hints) (d:=4) func123 rfl (by decide) (e123 lpK jnK bits_Mul64 program_size)
noncomputable def program_product_cmpSize_b (_:Lp) (_:Jn) (x0:Bool×Int×Int) (x1:Bool×Int×Int):Option Int :=
 
 let v4:Bool:=decide (x0.2.1=x1.2.1);
 let v5:Bool:=!v4;
 let v6:Bool:=v5||v4;
 let v7:Bool:=!v5||v5;
 let v8:Bool:=bif v5 then decide (x0.2.1<x1.2.1) else false;
 let v9:Bool:=!v8;
 let v10:Bool:=!v9;
 let v11:Bool:=v9&&v4;
 let v12:Bool:=v10||v9;
 let v13:Bool:=!v11||v11;bif v7 then bif v7 then bif v7&&v7 then bif v7 then bif v12 then bif v12 then bif v12&&v12 then bif v12 then bif v13 then bif v13 then bif v13&&v13
  then bif (v10||v12)&&(v10||(v5||(v10||v11))) then bif v8||v9 then bif bif v8 then true else bif v4 then decide (x0.2.2<x1.2.2) else false then some (-1) else
  bif v6 then bif v6 then bif v6&&v6 then bif v6 then bif bif v4 then decide (x0.2.2=x1.2.2) else false then some 0 else some 1 else none else none else none
  else none else none else none else none else none else none else none else none else none else none else none else none else none else none
noncomputable def program_product_cmpSize (x0:Bool×Int×Int) (x1:Bool×Int×Int):Option Int:=program_product_cmpSize_b lpK jnK x0 x1
abbrev t129:=(Bool×Int×Int)→(Bool×Int×Int)→Option (Int)
noncomputable def k129 (program_product_cmpSize:t129):Ctr:=⟨[T142,T142],[],[],.one i64,fun x _ _=>program_product_cmpSize x.1 x.2.1⟩
noncomputable def c129:Ctr:=k129 program_product_cmpSize
theorem e129 (lp:Lp) (jn:Jn):∀(x:TsS c129.as) (F:TsF c129.fs) (y:TsS c129.cs),program_product_cmpSize_b lp jn x.1 x.2.1=runC lp jn (cx [] [(24,r24),(22,r22)]) hints 4 129 f129 c129 x F y:=fun x F y=>by kernel_rfl
theorem ok129:c129.ok prog 129:=Ctr.of_den (ctxT_ok (q24)) hmix (hl:=hints) (d:=4) func129 rfl (by decide) (e129 lpK jnK)
noncomputable def program_product_minus_b (_:Lp) (jn:Jn) (program_product_cmpSize:t129) (x0:Bool×Int×Int) (x1:Bool×Int×Int):Option (Bool×Int×Int) :=
 
 let v4:Bool:=!x0.1;
 let v5:Bool:=!x1.1;
 let v6:Bool:=!v4;
 let v7:Bool:=v4&&v5;
 let v8:Bool:=v6||v4;
 let v9:Bool:=!v7;
 let v10:Bool:=v9||v7;
 let v11:Bool:=!decide (x1.2.1=0);
 let v12:Bool:=v7&&!v11;
 let v13:Bool:=decide ((0:Int)≤0)&&decide ((0:Int)≤1);
 let v14:Bool:=!v12||v12;bif !decide (x0.1=x1.1) then bif v13 then bif decide (0≤addC x0.2.2 x1.2.2 0)&&decide (addC x0.2.2 x1.2.2 (0 :
  Int)≤1) then bif v8 then bif v8 then bif v8 then bif v10 then bif v10 then bif v10 then bif v14 then bif v14 then bif (v9||v10)&&(v9||(v11||(v9||v12))) then bif (v6
  || v8)&&(v6||(!v5||(v6||v7))) then bif x0.1||v4 then some (bif x0.1 then true else bif v5 then bif v11 then true else !decide (x1.2.2=0) else false,addO
  x0.2.1 x1.2.1 (addC x0.2.2 x1.2.2 0),addO x0.2.2 x1.2.2 0) else none else none else none else none else none else none else none else none else
  none else none else none else none else none else obind (program_product_cmpSize x0 x1) fun (t:Int)=>jn (Bool×(Bool×Int×Int)×(Bool×Int×Int)×PUnit) (Bool×Int×Int)
  (fun (x:Bool×(Bool×Int×Int)×(Bool×Int×Int)×PUnit) =>
 let v17:Bool:=!x.1;
 let v18:Bool:=v17||x.1;
 let v19:Bool:=!decide (subO x.2.1.2.1 x.2.2.1.2.1 (subC x.2.1.2.2 x.2.2.1.2.2 0)=0);
 let v20:Bool:=x.1&&!v19;bif v13 then bif decide (0≤subC x.2.1.2.2 x.2.2.1.2.2 0)&&decide (subC x.2.1.2.2 x.2.2.1.2.2 (0 :
  Int)≤1) then bif v18 then bif v18 then bif !v20||v20 then bif (v17||v18)&&(v17||(v19||(v17||v20))) then bif v18 then some (bif x.1 then bif v19 then true else
  !decide (subO x.2.1.2.2 x.2.2.1.2.2 0=0) else false,subO x.2.1.2.1 x.2.2.1.2.1 (subC x.2.1.2.2 x.2.2.1.2.2 (0 :
  Int)),subO x.2.1.2.2 x.2.2.1.2.2 0) else none else none else none else none else none else none else none) fun (j:Bool×(Bool×Int×Int)×(Bool×Int ×
  Int)×PUnit→Option (Bool×Int×Int))=>bif decide (t<0) then j (v4,x1,x0,PUnit.unit) else j (x0.1,x0,x1,PUnit.unit)
noncomputable def program_product_minus (x0:Bool×Int×Int) (x1:Bool×Int×Int):Option (Bool×Int×Int):=program_product_minus_b lpK jnK program_product_cmpSize x0 x1
abbrev t124:=(Bool×Int×Int)→(Bool×Int×Int)→Option (Bool×Int×Int)
noncomputable def k124 (program_product_minus:t124):Ctr:=⟨[T142,T142],[],[],.one T142,fun x _ _=>program_product_minus x.1 x.2.1⟩
noncomputable def c124:Ctr:=k124 program_product_minus
theorem e124 (lp:Lp) (jn:Jn) (program_product_cmpSize:t129):∀(x:TsS c124.as) (F:TsF c124.fs) (y:TsS c124.cs),program_product_minus_b lp jn program_product_cmpSize x.1 x.2.1=runC lp jn (cx [(129,k129 program_product_cmpSize)] [(24,r24),(22,r22)]) hints 4 124 f124 c124 x F y:=fun x F y=>by kernel_rfl
theorem ok124:c124.ok prog 124:=Ctr.of_den (ctxT_ok (ctxOf_cons (q24) (by kernel_rfl) ok129)) hmix (hl:=hints) (d:=4) func124 rfl (by decide) (e124 lpK jnK program_product_cmpSize)
noncomputable def program_product_over_b (_:Lp) (_:Jn) (bits_Div64:t121) (x0:Bool×Int×Int) (x1:Int):Option Int :=
 obind (bits_Div64 x0.2.1 x0.2.2 (IntKind.wrap .u64 x1)) fun (t:Int×Int×PUnit) =>
 let v5:Int:=IntKind.wrap .i64 t.1;bif x0.1 then some (IntKind.wrap .i64 (0 - v5)) else some v5
noncomputable def program_product_over (x0:Bool×Int×Int) (x1:Int):Option Int:=program_product_over_b lpK jnK bits_Div64 x0 x1
abbrev t125:=(Bool×Int×Int)→(Int)→Option (Int)
noncomputable def c125:Ctr:=⟨[T142,i64],[],[],.one i64,fun x _ _=>program_product_over x.1 x.2.1⟩
theorem e125 (lp:Lp) (jn:Jn) (bits_Div64:t121):∀(x:TsS c125.as) (F:TsF c125.fs) (y:TsS c125.cs),program_product_over_b lp jn bits_Div64 x.1 x.2.1=runC lp jn (cx [(121,k121 bits_Div64)] [(24,r24),(22,r22)]) hints 4 125 f125 c125 x F y:=fun x F y=>by kernel_rfl
theorem ok125:c125.ok prog 125:=Ctr.of_den (ctxT_ok (ctxOf_cons (q24) (by kernel_rfl) ok121)) hmix (hl:=hints) (d:=4) func125 rfl (by decide) (e125 lpK jnK bits_Div64)
noncomputable def program_table_pivot_b (lp:Lp) (_:Jn) (program_times:t123) (program_product_minus:t124) (program_product_over:t125) (x0:List Nat×List (Option (List Int))) (x1:Int) (x2:List Int) (x3:List Int) (x4:List Int) (x5:Int) (x6:Int) (x7:Int) (x8:Int):Option ((List Nat×List (Option (List Int)))×Int×(List Int)×(List Int)×(List Int)×Int×Int×Unit) :=
 
 let v11:List Int×List Int×List Int×Int×Int×PUnit:=(List.set x2 (Int.toNat x7) x8,x3,x4,x5,x6,PUnit.unit);bif inB x7 (List.length x0.1) then bif Nat.ble (Nat.succ
  (Int.toNat x7)) (List.length x0.1) then bif inB x8 (List.length (rowD x0.2 (List.getD x0.1 (Int.toNat x7) 0))) then bif Nat.ble (Nat.succ (Int.toNat x8)) (List.length
  (rowD x0.2 (List.getD x0.1 (Int.toNat x7) 0))) then lp (Int×(List Nat×List (Option (List Int)))×PUnit) ((List Nat×List (Option (List Int)))×Int×List Int×List
  Int×List Int×Int×Int×PUnit) (fun (again:Int×(List Nat×List (Option (List Int)))×PUnit→Option ((List Nat×List (Option (List Int)))×Int×List Int×List Int×List
  Int×Int×Int×PUnit)) (x:Int×(List Nat×List (Option (List Int)))×PUnit) =>
 let v14:Int:=IntKind.wrap .i64 (x.1+1);
 let v15:(List Nat×List (Option (List Int)))×PUnit:=(x.2.1,PUnit.unit);
 let v16:Int×(List Nat×List (Option (List Int)))×PUnit:=(0,v15);bif decide (x.1<(↑(List.length x0.1):Int)) then bif inB x.1 (List.length x.2.1.1) then
  bif Nat.ble (Nat.succ (Int.toNat x.1)) (List.length x.2.1.1) then bif decide (x.1=x7) then again (v14,v15) else bif inB x8 (List.length (rowD x.2.1.2 (List.getD
  x.2.1.1 (Int.toNat x.1) 0))) then bif Nat.ble (Nat.succ (Int.toNat x8)) (List.length (rowD x.2.1.2 (List.getD x.2.1.1 (Int.toNat x.1) 0))) then bif
  liveB x.2.1.2 (List.getD x.2.1.1 (Int.toNat x.1) 0) then lp (Int×(List Nat×List (Option (List Int)))×PUnit) ((List Nat×List (Option (List Int)))×Int ×
  List Int×List Int×List Int×Int×Int×PUnit) (fun (again_1:Int×(List Nat×List (Option (List Int)))×PUnit→Option ((List Nat×List (Option (List Int)))×Int×List Int
  × List Int×List Int×Int×Int×PUnit)) (x_1:Int×(List Nat×List (Option (List Int)))×PUnit)=>bif decide (x_1.1<(↑(List.length (rowD x.2.1.2 (List.getD
  x.2.1.1 (Int.toNat x.1) 0))):Int)) then bif inB x_1.1 (List.length (rowD x_1.2.1.2 (List.getD x.2.1.1 (Int.toNat x.1) 0))) then bif Nat.ble
  (Nat.succ (Int.toNat x_1.1)) (List.length (rowD x_1.2.1.2 (List.getD x.2.1.1 (Int.toNat x.1) 0))) then obind (program_times (List.getD (rowD x_1.2.1.2
  (List.getD x.2.1.1 (Int.toNat x.1) 0)) (Int.toNat x_1.1) 0) (List.getD (rowD x0.2 (List.getD x0.1 (Int.toNat x7) 0)) (Int.toNat x8) 0)) fun
  (t:Bool×Int×Int)=>bif inB x7 (List.length x_1.2.1.1) then bif Nat.ble (Nat.succ (Int.toNat x7)) (List.length x_1.2.1.1) then bif inB x_1.1 (List.length (rowD
  x_1.2.1.2 (List.getD x_1.2.1.1 (Int.toNat x7) 0))) then bif Nat.ble (Nat.succ (Int.toNat x_1.1)) (List.length (rowD x_1.2.1.2 (List.getD x_1.2.1.1
  (Int.toNat x7) 0))) then obind (program_times (List.getD (rowD x.2.1.2 (List.getD x.2.1.1 (Int.toNat x.1) 0)) (Int.toNat x8) 0) (List.getD (rowD
  x_1.2.1.2 (List.getD x_1.2.1.1 (Int.toNat x7) 0)) (Int.toNat x_1.1) 0)) fun (t_1:Bool×Int×Int)=>obind (program_product_minus t t_1) fun (t:Bool ×
  Int×Int)=>obind (program_product_over t x1) fun (t:Int)=>bif inB x_1.1 (List.length (rowD x_1.2.1.2 (List.getD x.2.1.1 (Int.toNat x.1) 0))) then bif
  Nat.ble (Nat.succ (Int.toNat x_1.1)) (List.length (rowD x_1.2.1.2 (List.getD x.2.1.1 (Int.toNat x.1) 0))) then again_1 (IntKind.wrap .i64 (x_1.1+(1 :
  Int)),(x_1.2.1.1,List.set x_1.2.1.2 (List.getD x.2.1.1 (Int.toNat x.1) 0) (some (List.set (rowD x_1.2.1.2 (List.getD x.2.1.1 (Int.toNat x.1)
  0)) (Int.toNat x_1.1) t))),PUnit.unit) else none else none else none else none else none else none else none else none else again (v14,x_1.2.1,PUnit.unit)) v16 else
  none else none else none else none else none else bif inB x7 (List.length x2) then bif Nat.ble (Nat.succ (Int.toNat x7)) (List.length x2) then bif decide (List.getD (rowD x0.2
  (List.getD x0.1 (Int.toNat x7) 0)) (Int.toNat x8) 0<0) then lp (Int×(List Nat×List (Option (List Int)))×PUnit) ((List Nat×List (Option (List Int))) ×
  Int×List Int×List Int×List Int×Int×Int×PUnit) (fun (again:Int×(List Nat×List (Option (List Int)))×PUnit→Option ((List Nat×List (Option (List Int)))×Int×List
  Int×List Int×List Int×Int×Int×PUnit)) (x_1:Int×(List Nat×List (Option (List Int)))×PUnit)=>bif decide (x_1.1<(↑(List.length x.2.1.1):Int)) then bif inB
  x_1.1 (List.length x_1.2.1.1) then bif Nat.ble (Nat.succ (Int.toNat x_1.1)) (List.length x_1.2.1.1) then bif liveB x_1.2.1.2 (List.getD x_1.2.1.1 (Int.toNat
  x_1.1) 0) then lp (Int×(List Nat×List (Option (List Int)))×PUnit) ((List Nat×List (Option (List Int)))×Int×List Int×List Int×List Int×Int×Int×PUnit) (fun
  (again_1:Int×(List Nat×List (Option (List Int)))×PUnit→Option ((List Nat×List (Option (List Int)))×Int×List Int×List Int×List Int×Int×Int×PUnit)) (x:Int ×
  (List Nat×List (Option (List Int)))×PUnit)=>bif decide (x.1<(↑(List.length (rowD x_1.2.1.2 (List.getD x_1.2.1.1 (Int.toNat x_1.1) 0))):Int)) then bif
  inB x.1 (List.length (rowD x.2.1.2 (List.getD x_1.2.1.1 (Int.toNat x_1.1) 0))) then bif Nat.ble (Nat.succ (Int.toNat x.1)) (List.length (rowD x.2.1.2
  (List.getD x_1.2.1.1 (Int.toNat x_1.1) 0))) then bif inB x.1 (List.length (rowD x.2.1.2 (List.getD x_1.2.1.1 (Int.toNat x_1.1) 0))) then bif
  Nat.ble (Nat.succ (Int.toNat x.1)) (List.length (rowD x.2.1.2 (List.getD x_1.2.1.1 (Int.toNat x_1.1) 0))) then again_1 (IntKind.wrap .i64 (x.1+(1 :
  Int)),(x.2.1.1,List.set x.2.1.2 (List.getD x_1.2.1.1 (Int.toNat x_1.1) 0) (some (List.set (rowD x.2.1.2 (List.getD x_1.2.1.1 (Int.toNat
  x_1.1) 0)) (Int.toNat x.1) (IntKind.wrap .i64 (0 - List.getD (rowD x.2.1.2 (List.getD x_1.2.1.1 (Int.toNat x_1.1) 0)) (Int.toNat x.1)
  0))))),PUnit.unit) else none else none else none else none else again (IntKind.wrap .i64 (x_1.1+1),x.2.1,PUnit.unit)) (0,x_1.2.1,
  PUnit.unit) else none else none else none else some (x_1.2.1,IntKind.wrap .i64 (0 - List.getD (rowD x0.2 (List.getD x0.1 (Int.toNat x7) 0)) (Int.toNat
  x8) 0),v11)) v16 else some (x.2.1,List.getD (rowD x0.2 (List.getD x0.1 (Int.toNat x7) 0)) (Int.toNat x8) 0,v11) else none else none) (0,x0,
  PUnit.unit) else none else none else none else none
noncomputable def program_table_pivot (x0:List Nat×List (Option (List Int))) (x1:Int) (x2:List Int) (x3:List Int) (x4:List Int) (x5:Int) (x6:Int) (x7:Int) (x8:Int):Option ((List Nat×List (Option (List Int)))×Int×(List Int)×(List Int)×(List Int)×Int×Int×Unit):=program_table_pivot_b lpK jnK program_times program_product_minus program_product_over x0 x1 x2 x3 x4 x5 x6 x7 x8
abbrev t109:=(List Nat×List (Option (List Int)))→(Int)→(List Int)→(List Int)→(List Int)→(Int)→(Int)→(Int)→(Int)→Option ((List Nat×List (Option (List Int)))×Int×(List Int)×(List Int)×(List Int)×Int×Int×Unit)
noncomputable def k109 (program_table_pivot:t109):SCtr:=⟨[.b [.x (.tab 22 .ref 3 i64),.d i64,.row 3 i64,.row 3 i64,.row 3 i64,.d i64,.d i64],.d i64,.d i64],[],fun x=>program_table_pivot x.1 x.2.1 x.2.2.1 x.2.2.2.1 x.2.2.2.2.1 x.2.2.2.2.2.1 x.2.2.2.2.2.2.1 x.2.2.2.2.2.2.2.1 x.2.2.2.2.2.2.2.2.1⟩
noncomputable def s109:SCtr:=k109 program_table_pivot
theorem e109 (lp:Lp) (jn:Jn) (program_times:t123) (program_product_minus:t124) (program_product_over:t125):∀x:TsR (rhI 0 s109.ks),program_table_pivot_b lp jn program_times program_product_minus program_product_over x.1 x.2.1 x.2.2.1 x.2.2.2.1 x.2.2.2.2.1 x.2.2.2.2.2.1 x.2.2.2.2.2.2.1 x.2.2.2.2.2.2.2.1 x.2.2.2.2.2.2.2.2.1=runS lp jn (Dn.look []) (cx [(125,⟨[T142,i64],[],[],.one i64,fun x _ _=>program_product_over x.1 x.2.1⟩),(124,k124 program_product_minus),(123,k123 program_times)] [(24,r24),(22,r22)]) hints 4 109 f109 s109 x:=fun x=>by kernel_rfl
theorem ok109:s109.ok prog 109:=SCtr.of_den (ctxT_ok (ctxOf_cons (ctxOf_cons (ctxOf_cons (q24) (by kernel_rfl) ok123) (by kernel_rfl) ok124) (by kernel_rfl) ok125)) hmix (scOk_nil) (hl:=hints) (d:=4) func109 rfl (by decide) (e109 lpK jnK program_times program_product_minus program_product_over)
noncomputable def program_product_cmp_b (_:Lp) (_:Jn) (program_product_cmpSize:t129) (x0:Bool×Int×Int) (x1:Bool×Int×Int):Option Int :=
 
 let v4:Bool:=!decide (x0.1=x1.1);
 let v5:Bool:=!v4||v4;bif v5 then bif v5 then bif bif v4 then x0.1 else false then some (-1) else bif v4 then some 1 else bif x0.1 then obind
  (program_product_cmpSize x1 x0) fun (t:Int)=>some t else obind (program_product_cmpSize x0 x1) fun (t:Int)=>some t else none else none
noncomputable def program_product_cmp (x0:Bool×Int×Int) (x1:Bool×Int×Int):Option Int:=program_product_cmp_b lpK jnK program_product_cmpSize x0 x1
abbrev t126:=(Bool×Int×Int)→(Bool×Int×Int)→Option (Int)
noncomputable def c126:Ctr:=⟨[T142,T142],[],[],.one i64,fun x _ _=>program_product_cmp x.1 x.2.1⟩
theorem e126 (lp:Lp) (jn:Jn) (program_product_cmpSize:t129):∀(x:TsS c126.as) (F:TsF c126.fs) (y:TsS c126.cs),program_product_cmp_b lp jn program_product_cmpSize x.1 x.2.1=runC lp jn (cx [(129,k129 program_product_cmpSize)] [(24,r24),(22,r22)]) hints 4 126 f126 c126 x F y:=fun x F y=>by kernel_rfl
theorem ok126:c126.ok prog 126:=Ctr.of_den (ctxT_ok (ctxOf_cons (q24) (by kernel_rfl) ok129)) hmix (hl:=hints) (d:=4) func126 rfl (by decide) (e126 lpK jnK program_product_cmpSize)
noncomputable def program_table_leaving_b (lp:Lp) (_:Jn) (program_times:t123) (program_product_cmp:t126) (x0:(List (List Int))×Int×(List Int)×(List Int)×(List Int)×Int×Int) (x1:Int):Option Int :=
 lp (Int×Int×PUnit) Int (fun (again:Int×Int×PUnit→Option Int) (x:Int×Int×PUnit) =>
 let v6:Int×PUnit:=(IntKind.wrap .i64 (x.2.1+1),PUnit.unit);
 let v7:Bool:=inB x.1 (List.length x0.1);
 let v8:List Int:=List.getD x0.1 (Int.toNat x.1) [];
 let v9:List Int:=List.getD x0.1 (Int.toNat x.2.1) [];
 let v10:Bool:=inB x1 (List.length v9);bif decide (x.2.1<(↑(List.length x0.1):Int)) then bif inB x.2.1 (List.length x0.1) then bif v10 then bif decide (List.getD v9
  (Int.toNat x1) 0≤0) then again (x.1,v6) else bif decide (x.1<0) then again (x.2.1,v6) else bif inB x0.2.2.2.2.2.2 (List.length v9) then
  bif v7 then bif inB x1 (List.length v8) then obind (program_times (List.getD v9 (Int.toNat x0.2.2.2.2.2.2) 0) (List.getD v8 (Int.toNat x1) 0)) fun (t:Bool
  × Int×Int)=>bif v7 then bif inB x0.2.2.2.2.2.2 (List.length v8) then bif v10 then obind (program_times (List.getD v8 (Int.toNat x0.2.2.2.2.2.2) 0)
  (List.getD v9 (Int.toNat x1) 0)) fun (t_1:Bool×Int×Int)=>obind (program_product_cmp t t_1) fun (t:Int) =>
 let v14:Bool:=decide (t=0);
 let v15:Bool:=decide (t<0);
 let v16:Bool:=!v15;
 let v17:Bool:=!v16;
 let v18:Bool:=v16&&v14;
 let v19:Bool:=!v18;
 let v20:Bool:=v17||v16;
 let v21:Bool:=v19||v18;bif v20 then bif v20 then bif v21 then bif v21 then bif v21 then bif v21&&(v21&&(v19||inB x.2.1 (List.length x0.2.2.1))) then bif v21 then
  bif v21 then bif v21 then bif v21 then bif v21&&(v21&&(v19||inB x.1 (List.length x0.2.2.1))) then bif v21 then bif v21&&v21 then bif (v17||v20)&&(v17||(!v14 ||
  (v17||v18))) then bif v15||v16 then bif bif v15 then true else bif v14 then decide (List.getD x0.2.2.1 (Int.toNat x.2.1) 0<List.getD x0.2.2.1 (Int.toNat
  x.1) 0) else false then again (x.2.1,v6) else again (x.1,v6) else none else none else none else none else none else none else none else none else none else none else
  none else none else none else none else none else none else none else none else none else none else none else none else none else some x.1) ((-1),0,PUnit.unit)
noncomputable def program_table_leaving (x0:(List (List Int))×Int×(List Int)×(List Int)×(List Int)×Int×Int) (x1:Int):Option Int:=program_table_leaving_b lpK jnK program_times program_product_cmp x0 x1
abbrev t110:=((List (List Int))×Int×(List Int)×(List Int)×(List Int)×Int×Int)→(Int)→Option (Int)
noncomputable def k110 (program_table_leaving:t110):PCtr:=⟨T93,[i64],.one i64,fun x y=>program_table_leaving x y.1⟩
noncomputable def p110:PCtr:=k110 program_table_leaving
theorem e110 (lp:Lp) (jn:Jn) (program_times:t123) (program_product_cmp:t126):∀(x:p110.s.T) (y:TsS p110.as),program_table_leaving_b lp jn program_times program_product_cmp x y.1=runP lp jn (cx [(126,⟨[T142,T142],[],[],.one i64,fun x _ _=>program_product_cmp x.1 x.2.1⟩),(123,k123 program_times)] [(24,r24),(22,r22)]) hints 4 110 f110 p110 x y:=fun x y=>by kernel_rfl
theorem ok110:p110.ok prog 110:=PCtr.of_den (ctxT_ok (ctxOf_cons (ctxOf_cons (q24) (by kernel_rfl) ok123) (by kernel_rfl) ok126)) hmix (hl:=hints) (d:=4) func110 rfl (by decide) (e110 lpK jnK program_times program_product_cmp)
noncomputable def program_table_start_b (lp:Lp) (_:Jn) (program_table_pivot:t109) (program_table_artificial:t73) (program_table_leaving:t110) (x0:List Nat×List (Option (List Int))) (x1:Int) (x2:List Int) (x3:List Int) (x4:List Int) (x5:Int) (x6:Int):Option ((List Nat×List (Option (List Int)))×Int×(List Int)×(List Int)×(List Int)×Int×Int×Bool×Unit) :=
 lp ((List Nat×List (Option (List Int)))×Int×List Int×List Int×List Int×Int×Int×PUnit) ((List Nat×List (Option (List Int)))×Int×List Int×List Int×List Int×Int ×
  Int×Bool×PUnit) (fun (again:(List Nat×List (Option (List Int)))×Int×List Int×List Int×List Int×Int×Int×PUnit→Option ((List Nat×List (Option (List Int)))×Int
  × List Int×List Int×List Int×Int×Int×Bool×PUnit)) (x:(List Nat×List (Option (List Int)))×Int×List Int×List Int×List Int×Int×Int×PUnit)=>lp (Int×Int ×
  PUnit) ((List Nat×List (Option (List Int)))×Int×List Int×List Int×List Int×Int×Int×Bool×PUnit) (fun (again_1:Int×Int×PUnit→Option ((List Nat×List (Option
  (List Int)))×Int×List Int×List Int×List Int×Int×Int×Bool×PUnit)) (x_1:Int×Int×PUnit) =>
 let v13:Bool:=decide (x_1.1<0);
 let v14:Int×PUnit:=(IntKind.wrap .i64 (x_1.2.1+1),PUnit.unit);
 let v15:Bool:=decide (x_1.2.1<x.2.2.2.2.2.1);
 let v16:Bool:=!v15||v15;bif v16 then bif v16 then bif bif v15 then v13 else false then obind (bif List.all x.1.1 fun (x_2:Nat)=>liveB x.1.2 x_2 then
  program_table_artificial (List.map (fun (x_2:Nat)=>rowD x.1.2 x_2) x.1.1,x.2.1,x.2.2.1,x.2.2.2.1,x.2.2.2.2.1,x.2.2.2.2.2.1,
  x.2.2.2.2.2.2.1) x_1.2.1 else none) fun (t:Int)=>bif decide (t>0) then again_1 (x_1.2.1,v14) else again_1 (x_1.1,v14) else bif v13 then obind
  (bif List.all x.1.1 fun (x_2:Nat)=>liveB x.1.2 x_2 then program_table_artificial (List.map (fun (x_2:Nat)=>rowD x.1.2 x_2) x.1.1,x.2.1,x.2.2.1,
  x.2.2.2.1,x.2.2.2.2.1,x.2.2.2.2.2.1,x.2.2.2.2.2.2.1) x.2.2.2.2.2.2.1 else none) fun (t:Int)=>bif decide (t>0)
  then some (x.1,x.2.1,x.2.2.1,x.2.2.2.1,x.2.2.2.2.1,x.2.2.2.2.2.1,x.2.2.2.2.2.2.1,false,PUnit.unit) else lp (Int×(List
  Nat×List (Option (List Int)))×Int×List Int×List Int×List Int×Int×Int×PUnit) ((List Nat×List (Option (List Int)))×Int×List Int×List Int×List Int×Int×Int ×
  Bool×PUnit) (fun (again:Int×(List Nat×List (Option (List Int)))×Int×List Int×List Int×List Int×Int×Int×PUnit→Option ((List Nat×List (Option (List Int)))×Int
  × List Int×List Int×List Int×Int×Int×Bool×PUnit)) (x_2:Int×(List Nat×List (Option (List Int)))×Int×List Int×List Int×List Int×Int×Int×PUnit)=>bif
  decide (x_2.1<(↑(List.length x.1.1):Int)) then lp (Int×(List Nat×List (Option (List Int)))×Int×List Int×List Int×List Int×Int×Int×PUnit) ((List Nat×List
  (Option (List Int)))×Int×List Int×List Int×List Int×Int×Int×Bool×PUnit) (fun (again_2:Int×(List Nat×List (Option (List Int)))×Int×List Int×List Int×List
  Int×Int×Int×PUnit→Option ((List Nat×List (Option (List Int)))×Int×List Int×List Int×List Int×Int×Int×Bool×PUnit)) (x:Int×(List Nat×List (Option (List
  Int)))×Int×List Int×List Int×List Int×Int×Int×PUnit) =>
 let v22:Int:=IntKind.wrap .i64 (x.1+1);
 let v23:Bool:=decide (x.1<x.2.2.2.2.2.2.1);
 let v24:Bool:=!v23;
 let v25:Bool:=v24||v23;
 let v26:(List Nat×List (Option (List Int)))×Int×List Int×List Int×List Int×Int×Int×PUnit:=(x.2.1,x.2.2.1,x.2.2.2.1,x.2.2.2.2.1,
  x.2.2.2.2.2.1,x.2.2.2.2.2.2.1,x.2.2.2.2.2.2.2.1,PUnit.unit);bif v25 then bif v25 then bif v25 then bif v25&&(v25&&(v24||inB x_2.1
  (List.length x.2.2.2.1))) then bif v25&&(v24||Nat.ble (Nat.succ (Int.toNat x_2.1)) (List.length x.2.2.2.1)) then bif v25 then bif v25 then bif v25 then bif v25 &&
  v25 then bif v25 then bif bif v23 then decide (List.getD x.2.2.2.1 (Int.toNat x_2.1) 0≥x.2.2.2.2.2.2.1) else false then bif inB x_2.1 (List.length
  x.2.1.1) then bif Nat.ble (Nat.succ (Int.toNat x_2.1)) (List.length x.2.1.1) then bif inB x.1 (List.length (rowD x.2.1.2 (List.getD x.2.1.1 (Int.toNat
  x_2.1) 0))) then bif Nat.ble (Nat.succ (Int.toNat x.1)) (List.length (rowD x.2.1.2 (List.getD x.2.1.1 (Int.toNat x_2.1) 0))) then bif !decide
  (List.getD (rowD x.2.1.2 (List.getD x.2.1.1 (Int.toNat x_2.1) 0)) (Int.toNat x.1) 0=0) then obind (program_table_pivot x.2.1 x.2.2.1
  x.2.2.2.1 x.2.2.2.2.1 x.2.2.2.2.2.1 x.2.2.2.2.2.2.1 x.2.2.2.2.2.2.2.1 x_2.1 x.1) fun (y:(List Nat×List (Option (List
  Int)))×Int×List Int×List Int×List Int×Int×Int×PUnit)=>again_2 (v22,y.1,y.2.1,y.2.2.1,y.2.2.2.1,y.2.2.2.2.1,y.2.2.2.2.2.1,
  y.2.2.2.2.2.2.1,PUnit.unit) else again_2 (v22,v26) else none else none else none else none else again (IntKind.wrap .i64 (x_2.1+1),v26) else none
  else none else none else none else none else none else none else none else none else none) (0,x_2.2.1,x_2.2.2.1,x_2.2.2.2.1,x_2.2.2.2.2.1,
  x_2.2.2.2.2.2.1,x_2.2.2.2.2.2.2.1,x_2.2.2.2.2.2.2.2.1,PUnit.unit) else some (x_2.2.1,x_2.2.2.1,x_2.2.2.2.1,
  x_2.2.2.2.2.1,x_2.2.2.2.2.2.1,x_2.2.2.2.2.2.2.1,x_2.2.2.2.2.2.2.2.1,true,PUnit.unit)) (0,x.1,x.2.1,
  x.2.2.1,x.2.2.2.1,x.2.2.2.2.1,x.2.2.2.2.2.1,x.2.2.2.2.2.2.1,PUnit.unit) else obind (bif List.all x.1.1 fun (x_2:Nat) =>
  liveB x.1.2 x_2 then program_table_leaving (List.map (fun (x_2:Nat)=>rowD x.1.2 x_2) x.1.1,x.2.1,x.2.2.1,x.2.2.2.1,x.2.2.2.2.1,
  x.2.2.2.2.2.1,x.2.2.2.2.2.2.1) x_1.1 else none) fun (t:Int)=>obind (program_table_pivot x.1 x.2.1 x.2.2.1 x.2.2.2.1
  x.2.2.2.2.1 x.2.2.2.2.2.1 x.2.2.2.2.2.2.1 t x_1.1) fun (y:(List Nat×List (Option (List Int)))×Int×List Int×List Int×List Int×Int ×
  Int×PUnit)=>again (y.1,y.2.1,y.2.2.1,y.2.2.2.1,y.2.2.2.2.1,y.2.2.2.2.2.1,y.2.2.2.2.2.2.1,PUnit.unit) else none else
  none) ((-1),0,PUnit.unit)) (x0,x1,x2,x3,x4,x5,x6,PUnit.unit)
noncomputable def program_table_start (x0:List Nat×List (Option (List Int))) (x1:Int) (x2:List Int) (x3:List Int) (x4:List Int) (x5:Int) (x6:Int):Option ((List Nat×List (Option (List Int)))×Int×(List Int)×(List Int)×(List Int)×Int×Int×Bool×Unit):=program_table_start_b lpK jnK program_table_pivot program_table_artificial program_table_leaving x0 x1 x2 x3 x4 x5 x6
abbrev t64:=(List Nat×List (Option (List Int)))→(Int)→(List Int)→(List Int)→(List Int)→(Int)→(Int)→Option ((List Nat×List (Option (List Int)))×Int×(List Int)×(List Int)×(List Int)×Int×Int×Bool×Unit)
noncomputable def k64 (program_table_start:t64):SCtr:=⟨[.b [.x (.tab 22 .ref 3 i64),.d i64,.row 3 i64,.row 3 i64,.row 3 i64,.d i64,.d i64]],[(false,[.d .bool])],fun x=>program_table_start x.1 x.2.1 x.2.2.1 x.2.2.2.1 x.2.2.2.2.1 x.2.2.2.2.2.1 x.2.2.2.2.2.2.1⟩
noncomputable def s64:SCtr:=k64 program_table_start
theorem e64 (lp:Lp) (jn:Jn) (program_table_pivot:t109) (program_table_artificial:t73) (program_table_leaving:t110):∀x:TsR (rhI 0 s64.ks),program_table_start_b lp jn program_table_pivot program_table_artificial program_table_leaving x.1 x.2.1 x.2.2.1 x.2.2.2.1 x.2.2.2.2.1 x.2.2.2.2.2.1 x.2.2.2.2.2.2.1=runS lp jn (Dn.look [(109,k109 program_table_pivot)]) (ctxT tabs lits (ctxP [(110,k110 program_table_leaving),(73,k73 program_table_artificial)] [] (ctxOf prog shs inls its [] [(24,r24),(22,r22)]))) hints 4 64 f64 s64 x:=fun x=>by kernel_rfl
theorem ok64:s64.ok prog 64:=SCtr.of_den (ctxT_ok (ctxP_ok (q24) (pcOk_cons (by kernel_rfl) ok110 (pcOk_cons (by kernel_rfl) ok73 (pcOk_nil))) (mcOk_nil))) hmix (scOk_cons ok109 (scOk_nil)) (hl:=hints) (d:=4) func64 rfl (by decide) (e64 lpK jnK program_table_pivot program_table_artificial program_table_leaving)
noncomputable def program_table_cost_b (_:Lp) (_:Jn) (x0:(List (List Int))×Int×(List Int)×(List Int)×(List Int)×Int×Int) (x1:Int):Option Int :=
 bif decide (x1<(↑(List.length x0.2.2.2.2.1):Int)) then bif inB x1 (List.length x0.2.2.2.2.1) then some (List.getD x0.2.2.2.2.1 (Int.toNat x1) 0)
  else none else some 0
noncomputable def program_table_cost (x0:(List (List Int))×Int×(List Int)×(List Int)×(List Int)×Int×Int) (x1:Int):Option Int:=program_table_cost_b lpK jnK x0 x1
abbrev t66:=((List (List Int))×Int×(List Int)×(List Int)×(List Int)×Int×Int)→(Int)→Option (Int)
noncomputable def k66 (program_table_cost:t66):PCtr:=⟨T93,[i64],.one i64,fun x y=>program_table_cost x y.1⟩
noncomputable def p66:PCtr:=k66 program_table_cost
theorem e66 (lp:Lp) (jn:Jn):∀(x:p66.s.T) (y:TsS p66.as),program_table_cost_b lp jn x y.1=runP lp jn (cx [] [(24,r24),(22,r22)]) hints 4 66 f66 p66 x y:=fun x y=>by kernel_rfl
theorem ok66:p66.ok prog 66:=PCtr.of_den (ctxT_ok (q24)) hmix (hl:=hints) (d:=4) func66 rfl (by decide) (e66 lpK jnK)
noncomputable def program_table_reduced_b (lp:Lp) (_:Jn) (program_table_cost:t66) (x0:(List (List Int))×Int×(List Int)×(List Int)×(List Int)×Int×Int) (x1:Int):Option Int :=
 obind (program_table_cost x0 x1) fun (t:Int)=>lp (Int×Int×PUnit) Int (fun (again:Int×Int×PUnit→Option Int) (x:Int×Int×PUnit) =>
 let v7:List Int:=List.getD x0.1 (Int.toNat x.2.1) [];bif decide (x.2.1<(↑(List.length x0.1):Int)) then bif inB x.2.1 (List.length x0.1) then bif inB x.2.1
  (List.length x0.2.2.1) then obind (program_table_cost x0 (List.getD x0.2.2.1 (Int.toNat x.2.1) 0)) fun (t:Int)=>bif inB x1 (List.length v7) then again
  (IntKind.wrap .i64 (x.1 - IntKind.wrap .i64 (t*List.getD v7 (Int.toNat x1) 0)),IntKind.wrap .i64 (x.2.1+1),PUnit.unit) else none else
  none else none else some x.1) (IntKind.wrap .i64 (t*x0.2.1),0,PUnit.unit)
noncomputable def program_table_reduced (x0:(List (List Int))×Int×(List Int)×(List Int)×(List Int)×Int×Int) (x1:Int):Option Int:=program_table_reduced_b lpK jnK program_table_cost x0 x1
abbrev t111:=((List (List Int))×Int×(List Int)×(List Int)×(List Int)×Int×Int)→(Int)→Option (Int)
noncomputable def p111:PCtr:=⟨T93,[i64],.one i64,fun x y=>program_table_reduced x y.1⟩
theorem e111 (lp:Lp) (jn:Jn) (program_table_cost:t66):∀(x:p111.s.T) (y:TsS p111.as),program_table_reduced_b lp jn program_table_cost x y.1=runP lp jn (ctxT tabs lits (ctxP [(66,k66 program_table_cost)] [] (ctxOf prog shs inls its [] [(24,r24),(22,r22)]))) hints 4 111 f111 p111 x y:=fun x y=>by kernel_rfl
theorem ok111:p111.ok prog 111:=PCtr.of_den (ctxT_ok (ctxP_ok (q24) (pcOk_cons (by kernel_rfl) ok66 (pcOk_nil)) (mcOk_nil))) hmix (hl:=hints) (d:=4) func111 rfl (by decide) (e111 lpK jnK program_table_cost)
noncomputable def program_table_improve_b (lp:Lp) (_:Jn) (program_table_pivot:t109) (program_table_leaving:t110) (program_table_reduced:t111) (x0:List Nat×List (Option (List Int))) (x1:Int) (x2:List Int) (x3:List Int) (x4:List Int) (x5:Int) (x6:Int):Option ((List Nat×List (Option (List Int)))×Int×(List Int)×(List Int)×(List Int)×Int×Int×Bool×Unit) :=
 lp ((List Nat×List (Option (List Int)))×Int×List Int×List Int×List Int×Int×Int×PUnit) ((List Nat×List (Option (List Int)))×Int×List Int×List Int×List Int×Int ×
  Int×Bool×PUnit) (fun (again:(List Nat×List (Option (List Int)))×Int×List Int×List Int×List Int×Int×Int×PUnit→Option ((List Nat×List (Option (List Int)))×Int
  × List Int×List Int×List Int×Int×Int×Bool×PUnit)) (x:(List Nat×List (Option (List Int)))×Int×List Int×List Int×List Int×Int×Int×PUnit)=>lp (Int×Int ×
  PUnit) ((List Nat×List (Option (List Int)))×Int×List Int×List Int×List Int×Int×Int×Bool×PUnit) (fun (again_1:Int×Int×PUnit→Option ((List Nat×List (Option
  (List Int)))×Int×List Int×List Int×List Int×Int×Int×Bool×PUnit)) (x_1:Int×Int×PUnit) =>
 let v13:Bool:=decide (x_1.1<0);
 let v14:Int×PUnit:=(IntKind.wrap .i64 (x_1.2.1+1),PUnit.unit);
 let v15:Bool:=decide (x_1.2.1<x.2.2.2.2.2.1);
 let v16:Bool:=!v15||v15;bif v16 then bif v16 then bif bif v15 then v13 else false then obind (bif List.all x.1.1 fun (x_2:Nat)=>liveB x.1.2 x_2 then
  program_table_reduced (List.map (fun (x_2:Nat)=>rowD x.1.2 x_2) x.1.1,x.2.1,x.2.2.1,x.2.2.2.1,x.2.2.2.2.1,x.2.2.2.2.2.1,
  x.2.2.2.2.2.2.1) x_1.2.1 else none) fun (t:Int)=>bif decide (t<0) then again_1 (x_1.2.1,v14) else again_1 (x_1.1,v14) else bif v13 then some
  (x.1,x.2.1,x.2.2.1,x.2.2.2.1,x.2.2.2.2.1,x.2.2.2.2.2.1,x.2.2.2.2.2.2.1,true,PUnit.unit) else obind (bif List.all
  x.1.1 fun (x_2:Nat)=>liveB x.1.2 x_2 then program_table_leaving (List.map (fun (x_2:Nat)=>rowD x.1.2 x_2) x.1.1,x.2.1,x.2.2.1,x.2.2.2.1,
  x.2.2.2.2.1,x.2.2.2.2.2.1,x.2.2.2.2.2.2.1) x_1.1 else none) fun (t:Int)=>bif decide (t<0) then some (x.1,x.2.1,
  x.2.2.1,x.2.2.2.1,x.2.2.2.2.1,x.2.2.2.2.2.1,x.2.2.2.2.2.2.1,false,PUnit.unit) else obind (program_table_pivot x.1 x.2.1
  x.2.2.1 x.2.2.2.1 x.2.2.2.2.1 x.2.2.2.2.2.1 x.2.2.2.2.2.2.1 t x_1.1) fun (y:(List Nat×List (Option (List Int)))×Int×List Int
  × List Int×List Int×Int×Int×PUnit)=>again (y.1,y.2.1,y.2.2.1,y.2.2.2.1,y.2.2.2.2.1,y.2.2.2.2.2.1,y.2.2.2.2.2.2.1,
  PUnit.unit) else none else none) ((-1),0,PUnit.unit)) (x0,x1,x2,x3,x4,x5,x6,PUnit.unit)
noncomputable def program_table_improve (x0:List Nat×List (Option (List Int))) (x1:Int) (x2:List Int) (x3:List Int) (x4:List Int) (x5:Int) (x6:Int):Option ((List Nat×List (Option (List Int)))×Int×(List Int)×(List Int)×(List Int)×Int×Int×Bool×Unit):=program_table_improve_b lpK jnK program_table_pivot program_table_leaving program_table_reduced x0 x1 x2 x3 x4 x5 x6
abbrev t65:=(List Nat×List (Option (List Int)))→(Int)→(List Int)→(List Int)→(List Int)→(Int)→(Int)→Option ((List Nat×List (Option (List Int)))×Int×(List Int)×(List Int)×(List Int)×Int×Int×Bool×Unit)
noncomputable def k65 (program_table_improve:t65):SCtr:=⟨[.b [.x (.tab 22 .ref 3 i64),.d i64,.row 3 i64,.row 3 i64,.row 3 i64,.d i64,.d i64]],[(false,[.d .bool])],fun x=>program_table_improve x.1 x.2.1 x.2.2.1 x.2.2.2.1 x.2.2.2.2.1 x.2.2.2.2.2.1 x.2.2.2.2.2.2.1⟩
noncomputable def s65:SCtr:=k65 program_table_improve
theorem e65 (lp:Lp) (jn:Jn) (program_table_pivot:t109) (program_table_leaving:t110) (program_table_reduced:t111):∀x:TsR (rhI 0 s65.ks),program_table_improve_b lp jn program_table_pivot program_table_leaving program_table_reduced x.1 x.2.1 x.2.2.1 x.2.2.2.1 x.2.2.2.2.1 x.2.2.2.2.2.1 x.2.2.2.2.2.2.1=runS lp jn (Dn.look [(109,k109 program_table_pivot)]) (ctxT tabs lits (ctxP [(111,⟨T93,[i64],.one i64,fun x y=>program_table_reduced x y.1⟩),(110,k110 program_table_leaving)] [] (ctxOf prog shs inls its [] [(24,r24),(22,r22)]))) hints 4 65 f65 s65 x:=fun x=>by kernel_rfl
theorem ok65:s65.ok prog 65:=SCtr.of_den (ctxT_ok (ctxP_ok (q24) (pcOk_cons (by kernel_rfl) ok111 (pcOk_cons (by kernel_rfl) ok110 (pcOk_nil))) (mcOk_nil))) hmix (scOk_cons ok109 (scOk_nil)) (hl:=hints) (d:=4) func65 rfl (by decide) (e65 lpK jnK program_table_pivot program_table_leaving program_table_reduced)
noncomputable def ratio_Make_b (_:Lp) (_:Jn) (ratio_size:t69) (ratio_gcd:t88) (ratio_signed:t92) (x0:Int) (x1:Int):Option ((Int×Int)×Int×Unit) :=
 
 let v4:Bool:=!decide (x0=0);
 let v5:Bool:=!v4||v4;bif decide (x1=0) then some ((0,0),16,PUnit.unit) else obind (ratio_size x0) fun (t:Int)=>obind (ratio_size x1) fun
  (t_1:Int)=>obind (ratio_gcd t t_1) fun (t_2:Int) =>
 let v9:Bool:=nzB t_2;bif v5 then bif v5 then bif v5&&v5 then bif v5 then bif v9 then bif v9 then obind (ratio_signed (bif v4 then !decide (decide (x0<0)=decide (x1<(0
  : Int))) else false) (IntKind.wrap .u64 (Int.tdiv t t_2)) (IntKind.wrap .u64 (Int.tdiv t_1 t_2))) fun (t:(Int×Int)×Int×PUnit)=>some (t.1,t.2.1,
  PUnit.unit) else none else none else none else none else none else none
noncomputable def ratio_Make (x0:Int) (x1:Int):Option ((Int×Int)×Int×Unit):=ratio_Make_b lpK jnK ratio_size ratio_gcd ratio_signed x0 x1
abbrev t112:=(Int)→(Int)→Option ((Int×Int)×Int×Unit)
noncomputable def c112:Ctr:=⟨[i64,i64],[],[],.tup [T27,i64],fun x _ _=>ratio_Make x.1 x.2.1⟩
theorem e112 (lp:Lp) (jn:Jn) (ratio_size:t69) (ratio_gcd:t88) (ratio_signed:t92):∀(x:TsS c112.as) (F:TsF c112.fs) (y:TsS c112.cs),ratio_Make_b lp jn ratio_size ratio_gcd ratio_signed x.1 x.2.1=runC lp jn (cx [(92,k92 ratio_signed),(88,k88 ratio_gcd),(69,k69 ratio_size)] [(24,r24),(22,r22)]) hints 4 112 f112 c112 x F y:=fun x F y=>by kernel_rfl
theorem ok112:c112.ok prog 112:=Ctr.of_den (ctxT_ok (ctxOf_cons (ctxOf_cons (ctxOf_cons (q24) (by kernel_rfl) ok69) (by kernel_rfl) ok88) (by kernel_rfl) ok92)) hmix (hl:=hints) (d:=4) func112 rfl (by decide) (e112 lpK jnK ratio_size ratio_gcd ratio_signed)
noncomputable def program_table_part_b (_:Lp) (_:Jn) (ratio_Make:t112) (x0:(List (List Int))×Int×(List Int)×(List Int)×(List Int)×Int×Int) (x1:Int):Option (Int×Int) :=
 obind (ratio_Make x1 x0.2.1) fun (t:(Int×Int)×Int×PUnit)=>some t.1
noncomputable def program_table_part (x0:(List (List Int))×Int×(List Int)×(List Int)×(List Int)×Int×Int) (x1:Int):Option (Int×Int):=program_table_part_b lpK jnK ratio_Make x0 x1
abbrev t67:=((List (List Int))×Int×(List Int)×(List Int)×(List Int)×Int×Int)→(Int)→Option (Int×Int)
noncomputable def k67 (program_table_part:t67):PCtr:=⟨T93,[i64],.one T27,fun x y=>program_table_part x y.1⟩
noncomputable def p67:PCtr:=k67 program_table_part
theorem e67 (lp:Lp) (jn:Jn) (ratio_Make:t112):∀(x:p67.s.T) (y:TsS p67.as),program_table_part_b lp jn ratio_Make x y.1=runP lp jn (cx [(112,⟨[i64,i64],[],[],.tup [T27,i64],fun x _ _=>ratio_Make x.1 x.2.1⟩)] [(24,r24),(22,r22)]) hints 4 67 f67 p67 x y:=fun x y=>by kernel_rfl
theorem ok67:p67.ok prog 67:=PCtr.of_den (ctxT_ok (ctxOf_cons (q24) (by kernel_rfl) ok112)) hmix (hl:=hints) (d:=4) func67 rfl (by decide) (e67 lpK jnK ratio_Make)
noncomputable def program_Solve_b (lp:Lp) (jn:Jn) (program_Valid:t33) (program_fits:t62) (slices_Clone_22:t22) (program_table_start:t64) (program_table_improve:t65) (program_table_cost:t66) (program_table_part:t67) (x0:(List Int)×List ((List Int)×Int×Int)):Option (((Int×Int)×(List (Int×Int))×List (Int×Int))×Int×Unit) :=
 obind (program_Valid x0) fun (t:Bool)=>bif !t then some (((0,0),[],[]),1,PUnit.unit) else obind (program_fits x0) fun (t:Bool)=>bif !t then some ((((0 :
  Int),0),[],[]),5,PUnit.unit) else lp (Int×Int×PUnit) (((Int×Int)×List (Int×Int)×List (Int×Int))×Int×PUnit) (fun (again:Int×Int×PUnit →
  Option (((Int×Int)×List (Int×Int)×List (Int×Int))×Int×PUnit)) (x:Int×Int×PUnit) =>
 let v7:Int×PUnit:=(IntKind.wrap .i64 (x.2.1+1),PUnit.unit);
 let v8:Int:=IntKind.wrap .i64 ((↑(List.length x0.1):Int)+x.1);bif decide (x.2.1<(↑(List.length x0.2):Int)) then bif inB x.2.1 (List.length x0.2) then
  bif !decide ((List.getD x0.2 (Int.toNat x.2.1) ([],0,0)).2.1=3) then again (IntKind.wrap .i64 (x.1+1),v7) else again (x.1,
  v7) else none else obind (slices_Clone_22 x0.1) fun (t:List Int)=>lp (Int×Int×(List Nat×List (Option (List Int)))×Int×List Int×List Int×List Int×Int×Int×PUnit)
  (((Int×Int)×List (Int×Int)×List (Int×Int))×Int×PUnit) (fun (again:Int×Int×(List Nat×List (Option (List Int)))×Int×List Int×List Int×List Int×Int×Int ×
  PUnit→Option (((Int×Int)×List (Int×Int)×List (Int×Int))×Int×PUnit)) (x:Int×Int×(List Nat×List (Option (List Int)))×Int×List Int×List Int×List Int×Int ×
  Int×PUnit) =>
 let v12:Int:=IntKind.wrap .i64 (x.1+1);
 let v13:List Int×Int×Int:=List.getD x0.2 (Int.toNat x.2.1) ([],0,0);
 let v14:List Int:=List.replicate (Int.toNat (IntKind.wrap .i64 (x.2.2.2.2.2.2.2.2.1+1))) 0;
 let v15:Bool:=inB x.1 (Int.toNat (IntKind.wrap .i64 (x.2.2.2.2.2.2.2.2.1+1)));
 let v16:Bool:=Nat.ble (Nat.succ (Int.toNat x.1)) (Int.toNat (IntKind.wrap .i64 (x.2.2.2.2.2.2.2.2.1+1)));
 let v17:Int:=IntKind.wrap .i64 (x.2.2.2.2.2.2.2.1+x.2.1);
 let v18:List Int:=List.take (Int.toNat (IntKind.wrap .i64 (x.2.2.2.2.2.2.2.2.1+1))) v13.1;
 let v19:List Int:=List.set (List.take 0 v14++v18++List.drop (0+List.length v18) v14) (Int.toNat x.2.2.2.2.2.2.2.2.1) v13.2.2;bif decide
  (x.2.1<(↑(List.length x0.2):Int)) then bif inB x.2.1 (List.length x0.2) then bif decide (0≤IntKind.wrap .i64 (x.2.2.2.2.2.2.2.2.1+(1
  : Int)))&&fitB (Int.toNat (IntKind.wrap .i64 (x.2.2.2.2.2.2.2.2.1+1))) 8 then bif inB x.2.2.2.2.2.2.2.2.1 (Int.toNat
  (IntKind.wrap .i64 (x.2.2.2.2.2.2.2.2.1+1))) then bif Nat.ble (Nat.succ (Int.toNat x.2.2.2.2.2.2.2.2.1)) (Int.toNat (IntKind.wrap
  IntKind.i64 (x.2.2.2.2.2.2.2.2.1+1))) then jn (Int×List Int×PUnit) (((Int×Int)×List (Int×Int)×List (Int×Int))×Int×PUnit) (fun (x_1:Int ×
  List Int×PUnit) =>
 let v21:List Int×PUnit:=(x_1.2.1,PUnit.unit);jn (Int×List Int×PUnit) (((Int×Int)×List (Int×Int)×List (Int×Int))×Int×PUnit) (fun (x_2:Int×List Int ×
  PUnit)=>bif inB v17 (List.length x_2.2.1) then bif Nat.ble (Nat.succ (Int.toNat v17)) (List.length x_2.2.1) then bif fitB (List.length x.2.2.1.1+1) (24 :
  Nat) then bif fitB (List.length x.2.2.2.2.2.1+1) 8 then bif fitB (List.length x.2.2.2.2.1+1) 8 then again (x_1.1,
  IntKind.wrap .i64 (x.2.1+1),(x.2.2.1.1++[List.length x.2.2.1.2+0],x.2.2.1.2++[some (List.set x_2.2.1 (Int.toNat v17) (1
  : Int))]),x.2.2.2.1,x.2.2.2.2.1++[v17],x.2.2.2.2.2.1++[x_2.1],x.2.2.2.2.2.2.1,x.2.2.2.2.2.2.2.1,
  x.2.2.2.2.2.2.2.2.1,PUnit.unit) else none else none else none else none else none) fun (j:Int×List Int×PUnit→Option (((Int×Int)×List (Int×Int)×List
  (Int×Int))×Int×PUnit))=>bif decide (v13.2.2<0) then lp (Int×List Int×PUnit) (((Int×Int)×List (Int×Int)×List (Int×Int))×Int×PUnit) (fun (again :
  Int×List Int×PUnit→Option (((Int×Int)×List (Int×Int)×List (Int×Int))×Int×PUnit)) (x:Int×List Int×PUnit) =>
 let v25:Bool:=inB x.1 (List.length x.2.1);
 let v26:Bool:=Nat.ble (Nat.succ (Int.toNat x.1)) (List.length x.2.1);bif decide (x.1<(↑(List.length x_1.2.1):Int)) then bif v25 then bif v26 then bif v25 then bif v26
  then again (IntKind.wrap .i64 (x.1+1),List.set x.2.1 (Int.toNat x.1) (IntKind.wrap .i64 (0 - List.getD x.2.1 (Int.toNat x.1) 0)),
  PUnit.unit) else none else none else none else none else j ((-1),x.2.1,PUnit.unit)) (0,v21) else j (1,v21)) fun (j:Int×List Int×PUnit→Option (((Int
  × Int)×List (Int×Int)×List (Int×Int))×Int×PUnit))=>bif decide (v13.2.1=1) then bif v15 then bif v16 then j (v12,List.set v19 (Int.toNat x.1) 1,
  PUnit.unit) else none else none else jn (Int×List Int×PUnit) (((Int×Int)×List (Int×Int)×List (Int×Int))×Int×PUnit) (fun (x:Int×List Int×PUnit)=>j (x.1,
  x.2.1,PUnit.unit)) fun (j:Int×List Int×PUnit→Option (((Int×Int)×List (Int×Int)×List (Int×Int))×Int×PUnit))=>bif decide (v13.2.1=2) then bif
  v15 then bif v16 then j (v12,List.set v19 (Int.toNat x.1) (-1),PUnit.unit) else none else none else j (x.1,v19,PUnit.unit) else none else none else none else none else
  obind (program_table_start x.2.2.1 x.2.2.2.1 x.2.2.2.2.1 x.2.2.2.2.2.1 x.2.2.2.2.2.2.1 x.2.2.2.2.2.2.2.1
  x.2.2.2.2.2.2.2.2.1) fun (y:(List Nat×List (Option (List Int)))×Int×List Int×List Int×List Int×Int×Int×Bool×PUnit)=>bif
  !y.2.2.2.2.2.2.2.1 then some (((0,0),[],[]),22,PUnit.unit) else obind (program_table_improve y.1 y.2.1 y.2.2.1 y.2.2.2.1
  y.2.2.2.2.1 y.2.2.2.2.2.1 y.2.2.2.2.2.2.1) fun (y:(List Nat×List (Option (List Int)))×Int×List Int×List Int×List Int×Int×Int×Bool ×
  PUnit)=>bif !y.2.2.2.2.2.2.2.1 then some (((0,0),[],[]),21,PUnit.unit) else bif decide (0≤(↑(List.length x0.1):Int))&&fitB
  (Int.toNat (↑(List.length x0.1):Int)) 8 then lp (Int×Int×List Int×PUnit) (((Int×Int)×List (Int×Int)×List (Int×Int))×Int×PUnit) (fun (again:Int×Int ×
  List Int×PUnit→Option (((Int×Int)×List (Int×Int)×List (Int×Int))×Int×PUnit)) (x:Int×Int×List Int×PUnit) =>
 let v24:Int:=IntKind.wrap .i64 (x.2.1+1);
 let v25:Bool:=inB x.2.1 (List.length y.1.1);
 let v26:Bool:=Nat.ble (Nat.succ (Int.toNat x.2.1)) (List.length y.1.1);
 let v27:Int:=List.getD y.2.2.1 (Int.toNat x.2.1) 0;bif decide (x.2.1<(↑(List.length y.2.2.1):Int)) then bif inB x.2.1 (List.length y.2.2.1)
  then bif Nat.ble (Nat.succ (Int.toNat x.2.1)) (List.length y.2.2.1) then obind (bif List.all y.1.1 fun (x:Nat)=>liveB y.1.2 x then program_table_cost (List.map
  (fun (x:Nat)=>rowD y.1.2 x) y.1.1,y.2.1,y.2.2.1,y.2.2.2.1,y.2.2.2.2.1,y.2.2.2.2.2.1,y.2.2.2.2.2.2.1) v27 else
  none) fun (t:Int)=>bif v25 then bif v26 then bif inB y.2.2.2.2.2.2.1 (List.length (rowD y.1.2 (List.getD y.1.1 (Int.toNat x.2.1) 0))) then bif
  Nat.ble (Nat.succ (Int.toNat y.2.2.2.2.2.2.1)) (List.length (rowD y.1.2 (List.getD y.1.1 (Int.toNat x.2.1) 0))) then bif decide (v27<(↑(List.length
  x.2.2.1):Int)) then bif v25 then bif v26 then bif inB y.2.2.2.2.2.2.1 (List.length (rowD y.1.2 (List.getD y.1.1 (Int.toNat x.2.1) 0))) then bif
  Nat.ble (Nat.succ (Int.toNat y.2.2.2.2.2.2.1)) (List.length (rowD y.1.2 (List.getD y.1.1 (Int.toNat x.2.1) 0))) then bif inB v27 (List.length
  x.2.2.1) then bif Nat.ble (Nat.succ (Int.toNat v27)) (List.length x.2.2.1) then again (IntKind.wrap .i64 (x.1+IntKind.wrap .i64 (t*List.getD (rowD
  y.1.2 (List.getD y.1.1 (Int.toNat x.2.1) 0)) (Int.toNat y.2.2.2.2.2.2.1) 0)),v24,List.set x.2.2.1 (Int.toNat v27) (List.getD (rowD
  y.1.2 (List.getD y.1.1 (Int.toNat x.2.1) 0)) (Int.toNat y.2.2.2.2.2.2.1) 0),PUnit.unit) else none else none else none else none else none else
  none else again (IntKind.wrap .i64 (x.1+IntKind.wrap .i64 (t*List.getD (rowD y.1.2 (List.getD y.1.1 (Int.toNat x.2.1) 0)) (Int.toNat
  y.2.2.2.2.2.2.1) 0)),v24,x.2.2.1,PUnit.unit) else none else none else none else none else none else none else obind (bif List.all y.1.1 fun (x:Nat)
  =>liveB y.1.2 x then program_table_part (List.map (fun (x:Nat)=>rowD y.1.2 x) y.1.1,y.2.1,y.2.2.1,y.2.2.2.1,y.2.2.2.2.1,
  y.2.2.2.2.2.1,y.2.2.2.2.2.2.1) x.1 else none) fun (t:Int×Int)=>lp (Int×(Int×Int)×List (Int×Int)×List (Int×Int)×PUnit) (((Int×Int) ×
  List (Int×Int)×List (Int×Int))×Int×PUnit) (fun (again:Int×(Int×Int)×List (Int×Int)×List (Int×Int)×PUnit→Option (((Int×Int)×List (Int×Int)×List (Int ×
  Int))×Int×PUnit)) (x_1:Int×(Int×Int)×List (Int×Int)×List (Int×Int)×PUnit) =>
 let v31:List (Int×Int)×PUnit:=(x_1.2.2.2.1,PUnit.unit);bif decide (x_1.1<(↑(List.length x.2.2.1):Int)) then bif inB x_1.1 (List.length x.2.2.1) then
  bif Nat.ble (Nat.succ (Int.toNat x_1.1)) (List.length x.2.2.1) then obind (bif List.all y.1.1 fun (x:Nat)=>liveB y.1.2 x then program_table_part (List.map (fun (x :
  Nat)=>rowD y.1.2 x) y.1.1,y.2.1,y.2.2.1,y.2.2.2.1,y.2.2.2.2.1,y.2.2.2.2.2.1,y.2.2.2.2.2.2.1) (List.getD
  x.2.2.1 (Int.toNat x_1.1) 0) else none) fun (t:Int×Int)=>bif fitB (List.length x_1.2.2.1+1) 16 then again (IntKind.wrap .i64
  (x_1.1+1),x_1.2.1,x_1.2.2.1++[t],v31) else none else none else none else lp (Int×(Int×Int)×List (Int×Int)×List (Int×Int)×PUnit) (((Int×Int) ×
  List (Int×Int)×List (Int×Int))×Int×PUnit) (fun (again:Int×(Int×Int)×List (Int×Int)×List (Int×Int)×PUnit→Option (((Int×Int)×List (Int×Int)×List (Int ×
  Int))×Int×PUnit)) (x:Int×(Int×Int)×List (Int×Int)×List (Int×Int)×PUnit) =>
 let v34:Int:=IntKind.wrap .i64 (y.2.2.2.2.2.1+x.1);bif decide (x.1<(↑(List.length x0.2):Int)) then lp (Int×Int×PUnit) (((Int×Int)×List (Int ×
  Int)×List (Int×Int))×Int×PUnit) (fun (again_1:Int×Int×PUnit→Option (((Int×Int)×List (Int×Int)×List (Int×Int))×Int×PUnit)) (x_2:Int×Int×PUnit)=>bif
  decide (x_2.2.1<(↑(List.length y.2.2.1):Int)) then bif inB x_2.2.1 (List.length y.2.2.1) then bif Nat.ble (Nat.succ (Int.toNat x_2.2.1)) (List.length
  y.2.2.1) then obind (bif List.all y.1.1 fun (x:Nat)=>liveB y.1.2 x then program_table_cost (List.map (fun (x:Nat)=>rowD y.1.2 x) y.1.1,y.2.1,
  y.2.2.1,y.2.2.2.1,y.2.2.2.2.1,y.2.2.2.2.2.1,y.2.2.2.2.2.2.1) (List.getD y.2.2.1 (Int.toNat x_2.2.1) 0) else none)
  fun (t:Int)=>bif inB x_2.2.1 (List.length y.1.1) then bif Nat.ble (Nat.succ (Int.toNat x_2.2.1)) (List.length y.1.1) then bif inB v34 (List.length (rowD y.1.2
  (List.getD y.1.1 (Int.toNat x_2.2.1) 0))) then bif Nat.ble (Nat.succ (Int.toNat v34)) (List.length (rowD y.1.2 (List.getD y.1.1 (Int.toNat x_2.2.1) (0 :
  Nat)))) then again_1 (IntKind.wrap .i64 (x_2.1+IntKind.wrap .i64 (t*List.getD (rowD y.1.2 (List.getD y.1.1 (Int.toNat x_2.2.1) 0)) (Int.toNat
  v34) 0)),IntKind.wrap .i64 (x_2.2.1+1),PUnit.unit) else none else none else none else none else none else none else bif inB x.1 (List.length
  y.2.2.2.1) then bif Nat.ble (Nat.succ (Int.toNat x.1)) (List.length y.2.2.2.1) then obind (bif List.all y.1.1 fun (x:Nat)=>liveB y.1.2 x then
  program_table_part (List.map (fun (x:Nat)=>rowD y.1.2 x) y.1.1,y.2.1,y.2.2.1,y.2.2.2.1,y.2.2.2.2.1,y.2.2.2.2.2.1,
  y.2.2.2.2.2.2.1) (IntKind.wrap .i64 (List.getD y.2.2.2.1 (Int.toNat x.1) 0*x_2.1)) else none) fun (t:Int×Int)=>bif fitB (List.length
  x.2.2.2.1+1) 16 then again (IntKind.wrap .i64 (x.1+1),x.2.1,x.2.2.1,x.2.2.2.1++[t],PUnit.unit) else none else none
  else none) (0,0,PUnit.unit) else some ((x.2.1,x.2.2.1,x.2.2.2.1),0,PUnit.unit)) (0,x_1.2.1,x_1.2.2.1,v31)) ((0 :
  Int),t,[],[],PUnit.unit)) (0,0,List.replicate (Int.toNat (↑(List.length x0.1):Int)) 0,PUnit.unit) else none) ((↑(List.length x0.1):Int),(0 :
  Int),([],[]),1,[],[],t,v8,IntKind.wrap .i64 (v8+(↑(List.length x0.2):Int)),PUnit.unit)) (0,0,PUnit.unit)
noncomputable def program_Solve (x0:(List Int)×List ((List Int)×Int×Int)):Option (((Int×Int)×(List (Int×Int))×List (Int×Int))×Int×Unit):=program_Solve_b lpK jnK program_Valid program_fits slices_Clone_22 program_table_start program_table_improve program_table_cost program_table_part x0
abbrev t21:=((List Int)×List ((List Int)×Int×Int))→Option (((Int×Int)×(List (Int×Int))×List (Int×Int))×Int×Unit)
noncomputable def k21 (program_Solve:t21):Ctr:=⟨[T25],[],[],.tup [T30,i64],fun x _ _=>program_Solve x.1⟩
noncomputable def c21:Ctr:=k21 program_Solve
theorem e21 (lp:Lp) (jn:Jn) (program_Valid:t33) (program_fits:t62) (slices_Clone_22:t22) (program_table_start:t64) (program_table_improve:t65) (program_table_cost:t66) (program_table_part:t67):∀(x:TsS c21.as) (F:TsF c21.fs) (y:TsS c21.cs),program_Solve_b lp jn program_Valid program_fits slices_Clone_22 program_table_start program_table_improve program_table_cost program_table_part x.1=runCS lp jn (Dn.look [(65,k65 program_table_improve),(64,k64 program_table_start)]) (ctxT tabs lits (ctxP [(67,k67 program_table_part),(66,k66 program_table_cost)] [] (ctxOf prog shs inls its [(62,k62 program_fits),(33,k33 program_Valid)] [(24,r24),(22,k22 slices_Clone_22)]))) hints 4 21 f21 c21 x F y:=fun x F y=>by kernel_rfl
theorem ok21:c21.ok prog 21:=Ctr.of_denS (ctxT_ok (ctxP_ok (ctxOf_cons (ctxOf_cons (q24) (by kernel_rfl) ok33) (by kernel_rfl) ok62) (pcOk_cons (by kernel_rfl) ok67 (pcOk_cons (by kernel_rfl) ok66 (pcOk_nil))) (mcOk_nil))) hmix (scOk_cons ok65 (scOk_cons ok64 (scOk_nil))) (hl:=hints) (d:=4) func21 rfl (by decide) (e21 lpK jnK program_Valid program_fits slices_Clone_22 program_table_start program_table_improve program_table_cost program_table_part)
end Go.Proofs.Ytnbbackjofgcfaa

namespace Go.Proofs.Ytnbbackjofgcfaa
open Try Dn Dn.Sh
set_option maxRecDepth 100000
noncomputable def law05_example_b (_:Lp) (_:Jn):Option ((List Int)×List ((List Int)×Int×Int)) :=
 some ([(-1),(-1)],[([1,2],1,4),([3,1],1,6)])
noncomputable def law05_example:Option ((List Int)×List ((List Int)×Int×Int)):=law05_example_b lpK jnK
abbrev t40:=Option ((List Int)×List ((List Int)×Int×Int))
noncomputable def c40:Ctr:=⟨[],[],[],.one T25,fun _ _ _=>law05_example⟩
theorem e40 (lp:Lp) (jn:Jn):∀(x:TsS c40.as) (F:TsF c40.fs) (y:TsS c40.cs),law05_example_b lp jn=runC lp jn (cx [] [(24,r24),(22,r22)]) hints 4 40 f40 c40 x F y:=fun x F y=>by kernel_rfl
theorem ok40:c40.ok prog 40:=Ctr.of_den (ctxT_ok (q24)) hmix (hl:=hints) (d:=4) func40 rfl (by decide) (e40 lpK jnK)
noncomputable def law05_awake_b (_:Lp) (_:Jn) (program_Check:t14) (program_Refutes:t15) (program_Solve:t21) (law05_example:t40):Option Bool :=
 obind law05_example fun (t:List Int×List (List Int×Int×Int))=>obind (program_Solve t) fun (t:((Int×Int)×List (Int×Int)×List (Int×Int))×Int×PUnit) =>
 let v4:Bool:=decide (t.2.1=0);
 let v5:Bool:=!v4||v4;
 let v6:Bool:=bif v4 then decide (t.1.1.1=(-14))&&(decide (t.1.1.2=5)&&true) else false;
 let v7:Bool:=!v6||v6;obind law05_example fun (t:List Int×List (List Int×Int×Int))=>obind (program_Check t (((-14),5),[(8,5),(6,
  5)],[((-2),5),((-1),5)])) fun (t:Bool×Int×PUnit) =>
 let v10:Bool:=bif v6 then decide (t.2.1=0) else false;
 let v11:Bool:=bif v10 then t.1 else false;
 let v12:Bool:=!v11||v11;obind (program_Refutes ([0],[([1],2,3),([1],1,2)]) [(1,1),((-1),(1 :
  Int))]) fun (t:Bool×Int×PUnit) =>
 let v14:Bool:=bif v11 then decide (t.2.1=0) else false;bif v5 then bif v5&&v5 then bif v5 then bif v7 then bif v7 then bif !v10||v10 then bif v12 then bif v12 then
  bif !v14||v14 then some (bif v14 then t.1 else false) else none else none else none else none else none else none else none else none else none
noncomputable def law05_awake:Option Bool:=law05_awake_b lpK jnK program_Check program_Refutes program_Solve law05_example
abbrev t11:=Option (Bool)
noncomputable def k11 (law05_awake:t11):Ctr:=⟨[],[],[],.one .bool,fun _ _ _=>law05_awake⟩
noncomputable def c11:Ctr:=k11 law05_awake
theorem e11 (lp:Lp) (jn:Jn) (program_Check:t14) (program_Refutes:t15) (program_Solve:t21) (law05_example:t40):∀(x:TsS c11.as) (F:TsF c11.fs) (y:TsS c11.cs),law05_awake_b lp jn program_Check program_Refutes program_Solve law05_example=runC lp jn (cx [(40,⟨[],[],[],.one T25,fun _ _ _=>law05_example⟩),(21,k21 program_Solve),(15,k15 program_Refutes),(14,k14 program_Check)] [(24,r24),(22,r22)]) hints 4 11 f11 c11 x F y:=fun x F y=>by kernel_rfl
theorem ok11:c11.ok prog 11:=Ctr.of_den (ctxT_ok (ctxOf_cons (ctxOf_cons (ctxOf_cons (ctxOf_cons (q24) (by kernel_rfl) ok14) (by kernel_rfl) ok15) (by kernel_rfl) ok21) (by kernel_rfl) ok40)) hmix (hl:=hints) (d:=4) func11 rfl (by decide) (e11 lpK jnK program_Check program_Refutes program_Solve law05_example)
noncomputable def law05_few_1_b (_:Lp) (_:Jn) (x0:(List Int)×Int×Int):Option Bool :=
 some (decide ((↑(List.length x0.1):Int)>14))
noncomputable def law05_few_1 (x0:(List Int)×Int×Int):Option Bool:=law05_few_1_b lpK jnK x0
abbrev t42:=((List Int)×Int×Int)→Option (Bool)
noncomputable def c42:Ctr:=⟨[T45],[],[],.one .bool,fun x _ _=>law05_few_1 x.1⟩
theorem e42 (lp:Lp) (jn:Jn):∀(x:TsS c42.as) (F:TsF c42.fs) (y:TsS c42.cs),law05_few_1_b lp jn x.1=runC lp jn (cx [] [(24,r24),(22,r22)]) hints 4 42 f42 c42 x F y:=fun x F y=>by kernel_rfl
theorem ok42:c42.ok prog 42:=Ctr.of_den (ctxT_ok (q24)) hmix (hl:=hints) (d:=4) func42 rfl (by decide) (e42 lpK jnK)
noncomputable def law05_few_b (_:Lp) (_:Jn) (slices_ContainsFunc_41:t41) (law05_few_1:t42) (x0:(List Int)×List ((List Int)×Int×Int)):Option Bool :=
 
 let v3:Bool:=decide ((↑(List.length x0.1):Int)≤14);
 let v4:Bool:=!v3||v3;
 let v5:Bool:=bif v3 then decide ((↑(List.length x0.2):Int)≤8) else false;
 let v6:Bool:=!v5||v5;bif v4 then bif v4 then bif v4 then bif v4 then bif v6 then bif v6 then obind (bif v5 then slices_ContainsFunc_41 x0.2 fun (x:(List Int×Int×Int) ×
  PUnit)=>law05_few_1 x.1 else some false) fun (t:Bool)=>bif v6 then bif v6 then some (bif v5 then !t else false) else none else none else none else none else none else none else
  none else none
noncomputable def law05_few (x0:(List Int)×List ((List Int)×Int×Int)):Option Bool:=law05_few_b lpK jnK slices_ContainsFunc_41 law05_few_1 x0
abbrev t12:=((List Int)×List ((List Int)×Int×Int))→Option (Bool)
noncomputable def k12 (law05_few:t12):Ctr:=⟨[T25],[],[],.one .bool,fun x _ _=>law05_few x.1⟩
noncomputable def c12:Ctr:=k12 law05_few
theorem e12 (lp:Lp) (jn:Jn) (slices_ContainsFunc_41:t41) (law05_few_1:t42):∀(x:TsS c12.as) (F:TsF c12.fs) (y:TsS c12.cs),law05_few_b lp jn slices_ContainsFunc_41 law05_few_1 x.1=runC lp jn (cx [(42,⟨[T45],[],[],.one .bool,fun x _ _=>law05_few_1 x.1⟩),(41,k41 slices_ContainsFunc_41)] [(24,r24),(22,r22)]) hints 4 12 f12 c12 x F y:=fun x F y=>by kernel_rfl
theorem ok12:c12.ok prog 12:=Ctr.of_den (ctxT_ok (ctxOf_cons (ctxOf_cons (q24) (by kernel_rfl) ok41) (by kernel_rfl) ok42)) hmix (hl:=hints) (d:=4) func12 rfl (by decide) (e12 lpK jnK slices_ContainsFunc_41 law05_few_1)
noncomputable def slices_IndexFunc_94_b (lp:Lp) (_:Jn) (x0:List (List (Int×Int))) (f0:(((List (Int×Int))×Unit)→Option Bool)):Option Int :=
 lp (Int×PUnit) Int (fun (again:Int×PUnit→Option Int) (x:Int×PUnit)=>bif decide (x.1<(↑(List.length x0):Int)) then bif inB x.1 (List.length x0) then obind (f0
  (List.getD x0 (Int.toNat x.1) [],PUnit.unit)) fun (t:Bool)=>bif t then some x.1 else again (IntKind.wrap .i64 (x.1+1),PUnit.unit) else none else some (-1 :
  Int)) (0,PUnit.unit)
noncomputable def slices_IndexFunc_94 (x0:List (List (Int×Int))) (f0:(((List (Int×Int))×Unit)→Option Bool)):Option Int:=slices_IndexFunc_94_b lpK jnK x0 f0
abbrev t94:=(List (List (Int×Int)))→((((List (Int×Int))×Unit)→Option Bool))→Option (Int)
noncomputable def k94 (slices_IndexFunc_94:t94):Ctr:=⟨[(.sl (.sl T27))],[([(.sl T27)],.bool)],[],.one i64,fun x F _=>slices_IndexFunc_94 x.1 F.1⟩
noncomputable def c94:Ctr:=k94 slices_IndexFunc_94
theorem e94 (lp:Lp) (jn:Jn):∀(x:TsS c94.as) (F:TsF c94.fs) (y:TsS c94.cs),slices_IndexFunc_94_b lp jn x.1 F.1=runC lp jn (cx [] [(24,r24),(22,r22)]) hints 4 94 f94 c94 x F y:=fun x F y=>by kernel_rfl
theorem ok94:c94.ok prog 94:=Ctr.of_den (ctxT_ok (q24)) hmix (hl:=hints) (d:=4) func94 rfl (by decide) (e94 lpK jnK)
noncomputable def slices_ContainsFunc_43_b (_:Lp) (_:Jn) (slices_IndexFunc_94:t94) (x0:List (List (Int×Int))) (f0:(((List (Int×Int))×Unit)→Option Bool)):Option Bool :=
 obind (slices_IndexFunc_94 x0 f0) fun (t:Int)=>some (decide (t≥0))
noncomputable def slices_ContainsFunc_43 (x0:List (List (Int×Int))) (f0:(((List (Int×Int))×Unit)→Option Bool)):Option Bool:=slices_ContainsFunc_43_b lpK jnK slices_IndexFunc_94 x0 f0
abbrev t43:=(List (List (Int×Int)))→((((List (Int×Int))×Unit)→Option Bool))→Option (Bool)
noncomputable def k43 (slices_ContainsFunc_43:t43):Ctr:=⟨[(.sl (.sl T27))],[([(.sl T27)],.bool)],[],.one .bool,fun x F _=>slices_ContainsFunc_43 x.1 F.1⟩
noncomputable def c43:Ctr:=k43 slices_ContainsFunc_43
theorem e43 (lp:Lp) (jn:Jn) (slices_IndexFunc_94:t94):∀(x:TsS c43.as) (F:TsF c43.fs) (y:TsS c43.cs),slices_ContainsFunc_43_b lp jn slices_IndexFunc_94 x.1 F.1=runC lp jn (cx [(94,k94 slices_IndexFunc_94)] [(24,r24),(22,r22)]) hints 4 43 f43 c43 x F y:=fun x F y=>by kernel_rfl
theorem ok43:c43.ok prog 43:=Ctr.of_den (ctxT_ok (ctxOf_cons (q24) (by kernel_rfl) ok94)) hmix (hl:=hints) (d:=4) func43 rfl (by decide) (e43 lpK jnK slices_IndexFunc_94)
noncomputable def law05_short_1_b (_:Lp) (_:Jn) (x0:List (Int×Int)):Option Bool :=
 some (decide ((↑(List.length x0):Int)>20))
noncomputable def law05_short_1 (x0:List (Int×Int)):Option Bool:=law05_short_1_b lpK jnK x0
abbrev t44:=(List (Int×Int))→Option (Bool)
noncomputable def c44:Ctr:=⟨[(.sl T27)],[],[],.one .bool,fun x _ _=>law05_short_1 x.1⟩
theorem e44 (lp:Lp) (jn:Jn):∀(x:TsS c44.as) (F:TsF c44.fs) (y:TsS c44.cs),law05_short_1_b lp jn x.1=runC lp jn (cx [] [(24,r24),(22,r22)]) hints 4 44 f44 c44 x F y:=fun x F y=>by kernel_rfl
theorem ok44:c44.ok prog 44:=Ctr.of_den (ctxT_ok (q24)) hmix (hl:=hints) (d:=4) func44 rfl (by decide) (e44 lpK jnK)
noncomputable def law05_short_b (_:Lp) (_:Jn) (slices_ContainsFunc_43:t43) (law05_short_1:t44) (x0:List (List (Int×Int))):Option Bool :=
 obind (slices_ContainsFunc_43 x0 fun (x:List (Int×Int)×PUnit)=>law05_short_1 x.1) fun (t:Bool)=>some !t
noncomputable def law05_short (x0:List (List (Int×Int))):Option Bool:=law05_short_b lpK jnK slices_ContainsFunc_43 law05_short_1 x0
abbrev t13:=(List (List (Int×Int)))→Option (Bool)
noncomputable def k13 (law05_short:t13):Ctr:=⟨[(.sl (.sl T27))],[],[],.one .bool,fun x _ _=>law05_short x.1⟩
noncomputable def c13:Ctr:=k13 law05_short
theorem e13 (lp:Lp) (jn:Jn) (slices_ContainsFunc_43:t43) (law05_short_1:t44):∀(x:TsS c13.as) (F:TsF c13.fs) (y:TsS c13.cs),law05_short_b lp jn slices_ContainsFunc_43 law05_short_1 x.1=runC lp jn (cx [(44,⟨[(.sl T27)],[],[],.one .bool,fun x _ _=>law05_short_1 x.1⟩),(43,k43 slices_ContainsFunc_43)] [(24,r24),(22,r22)]) hints 4 13 f13 c13 x F y:=fun x F y=>by kernel_rfl
theorem ok13:c13.ok prog 13:=Ctr.of_den (ctxT_ok (ctxOf_cons (ctxOf_cons (q24) (by kernel_rfl) ok43) (by kernel_rfl) ok44)) hmix (hl:=hints) (d:=4) func13 rfl (by decide) (e13 lpK jnK slices_ContainsFunc_43 law05_short_1)
noncomputable def ref05_within_b (_:Lp) (_:Jn) (x0:Int) (x1:Int):Option Bool :=
 
 let v4:Bool:=decide (x0≥IntKind.wrap .i64 (0 - x1));
 let v5:Bool:=!v4||v4;bif v5&&v5 then bif v5 then some (bif v4 then decide (x0≤x1) else false) else none else none
noncomputable def ref05_within (x0:Int) (x1:Int):Option Bool:=ref05_within_b lpK jnK x0 x1
abbrev t54:=(Int)→(Int)→Option (Bool)
noncomputable def k54 (ref05_within:t54):Ctr:=⟨[i64,i64],[],[],.one .bool,fun x _ _=>ref05_within x.1 x.2.1⟩
noncomputable def c54:Ctr:=k54 ref05_within
theorem e54 (lp:Lp) (jn:Jn):∀(x:TsS c54.as) (F:TsF c54.fs) (y:TsS c54.cs),ref05_within_b lp jn x.1 x.2.1=runC lp jn (cx [] [(24,r24),(22,r22)]) hints 4 54 f54 c54 x F y:=fun x F y=>by kernel_rfl
theorem ok54:c54.ok prog 54:=Ctr.of_den (ctxT_ok (q24)) hmix (hl:=hints) (d:=4) func54 rfl (by decide) (e54 lpK jnK)
noncomputable def ref05_Valid_b (lp:Lp) (_:Jn) (ref05_within:t54) (x0:(List Int)×List ((List Int)×Int×Int)):Option Bool :=
 
 let v3:Bool:=decide ((↑(List.length x0.1):Int)<1);
 let v4:Bool:=!v3;
 let v5:Bool:=bif v3 then true else decide ((↑(List.length x0.1):Int)>12);
 let v6:Bool:=!v4||v4;
 let v7:Bool:=!v5;
 let v8:Bool:=!v7||v7;bif v6 then bif v6 then bif v6 then bif v3||v4 then bif v8 then bif v8 then bif v8 then bif v5||v7 then bif bif v5 then true else decide ((↑(List.length
  x0.2):Int)>6) then some false else lp (Int×PUnit) Bool (fun (again:Int×PUnit→Option Bool) (x:Int×PUnit)=>bif decide (x.1<(↑(List.length x0.1):Int))
  then bif inB x.1 (List.length x0.1) then obind (ref05_within (List.getD x0.1 (Int.toNat x.1) 0) 1048576) fun (t:Bool)=>bif !t then some false else again
  (IntKind.wrap .i64 (x.1+1),PUnit.unit) else none else lp (Int×PUnit) Bool (fun (again:Int×PUnit→Option Bool) (x:Int×PUnit) =>
 let v13:List Int×Int×Int:=List.getD x0.2 (Int.toNat x.1) ([],0,0);
 let v14:Bool:=!decide ((↑(List.length v13.1):Int)=(↑(List.length x0.1):Int));
 let v15:Bool:=!v14;
 let v16:Bool:=bif v14 then true else decide (v13.2.1<1);
 let v17:Bool:=!v16;
 let v18:Bool:=!v15||v15;
 let v19:Bool:=bif v16 then true else decide (v13.2.1>3);
 let v20:Bool:=!v19;
 let v21:Bool:=!v17||v17;
 let v22:Bool:=!v20||v20;bif decide (x.1<(↑(List.length x0.2):Int)) then bif inB x.1 (List.length x0.2) then bif v18 then bif v18 then bif v14||v15 then bif v21 then
  bif v21 then bif v16||v17 then bif v22 then bif v22 then obind (bif v20 then ref05_within v13.2.2 1073741824 else some false) fun (t:Bool)=>bif v22 then bif v19||v20
  then bif bif v19 then true else !t then some false else lp (Int×PUnit) Bool (fun (again_1:Int×PUnit→Option Bool) (x_1:Int×PUnit)=>bif decide (x_1.1<(↑(List.length
  v13.1):Int)) then bif inB x_1.1 (List.length v13.1) then obind (ref05_within (List.getD v13.1 (Int.toNat x_1.1) 0) 1048576) fun (t:Bool)=>bif !t then
  some false else again_1 (IntKind.wrap .i64 (x_1.1+1),PUnit.unit) else none else again (IntKind.wrap .i64 (x.1+1),PUnit.unit)) (0,
  PUnit.unit) else none else none else none else none else none else none else none else none else none else none else none else some true) (0,PUnit.unit)) (0,
  PUnit.unit) else none else none else none else none else none else none else none else none
noncomputable def ref05_Valid (x0:(List Int)×List ((List Int)×Int×Int)):Option Bool:=ref05_Valid_b lpK jnK ref05_within x0
abbrev t16:=((List Int)×List ((List Int)×Int×Int))→Option (Bool)
noncomputable def k16 (ref05_Valid:t16):Ctr:=⟨[T25],[],[],.one .bool,fun x _ _=>ref05_Valid x.1⟩
noncomputable def c16:Ctr:=k16 ref05_Valid
theorem e16 (lp:Lp) (jn:Jn) (ref05_within:t54):∀(x:TsS c16.as) (F:TsF c16.fs) (y:TsS c16.cs),ref05_Valid_b lp jn ref05_within x.1=runC lp jn (cx [(54,k54 ref05_within)] [(24,r24),(22,r22)]) hints 4 16 f16 c16 x F y:=fun x F y=>by kernel_rfl
theorem ok16:c16.ok prog 16:=Ctr.of_den (ctxT_ok (ctxOf_cons (q24) (by kernel_rfl) ok54)) hmix (hl:=hints) (d:=4) func16 rfl (by decide) (e16 lpK jnK ref05_within)
noncomputable def ref02_Half_b (_:Lp) (_:Jn) (x0:Int×Int):Option (Int×Int) :=
 
 let v3:Int:=2 ^ 1;
 let v4:Bool:=decide ((0:Int)≤1);bif v4 then bif v4 then bif decide ((0:Int)≤63) then some (Int.fdiv x0.1 v3,IntKind.wrap .u64 (Int.fdiv x0.2 v3 +
  IntKind.wrap .u64 (x0.1*2 ^ 63))) else none else none else none
noncomputable def ref02_Half (x0:Int×Int):Option (Int×Int):=ref02_Half_b lpK jnK x0
abbrev t101:=(Int×Int)→Option (Int×Int)
noncomputable def c101:Ctr:=⟨[T83],[],[],.one T83,fun x _ _=>ref02_Half x.1⟩
theorem e101 (lp:Lp) (jn:Jn):∀(x:TsS c101.as) (F:TsF c101.fs) (y:TsS c101.cs),ref02_Half_b lp jn x.1=runC lp jn (cx [] [(24,r24),(22,r22)]) hints 4 101 f101 c101 x F y:=fun x F y=>by kernel_rfl
theorem ok101:c101.ok prog 101:=Ctr.of_den (ctxT_ok (q24)) hmix (hl:=hints) (d:=4) func101 rfl (by decide) (e101 lpK jnK)
noncomputable def ref02_Less_b (_:Lp) (_:Jn) (x0:Int×Int) (x1:Int×Int):Option Bool :=
 
 let v4:Bool:=decide (x0.1=x1.1);
 let v5:Bool:=decide (x0.1<x1.1);
 let v6:Bool:=!v5;
 let v7:Bool:=!v6;
 let v8:Bool:=v6&&v4;
 let v9:Bool:=v7||v6;
 let v10:Bool:=!v8||v8;bif v9 then bif v9 then bif v9&&v9 then bif v9 then bif v10 then bif v10 then bif v10&&v10 then bif (v7||v9)&&(v7||(!v4||(v7||v8))) then bif v5
  || v6 then some (bif v5 then true else bif v4 then decide (x0.2<x1.2) else false) else none else none else none else none else none else none else none else none else none
noncomputable def ref02_Less (x0:Int×Int) (x1:Int×Int):Option Bool:=ref02_Less_b lpK jnK x0 x1
abbrev t102:=(Int×Int)→(Int×Int)→Option (Bool)
noncomputable def k102 (ref02_Less:t102):Ctr:=⟨[T83,T83],[],[],.one .bool,fun x _ _=>ref02_Less x.1 x.2.1⟩
noncomputable def c102:Ctr:=k102 ref02_Less
theorem e102 (lp:Lp) (jn:Jn):∀(x:TsS c102.as) (F:TsF c102.fs) (y:TsS c102.cs),ref02_Less_b lp jn x.1 x.2.1=runC lp jn (cx [] [(24,r24),(22,r22)]) hints 4 102 f102 c102 x F y:=fun x F y=>by kernel_rfl
theorem ok102:c102.ok prog 102:=Ctr.of_den (ctxT_ok (q24)) hmix (hl:=hints) (d:=4) func102 rfl (by decide) (e102 lpK jnK)
noncomputable def ref02_Minus_b (_:Lp) (_:Jn) (x0:Int×Int) (x1:Int×Int):Option (Int×Int) :=
 
 let v4:Int:=IntKind.wrap .u64 (x0.1 - x1.1);
 let v5:Int:=IntKind.wrap .u64 (x0.2 - x1.2);bif decide (x0.2<x1.2) then some (IntKind.wrap .u64 (v4 - 1),v5) else some (v4,v5)
noncomputable def ref02_Minus (x0:Int×Int) (x1:Int×Int):Option (Int×Int):=ref02_Minus_b lpK jnK x0 x1
abbrev t103:=(Int×Int)→(Int×Int)→Option (Int×Int)
noncomputable def k103 (ref02_Minus:t103):Ctr:=⟨[T83,T83],[],[],.one T83,fun x _ _=>ref02_Minus x.1 x.2.1⟩
noncomputable def c103:Ctr:=k103 ref02_Minus
theorem e103 (lp:Lp) (jn:Jn):∀(x:TsS c103.as) (F:TsF c103.fs) (y:TsS c103.cs),ref02_Minus_b lp jn x.1 x.2.1=runC lp jn (cx [] [(24,r24),(22,r22)]) hints 4 103 f103 c103 x F y:=fun x F y=>by kernel_rfl
theorem ok103:c103.ok prog 103:=Ctr.of_den (ctxT_ok (q24)) hmix (hl:=hints) (d:=4) func103 rfl (by decide) (e103 lpK jnK)
noncomputable def ref02_Plus_b (_:Lp) (_:Jn) (x0:Int×Int) (x1:Int×Int):Option (Int×Int) :=
 
 let v4:Int:=IntKind.wrap .u64 (x0.1+x1.1);
 let v5:Int:=IntKind.wrap .u64 (x0.2+x1.2);bif decide (v5<x0.2) then some (IntKind.wrap .u64 (v4+1),v5) else some (v4,v5)
noncomputable def ref02_Plus (x0:Int×Int) (x1:Int×Int):Option (Int×Int):=ref02_Plus_b lpK jnK x0 x1
abbrev t104:=(Int×Int)→(Int×Int)→Option (Int×Int)
noncomputable def k104 (ref02_Plus:t104):Ctr:=⟨[T83,T83],[],[],.one T83,fun x _ _=>ref02_Plus x.1 x.2.1⟩
noncomputable def c104:Ctr:=k104 ref02_Plus
theorem e104 (lp:Lp) (jn:Jn):∀(x:TsS c104.as) (F:TsF c104.fs) (y:TsS c104.cs),ref02_Plus_b lp jn x.1 x.2.1=runC lp jn (cx [] [(24,r24),(22,r22)]) hints 4 104 f104 c104 x F y:=fun x F y=>by kernel_rfl
theorem ok104:c104.ok prog 104:=Ctr.of_den (ctxT_ok (q24)) hmix (hl:=hints) (d:=4) func104 rfl (by decide) (e104 lpK jnK)
noncomputable def ref02_Gcd_b (lp:Lp) (_:Jn) (ref02_Half:t101) (ref02_Less:t102) (ref02_Minus:t103) (ref02_Plus:t104) (x0:Int×Int) (x1:Int×Int):Option (Int×Int) :=
 bif decide (x0.1=0)&&(decide (x0.2=0)&&true) then some x1 else lp (Int×(Int×Int)×(Int×Int)×PUnit) (Int×Int) (fun (again:Int×(Int×Int)×(Int ×
  Int)×PUnit→Option (Int×Int)) (x:Int×(Int×Int)×(Int×Int)×PUnit) =>
 let v6:Bool:=decide (IntKind.wrap .u64 (↑(Nat.land (Int.toNat (x.2.1.2 % Int.ofNat 18446744073709551616)) (Int.toNat (1 % Int.ofNat (18446744073709551616
  : Nat)))):Int)=0);
 let v7:Bool:=!v6||v6;bif v7 then bif v7 then bif v7 then bif v7 then bif bif v6 then decide (IntKind.wrap .u64 (↑(Nat.land (Int.toNat (x.2.2.1.2 % Int.ofNat
  18446744073709551616)) (Int.toNat (1 % Int.ofNat 18446744073709551616))):Int)=0) else false then obind (ref02_Half x.2.1) fun (t:Int×Int) =>
  obind (ref02_Half x.2.2.1) fun (t_1:Int×Int)=>again (IntKind.wrap .i64 (x.1+1),t,t_1,PUnit.unit) else lp ((Int×Int)×(Int×Int)×PUnit) (Int ×
  Int) (fun (again:(Int×Int)×(Int×Int)×PUnit→Option (Int×Int)) (x_1:(Int×Int)×(Int×Int)×PUnit) =>
 let v10:(Int×Int)×PUnit:=(x_1.2.1,PUnit.unit);bif !(decide (x_1.1.1=0)&&(decide (x_1.1.2=0)&&true)) then lp ((Int×Int)×PUnit) (Int×Int)
  (fun (again_1:(Int×Int)×PUnit→Option (Int×Int)) (x:(Int×Int)×PUnit)=>bif decide (IntKind.wrap .u64 (↑(Nat.land (Int.toNat (x.1.2 % Int.ofNat
  18446744073709551616)) (Int.toNat (1 % Int.ofNat 18446744073709551616))):Int)=0) then obind (ref02_Half x.1) fun (t:Int×Int)=>again_1 (t,
  PUnit.unit) else lp ((Int×Int)×PUnit) (Int×Int) (fun (again_2:(Int×Int)×PUnit→Option (Int×Int)) (x_2:(Int×Int)×PUnit)=>bif decide (IntKind.wrap .u64
  (↑(Nat.land (Int.toNat (x_2.1.2 % Int.ofNat 18446744073709551616)) (Int.toNat (1 % Int.ofNat 18446744073709551616))):Int)=0) then obind
  (ref02_Half x_2.1) fun (t:Int×Int)=>again_2 (t,PUnit.unit) else obind (ref02_Less x.1 x_2.1) fun (t:Bool)=>bif t then obind (ref02_Minus x_2.1 x.1) fun (t:Int ×
  Int)=>again (t,x.1,PUnit.unit) else obind (ref02_Minus x.1 x_2.1) fun (t:Int×Int)=>again (t,x_2.1,PUnit.unit)) v10) (x_1.1,PUnit.unit) else lp (Int×(Int×Int)
  × PUnit) (Int×Int) (fun (again:Int×(Int×Int)×PUnit→Option (Int×Int)) (x:Int×(Int×Int)×PUnit)=>bif decide (x.1>0) then obind (ref02_Plus x.2.1
  x.2.1) fun (t:Int×Int)=>again (IntKind.wrap .i64 (x.1 - 1),t,PUnit.unit) else some x.2.1) (x.1,v10)) (x.2.1,x.2.2.1,PUnit.unit) else none
  else none else none else none) (0,x0,x1,PUnit.unit)
noncomputable def ref02_Gcd (x0:Int×Int) (x1:Int×Int):Option (Int×Int):=ref02_Gcd_b lpK jnK ref02_Half ref02_Less ref02_Minus ref02_Plus x0 x1
abbrev t55:=(Int×Int)→(Int×Int)→Option (Int×Int)
noncomputable def k55 (ref02_Gcd:t55):Ctr:=⟨[T83,T83],[],[],.one T83,fun x _ _=>ref02_Gcd x.1 x.2.1⟩
noncomputable def c55:Ctr:=k55 ref02_Gcd
theorem e55 (lp:Lp) (jn:Jn) (ref02_Half:t101) (ref02_Less:t102) (ref02_Minus:t103) (ref02_Plus:t104):∀(x:TsS c55.as) (F:TsF c55.fs) (y:TsS c55.cs),ref02_Gcd_b lp jn ref02_Half ref02_Less ref02_Minus ref02_Plus x.1 x.2.1=runC lp jn (cx [(104,k104 ref02_Plus),(103,k103 ref02_Minus),(102,k102 ref02_Less),(101,⟨[T83],[],[],.one T83,fun x _ _=>ref02_Half x.1⟩)] [(24,r24),(22,r22)]) hints 4 55 f55 c55 x F y:=fun x F y=>by kernel_rfl
theorem ok55:c55.ok prog 55:=Ctr.of_den (ctxT_ok (ctxOf_cons (ctxOf_cons (ctxOf_cons (ctxOf_cons (q24) (by kernel_rfl) ok101) (by kernel_rfl) ok102) (by kernel_rfl) ok103) (by kernel_rfl) ok104)) hmix (hl:=hints) (d:=4) func55 rfl (by decide) (e55 lpK jnK ref02_Half ref02_Less ref02_Minus ref02_Plus)
noncomputable def ref02_Size_b (_:Lp) (_:Jn) (x0:Int):Option Int :=
 
 let v3:Int:=IntKind.wrap .u64 x0;bif decide (x0<0) then some (IntKind.wrap .u64 (0 - v3)) else some v3
noncomputable def ref02_Size (x0:Int):Option Int:=ref02_Size_b lpK jnK x0
abbrev t56:=(Int)→Option (Int)
noncomputable def k56 (ref02_Size:t56):Ctr:=⟨[i64],[],[],.one (.int .u64),fun x _ _=>ref02_Size x.1⟩
noncomputable def c56:Ctr:=k56 ref02_Size
theorem e56 (lp:Lp) (jn:Jn):∀(x:TsS c56.as) (F:TsF c56.fs) (y:TsS c56.cs),ref02_Size_b lp jn x.1=runC lp jn (cx [] [(24,r24),(22,r22)]) hints 4 56 f56 c56 x F y:=fun x F y=>by kernel_rfl
theorem ok56:c56.ok prog 56:=Ctr.of_den (ctxT_ok (q24)) hmix (hl:=hints) (d:=4) func56 rfl (by decide) (e56 lpK jnK)
noncomputable def ref02_Valid_b (_:Lp) (_:Jn) (ref02_Gcd:t55) (ref02_Size:t56) (x0:Int×Int):Option Bool :=
 
 let v3:Bool:=decide (x0.2<1);
 let v4:Bool:=!v3;
 let v5:Bool:=bif v3 then true else decide (x0.2>1152921504606846976);
 let v6:Bool:=!v4||v4;
 let v7:Bool:=!v5;
 let v8:Bool:=bif v5 then true else decide (x0.1<(-1152921504606846976));
 let v9:Bool:=!v8;
 let v10:Bool:=!v7||v7;
 let v11:Bool:=!v9||v9;bif v6 then bif v6 then bif v3||v4 then bif v10 then bif v10 then bif v5||v7 then bif v11 then bif v11 then bif v8||v9 then bif bif v8 then true else
  decide (x0.1>1152921504606846976) then some false else obind (ref02_Size x0.1) fun (t:Int)=>obind (ref02_Size x0.2) fun (t_1:Int)=>obind (ref02_Gcd (0,
  t) (0,t_1)) fun (t:Int×Int)=>some (decide (t.1=0)&&(decide (t.2=1)&&true)) else none else none else none else none else none else none else
  none else none else none
noncomputable def ref02_Valid (x0:Int×Int):Option Bool:=ref02_Valid_b lpK jnK ref02_Gcd ref02_Size x0
abbrev t17:=(Int×Int)→Option (Bool)
noncomputable def k17 (ref02_Valid:t17):Ctr:=⟨[T27],[],[],.one .bool,fun x _ _=>ref02_Valid x.1⟩
noncomputable def c17:Ctr:=k17 ref02_Valid
theorem e17 (lp:Lp) (jn:Jn) (ref02_Gcd:t55) (ref02_Size:t56):∀(x:TsS c17.as) (F:TsF c17.fs) (y:TsS c17.cs),ref02_Valid_b lp jn ref02_Gcd ref02_Size x.1=runC lp jn (cx [(56,k56 ref02_Size),(55,k55 ref02_Gcd)] [(24,r24),(22,r22)]) hints 4 17 f17 c17 x F y:=fun x F y=>by kernel_rfl
theorem ok17:c17.ok prog 17:=Ctr.of_den (ctxT_ok (ctxOf_cons (ctxOf_cons (q24) (by kernel_rfl) ok55) (by kernel_rfl) ok56)) hmix (hl:=hints) (d:=4) func17 rfl (by decide) (e17 lpK jnK ref02_Gcd ref02_Size)
noncomputable def ref02_All_b (lp:Lp) (_:Jn) (ref02_Valid:t17) (x0:List (Int×Int)):Option Bool :=
 lp (Int×PUnit) Bool (fun (again:Int×PUnit→Option Bool) (x:Int×PUnit)=>bif decide (x.1<(↑(List.length x0):Int)) then bif inB x.1 (List.length x0) then obind
  (ref02_Valid (List.getD x0 (Int.toNat x.1) (0,0))) fun (t:Bool)=>bif !t then some false else again (IntKind.wrap .i64 (x.1+1),PUnit.unit) else
  none else some true) (0,PUnit.unit)
noncomputable def ref02_All (x0:List (Int×Int)):Option Bool:=ref02_All_b lpK jnK ref02_Valid x0
abbrev t18:=(List (Int×Int))→Option (Bool)
noncomputable def k18 (ref02_All:t18):Ctr:=⟨[(.sl T27)],[],[],.one .bool,fun x _ _=>ref02_All x.1⟩
noncomputable def c18:Ctr:=k18 ref02_All
theorem e18 (lp:Lp) (jn:Jn) (ref02_Valid:t17):∀(x:TsS c18.as) (F:TsF c18.fs) (y:TsS c18.cs),ref02_All_b lp jn ref02_Valid x.1=runC lp jn (cx [(17,k17 ref02_Valid)] [(24,r24),(22,r22)]) hints 4 18 f18 c18 x F y:=fun x F y=>by kernel_rfl
theorem ok18:c18.ok prog 18:=Ctr.of_den (ctxT_ok (ctxOf_cons (q24) (by kernel_rfl) ok17)) hmix (hl:=hints) (d:=4) func18 rfl (by decide) (e18 lpK jnK ref02_Valid)
noncomputable def ref02_Of_b (_:Lp) (_:Jn) (x0:Int):Option (Int×Int) :=
 some (x0,1)
noncomputable def ref02_Of (x0:Int):Option (Int×Int):=ref02_Of_b lpK jnK x0
abbrev t84:=(Int)→Option (Int×Int)
noncomputable def k84 (ref02_Of:t84):Ctr:=⟨[i64],[],[],.one T27,fun x _ _=>ref02_Of x.1⟩
noncomputable def c84:Ctr:=k84 ref02_Of
theorem e84 (lp:Lp) (jn:Jn):∀(x:TsS c84.as) (F:TsF c84.fs) (y:TsS c84.cs),ref02_Of_b lp jn x.1=runC lp jn (cx [] [(24,r24),(22,r22)]) hints 4 84 f84 c84 x F y:=fun x F y=>by kernel_rfl
theorem ok84:c84.ok prog 84:=Ctr.of_den (ctxT_ok (q24)) hmix (hl:=hints) (d:=4) func84 rfl (by decide) (e84 lpK jnK)
noncomputable def ref02_Div_b (lp:Lp) (_:Jn) (ref02_Less:t102) (ref02_Minus:t103) (x0:Int×Int) (x1:Int×Int):Option ((Int×Int)×(Int×Int)×Unit) :=
 
 let v4:Bool:=nzB x1.2;
 let v5:Int:=2 ^ 63;
 let v6:Int:=2 ^ 1;
 let v7:Bool:=decide (x0.1=0);
 let v8:Bool:=decide ((0:Int)≤63);
 let v9:Bool:=decide ((0:Int)≤1);
 let v10:Bool:=!v7||v7;bif v10 then bif v10 then bif v10 then bif bif v7 then decide (x1.1=0) else false then bif v4 then bif v4 then some ((0,IntKind.wrap
  IntKind.u64 (Int.tdiv x0.2 x1.2)),(0,Int.tmod x0.2 x1.2),PUnit.unit) else none else none else lp (Int×(Int×Int)×(Int×Int)×(Int×Int)×PUnit) ((Int×Int)
  × (Int×Int)×PUnit) (fun (again:Int×(Int×Int)×(Int×Int)×(Int×Int)×PUnit→Option ((Int×Int)×(Int×Int)×PUnit)) (x:Int×(Int×Int)×(Int×Int)×(Int ×
  Int)×PUnit) =>
 let v13:Int:=IntKind.wrap .i64 (x.1+1);
 let v14:Int:=IntKind.wrap .u64 (x.2.2.1.2*v6);
 let v15:Int:=IntKind.wrap .u64 (IntKind.wrap .u64 (x.2.2.1.1*v6)+Int.fdiv x.2.2.1.2 v5);
 let v16:Bool:=decide (Int.fdiv x.2.2.2.1.1 v5>0);
 let v17:Bool:=!v16;
 let v18:Int×Int:=(IntKind.wrap .u64 (IntKind.wrap .u64 (x.2.1.1*v6)+Int.fdiv x.2.1.2 v5),IntKind.wrap .u64 (x.2.1.2*v6));
 let v19:Int×Int:=(IntKind.wrap .u64 (IntKind.wrap .u64 (x.2.2.2.1.1*v6)+Int.fdiv x.2.2.2.1.2 v5),IntKind.wrap .u64 (IntKind.wrap
  IntKind.u64 (x.2.2.2.1.2*v6)+Int.fdiv x.2.1.1 v5));
 let v20:Bool:=!v17||v17;bif decide (x.1<128) then bif v8 then bif v9 then bif v8 then bif v9 then bif v8 then bif v9 then bif v8 then bif v9 then bif v9 then bif v8
  then bif v9 then bif v20&&v20 then obind (bif v17 then ref02_Less v19 x1 else some false) fun (t:Bool)=>bif v20 then bif v16||v17 then bif bif v16 then true else !t then obind
  (ref02_Minus v19 x1) fun (t:Int×Int)=>again (v13,v18,(v15,IntKind.wrap .u64 (v14+1)),t,PUnit.unit) else again (v13,v18,(v15,v14),v19,PUnit.unit) else
  none else none else none else none else none else none else none else none else none else none else none else none else none else none else some (x.2.2.1,x.2.2.2.1,
  PUnit.unit)) (0,x0,(0,0),(0,0),PUnit.unit) else none else none else none
noncomputable def ref02_Div (x0:Int×Int) (x1:Int×Int):Option ((Int×Int)×(Int×Int)×Unit):=ref02_Div_b lpK jnK ref02_Less ref02_Minus x0 x1
abbrev t127:=(Int×Int)→(Int×Int)→Option ((Int×Int)×(Int×Int)×Unit)
noncomputable def c127:Ctr:=⟨[T83,T83],[],[],.tup [T83,T83],fun x _ _=>ref02_Div x.1 x.2.1⟩
theorem e127 (lp:Lp) (jn:Jn) (ref02_Less:t102) (ref02_Minus:t103):∀(x:TsS c127.as) (F:TsF c127.fs) (y:TsS c127.cs),ref02_Div_b lp jn ref02_Less ref02_Minus x.1 x.2.1=runC lp jn (cx [(103,k103 ref02_Minus),(102,k102 ref02_Less)] [(24,r24),(22,r22)]) hints 4 127 f127 c127 x F y:=fun x F y=>by kernel_rfl
theorem ok127:c127.ok prog 127:=Ctr.of_den (ctxT_ok (ctxOf_cons (ctxOf_cons (q24) (by kernel_rfl) ok102) (by kernel_rfl) ok103)) hmix (hl:=hints) (d:=4) func127 rfl (by decide) (e127 lpK jnK ref02_Less ref02_Minus)
noncomputable def ref02_Made_b (_:Lp) (_:Jn) (ref02_Gcd:t55) (ref02_Div:t127) (x0:Int×Int) (x1:Bool) (x2:Int×Int):Option ((Int×Int)×Int×Unit) :=
 bif decide (x2.1=0)&&(decide (x2.2=0)&&true) then some ((0,0),16,PUnit.unit) else obind (ref02_Gcd x0 x2) fun (t:Int×Int)=>obind
  (ref02_Div x0 t) fun (t_1:(Int×Int)×(Int×Int)×PUnit) =>
 let v7:Int:=IntKind.wrap .i64 t_1.1.2;
 let v8:Bool:=decide (t_1.1.1>0);
 let v9:Bool:=!v8;
 let v10:Bool:=bif v8 then true else decide (t_1.1.2>1152921504606846976);
 let v11:Bool:=!v9||v9;
 let v12:Bool:=!v10;
 let v13:Bool:=!v12||v12;obind (ref02_Div x2 t) fun (t:(Int×Int)×(Int×Int)×PUnit) =>
 let v15:Int:=IntKind.wrap .i64 t.1.2;
 let v16:Bool:=bif v10 then true else decide (t.1.1>0);
 let v17:Bool:=!v16;
 let v18:Bool:=!v17||v17;bif v11 then bif v11 then bif v8||v9 then bif v13 then bif v13 then bif v10||v12 then bif v18 then bif v18 then bif v16||v17 then bif bif v16 then
  true else decide (t.1.2>1152921504606846976) then some ((0,0),5,PUnit.unit) else bif x1 then some ((IntKind.wrap .i64 (0 - v7),
  v15),0,PUnit.unit) else some ((v7,v15),0,PUnit.unit) else none else none else none else none else none else none else none else none else none
noncomputable def ref02_Made (x0:Int×Int) (x1:Bool) (x2:Int×Int):Option ((Int×Int)×Int×Unit):=ref02_Made_b lpK jnK ref02_Gcd ref02_Div x0 x1 x2
abbrev t116:=(Int×Int)→(Bool)→(Int×Int)→Option ((Int×Int)×Int×Unit)
noncomputable def k116 (ref02_Made:t116):Ctr:=⟨[T83,.bool,T83],[],[],.tup [T27,i64],fun x _ _=>ref02_Made x.1 x.2.1 x.2.2.1⟩
noncomputable def c116:Ctr:=k116 ref02_Made
theorem e116 (lp:Lp) (jn:Jn) (ref02_Gcd:t55) (ref02_Div:t127):∀(x:TsS c116.as) (F:TsF c116.fs) (y:TsS c116.cs),ref02_Made_b lp jn ref02_Gcd ref02_Div x.1 x.2.1 x.2.2.1=runC lp jn (cx [(127,⟨[T83,T83],[],[],.tup [T83,T83],fun x _ _=>ref02_Div x.1 x.2.1⟩),(55,k55 ref02_Gcd)] [(24,r24),(22,r22)]) hints 4 116 f116 c116 x F y:=fun x F y=>by kernel_rfl
theorem ok116:c116.ok prog 116:=Ctr.of_den (ctxT_ok (ctxOf_cons (ctxOf_cons (q24) (by kernel_rfl) ok55) (by kernel_rfl) ok127)) hmix (hl:=hints) (d:=4) func116 rfl (by decide) (e116 lpK jnK ref02_Gcd ref02_Div)
noncomputable def ref02_Mul_b (_:Lp) (_:Jn) (x0:Int) (x1:Int):Option (Int×Int) :=
 
 let v4:Int:=2 ^ 32;
 let v5:Int:=Int.fdiv x0 v4;
 let v6:Int:=Int.fdiv x1 v4;
 let v7:Bool:=decide ((0:Int)≤32);
 let v8:Int:=IntKind.wrap .u64 (↑(Nat.land (Int.toNat (x1 % Int.ofNat 18446744073709551616)) (Int.toNat (4294967295 % Int.ofNat 18446744073709551616))) :
  Int);
 let v9:Int:=IntKind.wrap .u64 (↑(Nat.land (Int.toNat (x0 % Int.ofNat 18446744073709551616)) (Int.toNat (4294967295 % Int.ofNat 18446744073709551616))) :
  Int);
 let v10:Int:=IntKind.wrap .u64 (v9*v8);
 let v11:Int:=IntKind.wrap .u64 (IntKind.wrap .u64 (v5*v8)+Int.fdiv v10 v4);
 let v12:Int:=IntKind.wrap .u64 (IntKind.wrap .u64 (v9*v6)+IntKind.wrap .u64 (↑(Nat.land (Int.toNat (v11 % Int.ofNat 18446744073709551616)) (Int.toNat
  (4294967295 % Int.ofNat 18446744073709551616))):Int));bif v7 then bif v7 then bif v7 then bif v7 then bif v7 then bif v7 then some (IntKind.wrap .u64
  (IntKind.wrap .u64 (IntKind.wrap .u64 (v5*v6)+Int.fdiv v11 v4)+Int.fdiv v12 v4),IntKind.wrap .u64 (IntKind.wrap .u64 (v12*v4)+IntKind.wrap
  IntKind.u64 (↑(Nat.land (Int.toNat (v10 % Int.ofNat 18446744073709551616)) (Int.toNat (4294967295 % Int.ofNat 18446744073709551616))):Int))) else none else
  none else none else none else none else none
noncomputable def ref02_Mul (x0:Int) (x1:Int):Option (Int×Int):=ref02_Mul_b lpK jnK x0 x1
abbrev t118:=(Int)→(Int)→Option (Int×Int)
noncomputable def k118 (ref02_Mul:t118):Ctr:=⟨[(.int .u64),(.int .u64)],[],[],.one T83,fun x _ _=>ref02_Mul x.1 x.2.1⟩
noncomputable def c118:Ctr:=k118 ref02_Mul
theorem e118 (lp:Lp) (jn:Jn):∀(x:TsS c118.as) (F:TsF c118.fs) (y:TsS c118.cs),ref02_Mul_b lp jn x.1 x.2.1=runC lp jn (cx [] [(24,r24),(22,r22)]) hints 4 118 f118 c118 x F y:=fun x F y=>by kernel_rfl
theorem ok118:c118.ok prog 118:=Ctr.of_den (ctxT_ok (q24)) hmix (hl:=hints) (d:=4) func118 rfl (by decide) (e118 lpK jnK)
noncomputable def ref02_Times_b (_:Lp) (_:Jn) (ref02_Size:t56) (ref02_Made:t116) (ref02_Mul:t118) (x0:Int×Int) (x1:Int×Int):Option ((Int×Int)×Int×Unit) :=
 obind (ref02_Size x0.1) fun (t:Int)=>obind (ref02_Size x1.1) fun (t_1:Int)=>obind (ref02_Mul t t_1) fun (t:Int×Int)=>obind (ref02_Size x0.2) fun (t_2:Int)=>obind
  (ref02_Size x1.2) fun (t_3:Int)=>obind (ref02_Mul t_2 t_3) fun (t_4:Int×Int)=>obind (ref02_Made t (!decide (decide (x0.1<0)=decide (x1.1<0))) t_4)
  fun (t:(Int×Int)×Int×PUnit)=>some (t.1,t.2.1,PUnit.unit)
noncomputable def ref02_Times (x0:Int×Int) (x1:Int×Int):Option ((Int×Int)×Int×Unit):=ref02_Times_b lpK jnK ref02_Size ref02_Made ref02_Mul x0 x1
abbrev t85:=(Int×Int)→(Int×Int)→Option ((Int×Int)×Int×Unit)
noncomputable def c85:Ctr:=⟨[T27,T27],[],[],.tup [T27,i64],fun x _ _=>ref02_Times x.1 x.2.1⟩
theorem e85 (lp:Lp) (jn:Jn) (ref02_Size:t56) (ref02_Made:t116) (ref02_Mul:t118):∀(x:TsS c85.as) (F:TsF c85.fs) (y:TsS c85.cs),ref02_Times_b lp jn ref02_Size ref02_Made ref02_Mul x.1 x.2.1=runC lp jn (cx [(118,k118 ref02_Mul),(116,k116 ref02_Made),(56,k56 ref02_Size)] [(24,r24),(22,r22)]) hints 4 85 f85 c85 x F y:=fun x F y=>by kernel_rfl
theorem ok85:c85.ok prog 85:=Ctr.of_den (ctxT_ok (ctxOf_cons (ctxOf_cons (ctxOf_cons (q24) (by kernel_rfl) ok56) (by kernel_rfl) ok116) (by kernel_rfl) ok118)) hmix (hl:=hints) (d:=4) func85 rfl (by decide) (e85 lpK jnK ref02_Size ref02_Made ref02_Mul)
noncomputable def ref02_Add_b (_:Lp) (_:Jn) (ref02_Less:t102) (ref02_Minus:t103) (ref02_Plus:t104) (ref02_Size:t56) (ref02_Made:t116) (ref02_Mul:t118) (x0:Int×Int) (x1:Int×Int):Option ((Int×Int)×Int×Unit) :=
 
 let v4:Bool:=decide (x0.1<0);obind (ref02_Size x0.1) fun (t:Int)=>obind (ref02_Size x1.2) fun (t_1:Int)=>obind (ref02_Mul t t_1) fun (t:Int×Int)=>obind
  (ref02_Size x1.1) fun (t_2:Int)=>obind (ref02_Size x0.2) fun (t_3:Int)=>obind (ref02_Mul t_2 t_3) fun (t_4:Int×Int)=>obind (ref02_Size x0.2) fun (t_5:Int)=>obind
  (ref02_Size x1.2) fun (t_6:Int)=>obind (ref02_Mul t_5 t_6) fun (t_7:Int×Int)=>bif decide (v4=decide (x1.1<0)) then obind (ref02_Plus t t_4) fun (t:Int×Int)
  =>obind (ref02_Made t v4 t_7) fun (t:(Int×Int)×Int×PUnit)=>some (t.1,t.2.1,PUnit.unit) else obind (ref02_Less t t_4) fun (t_8:Bool)=>bif t_8 then obind
  (ref02_Minus t_4 t) fun (t:Int×Int)=>obind (ref02_Made t (decide (x1.1<0)) t_7) fun (t:(Int×Int)×Int×PUnit)=>some (t.1,t.2.1,PUnit.unit) else obind
  (ref02_Minus t t_4) fun (t:Int×Int)=>obind (ref02_Made t v4 t_7) fun (t:(Int×Int)×Int×PUnit)=>some (t.1,t.2.1,PUnit.unit)
noncomputable def ref02_Add (x0:Int×Int) (x1:Int×Int):Option ((Int×Int)×Int×Unit):=ref02_Add_b lpK jnK ref02_Less ref02_Minus ref02_Plus ref02_Size ref02_Made ref02_Mul x0 x1
abbrev t86:=(Int×Int)→(Int×Int)→Option ((Int×Int)×Int×Unit)
noncomputable def c86:Ctr:=⟨[T27,T27],[],[],.tup [T27,i64],fun x _ _=>ref02_Add x.1 x.2.1⟩
theorem e86 (lp:Lp) (jn:Jn) (ref02_Less:t102) (ref02_Minus:t103) (ref02_Plus:t104) (ref02_Size:t56) (ref02_Made:t116) (ref02_Mul:t118):∀(x:TsS c86.as) (F:TsF c86.fs) (y:TsS c86.cs),ref02_Add_b lp jn ref02_Less ref02_Minus ref02_Plus ref02_Size ref02_Made ref02_Mul x.1 x.2.1=runC lp jn (cx [(118,k118 ref02_Mul),(116,k116 ref02_Made),(56,k56 ref02_Size),(104,k104 ref02_Plus),(103,k103 ref02_Minus),(102,k102 ref02_Less)] [(24,r24),(22,r22)]) hints 4 86 f86 c86 x F y:=fun x F y=>by kernel_rfl
theorem ok86:c86.ok prog 86:=Ctr.of_den (ctxT_ok (ctxOf_cons (ctxOf_cons (ctxOf_cons (ctxOf_cons (ctxOf_cons (ctxOf_cons (q24) (by kernel_rfl) ok102) (by kernel_rfl) ok103) (by kernel_rfl) ok104) (by kernel_rfl) ok56) (by kernel_rfl) ok116) (by kernel_rfl) ok118)) hmix (hl:=hints) (d:=4) func86 rfl (by decide) (e86 lpK jnK ref02_Less ref02_Minus ref02_Plus ref02_Size ref02_Made ref02_Mul)
noncomputable def ref05_Sum_b (lp:Lp) (_:Jn) (ref02_Of:t84) (ref02_Times:t85) (ref02_Add:t86) (x0:List Int) (x1:List (Int×Int)):Option ((Int×Int)×Int×Unit) :=
 obind (ref02_Of 0) fun (t:Int×Int)=>lp (Int×(Int×Int)×(Int×Int)×PUnit) ((Int×Int)×Int×PUnit) (fun (again:Int×(Int×Int)×(Int×Int)×PUnit→Option
  ((Int×Int)×Int×PUnit)) (x:Int×(Int×Int)×(Int×Int)×PUnit)=>bif decide (x.1<(↑(List.length x0):Int)) then bif inB x.1 (List.length x0) then obind (ref02_Of
  (List.getD x0 (Int.toNat x.1) 0)) fun (t:Int×Int)=>bif inB x.1 (List.length x1) then obind (ref02_Times t (List.getD x1 (Int.toNat x.1) (0,0))) fun
  (t:(Int×Int)×Int×PUnit)=>bif !decide (t.2.1=0) then some ((0,0),t.2.1,PUnit.unit) else obind (ref02_Add x.2.2.1 t.1) fun (t:(Int
  × Int)×Int×PUnit)=>bif !decide (t.2.1=0) then some ((0,0),t.2.1,PUnit.unit) else again (IntKind.wrap .i64 (x.1+1),
  x.2.1,t.1,PUnit.unit) else none else none else some (x.2.2.1,0,PUnit.unit)) (0,(0,0),t,PUnit.unit)
noncomputable def ref05_Sum (x0:List Int) (x1:List (Int×Int)):Option ((Int×Int)×Int×Unit):=ref05_Sum_b lpK jnK ref02_Of ref02_Times ref02_Add x0 x1
abbrev t35:=(List Int)→(List (Int×Int))→Option ((Int×Int)×Int×Unit)
noncomputable def k35 (ref05_Sum:t35):Ctr:=⟨[(.sl i64),(.sl T27)],[],[],.tup [T27,i64],fun x _ _=>ref05_Sum x.1 x.2.1⟩
noncomputable def c35:Ctr:=k35 ref05_Sum
theorem e35 (lp:Lp) (jn:Jn) (ref02_Of:t84) (ref02_Times:t85) (ref02_Add:t86):∀(x:TsS c35.as) (F:TsF c35.fs) (y:TsS c35.cs),ref05_Sum_b lp jn ref02_Of ref02_Times ref02_Add x.1 x.2.1=runC lp jn (cx [(86,⟨[T27,T27],[],[],.tup [T27,i64],fun x _ _=>ref02_Add x.1 x.2.1⟩),(85,⟨[T27,T27],[],[],.tup [T27,i64],fun x _ _=>ref02_Times x.1 x.2.1⟩),(84,k84 ref02_Of)] [(24,r24),(22,r22)]) hints 4 35 f35 c35 x F y:=fun x F y=>by kernel_rfl
theorem ok35:c35.ok prog 35:=Ctr.of_den (ctxT_ok (ctxOf_cons (ctxOf_cons (ctxOf_cons (q24) (by kernel_rfl) ok84) (by kernel_rfl) ok85) (by kernel_rfl) ok86)) hmix (hl:=hints) (d:=4) func35 rfl (by decide) (e35 lpK jnK ref02_Of ref02_Times ref02_Add)
noncomputable def ref02_Cmp_b (_:Lp) (_:Jn) (ref02_Less:t102) (ref02_Size:t56) (ref02_Mul:t118) (x0:Int×Int) (x1:Int×Int):Option Int :=
 
 let v4:Bool:=decide (x0.1<0);
 let v5:Bool:=decide (x0.1≥0);
 let v6:Bool:=!v4||v4;
 let v7:Bool:=!v5||v5;obind (ref02_Size x0.1) fun (t:Int)=>obind (ref02_Size x1.2) fun (t_1:Int)=>obind (ref02_Mul t t_1) fun (t:Int×Int)=>obind (ref02_Size
  x1.1) fun (t_2:Int)=>obind (ref02_Size x0.2) fun (t_3:Int)=>obind (ref02_Mul t_2 t_3) fun (t_4:Int×Int)=>bif v6 then bif v6 then bif v6 then bif bif v4 then decide
  (x1.1≥0) else false then some (-1) else bif v7 then bif v7 then bif v7 then bif bif v5 then decide (x1.1<0) else false then some 1 else bif decide
  (t.1=t_4.1)&&(decide (t.2=t_4.2)&&true) then some 0 else obind (ref02_Less t t_4) fun (t:Bool)=>bif decide (t=v5) then some (-1) else some 1
  else none else none else none else none else none else none
noncomputable def ref02_Cmp (x0:Int×Int) (x1:Int×Int):Option Int:=ref02_Cmp_b lpK jnK ref02_Less ref02_Size ref02_Mul x0 x1
abbrev t83:=(Int×Int)→(Int×Int)→Option (Int)
noncomputable def k83 (ref02_Cmp:t83):Ctr:=⟨[T27,T27],[],[],.one i64,fun x _ _=>ref02_Cmp x.1 x.2.1⟩
noncomputable def c83:Ctr:=k83 ref02_Cmp
theorem e83 (lp:Lp) (jn:Jn) (ref02_Less:t102) (ref02_Size:t56) (ref02_Mul:t118):∀(x:TsS c83.as) (F:TsF c83.fs) (y:TsS c83.cs),ref02_Cmp_b lp jn ref02_Less ref02_Size ref02_Mul x.1 x.2.1=runC lp jn (cx [(118,k118 ref02_Mul),(56,k56 ref02_Size),(102,k102 ref02_Less)] [(24,r24),(22,r22)]) hints 4 83 f83 c83 x F y:=fun x F y=>by kernel_rfl
theorem ok83:c83.ok prog 83:=Ctr.of_den (ctxT_ok (ctxOf_cons (ctxOf_cons (ctxOf_cons (q24) (by kernel_rfl) ok102) (by kernel_rfl) ok56) (by kernel_rfl) ok118)) hmix (hl:=hints) (d:=4) func83 rfl (by decide) (e83 lpK jnK ref02_Less ref02_Size ref02_Mul)
noncomputable def ref05_sign_b (_:Lp) (_:Jn) (ref02_Of:t84) (ref02_Cmp:t83) (x0:Int×Int):Option Int :=
 obind (ref02_Of 0) fun (t:Int×Int)=>obind (ref02_Cmp x0 t) fun (t:Int)=>some t
noncomputable def ref05_sign (x0:Int×Int):Option Int:=ref05_sign_b lpK jnK ref02_Of ref02_Cmp x0
abbrev t60:=(Int×Int)→Option (Int)
noncomputable def k60 (ref05_sign:t60):Ctr:=⟨[T27],[],[],.one i64,fun x _ _=>ref05_sign x.1⟩
noncomputable def c60:Ctr:=k60 ref05_sign
theorem e60 (lp:Lp) (jn:Jn) (ref02_Of:t84) (ref02_Cmp:t83):∀(x:TsS c60.as) (F:TsF c60.fs) (y:TsS c60.cs),ref05_sign_b lp jn ref02_Of ref02_Cmp x.1=runC lp jn (cx [(83,k83 ref02_Cmp),(84,k84 ref02_Of)] [(24,r24),(22,r22)]) hints 4 60 f60 c60 x F y:=fun x F y=>by kernel_rfl
theorem ok60:c60.ok prog 60:=Ctr.of_den (ctxT_ok (ctxOf_cons (ctxOf_cons (q24) (by kernel_rfl) ok84) (by kernel_rfl) ok83)) hmix (hl:=hints) (d:=4) func60 rfl (by decide) (e60 lpK jnK ref02_Of ref02_Cmp)
noncomputable def ref05_Feasible_b (lp:Lp) (_:Jn) (ref02_Of:t84) (ref05_Sum:t35) (ref02_Cmp:t83) (ref05_sign:t60) (x0:(List Int)×List ((List Int)×Int×Int)) (x1:List (Int×Int)):Option (Bool×Int×Unit) :=
 lp (Bool×Int×PUnit) (Bool×Int×PUnit) (fun (again:Bool×Int×PUnit→Option (Bool×Int×PUnit)) (x:Bool×Int×PUnit) =>
 let v6:Bool:=!x.1;
 let v7:Bool:=v6||x.1;bif decide (x.2.1<(↑(List.length x1):Int)) then bif v7&&(v7&&(v6||inB x.2.1 (List.length x1))) then bif v7 then bif v7 then obind (bif
  x.1 then ref05_sign (List.getD x1 (Int.toNat x.2.1) (0,0)) else some 0) fun (t:Int)=>bif v7 then bif v7 then again (bif x.1 then decide (t≥(0 :
  Int)) else false,IntKind.wrap .i64 (x.2.1+1),PUnit.unit) else none else none else none else none else none else lp (Bool×Int×PUnit) (Bool×Int×PUnit) (fun
  (again:Bool×Int×PUnit→Option (Bool×Int×PUnit)) (x:Bool×Int×PUnit) =>
 let v10:Int×PUnit:=(IntKind.wrap .i64 (x.2.1+1),PUnit.unit);
 let v11:Bool:=inB x.2.1 (List.length x0.2);
 let v12:List Int×Int×Int:=List.getD x0.2 (Int.toNat x.2.1) ([],0,0);
 let v13:Bool:=!decide (v12.2.1=2);
 let v14:Bool:=!decide (v12.2.1=1);
 let v15:Bool:=!v13||v13;bif decide (x.2.1<(↑(List.length x0.2):Int)) then bif v11 then obind (ref05_Sum v12.1 x1) fun (t:(Int×Int)×Int×PUnit)=>bif !decide
  (t.2.1=0) then some (false,t.2.1,PUnit.unit) else bif v11 then obind (ref02_Of v12.2.2) fun (t_1:Int×Int)=>obind (ref02_Cmp t.1 t_1) fun (t:Int) =>
 let v19:Bool:=bif v13 then decide (t>0) else false;
 let v20:Bool:=!v19;
 let v21:Bool:=!v20;
 let v22:Bool:=v20&&v14;
 let v23:Bool:=v21||v20;bif v11 then bif v15 then bif v15 then bif v23 then bif v23 then bif !v22||v22 then bif (v21||v23)&&(v21||(!v14||(v21||v22))) then bif v19||v20
  then bif bif v19 then true else bif v14 then decide (t<0) else false then again (false,v10) else again (x.1,v10) else none else none else none else none else none else
  none else none else none else none else none else some (x.1,0,PUnit.unit)) (x.1,0,PUnit.unit)) (true,0,PUnit.unit)
noncomputable def ref05_Feasible (x0:(List Int)×List ((List Int)×Int×Int)) (x1:List (Int×Int)):Option (Bool×Int×Unit):=ref05_Feasible_b lpK jnK ref02_Of ref05_Sum ref02_Cmp ref05_sign x0 x1
abbrev t34:=((List Int)×List ((List Int)×Int×Int))→(List (Int×Int))→Option (Bool×Int×Unit)
noncomputable def k34 (ref05_Feasible:t34):Ctr:=⟨[T25,(.sl T27)],[],[],.tup [.bool,i64],fun x _ _=>ref05_Feasible x.1 x.2.1⟩
noncomputable def c34:Ctr:=k34 ref05_Feasible
theorem e34 (lp:Lp) (jn:Jn) (ref02_Of:t84) (ref05_Sum:t35) (ref02_Cmp:t83) (ref05_sign:t60):∀(x:TsS c34.as) (F:TsF c34.fs) (y:TsS c34.cs),ref05_Feasible_b lp jn ref02_Of ref05_Sum ref02_Cmp ref05_sign x.1 x.2.1=runC lp jn (cx [(60,k60 ref05_sign),(83,k83 ref02_Cmp),(35,k35 ref05_Sum),(84,k84 ref02_Of)] [(24,r24),(22,r22)]) hints 4 34 f34 c34 x F y:=fun x F y=>by kernel_rfl
theorem ok34:c34.ok prog 34:=Ctr.of_den (ctxT_ok (ctxOf_cons (ctxOf_cons (ctxOf_cons (ctxOf_cons (q24) (by kernel_rfl) ok84) (by kernel_rfl) ok35) (by kernel_rfl) ok83) (by kernel_rfl) ok60)) hmix (hl:=hints) (d:=4) func34 rfl (by decide) (e34 lpK jnK ref02_Of ref05_Sum ref02_Cmp ref05_sign)
noncomputable def ref05_Column_b (lp:Lp) (_:Jn) (x0:(List Int)×List ((List Int)×Int×Int)) (x1:Int):Option (List Int) :=
 lp (List Int×Int×PUnit) (List Int) (fun (again:List Int×Int×PUnit→Option (List Int)) (x:List Int×Int×PUnit)=>bif decide (x.2.1<(↑(List.length x0.2):Int)) then
  bif inB x.2.1 (List.length x0.2) then bif inB x1 (List.length (List.getD x0.2 (Int.toNat x.2.1) ([],0,0)).1) then bif fitB (List.length x.1+(1 :
  Nat)) 8 then again (x.1++[List.getD (List.getD x0.2 (Int.toNat x.2.1) ([],0,0)).1 (Int.toNat x1) 0],IntKind.wrap .i64 (x.2.1 +
  1),PUnit.unit) else none else none else none else some x.1) ([],0,PUnit.unit)
noncomputable def ref05_Column (x0:(List Int)×List ((List Int)×Int×Int)) (x1:Int):Option (List Int):=ref05_Column_b lpK jnK x0 x1
abbrev t105:=((List Int)×List ((List Int)×Int×Int))→(Int)→Option (List Int)
noncomputable def c105:Ctr:=⟨[T25,i64],[],[],.one (.sl i64),fun x _ _=>ref05_Column x.1 x.2.1⟩
theorem e105 (lp:Lp) (jn:Jn):∀(x:TsS c105.as) (F:TsF c105.fs) (y:TsS c105.cs),ref05_Column_b lp jn x.1 x.2.1=runC lp jn (cx [] [(24,r24),(22,r22)]) hints 4 105 f105 c105 x F y:=fun x F y=>by kernel_rfl
theorem ok105:c105.ok prog 105:=Ctr.of_den (ctxT_ok (q24)) hmix (hl:=hints) (d:=4) func105 rfl (by decide) (e105 lpK jnK)
noncomputable def ref05_below_b (lp:Lp) (_:Jn) (ref02_Of:t84) (ref05_Sum:t35) (ref02_Cmp:t83) (ref05_Column:t105) (x0:(List Int)×List ((List Int)×Int×Int)) (x1:List (Int×Int)) (x2:List Int):Option (Bool×Int×Unit) :=
 lp (Bool×Int×PUnit) (Bool×Int×PUnit) (fun (again:Bool×Int×PUnit→Option (Bool×Int×PUnit)) (x:Bool×Int×PUnit) =>
 let v7:Bool:=!x.1;
 let v8:Bool:=v7||x.1;bif decide (x.2.1<(↑(List.length x2):Int)) then obind (ref05_Column x0 x.2.1) fun (t:List Int)=>obind (ref05_Sum t x1) fun (t:(Int×Int) ×
  Int×PUnit)=>bif !decide (t.2.1=0) then some (false,t.2.1,PUnit.unit) else bif v8&&(v8&&(v7||inB x.2.1 (List.length x2))) then bif v8 then bif v8 then
  obind (bif x.1 then ref02_Of (List.getD x2 (Int.toNat x.2.1) 0) else some (0,0)) fun (t_1:Int×Int)=>bif v8&&v8 then obind (bif x.1 then
  ref02_Cmp t.1 t_1 else some 0) fun (t:Int)=>bif v8 then bif v8 then again (bif x.1 then decide (t≤0) else false,IntKind.wrap .i64 (x.2.1+(1 :
  Int)),PUnit.unit) else none else none else none else none else none else none else some (x.1,0,PUnit.unit)) (true,0,PUnit.unit)
noncomputable def ref05_below (x0:(List Int)×List ((List Int)×Int×Int)) (x1:List (Int×Int)) (x2:List Int):Option (Bool×Int×Unit):=ref05_below_b lpK jnK ref02_Of ref05_Sum ref02_Cmp ref05_Column x0 x1 x2
abbrev t58:=((List Int)×List ((List Int)×Int×Int))→(List (Int×Int))→(List Int)→Option (Bool×Int×Unit)
noncomputable def k58 (ref05_below:t58):Ctr:=⟨[T25,(.sl T27),(.sl i64)],[],[],.tup [.bool,i64],fun x _ _=>ref05_below x.1 x.2.1 x.2.2.1⟩
noncomputable def c58:Ctr:=k58 ref05_below
theorem e58 (lp:Lp) (jn:Jn) (ref02_Of:t84) (ref05_Sum:t35) (ref02_Cmp:t83) (ref05_Column:t105):∀(x:TsS c58.as) (F:TsF c58.fs) (y:TsS c58.cs),ref05_below_b lp jn ref02_Of ref05_Sum ref02_Cmp ref05_Column x.1 x.2.1 x.2.2.1=runC lp jn (cx [(105,⟨[T25,i64],[],[],.one (.sl i64),fun x _ _=>ref05_Column x.1 x.2.1⟩),(83,k83 ref02_Cmp),(35,k35 ref05_Sum),(84,k84 ref02_Of)] [(24,r24),(22,r22)]) hints 4 58 f58 c58 x F y:=fun x F y=>by kernel_rfl
theorem ok58:c58.ok prog 58:=Ctr.of_den (ctxT_ok (ctxOf_cons (ctxOf_cons (ctxOf_cons (ctxOf_cons (q24) (by kernel_rfl) ok84) (by kernel_rfl) ok35) (by kernel_rfl) ok83) (by kernel_rfl) ok105)) hmix (hl:=hints) (d:=4) func58 rfl (by decide) (e58 lpK jnK ref02_Of ref05_Sum ref02_Cmp ref05_Column)
noncomputable def ref05_Rights_b (lp:Lp) (_:Jn) (x0:(List Int)×List ((List Int)×Int×Int)):Option (List Int) :=
 lp (List Int×Int×PUnit) (List Int) (fun (again:List Int×Int×PUnit→Option (List Int)) (x:List Int×Int×PUnit)=>bif decide (x.2.1<(↑(List.length x0.2):Int)) then
  bif inB x.2.1 (List.length x0.2) then bif fitB (List.length x.1+1) 8 then again (x.1++[(List.getD x0.2 (Int.toNat x.2.1) ([],0,(0 :
  Int))).2.2],IntKind.wrap .i64 (x.2.1+1),PUnit.unit) else none else none else some x.1) ([],0,PUnit.unit)
noncomputable def ref05_Rights (x0:(List Int)×List ((List Int)×Int×Int)):Option (List Int):=ref05_Rights_b lpK jnK x0
abbrev t59:=((List Int)×List ((List Int)×Int×Int))→Option (List Int)
noncomputable def k59 (ref05_Rights:t59):Ctr:=⟨[T25],[],[],.one (.sl i64),fun x _ _=>ref05_Rights x.1⟩
noncomputable def c59:Ctr:=k59 ref05_Rights
theorem e59 (lp:Lp) (jn:Jn):∀(x:TsS c59.as) (F:TsF c59.fs) (y:TsS c59.cs),ref05_Rights_b lp jn x.1=runC lp jn (cx [] [(24,r24),(22,r22)]) hints 4 59 f59 c59 x F y:=fun x F y=>by kernel_rfl
theorem ok59:c59.ok prog 59:=Ctr.of_den (ctxT_ok (q24)) hmix (hl:=hints) (d:=4) func59 rfl (by decide) (e59 lpK jnK)
noncomputable def ref05_Signed_b (lp:Lp) (_:Jn) (ref05_sign:t60) (x0:(List Int)×List ((List Int)×Int×Int)) (x1:List (Int×Int)):Option Bool :=
 lp (Int×PUnit) Bool (fun (again:Int×PUnit→Option Bool) (x:Int×PUnit) =>
 let v6:Bool:=inB x.1 (List.length x1);
 let v7:Bool:=inB x.1 (List.length x0.2);
 let v8:Bool:=decide ((List.getD x0.2 (Int.toNat x.1) ([],0,0)).2.1=1);
 let v9:Bool:=decide ((List.getD x0.2 (Int.toNat x.1) ([],0,0)).2.1=2);
 let v10:Bool:=!v8;
 let v11:Bool:=v10||v8;bif decide (x.1<(↑(List.length x1):Int)) then bif v7 then bif v11&&(v11&&(v10||v6)) then bif v11 then bif v11 then obind (bif v8 then ref05_sign
  (List.getD x1 (Int.toNat x.1) (0,0)) else some 0) fun (t:Int) =>
 let v13:Bool:=bif v8 then decide (t>0) else false;
 let v14:Bool:=!v13;
 let v15:Bool:=!v14;
 let v16:Bool:=v14&&v9;
 let v17:Bool:=!v16;
 let v18:Bool:=v15||v14;
 let v19:Bool:=v17||v16;bif v11 then bif v11 then bif v18 then bif v18&&(v18&&(v15||v7)) then bif v18 then bif v18 then bif v18 then bif v18 then bif v19&&(v19&&(v17 ||
  v6)) then bif v19 then bif v19 then obind (bif v16 then ref05_sign (List.getD x1 (Int.toNat x.1) (0,0)) else some 0) fun (t:Int)=>bif v19 then bif (v15 ||
  v18)&&(v15||(!v9||(v15||v16))) then bif v13||v14 then bif bif v13 then true else bif v9 then decide (t<0) else false then some false else again (IntKind.wrap
  IntKind.i64 (x.1+1),PUnit.unit) else none else none else none else none else none else none else none else none else none else none else none else none else none else none
  else none else none else none else none else some true) (0,PUnit.unit)
noncomputable def ref05_Signed (x0:(List Int)×List ((List Int)×Int×Int)) (x1:List (Int×Int)):Option Bool:=ref05_Signed_b lpK jnK ref05_sign x0 x1
abbrev t61:=((List Int)×List ((List Int)×Int×Int))→(List (Int×Int))→Option (Bool)
noncomputable def k61 (ref05_Signed:t61):Ctr:=⟨[T25,(.sl T27)],[],[],.one .bool,fun x _ _=>ref05_Signed x.1 x.2.1⟩
noncomputable def c61:Ctr:=k61 ref05_Signed
theorem e61 (lp:Lp) (jn:Jn) (ref05_sign:t60):∀(x:TsS c61.as) (F:TsF c61.fs) (y:TsS c61.cs),ref05_Signed_b lp jn ref05_sign x.1 x.2.1=runC lp jn (cx [(60,k60 ref05_sign)] [(24,r24),(22,r22)]) hints 4 61 f61 c61 x F y:=fun x F y=>by kernel_rfl
theorem ok61:c61.ok prog 61:=Ctr.of_den (ctxT_ok (ctxOf_cons (q24) (by kernel_rfl) ok60)) hmix (hl:=hints) (d:=4) func61 rfl (by decide) (e61 lpK jnK ref05_sign)
noncomputable def ref05_Proves_b (_:Lp) (_:Jn) (ref05_Sum:t35) (ref05_below:t58) (ref05_Rights:t59) (ref05_Signed:t61) (x0:(List Int)×List ((List Int)×Int×Int)) (x1:List (Int×Int)) (x2:Int×Int):Option (Bool×Int×Unit) :=
 obind (ref05_below x0 x1 x0.1) fun (t:Bool×Int×PUnit) =>
 let v6:Bool:=!t.1||t.1;bif !decide (t.2.1=0) then some (false,t.2.1,PUnit.unit) else obind (ref05_Rights x0) fun (t_1:List Int)=>obind (ref05_Sum t_1
  x1) fun (t_2:(Int×Int)×Int×PUnit) =>
 let v9:Bool:=bif t.1 then decide (t_2.1.1=x2.1)&&(decide (t_2.1.2=x2.2)&&true) else false;
 let v10:Bool:=!v9||v9;bif v6&&v6 then bif v6 then bif v10&&v10 then obind (bif v9 then ref05_Signed x0 x1 else some false) fun (t:Bool)=>bif v10 then some (bif v9 then t
  else false,t_2.2.1,PUnit.unit) else none else none else none else none
noncomputable def ref05_Proves (x0:(List Int)×List ((List Int)×Int×Int)) (x1:List (Int×Int)) (x2:Int×Int):Option (Bool×Int×Unit):=ref05_Proves_b lpK jnK ref05_Sum ref05_below ref05_Rights ref05_Signed x0 x1 x2
abbrev t57:=((List Int)×List ((List Int)×Int×Int))→(List (Int×Int))→(Int×Int)→Option (Bool×Int×Unit)
noncomputable def k57 (ref05_Proves:t57):Ctr:=⟨[T25,(.sl T27),T27],[],[],.tup [.bool,i64],fun x _ _=>ref05_Proves x.1 x.2.1 x.2.2.1⟩
noncomputable def c57:Ctr:=k57 ref05_Proves
theorem e57 (lp:Lp) (jn:Jn) (ref05_Sum:t35) (ref05_below:t58) (ref05_Rights:t59) (ref05_Signed:t61):∀(x:TsS c57.as) (F:TsF c57.fs) (y:TsS c57.cs),ref05_Proves_b lp jn ref05_Sum ref05_below ref05_Rights ref05_Signed x.1 x.2.1 x.2.2.1=runC lp jn (cx [(61,k61 ref05_Signed),(59,k59 ref05_Rights),(58,k58 ref05_below),(35,k35 ref05_Sum)] [(24,r24),(22,r22)]) hints 4 57 f57 c57 x F y:=fun x F y=>by kernel_rfl
theorem ok57:c57.ok prog 57:=Ctr.of_den (ctxT_ok (ctxOf_cons (ctxOf_cons (ctxOf_cons (ctxOf_cons (q24) (by kernel_rfl) ok35) (by kernel_rfl) ok58) (by kernel_rfl) ok59) (by kernel_rfl) ok61)) hmix (hl:=hints) (d:=4) func57 rfl (by decide) (e57 lpK jnK ref05_Sum ref05_below ref05_Rights ref05_Signed)
noncomputable def ref05_Check_b (_:Lp) (_:Jn) (ref05_Sum:t35) (ref05_Feasible:t34) (ref05_Proves:t57) (x0:(List Int)×List ((List Int)×Int×Int)) (x1:(Int×Int)×(List (Int×Int))×List (Int×Int)):Option (Bool×Int×Unit) :=
 obind (ref05_Feasible x0 x1.2.1) fun (t:Bool×Int×PUnit) =>
 let v5:Bool:=!t.1||t.1;
 let v6:Bool:=!decide (t.2.1=0);
 let v7:Bool:=!v6;obind (ref05_Sum x0.1 x1.2.1) fun (t_1:(Int×Int)×Int×PUnit) =>
 let v9:Bool:=bif v6 then true else !decide (t_1.2.1=0);
 let v10:Bool:=!v9;
 let v11:Bool:=bif t.1 then decide (t_1.1.1=x1.1.1)&&(decide (t_1.1.2=x1.1.2)&&true) else false;obind (ref05_Proves x0 x1.2.2 x1.1) fun (t:Bool×Int
  × PUnit)=>bif !v7||v7 then bif v6||v7 then bif !v10||v10 then bif v9||v10 then bif bif v9 then true else !decide (t.2.1=0) then some (false,5,
  PUnit.unit) else bif v5 then bif v5&&v5 then bif v5 then bif !v11||v11 then some (bif v11 then t.1 else false,0,PUnit.unit) else none else none else none else none else
  none else none else none else none
noncomputable def ref05_Check (x0:(List Int)×List ((List Int)×Int×Int)) (x1:(Int×Int)×(List (Int×Int))×List (Int×Int)):Option (Bool×Int×Unit):=ref05_Check_b lpK jnK ref05_Sum ref05_Feasible ref05_Proves x0 x1
abbrev t19:=((List Int)×List ((List Int)×Int×Int))→((Int×Int)×(List (Int×Int))×List (Int×Int))→Option (Bool×Int×Unit)
noncomputable def c19:Ctr:=⟨[T25,T30],[],[],.tup [.bool,i64],fun x _ _=>ref05_Check x.1 x.2.1⟩
theorem e19 (lp:Lp) (jn:Jn) (ref05_Sum:t35) (ref05_Feasible:t34) (ref05_Proves:t57):∀(x:TsS c19.as) (F:TsF c19.fs) (y:TsS c19.cs),ref05_Check_b lp jn ref05_Sum ref05_Feasible ref05_Proves x.1 x.2.1=runC lp jn (cx [(57,k57 ref05_Proves),(34,k34 ref05_Feasible),(35,k35 ref05_Sum)] [(24,r24),(22,r22)]) hints 4 19 f19 c19 x F y:=fun x F y=>by kernel_rfl
theorem ok19:c19.ok prog 19:=Ctr.of_den (ctxT_ok (ctxOf_cons (ctxOf_cons (ctxOf_cons (q24) (by kernel_rfl) ok35) (by kernel_rfl) ok34) (by kernel_rfl) ok57)) hmix (hl:=hints) (d:=4) func19 rfl (by decide) (e19 lpK jnK ref05_Sum ref05_Feasible ref05_Proves)
noncomputable def ref05_Refutes_b (_:Lp) (_:Jn) (ref05_Sum:t35) (ref05_sign:t60) (ref05_below:t58) (ref05_Rights:t59) (ref05_Signed:t61) (x0:(List Int)×List ((List Int)×Int×Int)) (x1:List (Int×Int)):Option (Bool×Int×Unit) :=
 bif decide (0≤(↑(List.length x0.1):Int))&&fitB (Int.toNat (↑(List.length x0.1):Int)) 8 then obind (ref05_below x0 x1 (List.replicate (Int.toNat (↑(List.length
  x0.1):Int)) 0)) fun (t:Bool×Int×PUnit) =>
 let v5:Bool:=!t.1||t.1;bif !decide (t.2.1=0) then some (false,t.2.1,PUnit.unit) else obind (ref05_Rights x0) fun (t_1:List Int)=>obind (ref05_Sum t_1
  x1) fun (t_2:(Int×Int)×Int×PUnit)=>bif !decide (t_2.2.1=0) then some (false,t_2.2.1,PUnit.unit) else bif v5 then obind (bif t.1 then ref05_sign t_2.1
  else some 0) fun (t_3:Int) =>
 let v9:Bool:=bif t.1 then decide (t_3>0) else false;
 let v10:Bool:=!v9||v9;bif v5 then bif v5 then bif v10&&v10 then obind (bif v9 then ref05_Signed x0 x1 else some false) fun (t:Bool)=>bif v10 then some (bif v9 then t else
  false,0,PUnit.unit) else none else none else none else none else none else none
noncomputable def ref05_Refutes (x0:(List Int)×List ((List Int)×Int×Int)) (x1:List (Int×Int)):Option (Bool×Int×Unit):=ref05_Refutes_b lpK jnK ref05_Sum ref05_sign ref05_below ref05_Rights ref05_Signed x0 x1
abbrev t20:=((List Int)×List ((List Int)×Int×Int))→(List (Int×Int))→Option (Bool×Int×Unit)
noncomputable def k20 (ref05_Refutes:t20):Ctr:=⟨[T25,(.sl T27)],[],[],.tup [.bool,i64],fun x _ _=>ref05_Refutes x.1 x.2.1⟩
noncomputable def c20:Ctr:=k20 ref05_Refutes
theorem e20 (lp:Lp) (jn:Jn) (ref05_Sum:t35) (ref05_sign:t60) (ref05_below:t58) (ref05_Rights:t59) (ref05_Signed:t61):∀(x:TsS c20.as) (F:TsF c20.fs) (y:TsS c20.cs),ref05_Refutes_b lp jn ref05_Sum ref05_sign ref05_below ref05_Rights ref05_Signed x.1 x.2.1=runC lp jn (cx [(61,k61 ref05_Signed),(59,k59 ref05_Rights),(58,k58 ref05_below),(60,k60 ref05_sign),(35,k35 ref05_Sum)] [(24,r24),(22,r22)]) hints 4 20 f20 c20 x F y:=fun x F y=>by kernel_rfl
theorem ok20:c20.ok prog 20:=Ctr.of_den (ctxT_ok (ctxOf_cons (ctxOf_cons (ctxOf_cons (ctxOf_cons (ctxOf_cons (q24) (by kernel_rfl) ok35) (by kernel_rfl) ok60) (by kernel_rfl) ok58) (by kernel_rfl) ok59) (by kernel_rfl) ok61)) hmix (hl:=hints) (d:=4) func20 rfl (by decide) (e20 lpK jnK ref05_Sum ref05_sign ref05_below ref05_Rights ref05_Signed)
noncomputable def law05_ProgramChecks_b (_:Lp) (jn:Jn) (program_Check:t14) (program_Refutes:t15) (law05_awake:t11) (law05_few:t12) (law05_short:t13) (ref05_Valid:t16) (ref02_Valid:t17) (ref02_All:t18) (ref05_Check:t19) (ref05_Refutes:t20) (x0:(List Int)×List ((List Int)×Int×Int)) (x1:(Int×Int)×(List (Int×Int))×List (Int×Int)) (x2:List (Int×Int)):Option Bool :=
 
 let v5:Bool:=!decide ((↑(List.length x1.2.1):Int)=(↑(List.length x0.1):Int));
 let v6:Bool:=!v5;
 let v7:Bool:=!v6||v6;obind law05_awake fun (t:Bool)=>bif !t then some false else obind (law05_few x0) fun (t:Bool) =>
 let v10:Bool:=!t;
 let v11:Bool:=!v10;
 let v12:Bool:=!v11||v11;bif v12 then bif v12 then bif v12&&(v12&&v12) then bif v12 then obind (bif v11 then law05_short [x1.2.1,x1.2.2,x2] else some false) fun (t :
  Bool)=>bif v12 then bif v10||v11 then bif bif v10 then true else !t then some true else obind (program_Check x0 x1) fun (t:Bool×Int×PUnit) =>
 let v15:Bool:=!t.1;
 let v16:Bool:=t.1||v15;
 let v17:Bool:=!v15||v15;obind (program_Refutes x0 x2) fun (t_1:Bool×Int×PUnit) =>
 let v19:Bool:=!t_1.1;
 let v20:Bool:=!v19||v19;obind (ref05_Valid x0) fun (t_2:Bool) =>
 let v22:Bool:=!t_2;
 let v23:Bool:=!v22;
 let v24:Bool:=v22||v23;
 let v25:Bool:=!v23||v23;bif v25 then bif v25 then obind (bif v23 then ref02_Valid x1.1 else some false) fun (t_3:Bool) =>
 let v27:Bool:=bif v22 then true else !t_3;
 let v28:Bool:=!v27;
 let v29:Bool:=!v28||v28;bif v25 then bif v24 then bif v29 then bif v29 then obind (bif v28 then ref02_All x1.2.1 else some false) fun (t_4:Bool) =>
 let v31:Bool:=bif v27 then true else !t_4;
 let v32:Bool:=!v31;
 let v33:Bool:=!v32||v32;bif v29 then bif v27||v28 then bif v33 then bif v33 then obind (bif v32 then ref02_All x1.2.2 else some false) fun (t_5:Bool)=>bif v33 then bif
  v31||v32 then jn PUnit Bool (fun (_:PUnit)=>bif v25 then obind (bif v23 then ref02_All x2 else some false) fun (t:Bool)=>bif v25 then bif v24 then bif bif v22 then true else
  !t then bif v20 then bif v20 then some (bif v19 then decide (t_1.2.1=1) else false) else none else none else bif !decide ((↑(List.length x2):Int)=(↑(List.length
  x0.2):Int)) then bif v20 then bif v20 then some (bif v19 then decide (t_1.2.1=3) else false) else none else none else obind (ref05_Refutes x0 x2) fun (t:Bool×Int ×
  PUnit) =>
 let v38:Bool:=decide (t_1.1=t.1);
 let v39:Bool:=!v38||v38;bif v39&&v39 then bif v39 then some (bif v38 then decide (t_1.2.1=t.2.1) else false) else none else none else none else none else none) fun (j :
  PUnit→Option Bool)=>bif bif v31 then true else !t_5 then bif v17 then bif v16 then bif bif t.1 then true else !decide (t.2.1=1) then some false else j PUnit.unit
  else none else none else bif v7 then bif v7 then bif v7 then bif v7 then bif v7&&v7 then bif v5||v6 then jn PUnit Bool (fun (_:PUnit)=>j PUnit.unit) fun (j:PUnit→Option
  Bool)=>bif bif v5 then true else !decide ((↑(List.length x1.2.2):Int)=(↑(List.length x0.2):Int)) then bif v17 then bif v16 then bif bif t.1 then true else !decide
  (t.2.1=3) then some false else j PUnit.unit else none else none else obind (ref05_Check x0 x1) fun (t_6:Bool×Int×PUnit) =>
 let v38:Bool:=!decide (t.1=t_6.1);
 let v39:Bool:=!v38;
 let v40:Bool:=!v39||v39;bif v40&&v40 then bif v38||v39 then bif bif v38 then true else !decide (t.2.1=t_6.2.1) then some false else j PUnit.unit else none else none
  else none else none else none else none else none else none else none else none else none else none else none else none else none else none else none else none else none else none else
  none else none else none else none else none else none
noncomputable def law05_ProgramChecks (x0:(List Int)×List ((List Int)×Int×Int)) (x1:(Int×Int)×(List (Int×Int))×List (Int×Int)) (x2:List (Int×Int)):Option Bool:=law05_ProgramChecks_b lpK jnK program_Check program_Refutes law05_awake law05_few law05_short ref05_Valid ref02_Valid ref02_All ref05_Check ref05_Refutes x0 x1 x2
noncomputable def c3:Ctr:=⟨[T25,T30,(.sl T27)],[],[],.one .bool,fun x _ _=>law05_ProgramChecks x.1 x.2.1 x.2.2.1⟩
theorem e3 (lp:Lp) (jn:Jn) (program_Check:t14) (program_Refutes:t15) (law05_awake:t11) (law05_few:t12) (law05_short:t13) (ref05_Valid:t16) (ref02_Valid:t17) (ref02_All:t18) (ref05_Check:t19) (ref05_Refutes:t20):∀(x:TsS c3.as) (F:TsF c3.fs) (y:TsS c3.cs),law05_ProgramChecks_b lp jn program_Check program_Refutes law05_awake law05_few law05_short ref05_Valid ref02_Valid ref02_All ref05_Check ref05_Refutes x.1 x.2.1 x.2.2.1=runC lp jn (cx [(20,k20 ref05_Refutes),(19,⟨[T25,T30],[],[],.tup [.bool,i64],fun x _ _=>ref05_Check x.1 x.2.1⟩),(18,k18 ref02_All),(17,k17 ref02_Valid),(16,k16 ref05_Valid),(13,k13 law05_short),(12,k12 law05_few),(11,k11 law05_awake),(15,k15 program_Refutes),(14,k14 program_Check)] [(24,r24),(22,r22)]) hints 4 3 f3 c3 x F y:=fun x F y=>by kernel_rfl
theorem ok3:c3.ok prog 3:=Ctr.of_den (ctxT_ok (ctxOf_cons (ctxOf_cons (ctxOf_cons (ctxOf_cons (ctxOf_cons (ctxOf_cons (ctxOf_cons (ctxOf_cons (ctxOf_cons (ctxOf_cons (q24) (by kernel_rfl) ok14) (by kernel_rfl) ok15) (by kernel_rfl) ok11) (by kernel_rfl) ok12) (by kernel_rfl) ok13) (by kernel_rfl) ok16) (by kernel_rfl) ok17) (by kernel_rfl) ok18) (by kernel_rfl) ok19) (by kernel_rfl) ok20)) hmix (hl:=hints) (d:=4) func3 rfl (by decide) (e3 lpK jnK program_Check program_Refutes law05_awake law05_few law05_short ref05_Valid ref02_Valid ref02_All ref05_Check ref05_Refutes)
noncomputable def law05_empty_b (_:Lp) (_:Jn) (x0:(Int×Int)×(List (Int×Int))×List (Int×Int)):Option Bool :=
 
 let v3:Bool:=decide (x0.1.1=0)&&(decide (x0.1.2=0)&&true);
 let v4:Bool:=bif v3 then decide ((↑(List.length x0.2.1):Int)=0) else false;
 let v5:Bool:=!v3||v3;
 let v6:Bool:=!v4||v4;bif v5 then bif v5 then bif v5 then bif v5 then bif v6 then bif v6 then bif v6 then bif v6 then some (bif v4 then decide ((↑(List.length x0.2.2):Int) =
  0) else false) else none else none else none else none else none else none else none else none
noncomputable def law05_empty (x0:(Int×Int)×(List (Int×Int))×List (Int×Int)):Option Bool:=law05_empty_b lpK jnK x0
abbrev t25:=((Int×Int)×(List (Int×Int))×List (Int×Int))→Option (Bool)
noncomputable def k25 (law05_empty:t25):Ctr:=⟨[T30],[],[],.one .bool,fun x _ _=>law05_empty x.1⟩
noncomputable def c25:Ctr:=k25 law05_empty
theorem e25 (lp:Lp) (jn:Jn):∀(x:TsS c25.as) (F:TsF c25.fs) (y:TsS c25.cs),law05_empty_b lp jn x.1=runC lp jn (cx [] [(24,r24),(22,r22)]) hints 4 25 f25 c25 x F y:=fun x F y=>by kernel_rfl
theorem ok25:c25.ok prog 25:=Ctr.of_den (ctxT_ok (q24)) hmix (hl:=hints) (d:=4) func25 rfl (by decide) (e25 lpK jnK)
noncomputable def law05_ProgramMore_b (lp:Lp) (_:Jn) (_:(Int×Int)→(Int×Int)→Option (Int×Int×Unit)) (program_Solve:t21) (law05_awake:t11) (law05_few:t12) (_:((Int×Int)×(List (Int×Int))×List (Int×Int))→Option (Bool)) (slices_Clone_22:t22) (_:(List ((List Int)×Int×Int))→Option (List ((List Int)×Int×Int))) (x0:(List Int)×List ((List Int)×Int×Int)) (x1:(List Int)×Int×Int):Option Bool :=
 obind law05_awake fun (t:Bool)=>bif !t then some false else obind (law05_few x0) fun (t:Bool) =>
 let v6:Bool:=!t;
 let v7:Bool:=!v6;
 let v8:Bool:=!v7||v7;bif v8 then bif v8 then bif v8 then bif v6||v7 then bif bif v6 then true else decide ((↑(List.length x1.1):Int)>14) then some true else obind
  (program_Solve x0) fun (_:((Int×Int)×List (Int×Int)×List (Int×Int))×Int×PUnit)=>obind (slices_Clone_22 x0.1) fun (t:List Int)=>lp (Int×Int×List Int×PUnit)
  Bool (fun (again:Int×Int×List Int×PUnit→Option Bool) (x:Int×Int×List Int×PUnit) =>
 let v13:Bool:=inB x.1 (List.length x.2.2.1);
 let v14:Bool:=Nat.ble (Nat.succ (Int.toNat x.1)) (List.length x.2.2.1);
 let v15:Bool:=inB x.2.1 (List.length x.2.2.1);
 let v16:Bool:=Nat.ble (Nat.succ (Int.toNat x.2.1)) (List.length x.2.2.1);bif decide (x.1<x.2.1) then bif v15 then bif v16 then bif v13 then bif v14 then bif v13
  then bif v14 then bif v15 then bif v16 then again (IntKind.wrap .i64 (x.1+1),IntKind.wrap .i64 (x.2.1 - 1),List.set (List.set x.2.2.1
  (Int.toNat x.1) (List.getD x.2.2.1 (Int.toNat x.2.1) 0)) (Int.toNat x.2.1) (List.getD x.2.2.1 (Int.toNat x.1) 0),PUnit.unit) else none else none
  else none else none else none else none else none else none else none) (0,IntKind.wrap .i64 ((↑(List.length t):Int) - 1),t,PUnit.unit) else none else none
  else none else none
noncomputable def law05_ProgramMore (x0:(List Int)×List ((List Int)×Int×Int)) (x1:(List Int)×Int×Int):Option Bool:=law05_ProgramMore_b lpK jnK ratio_Cmp program_Solve law05_awake law05_few law05_empty slices_Clone_22 slices_Clone_24 x0 x1
noncomputable def c4:Ctr:=⟨[T25,T45],[],[],.one .bool,fun x _ _=>law05_ProgramMore x.1 x.2.1⟩
theorem e4 (lp:Lp) (jn:Jn) (ratio_Cmp:t26) (program_Solve:t21) (law05_awake:t11) (law05_few:t12) (law05_empty:t25) (slices_Clone_22:t22) (slices_Clone_24:(List ((List Int)×Int×Int))→Option (List ((List Int)×Int×Int))):∀(x:TsS c4.as) (F:TsF c4.fs) (y:TsS c4.cs),law05_ProgramMore_b lp jn ratio_Cmp program_Solve law05_awake law05_few law05_empty slices_Clone_22 slices_Clone_24 x.1 x.2.1=runC lp jn (cx [(25,k25 law05_empty),(12,k12 law05_few),(11,k11 law05_awake),(21,k21 program_Solve),(26,k26 ratio_Cmp)] [(24,⟨[(.sl T45)],45,T45,fun x=>slices_Clone_24 x.1⟩),(22,k22 slices_Clone_22)]) hints 4 4 f4 c4 x F y:=fun x F y=>by kernel_rfl
noncomputable def ref05_size_b (_:Lp) (_:Jn) (x0:Int):Option Int :=
 some (if IntKind.wrap .i64 (0 - x0)>x0 then IntKind.wrap .i64 (0 - x0) else x0)
noncomputable def ref05_size (x0:Int):Option Int:=ref05_size_b lpK jnK x0
abbrev t114:=(Int)→Option (Int)
noncomputable def c114:Ctr:=⟨[i64],[],[],.one i64,fun x _ _=>ref05_size x.1⟩
theorem e114 (lp:Lp) (jn:Jn):∀(x:TsS c114.as) (F:TsF c114.fs) (y:TsS c114.cs),ref05_size_b lp jn x.1=runC lp jn (cx [] [(24,r24),(22,r22)]) hints 4 114 f114 c114 x F y:=fun x F y=>by kernel_rfl
theorem ok114:c114.ok prog 114:=Ctr.of_den (ctxT_ok (q24)) hmix (hl:=hints) (d:=4) func114 rfl (by decide) (e114 lpK jnK)
noncomputable def ref05_Factors_b (lp:Lp) (_:Jn) (ref05_size:t114) (x0:(List Int)×List ((List Int)×Int×Int)):Option (List Int) :=
 lp (Int×Int×PUnit) (List Int) (fun (again:Int×Int×PUnit→Option (List Int)) (x:Int×Int×PUnit)=>bif decide (x.2.1<(↑(List.length x0.1):Int)) then bif inB
  x.2.1 (List.length x0.1) then obind (ref05_size (List.getD x0.1 (Int.toNat x.2.1) 0)) fun (t:Int)=>again (IntKind.wrap .i64 (x.1+t),IntKind.wrap
  IntKind.i64 (x.2.1+1),PUnit.unit) else none else lp (List Int×Int×PUnit) (List Int) (fun (again:List Int×Int×PUnit→Option (List Int)) (x:List Int×Int ×
  PUnit) =>
 let v7:Bool:=inB x.2.1 (List.length x0.2);
 let v8:List Int×Int×Int:=List.getD x0.2 (Int.toNat x.2.1) ([],0,0);bif decide (x.2.1<(↑(List.length x0.2):Int)) then bif v7 then obind
  (ref05_size v8.2.2) fun (t:Int)=>lp (Int×Int×PUnit) (List Int) (fun (again_1:Int×Int×PUnit→Option (List Int)) (x_1:Int×Int×PUnit)=>bif decide (x_1.2.1 <
  (↑(List.length x0.1):Int)) then bif v7 then bif inB x_1.2.1 (List.length v8.1) then obind (ref05_size (List.getD v8.1 (Int.toNat x_1.2.1) 0)) fun (t:Int) =>
  again_1 (IntKind.wrap .i64 (x_1.1+t),IntKind.wrap .i64 (x_1.2.1+1),PUnit.unit) else none else none else bif fitB (List.length x.1+1) (8 :
  Nat) then again (x.1++[x_1.1],IntKind.wrap .i64 (x.2.1+1),PUnit.unit) else none) (IntKind.wrap .i64 (1+t),0,PUnit.unit) else none
  else some x.1) ([x.1],0,PUnit.unit)) (1,0,PUnit.unit)
noncomputable def ref05_Factors (x0:(List Int)×List ((List Int)×Int×Int)):Option (List Int):=ref05_Factors_b lpK jnK ref05_size x0
abbrev t71:=((List Int)×List ((List Int)×Int×Int))→Option (List Int)
noncomputable def k71 (ref05_Factors:t71):Ctr:=⟨[T25],[],[],.one (.sl i64),fun x _ _=>ref05_Factors x.1⟩
noncomputable def c71:Ctr:=k71 ref05_Factors
theorem e71 (lp:Lp) (jn:Jn) (ref05_size:t114):∀(x:TsS c71.as) (F:TsF c71.fs) (y:TsS c71.cs),ref05_Factors_b lp jn ref05_size x.1=runC lp jn (cx [(114,⟨[i64],[],[],.one i64,fun x _ _=>ref05_size x.1⟩)] [(24,r24),(22,r22)]) hints 4 71 f71 c71 x F y:=fun x F y=>by kernel_rfl
theorem ok71:c71.ok prog 71:=Ctr.of_den (ctxT_ok (ctxOf_cons (q24) (by kernel_rfl) ok114)) hmix (hl:=hints) (d:=4) func71 rfl (by decide) (e71 lpK jnK ref05_size)
noncomputable def ref05_product_b (lp:Lp) (_:Jn) (x0:List Int) (x1:Int):Option (Int×Bool×Unit) :=
 lp (Int×Int×PUnit) (Int×Bool×PUnit) (fun (again:Int×Int×PUnit→Option (Int×Bool×PUnit)) (x:Int×Int×PUnit) =>
 let v6:Bool:=inB x.2.1 (List.length x0);bif decide (x.2.1<(↑(List.length x0):Int)) then bif v6 then bif nzB x.1 then bif decide (List.getD x0 (Int.toNat x.2.1) (0 :
  Int)>IntKind.wrap .i64 (Int.tdiv x1 x.1)) then some (0,false,PUnit.unit) else bif v6 then again (IntKind.wrap .i64 (x.1*List.getD x0 (Int.toNat
  x.2.1) 0),IntKind.wrap .i64 (x.2.1+1),PUnit.unit) else none else none else none else some (x.1,true,PUnit.unit)) (1,0,PUnit.unit)
noncomputable def ref05_product (x0:List Int) (x1:Int):Option (Int×Bool×Unit):=ref05_product_b lpK jnK x0 x1
abbrev t72:=(List Int)→(Int)→Option (Int×Bool×Unit)
noncomputable def k72 (ref05_product:t72):Ctr:=⟨[(.sl i64),i64],[],[],.tup [i64,.bool],fun x _ _=>ref05_product x.1 x.2.1⟩
noncomputable def c72:Ctr:=k72 ref05_product
theorem e72 (lp:Lp) (jn:Jn):∀(x:TsS c72.as) (F:TsF c72.fs) (y:TsS c72.cs),ref05_product_b lp jn x.1 x.2.1=runC lp jn (cx [] [(24,r24),(22,r22)]) hints 4 72 f72 c72 x F y:=fun x F y=>by kernel_rfl
theorem ok72:c72.ok prog 72:=Ctr.of_den (ctxT_ok (q24)) hmix (hl:=hints) (d:=4) func72 rfl (by decide) (e72 lpK jnK)
noncomputable def ref05_Fits_b (lp:Lp) (_:Jn) (ref05_Factors:t71) (ref05_product:t72) (x0:(List Int)×List ((List Int)×Int×Int)):Option Bool :=
 obind (ref05_Factors x0) fun (t:List Int)=>obind (ref05_product t 17592186044416) fun (t_1:Int×Bool×PUnit) =>
 let v5:Bool:=!t_1.2.1;
 let v6:Int:=IntKind.wrap .i64 (Int.tdiv 144115188075855872 t_1.1);
 let v7:Bool:=v5||t_1.2.1;lp (Int×Int×PUnit) Bool (fun (again:Int×Int×PUnit→Option Bool) (x:Int×Int×PUnit)=>bif decide (x.2.1<(↑(List.length t):Int))
  then bif inB x.2.1 (List.length t) then again (if List.getD t (Int.toNat x.2.1) 0>x.1 then List.getD t (Int.toNat x.2.1) 0 else x.1,IntKind.wrap
  IntKind.i64 (x.2.1+1),PUnit.unit) else none else bif v7&&(v5||nzB t_1.1) then bif v7&&v7 then bif v7 then some (bif t_1.2.1 then decide (x.1≤v6) else
  false) else none else none else none) (0,0,PUnit.unit)
noncomputable def ref05_Fits (x0:(List Int)×List ((List Int)×Int×Int)):Option Bool:=ref05_Fits_b lpK jnK ref05_Factors ref05_product x0
abbrev t27:=((List Int)×List ((List Int)×Int×Int))→Option (Bool)
noncomputable def c27:Ctr:=⟨[T25],[],[],.one .bool,fun x _ _=>ref05_Fits x.1⟩
theorem e27 (lp:Lp) (jn:Jn) (ref05_Factors:t71) (ref05_product:t72):∀(x:TsS c27.as) (F:TsF c27.fs) (y:TsS c27.cs),ref05_Fits_b lp jn ref05_Factors ref05_product x.1=runC lp jn (cx [(72,k72 ref05_product),(71,k71 ref05_Factors)] [(24,r24),(22,r22)]) hints 4 27 f27 c27 x F y:=fun x F y=>by kernel_rfl
theorem ok27:c27.ok prog 27:=Ctr.of_den (ctxT_ok (ctxOf_cons (ctxOf_cons (q24) (by kernel_rfl) ok71) (by kernel_rfl) ok72)) hmix (hl:=hints) (d:=4) func27 rfl (by decide) (e27 lpK jnK ref05_Factors ref05_product)
noncomputable def ref05_Small_b (_:Lp) (_:Jn) (ref05_Factors:t71) (ref05_product:t72) (x0:(List Int)×List ((List Int)×Int×Int)):Option Bool :=
 obind (ref05_Factors x0) fun (t:List Int)=>obind (ref05_product t 536870912) fun (t:Int×Bool×PUnit)=>some t.2.1
noncomputable def ref05_Small (x0:(List Int)×List ((List Int)×Int×Int)):Option Bool:=ref05_Small_b lpK jnK ref05_Factors ref05_product x0
abbrev t28:=((List Int)×List ((List Int)×Int×Int))→Option (Bool)
noncomputable def c28:Ctr:=⟨[T25],[],[],.one .bool,fun x _ _=>ref05_Small x.1⟩
theorem e28 (lp:Lp) (jn:Jn) (ref05_Factors:t71) (ref05_product:t72):∀(x:TsS c28.as) (F:TsF c28.fs) (y:TsS c28.cs),ref05_Small_b lp jn ref05_Factors ref05_product x.1=runC lp jn (cx [(72,k72 ref05_product),(71,k71 ref05_Factors)] [(24,r24),(22,r22)]) hints 4 28 f28 c28 x F y:=fun x F y=>by kernel_rfl
theorem ok28:c28.ok prog 28:=Ctr.of_den (ctxT_ok (ctxOf_cons (ctxOf_cons (q24) (by kernel_rfl) ok71) (by kernel_rfl) ok72)) hmix (hl:=hints) (d:=4) func28 rfl (by decide) (e28 lpK jnK ref05_Factors ref05_product)
noncomputable def program_Farkas_b (lp:Lp) (jn:Jn) (program_Valid:t33) (program_fits:t62) (slices_Clone_22:t22) (program_table_start:t64) (program_table_artificial:t73) (program_table_part:t67) (x0:(List Int)×List ((List Int)×Int×Int)):Option ((List (Int×Int))×Int×Unit) :=
 obind (program_Valid x0) fun (t:Bool)=>bif !t then some ([],1,PUnit.unit) else obind (program_fits x0) fun (t:Bool)=>bif !t then some ([],5,PUnit.unit) else lp
  (Int×Int×PUnit) (List (Int×Int)×Int×PUnit) (fun (again:Int×Int×PUnit→Option (List (Int×Int)×Int×PUnit)) (x:Int×Int×PUnit) =>
 let v7:Int×PUnit:=(IntKind.wrap .i64 (x.2.1+1),PUnit.unit);
 let v8:Int:=IntKind.wrap .i64 ((↑(List.length x0.1):Int)+x.1);bif decide (x.2.1<(↑(List.length x0.2):Int)) then bif inB x.2.1 (List.length x0.2) then
  bif !decide ((List.getD x0.2 (Int.toNat x.2.1) ([],0,0)).2.1=3) then again (IntKind.wrap .i64 (x.1+1),v7) else again (x.1,
  v7) else none else obind (slices_Clone_22 x0.1) fun (t:List Int)=>lp (Int×Int×(List Nat×List (Option (List Int)))×Int×List Int×List Int×List Int×Int×Int×PUnit)
  (List (Int×Int)×Int×PUnit) (fun (again:Int×Int×(List Nat×List (Option (List Int)))×Int×List Int×List Int×List Int×Int×Int×PUnit→Option (List (Int×Int) ×
  Int×PUnit)) (x:Int×Int×(List Nat×List (Option (List Int)))×Int×List Int×List Int×List Int×Int×Int×PUnit) =>
 let v12:Int:=IntKind.wrap .i64 (x.1+1);
 let v13:List Int×Int×Int:=List.getD x0.2 (Int.toNat x.2.1) ([],0,0);
 let v14:List Int:=List.replicate (Int.toNat (IntKind.wrap .i64 (x.2.2.2.2.2.2.2.2.1+1))) 0;
 let v15:Bool:=inB x.1 (Int.toNat (IntKind.wrap .i64 (x.2.2.2.2.2.2.2.2.1+1)));
 let v16:Bool:=Nat.ble (Nat.succ (Int.toNat x.1)) (Int.toNat (IntKind.wrap .i64 (x.2.2.2.2.2.2.2.2.1+1)));
 let v17:Int:=IntKind.wrap .i64 (x.2.2.2.2.2.2.2.1+x.2.1);
 let v18:List Int:=List.take (Int.toNat (IntKind.wrap .i64 (x.2.2.2.2.2.2.2.2.1+1))) v13.1;
 let v19:List Int:=List.set (List.take 0 v14++v18++List.drop (0+List.length v18) v14) (Int.toNat x.2.2.2.2.2.2.2.2.1) v13.2.2;bif decide
  (x.2.1<(↑(List.length x0.2):Int)) then bif inB x.2.1 (List.length x0.2) then bif decide (0≤IntKind.wrap .i64 (x.2.2.2.2.2.2.2.2.1+(1
  : Int)))&&fitB (Int.toNat (IntKind.wrap .i64 (x.2.2.2.2.2.2.2.2.1+1))) 8 then bif inB x.2.2.2.2.2.2.2.2.1 (Int.toNat
  (IntKind.wrap .i64 (x.2.2.2.2.2.2.2.2.1+1))) then bif Nat.ble (Nat.succ (Int.toNat x.2.2.2.2.2.2.2.2.1)) (Int.toNat (IntKind.wrap
  IntKind.i64 (x.2.2.2.2.2.2.2.2.1+1))) then jn (Int×List Int×PUnit) (List (Int×Int)×Int×PUnit) (fun (x_1:Int×List Int×PUnit) =>
 let v21:List Int×PUnit:=(x_1.2.1,PUnit.unit);jn (Int×List Int×PUnit) (List (Int×Int)×Int×PUnit) (fun (x_2:Int×List Int×PUnit)=>bif inB v17 (List.length
  x_2.2.1) then bif Nat.ble (Nat.succ (Int.toNat v17)) (List.length x_2.2.1) then bif fitB (List.length x.2.2.1.1+1) 24 then bif fitB (List.length
  x.2.2.2.2.2.1+1) 8 then bif fitB (List.length x.2.2.2.2.1+1) 8 then again (x_1.1,IntKind.wrap .i64 (x.2.1+(1 :
  Int)),(x.2.2.1.1++[List.length x.2.2.1.2+0],x.2.2.1.2++[some (List.set x_2.2.1 (Int.toNat v17) 1)]),x.2.2.2.1,
  x.2.2.2.2.1++[v17],x.2.2.2.2.2.1++[x_2.1],x.2.2.2.2.2.2.1,x.2.2.2.2.2.2.2.1,x.2.2.2.2.2.2.2.2.1,
  PUnit.unit) else none else none else none else none else none) fun (j:Int×List Int×PUnit→Option (List (Int×Int)×Int×PUnit))=>bif decide (v13.2.2<0) then lp
  (Int×List Int×PUnit) (List (Int×Int)×Int×PUnit) (fun (again:Int×List Int×PUnit→Option (List (Int×Int)×Int×PUnit)) (x:Int×List Int×PUnit) =>
 let v25:Bool:=inB x.1 (List.length x.2.1);
 let v26:Bool:=Nat.ble (Nat.succ (Int.toNat x.1)) (List.length x.2.1);bif decide (x.1<(↑(List.length x_1.2.1):Int)) then bif v25 then bif v26 then bif v25 then bif v26
  then again (IntKind.wrap .i64 (x.1+1),List.set x.2.1 (Int.toNat x.1) (IntKind.wrap .i64 (0 - List.getD x.2.1 (Int.toNat x.1) 0)),
  PUnit.unit) else none else none else none else none else j ((-1),x.2.1,PUnit.unit)) (0,v21) else j (1,v21)) fun (j:Int×List Int×PUnit→Option (List
  (Int×Int)×Int×PUnit))=>bif decide (v13.2.1=1) then bif v15 then bif v16 then j (v12,List.set v19 (Int.toNat x.1) 1,PUnit.unit) else none else none else
  jn (Int×List Int×PUnit) (List (Int×Int)×Int×PUnit) (fun (x:Int×List Int×PUnit)=>j (x.1,x.2.1,PUnit.unit)) fun (j:Int×List Int×PUnit→Option (List (Int ×
  Int)×Int×PUnit))=>bif decide (v13.2.1=2) then bif v15 then bif v16 then j (v12,List.set v19 (Int.toNat x.1) (-1),PUnit.unit) else none else none else j
  (x.1,v19,PUnit.unit) else none else none else none else none else obind (program_table_start x.2.2.1 x.2.2.2.1 x.2.2.2.2.1 x.2.2.2.2.2.1
  x.2.2.2.2.2.2.1 x.2.2.2.2.2.2.2.1 x.2.2.2.2.2.2.2.2.1) fun (y:(List Nat×List (Option (List Int)))×Int×List Int×List Int×List
  Int×Int×Int×Bool×PUnit)=>bif y.2.2.2.2.2.2.2.1 then some ([],12,PUnit.unit) else lp (List (Int×Int)×Int×PUnit) (List (Int×Int)×Int×PUnit)
  (fun (again:List (Int×Int)×Int×PUnit→Option (List (Int×Int)×Int×PUnit)) (x:List (Int×Int)×Int×PUnit)=>bif decide (x.2.1<(↑(List.length x0.2):Int))
  then bif inB x.2.1 (List.length y.2.2.2.1) then bif Nat.ble (Nat.succ (Int.toNat x.2.1)) (List.length y.2.2.2.1) then obind (bif List.all y.1.1 fun (x:Nat)
  =>liveB y.1.2 x then program_table_artificial (List.map (fun (x:Nat)=>rowD y.1.2 x) y.1.1,y.2.1,y.2.2.1,y.2.2.2.1,y.2.2.2.2.1,
  y.2.2.2.2.2.1,y.2.2.2.2.2.2.1) (IntKind.wrap .i64 (y.2.2.2.2.2.1+x.2.1)) else none) fun (t:Int)=>obind (bif List.all y.1.1
  fun (x:Nat)=>liveB y.1.2 x then program_table_part (List.map (fun (x:Nat)=>rowD y.1.2 x) y.1.1,y.2.1,y.2.2.1,y.2.2.2.1,y.2.2.2.2.1,
  y.2.2.2.2.2.1,y.2.2.2.2.2.2.1) (IntKind.wrap .i64 (List.getD y.2.2.2.1 (Int.toNat x.2.1) 0*t)) else none) fun (t:Int×Int) =>
  bif fitB (List.length x.1+1) 16 then again (x.1++[t],IntKind.wrap .i64 (x.2.1+1),PUnit.unit) else none else none else none else some
  (x.1,0,PUnit.unit)) ([],0,PUnit.unit)) ((↑(List.length x0.1):Int),0,([],[]),1,[],[],t,v8,IntKind.wrap .i64 (v8+(↑(List.length
  x0.2):Int)),PUnit.unit)) (0,0,PUnit.unit)
noncomputable def program_Farkas (x0:(List Int)×List ((List Int)×Int×Int)):Option ((List (Int×Int))×Int×Unit):=program_Farkas_b lpK jnK program_Valid program_fits slices_Clone_22 program_table_start program_table_artificial program_table_part x0
abbrev t29:=((List Int)×List ((List Int)×Int×Int))→Option ((List (Int×Int))×Int×Unit)
noncomputable def k29 (program_Farkas:t29):Ctr:=⟨[T25],[],[],.tup [(.sl T27),i64],fun x _ _=>program_Farkas x.1⟩
noncomputable def c29:Ctr:=k29 program_Farkas
theorem e29 (lp:Lp) (jn:Jn) (program_Valid:t33) (program_fits:t62) (slices_Clone_22:t22) (program_table_start:t64) (program_table_artificial:t73) (program_table_part:t67):∀(x:TsS c29.as) (F:TsF c29.fs) (y:TsS c29.cs),program_Farkas_b lp jn program_Valid program_fits slices_Clone_22 program_table_start program_table_artificial program_table_part x.1=runCS lp jn (Dn.look [(64,k64 program_table_start)]) (ctxT tabs lits (ctxP [(67,k67 program_table_part),(73,k73 program_table_artificial)] [] (ctxOf prog shs inls its [(62,k62 program_fits),(33,k33 program_Valid)] [(24,r24),(22,k22 slices_Clone_22)]))) hints 4 29 f29 c29 x F y:=fun x F y=>by kernel_rfl
theorem ok29:c29.ok prog 29:=Ctr.of_denS (ctxT_ok (ctxP_ok (ctxOf_cons (ctxOf_cons (q24) (by kernel_rfl) ok33) (by kernel_rfl) ok62) (pcOk_cons (by kernel_rfl) ok67 (pcOk_cons (by kernel_rfl) ok73 (pcOk_nil))) (mcOk_nil))) hmix (scOk_cons ok64 (scOk_nil)) (hl:=hints) (d:=4) func29 rfl (by decide) (e29 lpK jnK program_Valid program_fits slices_Clone_22 program_table_start program_table_artificial program_table_part)
noncomputable def ref05_pivot_b (lp:Lp) (_:Jn) (x0:List Nat×List (Option (List Int))) (x1:List Int) (x2:Int) (x3:Int) (x4:Int) (x5:Int):Option ((List Nat×List (Option (List Int)))×(List Int)×Int×Int×Unit) :=
 bif inB x4 (List.length x0.1) then bif Nat.ble (Nat.succ (Int.toNat x4)) (List.length x0.1) then bif inB x5 (List.length (rowD x0.2 (List.getD x0.1 (Int.toNat x4) 0))) then
  bif Nat.ble (Nat.succ (Int.toNat x5)) (List.length (rowD x0.2 (List.getD x0.1 (Int.toNat x4) 0))) then lp (Int×(List Nat×List (Option (List Int)))×PUnit) ((List Nat ×
  List (Option (List Int)))×List Int×Int×Int×PUnit) (fun (again:Int×(List Nat×List (Option (List Int)))×PUnit→Option ((List Nat×List (Option (List Int)))×List Int ×
  Int×Int×PUnit)) (x:Int×(List Nat×List (Option (List Int)))×PUnit) =>
 let v10:Int:=IntKind.wrap .i64 (x.1+1);
 let v11:(List Nat×List (Option (List Int)))×PUnit:=(x.2.1,PUnit.unit);bif decide (x.1<(↑(List.length x.2.1.1):Int)) then bif inB x.1 (List.length
  x.2.1.1) then bif Nat.ble (Nat.succ (Int.toNat x.1)) (List.length x.2.1.1) then bif inB x5 (List.length (rowD x.2.1.2 (List.getD x.2.1.1 (Int.toNat x.1) (0 :
  Nat)))) then bif Nat.ble (Nat.succ (Int.toNat x5)) (List.length (rowD x.2.1.2 (List.getD x.2.1.1 (Int.toNat x.1) 0))) then bif decide (x.1=x4) then again (v10,
  v11) else lp (Int×(List Nat×List (Option (List Int)))×PUnit) ((List Nat×List (Option (List Int)))×List Int×Int×Int×PUnit) (fun (again_1:Int×(List Nat×List (Option
  (List Int)))×PUnit→Option ((List Nat×List (Option (List Int)))×List Int×Int×Int×PUnit)) (x_1:Int×(List Nat×List (Option (List Int)))×PUnit) =>
 let v14:Bool:=inB x.1 (List.length x_1.2.1.1);
 let v15:Bool:=Nat.ble (Nat.succ (Int.toNat x.1)) (List.length x_1.2.1.1);bif v14 then bif v15 then bif liveB x_1.2.1.2 (List.getD x_1.2.1.1 (Int.toNat x.1) (0 :
  Nat)) then bif decide (x_1.1<(↑(List.length (rowD x_1.2.1.2 (List.getD x_1.2.1.1 (Int.toNat x.1) 0))):Int)) then bif v14 then bif v15 then bif v14 then bif
  v15 then bif inB x_1.1 (List.length (rowD x_1.2.1.2 (List.getD x_1.2.1.1 (Int.toNat x.1) 0))) then bif Nat.ble (Nat.succ (Int.toNat x_1.1)) (List.length (rowD
  x_1.2.1.2 (List.getD x_1.2.1.1 (Int.toNat x.1) 0))) then bif inB x4 (List.length x_1.2.1.1) then bif Nat.ble (Nat.succ (Int.toNat x4)) (List.length
  x_1.2.1.1) then bif inB x_1.1 (List.length (rowD x_1.2.1.2 (List.getD x_1.2.1.1 (Int.toNat x4) 0))) then bif Nat.ble (Nat.succ (Int.toNat x_1.1))
  (List.length (rowD x_1.2.1.2 (List.getD x_1.2.1.1 (Int.toNat x4) 0))) then bif nzB x2 then bif inB x_1.1 (List.length (rowD x_1.2.1.2 (List.getD
  x_1.2.1.1 (Int.toNat x.1) 0))) then bif Nat.ble (Nat.succ (Int.toNat x_1.1)) (List.length (rowD x_1.2.1.2 (List.getD x_1.2.1.1 (Int.toNat x.1) (0 :
  Nat)))) then again_1 (IntKind.wrap .i64 (x_1.1+1),(x_1.2.1.1,List.set x_1.2.1.2 (List.getD x_1.2.1.1 (Int.toNat x.1) 0) (some (List.set
  (rowD x_1.2.1.2 (List.getD x_1.2.1.1 (Int.toNat x.1) 0)) (Int.toNat x_1.1) (IntKind.wrap .i64 (Int.tdiv (IntKind.wrap .i64 (IntKind.wrap
  IntKind.i64 (List.getD (rowD x_1.2.1.2 (List.getD x_1.2.1.1 (Int.toNat x.1) 0)) (Int.toNat x_1.1) 0*List.getD (rowD x0.2 (List.getD x0.1 (Int.toNat
  x4) 0)) (Int.toNat x5) 0) - IntKind.wrap .i64 (List.getD (rowD x.2.1.2 (List.getD x.2.1.1 (Int.toNat x.1) 0)) (Int.toNat x5) 0 *
  List.getD (rowD x_1.2.1.2 (List.getD x_1.2.1.1 (Int.toNat x4) 0)) (Int.toNat x_1.1) 0))) x2))))),PUnit.unit) else none else none else none else none else
  none else none else none else none else none else none else none else none else none else again (v10,x_1.2.1,PUnit.unit) else none else none else none) (0,v11) else none
  else none else none else none else bif inB x4 (List.length x1) then bif Nat.ble (Nat.succ (Int.toNat x4)) (List.length x1) then some (x.2.1,List.set x1 (Int.toNat x4) x5,List.getD
  (rowD x0.2 (List.getD x0.1 (Int.toNat x4) 0)) (Int.toNat x5) 0,x3,PUnit.unit) else none else none) (0,x0,PUnit.unit) else none else none else none else
  none
noncomputable def ref05_pivot (x0:List Nat×List (Option (List Int))) (x1:List Int) (x2:Int) (x3:Int) (x4:Int) (x5:Int):Option ((List Nat×List (Option (List Int)))×(List Int)×Int×Int×Unit):=ref05_pivot_b lpK jnK x0 x1 x2 x3 x4 x5
abbrev t115:=(List Nat×List (Option (List Int)))→(List Int)→(Int)→(Int)→(Int)→(Int)→Option ((List Nat×List (Option (List Int)))×(List Int)×Int×Int×Unit)
noncomputable def k115 (ref05_pivot:t115):SCtr:=⟨[.v true [.x (.tab 22 .ref 3 i64),.row 3 i64,.d i64,.d i64],.d i64,.d i64],[(true,[.x (.tab 22 .ref 3 i64),.row 3 i64,.d i64,.d i64])],fun x=>ref05_pivot x.1 x.2.1 x.2.2.1 x.2.2.2.1 x.2.2.2.2.1 x.2.2.2.2.2.1⟩
noncomputable def s115:SCtr:=k115 ref05_pivot
theorem e115 (lp:Lp) (jn:Jn):∀x:TsR (rhI 0 s115.ks),ref05_pivot_b lp jn x.1 x.2.1 x.2.2.1 x.2.2.2.1 x.2.2.2.2.1 x.2.2.2.2.2.1=runS lp jn (Dn.look []) (cx [] [(24,r24),(22,r22)]) hints 4 115 f115 s115 x:=fun x=>by kernel_rfl
theorem ok115:s115.ok prog 115:=SCtr.of_den (ctxT_ok (q24)) hmix (scOk_nil) (hl:=hints) (d:=4) func115 rfl (by decide) (e115 lpK jnK)
noncomputable def ref05_run_b (lp:Lp) (_:Jn) (ref05_pivot:t115) (x0:List Nat×List (Option (List Int))) (x1:List Int) (x2:Int) (x3:Int):Option ((List Nat×List (Option (List Int)))×(List Int)×Int×Int×Bool×Unit) :=
 let v6:Int:=IntKind.wrap .i64 ((↑(List.length x0.1):Int) - 1);lp ((List Nat×List (Option (List Int)))×List Int×Int×Int×(List Nat×List (Option (List Int)))×List Int×Int×Int×PUnit) ((List Nat×List (Option (List Int)))×List Int×Int×Int×Bool×PUnit) (fun (again:(List Nat×List (Option (List Int)))×List Int×Int×Int×(List Nat×List (Option (List Int)))×List Int×Int×Int×PUnit→Option ((List Nat×List (Option (List Int)))×List Int×Int×Int×Bool×PUnit)) (x:(List Nat×List (Option (List Int)))×List Int×Int×Int×(List Nat×List (Option (List Int)))×List Int×Int×Int×PUnit)=>lp (Int×PUnit) ((List Nat×List (Option (List Int)))×List Int×Int×Int×Bool×PUnit) (fun (again_1:Int×PUnit→Option ((List Nat×List (Option (List Int)))×List Int×Int×Int×Bool×PUnit)) (x_1:Int×PUnit) =>
 let v11:Bool:=decide (x_1.1<x.2.2.2.1);
 let v12:Bool:=!v11;
 let v13:Bool:=v12||v11;
 bif v13 then bif v13&&(v13&&(v12||inB v6 (List.length x.1.1))) then bif v13&&(v12||Nat.ble (Nat.succ (Int.toNat v6)) (List.length x.1.1)) then bif v13&&(v13&&(v12||inB x_1.1 (List.length (rowD x.1.2 (List.getD x.1.1 (Int.toNat v6) 0))))) then bif v13&&(v12||Nat.ble (Nat.succ (Int.toNat x_1.1)) (List.length (rowD x.1.2 (List.getD x.1.1 (Int.toNat v6) 0)))) then bif v13 then bif v13 then bif bif v11 then decide (List.getD (rowD x.1.2 (List.getD x.1.1 (Int.toNat v6) 0)) (Int.toNat x_1.1) 0≥0) else false then again_1 (IntKind.wrap .i64 (x_1.1+1),PUnit.unit) else bif decide (x_1.1=x.2.2.2.1) then some (x.1,x.2.1,x.2.2.1,x.2.2.2.1,true,PUnit.unit) else bif inB 0 (List.length x.1.1) then bif Nat.ble 1 (List.length x.1.1) then bif liveB x.1.2 (List.getD x.1.1 0 0) then lp (Int×Int×PUnit) ((List Nat×List (Option (List Int)))×List Int×Int×Int×Bool×PUnit) (fun (again_2:Int×Int×PUnit→Option ((List Nat×List (Option (List Int)))×List Int×Int×Int×Bool×PUnit)) (x_2:Int×Int×PUnit) =>
 let v16:Int×PUnit:=(IntKind.wrap .i64 (x_2.2.1+1),PUnit.unit);
 let v17:Bool:=decide (x_2.1<0);
 let v18:Bool:=inB x_2.1 (List.length x.1.1);
 let v19:Bool:=Nat.ble (Nat.succ (Int.toNat x_2.1)) (List.length x.1.1);
 let v20:Bool:=inB x_2.2.1 (List.length x.1.1);
 let v21:Bool:=Nat.ble (Nat.succ (Int.toNat x_2.2.1)) (List.length x.1.1);
 let v22:Bool:=decide (IntKind.wrap .i64 (List.getD (rowD x.1.2 (List.getD x.1.1 (Int.toNat x_2.2.1) 0)) (Int.toNat (IntKind.wrap .i64 ((↑(List.length (rowD x.1.2 (List.getD x.1.1 0 0))):Int) - 1))) 0*List.getD (rowD x.1.2 (List.getD x.1.1 (Int.toNat x_2.1) 0)) (Int.toNat x_1.1) 0)<IntKind.wrap .i64 (List.getD (rowD x.1.2 (List.getD x.1.1 (Int.toNat x_2.1) 0)) (Int.toNat (IntKind.wrap .i64 ((↑(List.length (rowD x.1.2 (List.getD x.1.1 0 0))):Int) - 1))) 0*List.getD (rowD x.1.2 (List.getD x.1.1 (Int.toNat x_2.2.1) 0)) (Int.toNat x_1.1) 0));
 let v23:Bool:=decide (IntKind.wrap .i64 (List.getD (rowD x.1.2 (List.getD x.1.1 (Int.toNat x_2.2.1) 0)) (Int.toNat (IntKind.wrap .i64 ((↑(List.length (rowD x.1.2 (List.getD x.1.1 0 0))):Int) - 1))) 0*List.getD (rowD x.1.2 (List.getD x.1.1 (Int.toNat x_2.1) 0)) (Int.toNat x_1.1) 0)=IntKind.wrap .i64 (List.getD (rowD x.1.2 (List.getD x.1.1 (Int.toNat x_2.1) 0)) (Int.toNat (IntKind.wrap .i64 ((↑(List.length (rowD x.1.2 (List.getD x.1.1 0 0))):Int) - 1))) 0*List.getD (rowD x.1.2 (List.getD x.1.1 (Int.toNat x_2.2.1) 0)) (Int.toNat x_1.1) 0));
 bif decide (x_2.2.1<v6) then bif v20 then bif v21 then bif inB x_1.1 (List.length (rowD x.1.2 (List.getD x.1.1 (Int.toNat x_2.2.1) 0))) then bif Nat.ble (Nat.succ (Int.toNat x_1.1)) (List.length (rowD x.1.2 (List.getD x.1.1 (Int.toNat x_2.2.1) 0))) then bif decide (List.getD (rowD x.1.2 (List.getD x.1.1 (Int.toNat x_2.2.1) 0)) (Int.toNat x_1.1) 0≤0) then again_2 (x_2.1,v16) else bif v17 then again_2 (x_2.2.1,v16) else bif v20 then bif v21 then bif inB (IntKind.wrap .i64 ((↑(List.length (rowD x.1.2 (List.getD x.1.1 0 0))):Int) - 1)) (List.length (rowD x.1.2 (List.getD x.1.1 (Int.toNat x_2.2.1) 0))) then bif Nat.ble (Nat.succ (Int.toNat (IntKind.wrap .i64 ((↑(List.length (rowD x.1.2 (List.getD x.1.1 0 0))):Int) - 1)))) (List.length (rowD x.1.2 (List.getD x.1.1 (Int.toNat x_2.2.1) 0))) then bif v18 then bif v19 then bif inB x_1.1 (List.length (rowD x.1.2 (List.getD x.1.1 (Int.toNat x_2.1) 0))) then bif Nat.ble (Nat.succ (Int.toNat x_1.1)) (List.length (rowD x.1.2 (List.getD x.1.1 (Int.toNat x_2.1) 0))) then bif v18 then bif v19 then bif inB (IntKind.wrap .i64 ((↑(List.length (rowD x.1.2 (List.getD x.1.1 0 0))):Int) - 1)) (List.length (rowD x.1.2 (List.getD x.1.1 (Int.toNat x_2.1) 0))) then bif Nat.ble (Nat.succ (Int.toNat (IntKind.wrap .i64 ((↑(List.length (rowD x.1.2 (List.getD x.1.1 0 0))):Int) - 1)))) (List.length (rowD x.1.2 (List.getD x.1.1 (Int.toNat x_2.1) 0))) then bif v20 then bif v21 then bif inB x_1.1 (List.length (rowD x.1.2 (List.getD x.1.1 (Int.toNat x_2.2.1) 0))) then bif Nat.ble (Nat.succ (Int.toNat x_1.1)) (List.length (rowD x.1.2 (List.getD x.1.1 (Int.toNat x_2.2.1) 0))) then bif (!!v22||!v22)&&(!!v22||!v22) then bif !!v22||!v22 then bif !(!v22&&v23)||!v22&&v23 then bif (!(!v22&&v23)||!v22&&v23)&&((!(!v22&&v23)||!v22&&v23)&&(!(!v22&&v23)||inB x_2.2.1 (List.length x.2.1))) then bif (!(!v22&&v23)||!v22&&v23)&&(!(!v22&&v23)||Nat.ble (Nat.succ (Int.toNat x_2.2.1)) (List.length x.2.1)) then bif !(!v22&&v23)||!v22&&v23 then bif (!(!v22&&v23)||!v22&&v23)&&((!(!v22&&v23)||!v22&&v23)&&(!(!v22&&v23)||inB x_2.1 (List.length x.2.1))) then bif (!(!v22&&v23)||!v22&&v23)&&(!(!v22&&v23)||Nat.ble (Nat.succ (Int.toNat x_2.1)) (List.length x.2.1)) then bif (!(!v22&&v23)||!v22&&v23)&&(!(!v22&&v23)||!v22&&v23) then bif (!!v22||(!!v22||!v22))&&(!!v22||(!v23||(!!v22||!v22&&v23))) then bif v22||!v22 then bif bif v22 then true else bif v23 then decide (List.getD x.2.1 (Int.toNat x_2.2.1) 0<List.getD x.2.1 (Int.toNat x_2.1) 0) else false then again_2 (x_2.2.1,v16) else again_2 (x_2.1,v16) else none else none else none else none else none else none else none else none else none else none else none else none else none else none else none else none else none else none else none else none else none else none else none else none else none else none else none else none else none else none else none else bif v17 then some (x.1,x.2.1,x.2.2.1,x.2.2.2.1,false,PUnit.unit) else obind (ref05_pivot x.1 x.2.1 x.2.2.1 x.2.2.2.1 x_2.1 x_1.1) fun (y:(List Nat×List (Option (List Int)))×List Int×Int×Int×PUnit)=>again (y.1,y.2.1,y.2.2.1,y.2.2.2.1,x.2.2.2.2.1,x.2.2.2.2.2.1,x.2.2.2.2.2.2.1,x.2.2.2.2.2.2.2.1,PUnit.unit)) ((-1),0,PUnit.unit) else none else none else none else none else none else none else none else none else none else none) (0,PUnit.unit)) (x0,x1,x2,x3,([],[]),[],0,0,PUnit.unit)
noncomputable def ref05_run (x0:List Nat×List (Option (List Int))) (x1:List Int) (x2:Int) (x3:Int):Option ((List Nat×List (Option (List Int)))×(List Int)×Int×Int×Bool×Unit):=ref05_run_b lpK jnK ref05_pivot x0 x1 x2 x3
abbrev t74:=(List Nat×List (Option (List Int)))→(List Int)→(Int)→(Int)→Option ((List Nat×List (Option (List Int)))×(List Int)×Int×Int×Bool×Unit)
noncomputable def k74 (ref05_run:t74):SCtr:=⟨[.v true [.x (.tab 22 .ref 3 i64),.row 3 i64,.d i64,.d i64]],[(true,[.x (.tab 22 .ref 3 i64),.row 3 i64,.d i64,.d i64]),(false,[.d .bool])],fun x=>ref05_run x.1 x.2.1 x.2.2.1 x.2.2.2.1⟩
noncomputable def s74:SCtr:=k74 ref05_run
theorem e74 (lp:Lp) (jn:Jn) (ref05_pivot:t115):∀x:TsR (rhI 0 s74.ks),ref05_run_b lp jn ref05_pivot x.1 x.2.1 x.2.2.1 x.2.2.2.1=runS lp jn (Dn.look [(115,k115 ref05_pivot)]) (cx [] [(24,r24),(22,r22)]) hints 4 74 f74 s74 x:=fun x=>by kernel_rfl
theorem ok74:s74.ok prog 74:=SCtr.of_den (ctxT_ok (q24)) hmix (scOk_cons ok115 (scOk_nil)) (hl:=hints) (d:=4) func74 rfl (by decide) (e74 lpK jnK ref05_pivot)
end Go.Proofs.Ytnbbackjofgcfaa
