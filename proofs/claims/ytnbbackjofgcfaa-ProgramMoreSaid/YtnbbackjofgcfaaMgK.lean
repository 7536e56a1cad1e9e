/- r05m: the shapes of its types, and the places of its loops. r05m: what its functions answer (printed by a program), and that they do. r05m: what its functions answer (printed by a program), and that they do; part 2. Plain lemmas for what functions answer: loops, machine numbers, lists. Fractions: rational numbers, and the pairs of numbers that stand for them. Fractions: what 'Make', 'Valid', 'Mul', 'Floor', 'Ceil' of package ratio answer. Fractions: products of two words, 'Mul', 'Floor', 'Ceil' of package ratio. Fractions of the reference: numbers of two words, their greatest common divisors and quotients. Fractions of the reference: 'Div', 'Made', 'Make', 'Times', 'Floor', 'Ceil'. Numbers of 128 bits: sums, differences, comparisons; the length of a number. The quotient of a number of 128 bits by one of 64. Fractions: 'Add' of package ratio. Loops over lists: searches and tests of all elements. Fractions: 'Add', 'Valid', 'All' of the reference. Fractions: 'Sub' and 'Cmp' of both. Loops over the elements of a list, as recursions over it. Programs: both programs know the same valid ones. Programs: sums of numbers times fractions. Programs: which points are feasible, as the program tells it. Programs: feasible points and values, in both programs. Sums of integers, and determinants. Tables of the simplex method: integers with a common denominator, as determinants of columns. -/
import Derived.Test.YtnbbackjofgcfaaProg
import Derived.KernelRfl
import Derived.Test.YtnbbackjofgcfaaMgJ

namespace Go.Proofs.Ytnbbackjofgcfaa
open Try Dn Dn.Sh
abbrev i64:Sh:=.int .i64
abbrev T45:Sh:=.agg (.pair (.sl i64) (.pair i64 i64))
abbrev T25:Sh:=.agg (.pair (.sl i64) (.sl T45))
abbrev T27:Sh:=.agg (.pair i64 i64)
abbrev T30:Sh:=.agg (.pair T27 (.pair (.sl T27) (.sl T27)))
abbrev T75:Sh:=.agg i64
abbrev T93:Sh:=.agg (.pair (.sl (.sl i64)) (.pair i64 (.pair (.sl i64) (.pair (.sl i64) (.pair (.sl i64) (.pair i64 i64))))))
abbrev T96:Sh:=.agg (.pair (.int .u64) (.int .u64))
abbrev T142:Sh:=.agg (.pair .bool (.pair (.int .u64) (.int .u64)))
def shs:TypeId→Option Sh
 | 3=>some i64
 | 22=>some (.sl i64)
 | 27=>some T27
 | 45=>some T45
 | _=>none
def loops93:Nat→Option Hd
 | 2=>some ⟨[(8,false,[.d i64])],[],[]⟩
 | _=>none
def loops117:Nat→Option Hd
 | 2=>some ⟨[(8,false,[.d i64])],[],[]⟩
 | _=>none
def loops88:Nat→Option Hd
 | 1=>some ⟨[(0,false,[.d (.int .u64)]),(1,false,[.d (.int .u64)])],[],[]⟩
 | _=>none
def loops122:Nat→Option Hd
 | 2=>some ⟨[(8,false,[.d i64])],[],[]⟩
 | _=>none
def joins130:Nat→Option Hd
 | 1000002=>some ⟨[(0,false,[.d (.int .u64)]),(2,false,[.d i64])],[],[]⟩
 | 1000005=>some ⟨[(0,false,[.d (.int .u64)]),(2,false,[.d i64])],[],[]⟩
 | _=>none
def loops121:Nat→Option Hd
 | 17=>some ⟨[(15,false,[.d (.int .u64)]),(16,false,[.d (.int .u64)])],[],[]⟩
 | 24=>some ⟨[(16,false,[.d (.int .u64)]),(18,false,[.d (.int .u64)])],[],[]⟩
 | _=>none
def joins121:Nat→Option Hd
 | 0=>some ⟨[(15,false,[.d (.int .u64)])],[],[]⟩
 | 2=>some ⟨[(18,false,[.d (.int .u64)])],[],[]⟩
 | 1000002=>some ⟨[],[],[]⟩
 | 1000004=>some ⟨[],[],[]⟩
 | _=>none
def joins39:Nat→Option Hd
 | 1000008=>some ⟨[(9,false,[.d .bool])],[(10,[.d T96])],[]⟩
 | 1000010=>some ⟨[(9,false,[.d .bool])],[(10,[.d T96])],[]⟩
 | _=>none
def loops48:Nat→Option Hd
 | 3=>some ⟨[(15,false,[.d i64])],[(0,[.d T75]),(6,[.d T27]),(7,[.d T27])],[]⟩
 | _=>none
def joins48:Nat→Option Hd
 | 1000007=>some ⟨[(11,false,[.d i64])],[(10,[.d T27])],[]⟩
 | _=>none
def joins26:Nat→Option Hd
 | 1000009=>some ⟨[],[(6,[.d T96]),(7,[.d T96])],[]⟩
 | _=>none
def loops47:Nat→Option Hd
 | 3=>some ⟨[(7,false,[.d .bool]),(17,false,[.d i64])],[(0,[.d T75])],[]⟩
 | _=>none
def loops100:Nat→Option Hd
 | 3=>some ⟨[(5,false,[.row 3 i64]),(11,false,[.d i64])],[],[]⟩
 | _=>none
def loops49:Nat→Option Hd
 | 3=>some ⟨[(9,false,[.d .bool]),(14,false,[.d i64])],[(0,[.d T75])],[]⟩
 | _=>none
def loops51:Nat→Option Hd
 | 3=>some ⟨[(3,false,[.row 3 i64]),(9,false,[.d i64])],[],[]⟩
 | _=>none
def loops52:Nat→Option Hd
 | 2=>some ⟨[(10,false,[.d i64])],[],[]⟩
 | _=>none
def loops106:Nat→Option Hd
 | 3=>some ⟨[(5,false,[.d i64]),(14,false,[.d i64])],[],[]⟩
 | _=>none
def loops108:Nat→Option Hd
 | 5=>some ⟨[(3,false,[.d i64]),(4,false,[.d i64])],[],[]⟩
 | _=>none
def joins108:Nat→Option Hd
 | 1000002=>some ⟨[],[],[]⟩
 | _=>none
def loops62:Nat→Option Hd
 | 4=>some ⟨[(4,false,[.row 3 i64]),(18,false,[.d i64])],[],[]⟩
 | 10=>some ⟨[(7,false,[.d i64]),(34,false,[.d i64])],[],[]⟩
 | _=>none
def loops63:Nat→Option Hd
 | 4=>some ⟨[(5,false,[.d i64]),(24,false,[.d i64])],[],[]⟩
 | 12=>some ⟨[(9,false,[.d i64]),(51,false,[.d i64])],[(46,[.x (.tab 22 .ref 3 i64),.d i64,.row 3 i64,.row 3 i64,.row 3 i64,.d i64,.d i64])],[]⟩
 | 28=>some ⟨[(95,false,[.d i64])],[],[(12,none,.row 3 i64)]⟩
 | _=>none
def joins63:Nat→Option Hd
 | 1000019=>some ⟨[(9,false,[.d i64])],[],[(12,none,.row 3 i64)]⟩
 | 1000022=>some ⟨[(9,false,[.d i64])],[],[(12,none,.row 3 i64)]⟩
 | 1000026=>some ⟨[(13,false,[.d i64])],[],[(12,none,.row 3 i64)]⟩
 | _=>none
def loops73:Nat→Option Hd
 | 3=>some ⟨[(5,false,[.d i64]),(13,false,[.d i64])],[],[]⟩
 | _=>none
def joins124:Nat→Option Hd
 | 1000008=>some ⟨[(10,false,[.d .bool])],[(2,[.d T142]),(3,[.d T142])],[]⟩
 | _=>none
def loops109:Nat→Option Hd
 | 2=>some ⟨[(29,false,[.d i64])],[],[(0,some 0,.x (.tab 22 .ref 3 i64))]⟩
 | 7=>some ⟨[(43,false,[.d i64])],[],[(0,some 0,.x (.tab 22 .ref 3 i64))]⟩
 | 17=>some ⟨[(98,false,[.d i64])],[],[(0,some 0,.x (.tab 22 .ref 3 i64))]⟩
 | 20=>some ⟨[(104,false,[.d i64])],[],[(0,some 0,.x (.tab 22 .ref 3 i64))]⟩
 | _=>none
def loops110:Nat→Option Hd
 | 3=>some ⟨[(5,false,[.d i64]),(14,false,[.d i64])],[],[]⟩
 | _=>none
def loops64:Nat→Option Hd
 | 1=>some ⟨[],[(0,[.x (.tab 22 .ref 3 i64),.d i64,.row 3 i64,.row 3 i64,.row 3 i64,.d i64,.d i64])],[]⟩
 | 3=>some ⟨[(3,false,[.d i64]),(4,false,[.d i64])],[],[]⟩
 | 12=>some ⟨[(44,false,[.d i64])],[(0,[.x (.tab 22 .ref 3 i64),.d i64,.row 3 i64,.row 3 i64,.row 3 i64,.d i64,.d i64])],[]⟩
 | 15=>some ⟨[(6,false,[.d i64])],[(0,[.x (.tab 22 .ref 3 i64),.d i64,.row 3 i64,.row 3 i64,.row 3 i64,.d i64,.d i64])],[]⟩
 | _=>none
def loops111:Nat→Option Hd
 | 3=>some ⟨[(5,false,[.d i64]),(21,false,[.d i64])],[],[]⟩
 | _=>none
def loops65:Nat→Option Hd
 | 1=>some ⟨[],[(0,[.x (.tab 22 .ref 3 i64),.d i64,.row 3 i64,.row 3 i64,.row 3 i64,.d i64,.d i64])],[]⟩
 | 3=>some ⟨[(3,false,[.d i64]),(4,false,[.d i64])],[],[]⟩
 | _=>none
def loops21:Nat→Option Hd
 | 14=>some ⟨[(6,false,[.d i64]),(43,false,[.d i64])],[],[(7,none,.row 3 i64)]⟩
 | 22=>some ⟨[(94,false,[.d i64])],[(5,[.d T27,.row 27 T27,.row 27 T27])],[]⟩
 | 27=>some ⟨[(110,false,[.d i64])],[(5,[.d T27,.row 27 T27,.row 27 T27])],[]⟩
 | 31=>some ⟨[(13,false,[.d i64]),(118,false,[.d i64])],[],[]⟩
 | _=>none
def loops23:Nat→Option Hd
 | 1=>some ⟨[(2,false,[.d i64]),(3,false,[.d i64])],[],[(0,none,.row 3 i64)]⟩
 | _=>none
def loops4:Nat→Option Hd
 | 9=>some ⟨[(43,false,[.d i64])],[(7,[.row 3 i64,.row 45 T45])],[]⟩
 | _=>none
def hints:FuncId→Hint
 | 93=>{loop:=loops93}
 | 117=>{loop:=loops117}
 | 88=>{loop:=loops88}
 | 122=>{loop:=loops122}
 | 130=>{join:=joins130}
 | 121=>{loop:=loops121,join:=joins121}
 | 39=>{join:=joins39}
 | 48=>{loop:=loops48,join:=joins48}
 | 26=>{join:=joins26}
 | 47=>{loop:=loops47}
 | 100=>{loop:=loops100}
 | 49=>{loop:=loops49}
 | 51=>{loop:=loops51}
 | 52=>{loop:=loops52}
 | 106=>{loop:=loops106}
 | 108=>{loop:=loops108,join:=joins108}
 | 62=>{loop:=loops62}
 | 63=>{loop:=loops63,join:=joins63}
 | 73=>{loop:=loops73}
 | 124=>{join:=joins124}
 | 109=>{loop:=loops109}
 | 110=>{loop:=loops110}
 | 64=>{loop:=loops64}
 | 111=>{loop:=loops111}
 | 65=>{loop:=loops65}
 | 21=>{loop:=loops21}
 | 23=>{loop:=loops23}
 | 4=>{loop:=loops4}
 | _=>{}
def lits (p : String) : Bool := p == "law.go:242" || p == "program.go:104" || p == "ref.go:45"
def tabs:TypeId→Option XP
 | 91=>some (.tab 22 .ref 3 i64)
 | _=>none
def inls:List Nat:=[93,41,82,49,63,109,64,65,23]
def its:List (Nat×ICtr):=[]
theorem itsOk:ItsOk prog its:=itsOk_nil
end Go.Proofs.Ytnbbackjofgcfaa

namespace Go.Proofs.Ytnbbackjofgcfaa
open Try Dn Dn.Sh
set_option maxRecDepth 100000
theorem hmix:prog.follows .mixedOrders=true:=by kernel_rfl
theorem inlsOk:inlOk prog inls=true:=by kernel_rfl
theorem q0:(ctxOf prog shs inls its [] []).ok:=ctxOf_nil inlsOk itsOk
noncomputable abbrev cx (l) (r):=ctxT tabs lits (ctxOf prog shs inls its l r)
noncomputable def slices_Clone_22_b (_:Lp) (_:Jn) (x0:List Int):Option (List Int) :=
 bif fitB (0+List.length x0) 8 then some x0 else none
noncomputable def slices_Clone_22 (x0:List Int):Option (List Int):=slices_Clone_22_b lpK jnK x0
abbrev t22:=(List Int)→Option (List Int)
noncomputable def k22 (slices_Clone_22:t22):RCtr:=⟨[(.sl i64)],3,i64,fun x=>slices_Clone_22 x.1⟩
noncomputable def r22:RCtr:=k22 slices_Clone_22
theorem e22 (lp:Lp) (jn:Jn):∀x:TsS r22.as,slices_Clone_22_b lp jn x.1=runR lp jn (cx [] []) hints 4 22 f22 r22.t r22.e (initN r22.as x true):=fun x=>by kernel_rfl
theorem okr22:r22.ok prog 22:=RCtr.of_den_nil (c:=r22) (ctxT_ok (q0)) hmix (hl:=hints) (d:=4) rfl func22 rfl (by decide) (e22 lpK jnK) fun x h=>by
 obtain ⟨l,u⟩:=x
 simp only at h
 subst h
 kernel_rfl
theorem q22:(ctxOf prog shs inls its [] [(22,r22)]).ok:=ctxOf_row q0 (by kernel_rfl) okr22
noncomputable def slices_Clone_24_b (_:Lp) (_:Jn) (x0:List ((List Int)×Int×Int)):Option (List ((List Int)×Int×Int)) :=
 bif fitB (0+List.length x0) 40 then some x0 else none
noncomputable def slices_Clone_24 (x0:List ((List Int)×Int×Int)):Option (List ((List Int)×Int×Int)):=slices_Clone_24_b lpK jnK x0
abbrev t24:=(List ((List Int)×Int×Int))→Option (List ((List Int)×Int×Int))
noncomputable def r24:RCtr:=⟨[(.sl T45)],45,T45,fun x=>slices_Clone_24 x.1⟩
theorem e24 (lp:Lp) (jn:Jn):∀x:TsS r24.as,slices_Clone_24_b lp jn x.1=runR lp jn (cx [] [(22,r22)]) hints 4 24 f24 r24.t r24.e (initN r24.as x true):=fun x=>by kernel_rfl
theorem okr24:r24.ok prog 24:=RCtr.of_den_nil (c:=r24) (ctxT_ok (q22)) hmix (hl:=hints) (d:=4) rfl func24 rfl (by decide) (e24 lpK jnK) fun x h=>by
 obtain ⟨l,u⟩:=x
 simp only at h
 subst h
 kernel_rfl
theorem q24:(ctxOf prog shs inls its [] [(24,r24),(22,r22)]).ok:=ctxOf_row q22 (by kernel_rfl) okr24
noncomputable def slices_IndexFunc_93_b (lp:Lp) (_:Jn) (x0:List ((List Int)×Int×Int)) (f0:((((List Int)×Int×Int)×Unit)→Option Bool)):Option Int :=
 lp (Int×PUnit) Int (fun (again:Int×PUnit→Option Int) (x:Int×PUnit)=>bif decide (x.1<(↑(List.length x0):Int)) then bif inB x.1 (List.length x0) then obind (f0
  (List.getD x0 (Int.toNat x.1) ([],0,0),PUnit.unit)) fun (t:Bool)=>bif t then some x.1 else again (IntKind.wrap .i64 (x.1+1),PUnit.unit)
  else none else some (-1)) (0,PUnit.unit)
noncomputable def slices_IndexFunc_93 (x0:List ((List Int)×Int×Int)) (f0:((((List Int)×Int×Int)×Unit)→Option Bool)):Option Int:=slices_IndexFunc_93_b lpK jnK x0 f0
abbrev t93:=(List ((List Int)×Int×Int))→(((((List Int)×Int×Int)×Unit)→Option Bool))→Option (Int)
noncomputable def k93 (slices_IndexFunc_93:t93):Ctr:=⟨[(.sl T45)],[([T45],.bool)],[],.one i64,fun x F _=>slices_IndexFunc_93 x.1 F.1⟩
noncomputable def c93:Ctr:=k93 slices_IndexFunc_93
theorem e93 (lp:Lp) (jn:Jn):∀(x:TsS c93.as) (F:TsF c93.fs) (y:TsS c93.cs),slices_IndexFunc_93_b lp jn x.1 F.1=runC lp jn (cx [] [(24,r24),(22,r22)]) hints 4 93 f93 c93 x F y:=fun x F y=>by kernel_rfl
theorem ok93:c93.ok prog 93:=Ctr.of_den (ctxT_ok (q24)) hmix (hl:=hints) (d:=4) func93 rfl (by decide) (e93 lpK jnK)
noncomputable def slices_ContainsFunc_41_b (_:Lp) (_:Jn) (slices_IndexFunc_93:t93) (x0:List ((List Int)×Int×Int)) (f0:((((List Int)×Int×Int)×Unit)→Option Bool)):Option Bool :=
 obind (slices_IndexFunc_93 x0 f0) fun (t:Int)=>some (decide (t≥0))
noncomputable def slices_ContainsFunc_41 (x0:List ((List Int)×Int×Int)) (f0:((((List Int)×Int×Int)×Unit)→Option Bool)):Option Bool:=slices_ContainsFunc_41_b lpK jnK slices_IndexFunc_93 x0 f0
abbrev t41:=(List ((List Int)×Int×Int))→(((((List Int)×Int×Int)×Unit)→Option Bool))→Option (Bool)
noncomputable def k41 (slices_ContainsFunc_41:t41):Ctr:=⟨[(.sl T45)],[([T45],.bool)],[],.one .bool,fun x F _=>slices_ContainsFunc_41 x.1 F.1⟩
noncomputable def c41:Ctr:=k41 slices_ContainsFunc_41
theorem e41 (lp:Lp) (jn:Jn) (slices_IndexFunc_93:t93):∀(x:TsS c41.as) (F:TsF c41.fs) (y:TsS c41.cs),slices_ContainsFunc_41_b lp jn slices_IndexFunc_93 x.1 F.1=runC lp jn (cx [(93,k93 slices_IndexFunc_93)] [(24,r24),(22,r22)]) hints 4 41 f41 c41 x F y:=fun x F y=>by kernel_rfl
theorem ok41:c41.ok prog 41:=Ctr.of_den (ctxT_ok (ctxOf_cons (q24) (by kernel_rfl) ok93)) hmix (hl:=hints) (d:=4) func41 rfl (by decide) (e41 lpK jnK slices_IndexFunc_93)
noncomputable def program_Valid_1_1_b (_:Lp) (_:Jn) (x0:Int) (y0:Int):Option Bool :=
 
 let v4:Bool:=decide (x0<IntKind.wrap .i64 (0 - y0));
 let v5:Bool:=!v4;
 let v6:Bool:=!v5||v5;bif v6&&v6 then bif v4||v5 then some (bif v4 then true else decide (x0>y0)) else none else none
noncomputable def program_Valid_1_1 (x0:Int) (y0:Int):Option Bool:=program_Valid_1_1_b lpK jnK x0 y0
abbrev t80:=(Int)→(Int)→Option (Bool)
noncomputable def c80:Ctr:=⟨[i64],[],[i64],.one .bool,fun x _ y=>program_Valid_1_1 x.1 y.1⟩
theorem e80 (lp:Lp) (jn:Jn):∀(x:TsS c80.as) (F:TsF c80.fs) (y:TsS c80.cs),program_Valid_1_1_b lp jn x.1 y.1=runC lp jn (cx [] [(24,r24),(22,r22)]) hints 4 80 f80 c80 x F y:=fun x F y=>by kernel_rfl
theorem ok80:c80.ok prog 80:=Ctr.of_den (ctxT_ok (q24)) hmix (hl:=hints) (d:=4) func80 rfl (by decide) (e80 lpK jnK)
noncomputable def program_Valid_1_b (_:Lp) (_:Jn) (program_Valid_1_1:t80) (x0:Int):Option ((Int×Unit)→Option Bool) :=
 some fun (x:Int×PUnit)=>program_Valid_1_1 x.1 x0
noncomputable def program_Valid_1 (x0:Int):Option ((Int×Unit)→Option Bool):=program_Valid_1_b lpK jnK program_Valid_1_1 x0
abbrev t79:=(Int)→Option ((Int×Unit)→Option Bool)
noncomputable def g79:FCtr:=⟨[i64],[i64],.bool,fun x=>program_Valid_1 x.1⟩
theorem e79 (lp:Lp) (jn:Jn) (program_Valid_1_1:t80):∀x:TsS g79.as,program_Valid_1_b lp jn program_Valid_1_1 x.1=runF lp jn (cx [(80,⟨[i64],[],[i64],.one .bool,fun x _ y=>program_Valid_1_1 x.1 y.1⟩)] [(24,r24),(22,r22)]) hints 4 79 f79 g79 x:=fun x=>by kernel_rfl
theorem okg79:g79.ok prog 79:=FCtr.of_den (ctxT_ok (ctxOf_cons (q24) (by kernel_rfl) ok80)) hmix (hl:=hints) (d:=4) func79 rfl (by decide) (e79 lpK jnK program_Valid_1_1)
noncomputable def slices_IndexFunc_117_b (lp:Lp) (_:Jn) (x0:List Int) (f0:((Int×Unit)→Option Bool)):Option Int :=
 lp (Int×PUnit) Int (fun (again:Int×PUnit→Option Int) (x:Int×PUnit)=>bif decide (x.1<(↑(List.length x0):Int)) then bif inB x.1 (List.length x0) then obind (f0
  (List.getD x0 (Int.toNat x.1) 0,PUnit.unit)) fun (t:Bool)=>bif t then some x.1 else again (IntKind.wrap .i64 (x.1+1),PUnit.unit) else none else some
  (-1)) (0,PUnit.unit)
noncomputable def slices_IndexFunc_117 (x0:List Int) (f0:((Int×Unit)→Option Bool)):Option Int:=slices_IndexFunc_117_b lpK jnK x0 f0
abbrev t117:=(List Int)→(((Int×Unit)→Option Bool))→Option (Int)
noncomputable def k117 (slices_IndexFunc_117:t117):Ctr:=⟨[(.sl i64)],[([i64],.bool)],[],.one i64,fun x F _=>slices_IndexFunc_117 x.1 F.1⟩
noncomputable def c117:Ctr:=k117 slices_IndexFunc_117
theorem e117 (lp:Lp) (jn:Jn):∀(x:TsS c117.as) (F:TsF c117.fs) (y:TsS c117.cs),slices_IndexFunc_117_b lp jn x.1 F.1=runC lp jn (cx [] [(24,r24),(22,r22)]) hints 4 117 f117 c117 x F y:=fun x F y=>by kernel_rfl
theorem ok117:c117.ok prog 117:=Ctr.of_den (ctxT_ok (q24)) hmix (hl:=hints) (d:=4) func117 rfl (by decide) (e117 lpK jnK)
noncomputable def slices_ContainsFunc_81_b (_:Lp) (_:Jn) (slices_IndexFunc_117:t117) (x0:List Int) (f0:((Int×Unit)→Option Bool)):Option Bool :=
 obind (slices_IndexFunc_117 x0 f0) fun (t:Int)=>some (decide (t≥0))
noncomputable def slices_ContainsFunc_81 (x0:List Int) (f0:((Int×Unit)→Option Bool)):Option Bool:=slices_ContainsFunc_81_b lpK jnK slices_IndexFunc_117 x0 f0
abbrev t81:=(List Int)→(((Int×Unit)→Option Bool))→Option (Bool)
noncomputable def k81 (slices_ContainsFunc_81:t81):Ctr:=⟨[(.sl i64)],[([i64],.bool)],[],.one .bool,fun x F _=>slices_ContainsFunc_81 x.1 F.1⟩
noncomputable def c81:Ctr:=k81 slices_ContainsFunc_81
theorem e81 (lp:Lp) (jn:Jn) (slices_IndexFunc_117:t117):∀(x:TsS c81.as) (F:TsF c81.fs) (y:TsS c81.cs),slices_ContainsFunc_81_b lp jn slices_IndexFunc_117 x.1 F.1=runC lp jn (cx [(117,k117 slices_IndexFunc_117)] [(24,r24),(22,r22)]) hints 4 81 f81 c81 x F y:=fun x F y=>by kernel_rfl
theorem ok81:c81.ok prog 81:=Ctr.of_den (ctxT_ok (ctxOf_cons (q24) (by kernel_rfl) ok117)) hmix (hl:=hints) (d:=4) func81 rfl (by decide) (e81 lpK jnK slices_IndexFunc_117)
noncomputable def program_Valid_b (lp:Lp) (_:Jn) (_:(List ((List Int)×Int×Int))→(((((List Int)×Int×Int)×Unit)→Option Bool))→Option (Bool)) (slices_ContainsFunc_81:t81) (program_Valid_1:t79) (x0:(List Int)×List ((List Int)×Int×Int)):Option Bool :=
 
 let v3:Bool:=decide ((↑(List.length x0.1):Int)<1);
 let v4:Bool:=!v3;
 let v5:Bool:=bif v3 then true else decide ((↑(List.length x0.1):Int)>12);
 let v6:Bool:=!v4||v4;
 let v7:Bool:=!v5;
 let v8:Bool:=bif v5 then true else decide ((↑(List.length x0.2):Int)>6);
 let v9:Bool:=!v8;
 let v10:Bool:=!v7||v7;
 let v11:Bool:=!v9||v9;bif v6 then bif v6 then bif v6 then bif v3||v4 then bif v10 then bif v10 then bif v10 then bif v5||v7 then bif v11 then bif v11 then obind (bif v9 then
  program_Valid_1 1048576 else some fun (_:Int×PUnit)=>none) fun (t:Int×PUnit→Option Bool)=>bif v11&&v11 then obind (bif v9 then slices_ContainsFunc_81 x0.1 t
  else some false) fun (t:Bool)=>bif v8||v9 then bif bif v8 then true else t then some false else lp (Int×PUnit) Bool (fun (again:Int×PUnit→Option Bool) (x:Int×PUnit) =>
 let v16:List Int×Int×Int:=List.getD x0.2 (Int.toNat x.1) ([],0,0);
 let v17:Bool:=decide (v16.2.1<1);
 let v18:Bool:=decide (v16.2.1>3);
 let v19:Bool:=!decide ((↑(List.length v16.1):Int)=(↑(List.length x0.1):Int));
 let v20:Bool:=!v19;
 let v21:Bool:=!v20||v20;bif decide (x.1<(↑(List.length x0.2):Int)) then bif inB x.1 (List.length x0.2) then bif v21 then bif v21 then obind (bif v20 then
  program_Valid_1 1048576 else some fun (_:Int×PUnit)=>none) fun (t:Int×PUnit→Option Bool)=>bif v21&&v21 then obind (bif v20 then slices_ContainsFunc_81 v16.1 t
  else some false) fun (t:Bool) =>
 let v24:Bool:=bif v19 then true else t;
 let v25:Bool:=!v24;
 let v26:Bool:=bif v24 then true else v17;
 let v27:Bool:=!v26;
 let v28:Bool:=bif v26 then true else v18;
 let v29:Bool:=!v25||v25;
 let v30:Bool:=!v28;
 let v31:Bool:=!v27||v27;
 let v32:Bool:=!v30||v30;bif v19||v20 then bif v29 then bif v29 then bif v24||v25 then bif v31 then bif v31 then bif v26||v27 then bif v32 then obind (bif v30 then
  program_Valid_1 1073741824 else some fun (_:Int×PUnit)=>none) fun (t:Int×PUnit→Option Bool)=>bif v32 then bif v32&&v32 then obind (bif v30 then t (v16.2.2,
  PUnit.unit) else some false) fun (t:Bool)=>bif v28||v30 then bif bif v28 then true else t then some !decide (x.1≥0) else again (IntKind.wrap .i64 (x.1+(1 :
  Int)),PUnit.unit) else none else none else none else none else none else none else none else none else none else none else none else none else none else none else none else some
  !decide ((-1:Int)≥0)) (0,PUnit.unit) else none else none else none else none else none else none else none else none else none else none else none else none
noncomputable def program_Valid (x0:(List Int)×List ((List Int)×Int×Int)):Option Bool:=program_Valid_b lpK jnK slices_ContainsFunc_41 slices_ContainsFunc_81 program_Valid_1 x0
abbrev t33:=((List Int)×List ((List Int)×Int×Int))→Option (Bool)
noncomputable def k33 (program_Valid:t33):Ctr:=⟨[T25],[],[],.one .bool,fun x _ _=>program_Valid x.1⟩
noncomputable def c33:Ctr:=k33 program_Valid
theorem e33 (lp:Lp) (jn:Jn) (slices_ContainsFunc_41:t41) (slices_ContainsFunc_81:t81) (program_Valid_1:t79):∀(x:TsS c33.as) (F:TsF c33.fs) (y:TsS c33.cs),program_Valid_b lp jn slices_ContainsFunc_41 slices_ContainsFunc_81 program_Valid_1 x.1=runC lp jn (ctxT tabs lits (ctxG [(79,⟨[i64],[i64],.bool,fun x=>program_Valid_1 x.1⟩)] (ctxOf prog shs inls its [(81,k81 slices_ContainsFunc_81),(41,k41 slices_ContainsFunc_41)] [(24,r24),(22,r22)]))) hints 4 33 f33 c33 x F y:=fun x F y=>by kernel_rfl
theorem ok33:c33.ok prog 33:=Ctr.of_den (ctxT_ok (ctxG_ok (ctxOf_cons (ctxOf_cons (q24) (by kernel_rfl) ok41) (by kernel_rfl) ok81) (fcOk_cons (by kernel_rfl) okg79 (fcOk_nil)))) hmix (hl:=hints) (d:=4) func33 rfl (by decide) (e33 lpK jnK slices_ContainsFunc_41 slices_ContainsFunc_81 program_Valid_1)
noncomputable def ratio_size_b (_:Lp) (_:Jn) (x0:Int):Option Int :=
 
 let v3:Int:=IntKind.wrap .u64 x0;bif decide (x0<0) then some (IntKind.wrap .u64 (0 - v3)) else some v3
noncomputable def ratio_size (x0:Int):Option Int:=ratio_size_b lpK jnK x0
abbrev t69:=(Int)→Option (Int)
noncomputable def k69 (ratio_size:t69):Ctr:=⟨[i64],[],[],.one (.int .u64),fun x _ _=>ratio_size x.1⟩
noncomputable def c69:Ctr:=k69 ratio_size
theorem e69 (lp:Lp) (jn:Jn):∀(x:TsS c69.as) (F:TsF c69.fs) (y:TsS c69.cs),ratio_size_b lp jn x.1=runC lp jn (cx [] [(24,r24),(22,r22)]) hints 4 69 f69 c69 x F y:=fun x F y=>by kernel_rfl
theorem ok69:c69.ok prog 69:=Ctr.of_den (ctxT_ok (q24)) hmix (hl:=hints) (d:=4) func69 rfl (by decide) (e69 lpK jnK)
noncomputable def ratio_gcd_b (lp:Lp) (_:Jn) (x0:Int) (x1:Int):Option Int :=
 lp (Int×Int×PUnit) Int (fun (again:Int×Int×PUnit→Option Int) (x:Int×Int×PUnit)=>bif !decide (x.2.1=0) then bif nzB x.2.1 then again (x.2.1,
  Int.tmod x.1 x.2.1,PUnit.unit) else none else some x.1) (x0,x1,PUnit.unit)
noncomputable def ratio_gcd (x0:Int) (x1:Int):Option Int:=ratio_gcd_b lpK jnK x0 x1
abbrev t88:=(Int)→(Int)→Option (Int)
noncomputable def k88 (ratio_gcd:t88):Ctr:=⟨[(.int .u64),(.int .u64)],[],[],.one (.int .u64),fun x _ _=>ratio_gcd x.1 x.2.1⟩
noncomputable def c88:Ctr:=k88 ratio_gcd
theorem e88 (lp:Lp) (jn:Jn):∀(x:TsS c88.as) (F:TsF c88.fs) (y:TsS c88.cs),ratio_gcd_b lp jn x.1 x.2.1=runC lp jn (cx [] [(24,r24),(22,r22)]) hints 4 88 f88 c88 x F y:=fun x F y=>by kernel_rfl
theorem ok88:c88.ok prog 88:=Ctr.of_den (ctxT_ok (q24)) hmix (hl:=hints) (d:=4) func88 rfl (by decide) (e88 lpK jnK)
noncomputable def ratio_Valid_b (_:Lp) (_:Jn) (ratio_size:t69) (ratio_gcd:t88) (x0:Int×Int):Option Bool :=
 
 let v3:Bool:=decide (x0.2≥1);
 let v4:Bool:=!v3||v3;
 let v5:Bool:=bif v3 then decide (x0.2≤1152921504606846976) else false;
 let v6:Bool:=bif v5 then decide (x0.1≥(-1152921504606846976)) else false;
 let v7:Bool:=!v5||v5;
 let v8:Bool:=bif v6 then decide (x0.1≤1152921504606846976) else false;
 let v9:Bool:=!v6||v6;
 let v10:Bool:=!v8||v8;bif v4 then bif v4 then bif v4 then bif v7 then bif v7 then bif v7 then bif v9 then bif v9 then bif v9 then bif v10 then bif v10 then obind (bif v8 then
  ratio_size x0.1 else some 0) fun (t:Int)=>bif v10 then bif v10 then bif v10&&v10 then obind (bif v8 then ratio_gcd t (IntKind.wrap .u64 x0.2) else some (0 :
  Int)) fun (t:Int)=>bif v10 then bif v10 then some (bif v8 then decide (t=1) else false) else none else none else none else none else none else none else none else none
  else none else none else none else none else none else none else none else none
noncomputable def ratio_Valid (x0:Int×Int):Option Bool:=ratio_Valid_b lpK jnK ratio_size ratio_gcd x0
abbrev t45:=(Int×Int)→Option (Bool)
noncomputable def k45 (ratio_Valid:t45):Ctr:=⟨[T27],[],[],.one .bool,fun x _ _=>ratio_Valid x.1⟩
noncomputable def c45:Ctr:=k45 ratio_Valid
theorem e45 (lp:Lp) (jn:Jn) (ratio_size:t69) (ratio_gcd:t88):∀(x:TsS c45.as) (F:TsF c45.fs) (y:TsS c45.cs),ratio_Valid_b lp jn ratio_size ratio_gcd x.1=runC lp jn (cx [(88,k88 ratio_gcd),(69,k69 ratio_size)] [(24,r24),(22,r22)]) hints 4 45 f45 c45 x F y:=fun x F y=>by kernel_rfl
theorem ok45:c45.ok prog 45:=Ctr.of_den (ctxT_ok (ctxOf_cons (ctxOf_cons (q24) (by kernel_rfl) ok69) (by kernel_rfl) ok88)) hmix (hl:=hints) (d:=4) func45 rfl (by decide) (e45 lpK jnK ratio_size ratio_gcd)
noncomputable def slices_IndexFunc_122_b (lp:Lp) (_:Jn) (x0:List (Int×Int)) (f0:(((Int×Int)×Unit)→Option Bool)):Option Int :=
 lp (Int×PUnit) Int (fun (again:Int×PUnit→Option Int) (x:Int×PUnit)=>bif decide (x.1<(↑(List.length x0):Int)) then bif inB x.1 (List.length x0) then obind (f0
  (List.getD x0 (Int.toNat x.1) (0,0),PUnit.unit)) fun (t:Bool)=>bif t then some x.1 else again (IntKind.wrap .i64 (x.1+1),PUnit.unit) else
  none else some (-1)) (0,PUnit.unit)
noncomputable def slices_IndexFunc_122 (x0:List (Int×Int)) (f0:(((Int×Int)×Unit)→Option Bool)):Option Int:=slices_IndexFunc_122_b lpK jnK x0 f0
abbrev t122:=(List (Int×Int))→((((Int×Int)×Unit)→Option Bool))→Option (Int)
noncomputable def k122 (slices_IndexFunc_122:t122):Ctr:=⟨[(.sl T27)],[([T27],.bool)],[],.one i64,fun x F _=>slices_IndexFunc_122 x.1 F.1⟩
noncomputable def c122:Ctr:=k122 slices_IndexFunc_122
theorem e122 (lp:Lp) (jn:Jn):∀(x:TsS c122.as) (F:TsF c122.fs) (y:TsS c122.cs),slices_IndexFunc_122_b lp jn x.1 F.1=runC lp jn (cx [] [(24,r24),(22,r22)]) hints 4 122 f122 c122 x F y:=fun x F y=>by kernel_rfl
theorem ok122:c122.ok prog 122:=Ctr.of_den (ctxT_ok (q24)) hmix (hl:=hints) (d:=4) func122 rfl (by decide) (e122 lpK jnK)
noncomputable def slices_ContainsFunc_95_b (_:Lp) (_:Jn) (slices_IndexFunc_122:t122) (x0:List (Int×Int)) (f0:(((Int×Int)×Unit)→Option Bool)):Option Bool :=
 obind (slices_IndexFunc_122 x0 f0) fun (t:Int)=>some (decide (t≥0))
noncomputable def slices_ContainsFunc_95 (x0:List (Int×Int)) (f0:(((Int×Int)×Unit)→Option Bool)):Option Bool:=slices_ContainsFunc_95_b lpK jnK slices_IndexFunc_122 x0 f0
abbrev t95:=(List (Int×Int))→((((Int×Int)×Unit)→Option Bool))→Option (Bool)
noncomputable def k95 (slices_ContainsFunc_95:t95):Ctr:=⟨[(.sl T27)],[([T27],.bool)],[],.one .bool,fun x F _=>slices_ContainsFunc_95 x.1 F.1⟩
noncomputable def c95:Ctr:=k95 slices_ContainsFunc_95
theorem e95 (lp:Lp) (jn:Jn) (slices_IndexFunc_122:t122):∀(x:TsS c95.as) (F:TsF c95.fs) (y:TsS c95.cs),slices_ContainsFunc_95_b lp jn slices_IndexFunc_122 x.1 F.1=runC lp jn (cx [(122,k122 slices_IndexFunc_122)] [(24,r24),(22,r22)]) hints 4 95 f95 c95 x F y:=fun x F y=>by kernel_rfl
theorem ok95:c95.ok prog 95:=Ctr.of_den (ctxT_ok (ctxOf_cons (q24) (by kernel_rfl) ok122)) hmix (hl:=hints) (d:=4) func95 rfl (by decide) (e95 lpK jnK slices_IndexFunc_122)
noncomputable def program_right_1_b (_:Lp) (_:Jn) (ratio_Valid:t45) (x0:Int×Int):Option Bool :=
 obind (ratio_Valid x0) fun (t:Bool)=>some !t
noncomputable def program_right_1 (x0:Int×Int):Option Bool:=program_right_1_b lpK jnK ratio_Valid x0
abbrev t96:=(Int×Int)→Option (Bool)
noncomputable def c96:Ctr:=⟨[T27],[],[],.one .bool,fun x _ _=>program_right_1 x.1⟩
theorem e96 (lp:Lp) (jn:Jn) (ratio_Valid:t45):∀(x:TsS c96.as) (F:TsF c96.fs) (y:TsS c96.cs),program_right_1_b lp jn ratio_Valid x.1=runC lp jn (cx [(45,k45 ratio_Valid)] [(24,r24),(22,r22)]) hints 4 96 f96 c96 x F y:=fun x F y=>by kernel_rfl
theorem ok96:c96.ok prog 96:=Ctr.of_den (ctxT_ok (ctxOf_cons (q24) (by kernel_rfl) ok45)) hmix (hl:=hints) (d:=4) func96 rfl (by decide) (e96 lpK jnK ratio_Valid)
noncomputable def program_right_b (_:Lp) (_:Jn) (slices_ContainsFunc_95:t95) (program_right_1:t96) (x0:List (Int×Int)):Option Bool :=
 obind (slices_ContainsFunc_95 x0 fun (x:(Int×Int)×PUnit)=>program_right_1 x.1) fun (t:Bool)=>some !t
noncomputable def program_right (x0:List (Int×Int)):Option Bool:=program_right_b lpK jnK slices_ContainsFunc_95 program_right_1 x0
abbrev t46:=(List (Int×Int))→Option (Bool)
noncomputable def k46 (program_right:t46):Ctr:=⟨[(.sl T27)],[],[],.one .bool,fun x _ _=>program_right x.1⟩
noncomputable def c46:Ctr:=k46 program_right
theorem e46 (lp:Lp) (jn:Jn) (slices_ContainsFunc_95:t95) (program_right_1:t96):∀(x:TsS c46.as) (F:TsF c46.fs) (y:TsS c46.cs),program_right_b lp jn slices_ContainsFunc_95 program_right_1 x.1=runC lp jn (cx [(96,⟨[T27],[],[],.one .bool,fun x _ _=>program_right_1 x.1⟩),(95,k95 slices_ContainsFunc_95)] [(24,r24),(22,r22)]) hints 4 46 f46 c46 x F y:=fun x F y=>by kernel_rfl
theorem ok46:c46.ok prog 46:=Ctr.of_den (ctxT_ok (ctxOf_cons (ctxOf_cons (q24) (by kernel_rfl) ok95) (by kernel_rfl) ok96)) hmix (hl:=hints) (d:=4) func46 rfl (by decide) (e46 lpK jnK slices_ContainsFunc_95 program_right_1)
noncomputable def bits_Mul64_b (_:Lp) (_:Jn) (x0:Int) (x1:Int):Option (Int×Int×Unit) :=
 
 let v4:Int:=2 ^ 32;
 let v5:Int:=Int.fdiv x0 v4;
 let v6:Int:=Int.fdiv x1 v4;
 let v7:Bool:=decide ((0:Int)≤32);
 let v8:Int:=IntKind.wrap .u64 (↑(Nat.land (Int.toNat (x1 % Int.ofNat 18446744073709551616)) (Int.toNat (4294967295 % Int.ofNat 18446744073709551616))) :
  Int);
 let v9:Int:=IntKind.wrap .u64 (↑(Nat.land (Int.toNat (x0 % Int.ofNat 18446744073709551616)) (Int.toNat (4294967295 % Int.ofNat 18446744073709551616))) :
  Int);
 let v10:Int:=IntKind.wrap .u64 (IntKind.wrap .u64 (v5*v8)+Int.fdiv (IntKind.wrap .u64 (v9*v8)) v4);bif v7 then bif v7 then bif v7 then bif v7 then bif v7
  then some (IntKind.wrap .u64 (IntKind.wrap .u64 (IntKind.wrap .u64 (v5*v6)+Int.fdiv v10 v4)+Int.fdiv (IntKind.wrap .u64 (IntKind.wrap .u64
  (↑(Nat.land (Int.toNat (v10 % Int.ofNat 18446744073709551616)) (Int.toNat (4294967295 % Int.ofNat 18446744073709551616))):Int)+IntKind.wrap .u64 (v9 *
  v6))) v4),IntKind.wrap .u64 (x0*x1),PUnit.unit) else none else none else none else none else none
noncomputable def bits_Mul64 (x0:Int) (x1:Int):Option (Int×Int×Unit):=bits_Mul64_b lpK jnK x0 x1
abbrev t113:=(Int)→(Int)→Option (Int×Int×Unit)
noncomputable def k113 (bits_Mul64:t113):Ctr:=⟨[(.int .u64),(.int .u64)],[],[],.tup [(.int .u64),(.int .u64)],fun x _ _=>bits_Mul64 x.1 x.2.1⟩
noncomputable def c113:Ctr:=k113 bits_Mul64
theorem e113 (lp:Lp) (jn:Jn):∀(x:TsS c113.as) (F:TsF c113.fs) (y:TsS c113.cs),bits_Mul64_b lp jn x.1 x.2.1=runC lp jn (cx [] [(24,r24),(22,r22)]) hints 4 113 f113 c113 x F y:=fun x F y=>by kernel_rfl
theorem ok113:c113.ok prog 113:=Ctr.of_den (ctxT_ok (q24)) hmix (hl:=hints) (d:=4) func113 rfl (by decide) (e113 lpK jnK)
noncomputable def ratio_product_b (_:Lp) (_:Jn) (bits_Mul64:t113) (x0:Int) (x1:Int):Option (Int×Int) :=
 obind (bits_Mul64 x0 x1) fun (t:Int×Int×PUnit)=>some (t.1,t.2.1)
noncomputable def ratio_product (x0:Int) (x1:Int):Option (Int×Int):=ratio_product_b lpK jnK bits_Mul64 x0 x1
abbrev t68:=(Int)→(Int)→Option (Int×Int)
noncomputable def k68 (ratio_product:t68):Ctr:=⟨[(.int .u64),(.int .u64)],[],[],.one T96,fun x _ _=>ratio_product x.1 x.2.1⟩
noncomputable def c68:Ctr:=k68 ratio_product
theorem e68 (lp:Lp) (jn:Jn) (bits_Mul64:t113):∀(x:TsS c68.as) (F:TsF c68.fs) (y:TsS c68.cs),ratio_product_b lp jn bits_Mul64 x.1 x.2.1=runC lp jn (cx [(113,k113 bits_Mul64)] [(24,r24),(22,r22)]) hints 4 68 f68 c68 x F y:=fun x F y=>by kernel_rfl
theorem ok68:c68.ok prog 68:=Ctr.of_den (ctxT_ok (ctxOf_cons (q24) (by kernel_rfl) ok113)) hmix (hl:=hints) (d:=4) func68 rfl (by decide) (e68 lpK jnK bits_Mul64)
noncomputable def ratio_less_b (_:Lp) (_:Jn) (x0:Int×Int) (x1:Int×Int):Option Bool :=
 
 let v4:Bool:=decide (x0.1=x1.1);
 let v5:Bool:=decide (x0.1<x1.1);
 let v6:Bool:=!v5;
 let v7:Bool:=!v6;
 let v8:Bool:=v6&&v4;
 let v9:Bool:=v7||v6;
 let v10:Bool:=!v8||v8;bif v9 then bif v9 then bif v9&&v9 then bif v9 then bif v10 then bif v10 then bif v10&&v10 then bif (v7||v9)&&(v7||(!v4||(v7||v8))) then bif v5
  || v6 then some (bif v5 then true else bif v4 then decide (x0.2<x1.2) else false) else none else none else none else none else none else none else none else none else none
noncomputable def ratio_less (x0:Int×Int) (x1:Int×Int):Option Bool:=ratio_less_b lpK jnK x0 x1
abbrev t70:=(Int×Int)→(Int×Int)→Option (Bool)
noncomputable def k70 (ratio_less:t70):Ctr:=⟨[T96,T96],[],[],.one .bool,fun x _ _=>ratio_less x.1 x.2.1⟩
noncomputable def c70:Ctr:=k70 ratio_less
theorem e70 (lp:Lp) (jn:Jn):∀(x:TsS c70.as) (F:TsF c70.fs) (y:TsS c70.cs),ratio_less_b lp jn x.1 x.2.1=runC lp jn (cx [] [(24,r24),(22,r22)]) hints 4 70 f70 c70 x F y:=fun x F y=>by kernel_rfl
theorem ok70:c70.ok prog 70:=Ctr.of_den (ctxT_ok (q24)) hmix (hl:=hints) (d:=4) func70 rfl (by decide) (e70 lpK jnK)
noncomputable def ratio_plus_b (_:Lp) (_:Jn) (x0:Int×Int) (x1:Int×Int):Option (Int×Int) :=
 bif decide ((0:Int)≤0)&&decide ((0:Int)≤1) then bif decide (0≤addC x0.2 x1.2 0)&&decide (addC x0.2 x1.2 0≤1) then
  some (addO x0.1 x1.1 (addC x0.2 x1.2 0),addO x0.2 x1.2 0) else none else none
noncomputable def ratio_plus (x0:Int×Int) (x1:Int×Int):Option (Int×Int):=ratio_plus_b lpK jnK x0 x1
abbrev t89:=(Int×Int)→(Int×Int)→Option (Int×Int)
noncomputable def c89:Ctr:=⟨[T96,T96],[],[],.one T96,fun x _ _=>ratio_plus x.1 x.2.1⟩
theorem e89 (lp:Lp) (jn:Jn):∀(x:TsS c89.as) (F:TsF c89.fs) (y:TsS c89.cs),ratio_plus_b lp jn x.1 x.2.1=runC lp jn (cx [] [(24,r24),(22,r22)]) hints 4 89 f89 c89 x F y:=fun x F y=>by kernel_rfl
theorem ok89:c89.ok prog 89:=Ctr.of_den (ctxT_ok (q24)) hmix (hl:=hints) (d:=4) func89 rfl (by decide) (e89 lpK jnK)
noncomputable def ratio_minus_b (_:Lp) (_:Jn) (x0:Int×Int) (x1:Int×Int):Option (Int×Int) :=
 bif decide ((0:Int)≤0)&&decide ((0:Int)≤1) then bif decide (0≤subC x0.2 x1.2 0)&&decide (subC x0.2 x1.2 0≤1) then
  some (subO x0.1 x1.1 (subC x0.2 x1.2 0),subO x0.2 x1.2 0) else none else none
noncomputable def ratio_minus (x0:Int×Int) (x1:Int×Int):Option (Int×Int):=ratio_minus_b lpK jnK x0 x1
abbrev t90:=(Int×Int)→(Int×Int)→Option (Int×Int)
noncomputable def c90:Ctr:=⟨[T96,T96],[],[],.one T96,fun x _ _=>ratio_minus x.1 x.2.1⟩
theorem e90 (lp:Lp) (jn:Jn):∀(x:TsS c90.as) (F:TsF c90.fs) (y:TsS c90.cs),ratio_minus_b lp jn x.1 x.2.1=runC lp jn (cx [] [(24,r24),(22,r22)]) hints 4 90 f90 c90 x F y:=fun x F y=>by kernel_rfl
theorem ok90:c90.ok prog 90:=Ctr.of_den (ctxT_ok (q24)) hmix (hl:=hints) (d:=4) func90 rfl (by decide) (e90 lpK jnK)
noncomputable def bits_Len64_b (_:Lp) (jn:Jn) (x0:Int):Option Int :=
 jn (Int×Int×PUnit) Int (fun (x:Int×Int×PUnit)=>jn (Int×Int×PUnit) Int (fun (x:Int×Int×PUnit) =>
 let v5:Int:=IntKind.wrap IntKind.u8 x.1;
 let v6:Int:=IntKind.wrap IntKind.u8 (Int.fdiv x.1 (2 ^ 8));bif decide (x.1≥256) then bif decide ((0:Int)≤8) then bif inB v6 256 then
  some (IntKind.wrap .i64 (IntKind.wrap .i64 (x.2.1+8)+IntKind.wrap .i64 (byteAt { data:=List.toArray (List.append (List.append [(0:UInt8),(1 :
  UInt8),(2:UInt8),(2:UInt8),(3:UInt8),(3:UInt8),(3:UInt8),(3:UInt8),(4:UInt8),(4:UInt8),(4:UInt8),(4:UInt8),(4:UInt8),(4:UInt8),(4:UInt8),(4 :
  UInt8),(5:UInt8),(5:UInt8),(5:UInt8),(5:UInt8),(5:UInt8),(5:UInt8),(5:UInt8),(5:UInt8),(5:UInt8),(5:UInt8),(5:UInt8),(5:UInt8),(5:UInt8),(5 :
  UInt8),(5:UInt8),(5:UInt8),(6:UInt8),(6:UInt8),(6:UInt8),(6:UInt8),(6:UInt8),(6:UInt8),(6:UInt8),(6:UInt8),(6:UInt8),(6:UInt8),(6:UInt8),(6 :
  UInt8),(6:UInt8),(6:UInt8),(6:UInt8),(6:UInt8),(6:UInt8),(6:UInt8),(6:UInt8),(6:UInt8),(6:UInt8),(6:UInt8),(6:UInt8),(6:UInt8),(6:UInt8),(6 :
  UInt8),(6:UInt8),(6:UInt8),(6:UInt8),(6:UInt8),(6:UInt8),(6:UInt8)] [(7:UInt8),(7:UInt8),(7:UInt8),(7:UInt8),(7:UInt8),(7:UInt8),(7:UInt8),(7 :
  UInt8),(7:UInt8),(7:UInt8),(7:UInt8),(7:UInt8),(7:UInt8),(7:UInt8),(7:UInt8),(7:UInt8),(7:UInt8),(7:UInt8),(7:UInt8),(7:UInt8),(7:UInt8),(7 :
  UInt8),(7:UInt8),(7:UInt8),(7:UInt8),(7:UInt8),(7:UInt8),(7:UInt8),(7:UInt8),(7:UInt8),(7:UInt8),(7:UInt8),(7:UInt8),(7:UInt8),(7:UInt8),(7 :
  UInt8),(7:UInt8),(7:UInt8),(7:UInt8),(7:UInt8),(7:UInt8),(7:UInt8),(7:UInt8),(7:UInt8),(7:UInt8),(7:UInt8),(7:UInt8),(7:UInt8),(7:UInt8),(7 :
  UInt8),(7:UInt8),(7:UInt8),(7:UInt8),(7:UInt8),(7:UInt8),(7:UInt8),(7:UInt8),(7:UInt8),(7:UInt8),(7:UInt8),(7:UInt8),(7:UInt8),(7:UInt8),(7 :
  UInt8)]) (List.append [(8:UInt8),(8:UInt8),(8:UInt8),(8:UInt8),(8:UInt8),(8:UInt8),(8:UInt8),(8:UInt8),(8:UInt8),(8:UInt8),(8:UInt8),(8:UInt8),(8 :
  UInt8),(8:UInt8),(8:UInt8),(8:UInt8),(8:UInt8),(8:UInt8),(8:UInt8),(8:UInt8),(8:UInt8),(8:UInt8),(8:UInt8),(8:UInt8),(8:UInt8),(8:UInt8),(8 :
  UInt8),(8:UInt8),(8:UInt8),(8:UInt8),(8:UInt8),(8:UInt8),(8:UInt8),(8:UInt8),(8:UInt8),(8:UInt8),(8:UInt8),(8:UInt8),(8:UInt8),(8:UInt8),(8 :
  UInt8),(8:UInt8),(8:UInt8),(8:UInt8),(8:UInt8),(8:UInt8),(8:UInt8),(8:UInt8),(8:UInt8),(8:UInt8),(8:UInt8),(8:UInt8),(8:UInt8),(8:UInt8),(8 :
  UInt8),(8:UInt8),(8:UInt8),(8:UInt8),(8:UInt8),(8:UInt8),(8:UInt8),(8:UInt8),(8:UInt8),(8:UInt8)] [(8:UInt8),(8:UInt8),(8:UInt8),(8:UInt8),(8 :
  UInt8),(8:UInt8),(8:UInt8),(8:UInt8),(8:UInt8),(8:UInt8),(8:UInt8),(8:UInt8),(8:UInt8),(8:UInt8),(8:UInt8),(8:UInt8),(8:UInt8),(8:UInt8),(8 :
  UInt8),(8:UInt8),(8:UInt8),(8:UInt8),(8:UInt8),(8:UInt8),(8:UInt8),(8:UInt8),(8:UInt8),(8:UInt8),(8:UInt8),(8:UInt8),(8:UInt8),(8:UInt8),(8 :
  UInt8),(8:UInt8),(8:UInt8),(8:UInt8),(8:UInt8),(8:UInt8),(8:UInt8),(8:UInt8),(8:UInt8),(8:UInt8),(8:UInt8),(8:UInt8),(8:UInt8),(8:UInt8),(8 :
  UInt8),(8:UInt8),(8:UInt8),(8:UInt8),(8:UInt8),(8:UInt8),(8:UInt8),(8:UInt8),(8:UInt8),(8:UInt8),(8:UInt8),(8:UInt8),(8:UInt8),(8:UInt8),(8 :
  UInt8),(8:UInt8),(8:UInt8),(8:UInt8)])) } (Int.toNat v6)))) else none else none else bif inB v5 256 then some (IntKind.wrap .i64 (x.2.1+IntKind.wrap
  IntKind.i64 (byteAt { data:=List.toArray (List.append (List.append [(0:UInt8),(1:UInt8),(2:UInt8),(2:UInt8),(3:UInt8),(3:UInt8),(3:UInt8),(3:UInt8),(4 :
  UInt8),(4:UInt8),(4:UInt8),(4:UInt8),(4:UInt8),(4:UInt8),(4:UInt8),(4:UInt8),(5:UInt8),(5:UInt8),(5:UInt8),(5:UInt8),(5:UInt8),(5:UInt8),(5 :
  UInt8),(5:UInt8),(5:UInt8),(5:UInt8),(5:UInt8),(5:UInt8),(5:UInt8),(5:UInt8),(5:UInt8),(5:UInt8),(6:UInt8),(6:UInt8),(6:UInt8),(6:UInt8),(6 :
  UInt8),(6:UInt8),(6:UInt8),(6:UInt8),(6:UInt8),(6:UInt8),(6:UInt8),(6:UInt8),(6:UInt8),(6:UInt8),(6:UInt8),(6:UInt8),(6:UInt8),(6:UInt8),(6 :
  UInt8),(6:UInt8),(6:UInt8),(6:UInt8),(6:UInt8),(6:UInt8),(6:UInt8),(6:UInt8),(6:UInt8),(6:UInt8),(6:UInt8),(6:UInt8),(6:UInt8),(6:UInt8)] [(7 :
  UInt8),(7:UInt8),(7:UInt8),(7:UInt8),(7:UInt8),(7:UInt8),(7:UInt8),(7:UInt8),(7:UInt8),(7:UInt8),(7:UInt8),(7:UInt8),(7:UInt8),(7:UInt8),(7 :
  UInt8),(7:UInt8),(7:UInt8),(7:UInt8),(7:UInt8),(7:UInt8),(7:UInt8),(7:UInt8),(7:UInt8),(7:UInt8),(7:UInt8),(7:UInt8),(7:UInt8),(7:UInt8),(7 :
  UInt8),(7:UInt8),(7:UInt8),(7:UInt8),(7:UInt8),(7:UInt8),(7:UInt8),(7:UInt8),(7:UInt8),(7:UInt8),(7:UInt8),(7:UInt8),(7:UInt8),(7:UInt8),(7 :
  UInt8),(7:UInt8),(7:UInt8),(7:UInt8),(7:UInt8),(7:UInt8),(7:UInt8),(7:UInt8),(7:UInt8),(7:UInt8),(7:UInt8),(7:UInt8),(7:UInt8),(7:UInt8),(7 :
  UInt8),(7:UInt8),(7:UInt8),(7:UInt8),(7:UInt8),(7:UInt8),(7:UInt8),(7:UInt8)]) (List.append [(8:UInt8),(8:UInt8),(8:UInt8),(8:UInt8),(8:UInt8),(8 :
  UInt8),(8:UInt8),(8:UInt8),(8:UInt8),(8:UInt8),(8:UInt8),(8:UInt8),(8:UInt8),(8:UInt8),(8:UInt8),(8:UInt8),(8:UInt8),(8:UInt8),(8:UInt8),(8 :
  UInt8),(8:UInt8),(8:UInt8),(8:UInt8),(8:UInt8),(8:UInt8),(8:UInt8),(8:UInt8),(8:UInt8),(8:UInt8),(8:UInt8),(8:UInt8),(8:UInt8),(8:UInt8),(8 :
  UInt8),(8:UInt8),(8:UInt8),(8:UInt8),(8:UInt8),(8:UInt8),(8:UInt8),(8:UInt8),(8:UInt8),(8:UInt8),(8:UInt8),(8:UInt8),(8:UInt8),(8:UInt8),(8 :
  UInt8),(8:UInt8),(8:UInt8),(8:UInt8),(8:UInt8),(8:UInt8),(8:UInt8),(8:UInt8),(8:UInt8),(8:UInt8),(8:UInt8),(8:UInt8),(8:UInt8),(8:UInt8),(8 :
  UInt8),(8:UInt8),(8:UInt8)] [(8:UInt8),(8:UInt8),(8:UInt8),(8:UInt8),(8:UInt8),(8:UInt8),(8:UInt8),(8:UInt8),(8:UInt8),(8:UInt8),(8:UInt8),(8 :
  UInt8),(8:UInt8),(8:UInt8),(8:UInt8),(8:UInt8),(8:UInt8),(8:UInt8),(8:UInt8),(8:UInt8),(8:UInt8),(8:UInt8),(8:UInt8),(8:UInt8),(8:UInt8),(8 :
  UInt8),(8:UInt8),(8:UInt8),(8:UInt8),(8:UInt8),(8:UInt8),(8:UInt8),(8:UInt8),(8:UInt8),(8:UInt8),(8:UInt8),(8:UInt8),(8:UInt8),(8:UInt8),(8 :
  UInt8),(8:UInt8),(8:UInt8),(8:UInt8),(8:UInt8),(8:UInt8),(8:UInt8),(8:UInt8),(8:UInt8),(8:UInt8),(8:UInt8),(8:UInt8),(8:UInt8),(8:UInt8),(8 :
  UInt8),(8:UInt8),(8:UInt8),(8:UInt8),(8:UInt8),(8:UInt8),(8:UInt8),(8:UInt8),(8:UInt8),(8:UInt8),(8:UInt8)])) } (Int.toNat v5)))) else none) fun (j:Int ×
  Int×PUnit→Option Int)=>bif decide (x.1≥65536) then bif decide ((0:Int)≤16) then j (Int.fdiv x.1 (2 ^ 16),IntKind.wrap .i64
  (x.2.1+16),PUnit.unit) else none else j (x.1,x.2.1,PUnit.unit)) fun (j:Int×Int×PUnit→Option Int)=>bif decide (x0≥4294967296) then bif decide
  (0≤32) then j (Int.fdiv x0 (2 ^ 32),32,PUnit.unit) else none else j (x0,0,PUnit.unit)
noncomputable def bits_Len64 (x0:Int):Option Int:=bits_Len64_b lpK jnK x0
abbrev t130:=(Int)→Option (Int)
noncomputable def c130:Ctr:=⟨[(.int .u64)],[],[],.one i64,fun x _ _=>bits_Len64 x.1⟩
theorem e130 (lp:Lp) (jn:Jn):∀(x:TsS c130.as) (F:TsF c130.fs) (y:TsS c130.cs),bits_Len64_b lp jn x.1=runC lp jn (cx [] [(24,r24),(22,r22)]) hints 4 130 f130 c130 x F y:=fun x F y=>by kernel_rfl
theorem ok130:c130.ok prog 130:=Ctr.of_den (ctxT_ok (q24)) hmix (hl:=hints) (d:=4) func130 rfl (by decide) (e130 lpK jnK)
noncomputable def bits_LeadingZeros64_b (_:Lp) (_:Jn) (bits_Len64:t130) (x0:Int):Option Int :=
 obind (bits_Len64 x0) fun (t:Int)=>some (IntKind.wrap .i64 (64 - t))
noncomputable def bits_LeadingZeros64 (x0:Int):Option Int:=bits_LeadingZeros64_b lpK jnK bits_Len64 x0
abbrev t128:=(Int)→Option (Int)
noncomputable def c128:Ctr:=⟨[(.int .u64)],[],[],.one i64,fun x _ _=>bits_LeadingZeros64 x.1⟩
theorem e128 (lp:Lp) (jn:Jn) (bits_Len64:t130):∀(x:TsS c128.as) (F:TsF c128.fs) (y:TsS c128.cs),bits_LeadingZeros64_b lp jn bits_Len64 x.1=runC lp jn (cx [(130,⟨[(.int .u64)],[],[],.one i64,fun x _ _=>bits_Len64 x.1⟩)] [(24,r24),(22,r22)]) hints 4 128 f128 c128 x F y:=fun x F y=>by kernel_rfl
theorem ok128:c128.ok prog 128:=Ctr.of_den (ctxT_ok (ctxOf_cons (q24) (by kernel_rfl) ok130)) hmix (hl:=hints) (d:=4) func128 rfl (by decide) (e128 lpK jnK bits_Len64)
noncomputable def bits_Div64_b (lp:Lp) (jn:Jn) (bits_LeadingZeros64:t128) (x0:Int) (x1:Int) (x2:Int):Option (Int×Int×Unit) :=
 
 let v5:Bool:=nzB x2;
 let v6:Int:=2 ^ 32;
 let v7:Bool:=decide ((0:Int)≤32);jn PUnit (Int×Int×PUnit) (fun (_:PUnit)=>jn PUnit (Int×Int×PUnit) (fun (_:PUnit)=>bif decide (x0=0) then bif v5
  then bif v5 then some (IntKind.wrap .u64 (Int.tdiv x1 x2),Int.tmod x1 x2,PUnit.unit) else none else none else obind (bits_LeadingZeros64 x2) fun (t:Int) =>
 let v11:Int:=IntKind.wrap .u64 t;
 let v12:Bool:=decide (0≤v11);
 let v13:Int:=2 ^ min (Int.toNat v11) 64;
 let v14:Int:=IntKind.wrap .u64 (x2*v13);
 let v15:Int:=IntKind.wrap .u64 (x1*v13);
 let v16:Int:=Int.fdiv v14 v6;
 let v17:Int:=Int.fdiv v15 v6;
 let v18:Bool:=nzB v16;
 let v19:Int:=IntKind.wrap .u64 (↑(Nat.land (Int.toNat (v15 % Int.ofNat 18446744073709551616)) (Int.toNat (4294967295 % Int.ofNat 18446744073709551616)))
  : Int);
 let v20:Int:=IntKind.wrap .u64 (↑(Nat.land (Int.toNat (v14 % Int.ofNat 18446744073709551616)) (Int.toNat (4294967295 % Int.ofNat 18446744073709551616)))
  : Int);
 let v21:Int:=IntKind.wrap .u64 (↑(Nat.lor (Int.toNat (IntKind.wrap .u64 (x0*v13) % Int.ofNat 18446744073709551616)) (Int.toNat (Int.fdiv x1 (2 ^ min
  (Int.toNat (IntKind.wrap .u64 (64 - v11))) 64) % Int.ofNat 18446744073709551616))):Int);
 let v22:Int:=IntKind.wrap .u64 (Int.tdiv v21 v16);bif v12 then bif v7 then bif v12 then bif decide (0≤IntKind.wrap .u64 (64 - v11)) then bif v12 then
  bif v7 then bif v18 then jn (Int×PUnit) (Int×Int×PUnit) (fun (x:Int×PUnit) =>
 let v24:Int:=IntKind.wrap .u64 (IntKind.wrap .u64 (IntKind.wrap .u64 (v21*4294967296)+v17) - IntKind.wrap .u64 (x.1*v14));
 let v25:Int:=IntKind.wrap .u64 (Int.tdiv v24 v16);bif v18 then jn (Int×PUnit) (Int×Int×PUnit) (fun (x_1:Int×PUnit)=>bif v12 then some (IntKind.wrap .u64
  (IntKind.wrap .u64 (x.1*4294967296)+x_1.1),Int.fdiv (IntKind.wrap .u64 (IntKind.wrap .u64 (IntKind.wrap .u64 (v24*4294967296) +
  v19) - IntKind.wrap .u64 (x_1.1*v14))) v13,PUnit.unit) else none) fun (j:Int×PUnit→Option (Int×Int×PUnit))=>lp (Int×Int×PUnit) (Int×Int×PUnit) (fun
  (again:Int×Int×PUnit→Option (Int×Int×PUnit)) (x:Int×Int×PUnit) =>
 let v29:Int×PUnit:=(IntKind.wrap .u64 (x.2.1 - 1),PUnit.unit);
 let v30:Bool:=decide (x.2.1≥4294967296);
 let v31:Bool:=!v30;
 let v32:Bool:=!v31||v31;
 let v33:Bool:=v32&&v32;bif v33 then bif v32 then bif v33 then bif v33 then bif v30||v31 then bif bif v30 then true else decide (IntKind.wrap .u64 (x.2.1*v20) >
  IntKind.wrap .u64 (IntKind.wrap .u64 (4294967296*x.1)+v19)) then bif decide (IntKind.wrap .u64 (x.1+v16)≥4294967296) then j v29 else
  again (IntKind.wrap .u64 (x.1+v16),v29) else j (x.2.1,PUnit.unit) else none else none else none else none else none) (IntKind.wrap .u64 (v24 - IntKind.wrap
  IntKind.u64 (v25*v16)),v25,PUnit.unit) else none) fun (j:Int×PUnit→Option (Int×Int×PUnit))=>lp (Int×Int×PUnit) (Int×Int×PUnit) (fun (again:Int×Int×PUnit →
  Option (Int×Int×PUnit)) (x:Int×Int×PUnit) =>
 let v26:Int:=IntKind.wrap .u64 (x.1 - 1);
 let v27:Bool:=decide (x.1≥4294967296);
 let v28:Bool:=!v27;
 let v29:Bool:=!v28||v28;
 let v30:Bool:=v29&&v29;bif v30 then bif v29 then bif v30 then bif v30 then bif v27||v28 then bif bif v27 then true else decide (IntKind.wrap .u64 (x.1*v20) >
  IntKind.wrap .u64 (IntKind.wrap .u64 (4294967296*x.2.1)+v17)) then bif decide (IntKind.wrap .u64 (x.2.1+v16)≥4294967296) then j
  (v26,PUnit.unit) else again (v26,IntKind.wrap .u64 (x.2.1+v16),PUnit.unit) else j (x.1,PUnit.unit) else none else none else none else none else none) (v22,
  IntKind.wrap .u64 (v21 - IntKind.wrap .u64 (v22*v16)),PUnit.unit) else none else none else none else none else none else none else none) fun (j:PUnit→Option (Int ×
  Int×PUnit))=>bif decide (x2≤x0) then none else j PUnit.unit) fun (j:PUnit→Option (Int×Int×PUnit))=>bif decide (x2=0) then none else j PUnit.unit
noncomputable def bits_Div64 (x0:Int) (x1:Int) (x2:Int):Option (Int×Int×Unit):=bits_Div64_b lpK jnK bits_LeadingZeros64 x0 x1 x2
abbrev t121:=(Int)→(Int)→(Int)→Option (Int×Int×Unit)
noncomputable def k121 (bits_Div64:t121):Ctr:=⟨[(.int .u64),(.int .u64),(.int .u64)],[],[],.tup [(.int .u64),(.int .u64)],fun x _ _=>bits_Div64 x.1 x.2.1 x.2.2.1⟩
noncomputable def c121:Ctr:=k121 bits_Div64
theorem e121 (lp:Lp) (jn:Jn) (bits_LeadingZeros64:t128):∀(x:TsS c121.as) (F:TsF c121.fs) (y:TsS c121.cs),bits_Div64_b lp jn bits_LeadingZeros64 x.1 x.2.1 x.2.2.1=runC lp jn (cx [(128,⟨[(.int .u64)],[],[],.one i64,fun x _ _=>bits_LeadingZeros64 x.1⟩)] [(24,r24),(22,r22)]) hints 4 121 f121 c121 x F y:=fun x F y=>by kernel_rfl
theorem ok121:c121.ok prog 121:=Ctr.of_den (ctxT_ok (ctxOf_cons (q24) (by kernel_rfl) ok128)) hmix (hl:=hints) (d:=4) func121 rfl (by decide) (e121 lpK jnK bits_LeadingZeros64)
noncomputable def ratio_over_b (_:Lp) (_:Jn) (bits_Div64:t121) (x0:Int×Int) (x1:Int):Option ((Int×Int)×Int×Unit) :=
 
 let v4:Bool:=nzB x1;bif v4 then obind (bits_Div64 (Int.tmod x0.1 x1) x0.2 x1) fun (t:Int×Int×PUnit)=>bif v4 then some ((IntKind.wrap .u64 (Int.tdiv x0.1 x1),
  t.1),t.2.1,PUnit.unit) else none else none
noncomputable def ratio_over (x0:Int×Int) (x1:Int):Option ((Int×Int)×Int×Unit):=ratio_over_b lpK jnK bits_Div64 x0 x1
abbrev t91:=(Int×Int)→(Int)→Option ((Int×Int)×Int×Unit)
noncomputable def k91 (ratio_over:t91):Ctr:=⟨[T96,(.int .u64)],[],[],.tup [T96,(.int .u64)],fun x _ _=>ratio_over x.1 x.2.1⟩
noncomputable def c91:Ctr:=k91 ratio_over
theorem e91 (lp:Lp) (jn:Jn) (bits_Div64:t121):∀(x:TsS c91.as) (F:TsF c91.fs) (y:TsS c91.cs),ratio_over_b lp jn bits_Div64 x.1 x.2.1=runC lp jn (cx [(121,k121 bits_Div64)] [(24,r24),(22,r22)]) hints 4 91 f91 c91 x F y:=fun x F y=>by kernel_rfl
theorem ok91:c91.ok prog 91:=Ctr.of_den (ctxT_ok (ctxOf_cons (q24) (by kernel_rfl) ok121)) hmix (hl:=hints) (d:=4) func91 rfl (by decide) (e91 lpK jnK bits_Div64)
noncomputable def ratio_signed_b (_:Lp) (_:Jn) (x0:Bool) (x1:Int) (x2:Int):Option ((Int×Int)×Int×Unit) :=
 
 let v5:Int:=IntKind.wrap .i64 x1;
 let v6:Int:=IntKind.wrap .i64 x2;
 let v7:Bool:=decide (x1>1152921504606846976);
 let v8:Bool:=!v7;bif !v8||v8 then bif v7||v8 then bif bif v7 then true else decide (x2>1152921504606846976) then some ((0,0),5,PUnit.unit)
  else bif x0 then some ((IntKind.wrap .i64 (0 - v5),v6),0,PUnit.unit) else some ((v5,v6),0,PUnit.unit) else none else none
noncomputable def ratio_signed (x0:Bool) (x1:Int) (x2:Int):Option ((Int×Int)×Int×Unit):=ratio_signed_b lpK jnK x0 x1 x2
abbrev t92:=(Bool)→(Int)→(Int)→Option ((Int×Int)×Int×Unit)
noncomputable def k92 (ratio_signed:t92):Ctr:=⟨[.bool,(.int .u64),(.int .u64)],[],[],.tup [T27,i64],fun x _ _=>ratio_signed x.1 x.2.1 x.2.2.1⟩
noncomputable def c92:Ctr:=k92 ratio_signed
theorem e92 (lp:Lp) (jn:Jn):∀(x:TsS c92.as) (F:TsF c92.fs) (y:TsS c92.cs),ratio_signed_b lp jn x.1 x.2.1 x.2.2.1=runC lp jn (cx [] [(24,r24),(22,r22)]) hints 4 92 f92 c92 x F y:=fun x F y=>by kernel_rfl
theorem ok92:c92.ok prog 92:=Ctr.of_den (ctxT_ok (q24)) hmix (hl:=hints) (d:=4) func92 rfl (by decide) (e92 lpK jnK)
noncomputable def ratio_Add_b (_:Lp) (jn:Jn) (ratio_size:t69) (ratio_gcd:t88) (ratio_Valid:t45) (ratio_product:t68) (ratio_less:t70) (ratio_plus:t89) (ratio_minus:t90) (ratio_over:t91) (ratio_signed:t92) (x0:Int×Int) (x1:Int×Int):Option ((Int×Int)×Int×Unit) :=
 
 let v4:Int:=IntKind.wrap .u64 x0.2;
 let v5:Int:=IntKind.wrap .u64 x1.2;
 let v6:Bool:=decide (x0.1<0);obind (ratio_Valid x0) fun (t:Bool) =>
 let v8:Bool:=!t;
 let v9:Bool:=!v8;
 let v10:Bool:=!v9||v9;bif v10 then obind (bif v9 then ratio_Valid x1 else some false) fun (t:Bool)=>bif v10 then bif v8||v9 then bif bif v8 then true else !t then some (((0 :
  Int),0),1,PUnit.unit) else obind (ratio_gcd v4 v5) fun (t:Int) =>
 let v13:Bool:=nzB t;
 let v14:Int:=IntKind.wrap .u64 (Int.tdiv v4 t);obind (ratio_size x0.1) fun (t_1:Int)=>bif v13 then obind (ratio_product t_1 (IntKind.wrap .u64 (Int.tdiv v5 t)))
  fun (t_2:Int×Int)=>obind (ratio_size x1.1) fun (t_3:Int)=>bif v13 then obind (ratio_product t_3 v14) fun (t_4:Int×Int)=>jn (Bool×(Int×Int)×PUnit) ((Int×Int) ×
  Int×PUnit) (fun (x:Bool×(Int×Int)×PUnit)=>bif decide (x.2.1.1=0)&&(decide (x.2.1.2=0)&&true) then some ((0,1),(0 :
  Int),PUnit.unit) else obind (ratio_over x.2.1 t) fun (t_5:(Int×Int)×Int×PUnit)=>obind (ratio_gcd t t_5.2.1) fun (t:Int)=>obind (ratio_over x.2.1 t) fun (t_6 :
  (Int×Int)×Int×PUnit) =>
 let v23:Bool:=decide (t_6.1.1>0);
 let v24:Bool:=!v23;
 let v25:Bool:=!v24||v24;bif v13 then bif nzB t then obind (ratio_product v14 (IntKind.wrap .u64 (Int.tdiv v5 t))) fun (t:Int×Int)=>bif v25 then bif v25 then bif v23 ||
  v24 then bif bif v23 then true else decide (t.1>0) then some ((0,0),5,PUnit.unit) else obind (ratio_signed x.1 t_6.1.2 t.2) fun (t:(Int
  × Int)×Int×PUnit)=>some (t.1,t.2.1,PUnit.unit) else none else none else none else none else none) fun (j:Bool×(Int×Int)×PUnit→Option ((Int×Int)×Int×PUnit))
  =>bif decide (v6=decide (x1.1<0)) then obind (ratio_plus t_2 t_4) fun (t:Int×Int)=>j (v6,t,PUnit.unit) else obind (ratio_less t_2 t_4) fun (t:Bool)=>jn (Bool
  × (Int×Int)×PUnit) ((Int×Int)×Int×PUnit) (fun (x:Bool×(Int×Int)×PUnit)=>j (x.1,x.2.1,PUnit.unit)) fun (j:Bool×(Int×Int)×PUnit→Option ((Int×Int) ×
  Int×PUnit))=>bif t then obind (ratio_minus t_4 t_2) fun (t:Int×Int)=>j (!v6,t,PUnit.unit) else obind (ratio_minus t_2 t_4) fun (t:Int×Int)=>j (v6,t,PUnit.unit) else
  none else none else none else none else none
noncomputable def ratio_Add (x0:Int×Int) (x1:Int×Int):Option ((Int×Int)×Int×Unit):=ratio_Add_b lpK jnK ratio_size ratio_gcd ratio_Valid ratio_product ratio_less ratio_plus ratio_minus ratio_over ratio_signed x0 x1
abbrev t39:=(Int×Int)→(Int×Int)→Option ((Int×Int)×Int×Unit)
noncomputable def c39:Ctr:=⟨[T27,T27],[],[],.tup [T27,i64],fun x _ _=>ratio_Add x.1 x.2.1⟩
theorem e39 (lp:Lp) (jn:Jn) (ratio_size:t69) (ratio_gcd:t88) (ratio_Valid:t45) (ratio_product:t68) (ratio_less:t70) (ratio_plus:t89) (ratio_minus:t90) (ratio_over:t91) (ratio_signed:t92):∀(x:TsS c39.as) (F:TsF c39.fs) (y:TsS c39.cs),ratio_Add_b lp jn ratio_size ratio_gcd ratio_Valid ratio_product ratio_less ratio_plus ratio_minus ratio_over ratio_signed x.1 x.2.1=runC lp jn (cx [(92,k92 ratio_signed),(91,k91 ratio_over),(90,⟨[T96,T96],[],[],.one T96,fun x _ _=>ratio_minus x.1 x.2.1⟩),(89,⟨[T96,T96],[],[],.one T96,fun x _ _=>ratio_plus x.1 x.2.1⟩),(70,k70 ratio_less),(68,k68 ratio_product),(45,k45 ratio_Valid),(88,k88 ratio_gcd),(69,k69 ratio_size)] [(24,r24),(22,r22)]) hints 4 39 f39 c39 x F y:=fun x F y=>by kernel_rfl
theorem ok39:c39.ok prog 39:=Ctr.of_den (ctxT_ok (ctxOf_cons (ctxOf_cons (ctxOf_cons (ctxOf_cons (ctxOf_cons (ctxOf_cons (ctxOf_cons (ctxOf_cons (ctxOf_cons (q24) (by kernel_rfl) ok69) (by kernel_rfl) ok88) (by kernel_rfl) ok45) (by kernel_rfl) ok68) (by kernel_rfl) ok70) (by kernel_rfl) ok89) (by kernel_rfl) ok90) (by kernel_rfl) ok91) (by kernel_rfl) ok92)) hmix (hl:=hints) (d:=4) func39 rfl (by decide) (e39 lpK jnK ratio_size ratio_gcd ratio_Valid ratio_product ratio_less ratio_plus ratio_minus ratio_over ratio_signed)
noncomputable def ratio_Mul_b (_:Lp) (_:Jn) (ratio_size:t69) (ratio_gcd:t88) (ratio_Valid:t45) (ratio_product:t68) (ratio_signed:t92) (x0:Int×Int) (x1:Int×Int):Option ((Int×Int)×Int×Unit) :=
 
 let v4:Int:=IntKind.wrap .u64 x1.2;
 let v5:Int:=IntKind.wrap .u64 x0.2;obind (ratio_Valid x0) fun (t:Bool) =>
 let v7:Bool:=!t;
 let v8:Bool:=!v7;
 let v9:Bool:=!v8||v8;bif v9 then obind (bif v8 then ratio_Valid x1 else some false) fun (t:Bool)=>bif v9 then bif v7||v8 then bif bif v7 then true else !t then some (((0 :
  Int),0),1,PUnit.unit) else obind (ratio_size x0.1) fun (t:Int)=>obind (ratio_gcd t v4) fun (t:Int) =>
 let v13:Bool:=nzB t;obind (ratio_size x1.1) fun (t_1:Int)=>obind (ratio_gcd t_1 v5) fun (t_2:Int) =>
 let v16:Bool:=nzB t_2;obind (ratio_size x0.1) fun (t_3:Int)=>bif v13 then obind (ratio_size x1.1) fun (t_4:Int)=>bif v16 then obind (ratio_product (IntKind.wrap
  IntKind.u64 (Int.tdiv t_3 t)) (IntKind.wrap .u64 (Int.tdiv t_4 t_2))) fun (t_5:Int×Int) =>
 let v20:Bool:=decide (t_5.1>0);
 let v21:Bool:=decide (t_5.2>0);
 let v22:Bool:=!v20;
 let v23:Bool:=!v21||v21;
 let v24:Bool:=!v22||v22;bif v16 then bif v13 then obind (ratio_product (IntKind.wrap .u64 (Int.tdiv v5 t_2)) (IntKind.wrap .u64 (Int.tdiv v4 t))) fun (t:Int×Int)
  =>bif v24 then bif v24 then bif v20||v22 then bif bif v20 then true else decide (t.1>0) then some ((0,0),5,PUnit.unit) else bif v23 then bif
  v23 then bif v23 then bif v23 then bif v23&&v23 then bif v23 then obind (ratio_signed (bif v21 then !decide (decide (x0.1<0)=decide (x1.1<0)) else false)
  t_5.2 t.2) fun (t:(Int×Int)×Int×PUnit)=>some (t.1,t.2.1,PUnit.unit) else none else none else none else none else none else none else none else none else none else
  none else none else none else none else none else none else none
noncomputable def ratio_Mul (x0:Int×Int) (x1:Int×Int):Option ((Int×Int)×Int×Unit):=ratio_Mul_b lpK jnK ratio_size ratio_gcd ratio_Valid ratio_product ratio_signed x0 x1
abbrev t99:=(Int×Int)→(Int×Int)→Option ((Int×Int)×Int×Unit)
noncomputable def c99:Ctr:=⟨[T27,T27],[],[],.tup [T27,i64],fun x _ _=>ratio_Mul x.1 x.2.1⟩
theorem e99 (lp:Lp) (jn:Jn) (ratio_size:t69) (ratio_gcd:t88) (ratio_Valid:t45) (ratio_product:t68) (ratio_signed:t92):∀(x:TsS c99.as) (F:TsF c99.fs) (y:TsS c99.cs),ratio_Mul_b lp jn ratio_size ratio_gcd ratio_Valid ratio_product ratio_signed x.1 x.2.1=runC lp jn (cx [(92,k92 ratio_signed),(68,k68 ratio_product),(45,k45 ratio_Valid),(88,k88 ratio_gcd),(69,k69 ratio_size)] [(24,r24),(22,r22)]) hints 4 99 f99 c99 x F y:=fun x F y=>by kernel_rfl
theorem ok99:c99.ok prog 99:=Ctr.of_den (ctxT_ok (ctxOf_cons (ctxOf_cons (ctxOf_cons (ctxOf_cons (ctxOf_cons (q24) (by kernel_rfl) ok69) (by kernel_rfl) ok88) (by kernel_rfl) ok45) (by kernel_rfl) ok68) (by kernel_rfl) ok92)) hmix (hl:=hints) (d:=4) func99 rfl (by decide) (e99 lpK jnK ratio_size ratio_gcd ratio_Valid ratio_product ratio_signed)
noncomputable def program_sums_of_b (lp:Lp) (jn:Jn) (ratio_Add:t39) (ratio_Mul:t99) (x0:Int) (x1:List Int) (x2:List (Int×Int)):Option (Int×(Int×Int)) :=
 lp (Int×Int×(Int×Int)×(Int×Int)×PUnit) (Int×Int×Int) (fun (again:Int×Int×(Int×Int)×(Int×Int)×PUnit→Option (Int×Int×Int)) (x:Int×Int×(Int×Int) ×
  (Int×Int)×PUnit)=>bif decide (x.1<(↑(List.length x1):Int)) then bif inB x.1 (List.length x1) then bif inB x.1 (List.length x2) then obind (ratio_Mul (List.getD x1
  (Int.toNat x.1) 0,1) (List.getD x2 (Int.toNat x.1) (0,0))) fun (t:(Int×Int)×Int×PUnit)=>jn (Int×(Int×Int)×PUnit) (Int×Int×Int)
  (fun (x_1:Int×(Int×Int)×PUnit)=>bif !decide (x_1.1=0) then some (x_1.1,0,1) else again (IntKind.wrap .i64 (x.1+1),
  x.2.1,x.2.2.1,x_1.2.1,PUnit.unit)) fun (j:Int×(Int×Int)×PUnit→Option (Int×Int×Int))=>bif decide (t.2.1=0) then obind (ratio_Add
  x.2.2.2.1 t.1) fun (t:(Int×Int)×Int×PUnit)=>j (t.2.1,t.1,PUnit.unit) else j (t.2.1,t.1,PUnit.unit) else none else none else some (x.2.1,
  x.2.2.2.1)) (0,x0,(0,0),(0,1),PUnit.unit)
noncomputable def program_sums_of (x0:Int) (x1:List Int) (x2:List (Int×Int)):Option (Int×(Int×Int)):=program_sums_of_b lpK jnK ratio_Add ratio_Mul x0 x1 x2
abbrev t48:=(Int)→(List Int)→(List (Int×Int))→Option (Int×(Int×Int))
noncomputable def k48 (program_sums_of:t48):MCtr:=⟨T75,[(.sl i64),(.sl T27)],.one T27,fun x y=>program_sums_of x y.1 y.2.1⟩
noncomputable def m48:MCtr:=k48 program_sums_of
theorem e48 (lp:Lp) (jn:Jn) (ratio_Add:t39) (ratio_Mul:t99):∀(x:m48.s.T) (y:TsS m48.as),program_sums_of_b lp jn ratio_Add ratio_Mul x y.1 y.2.1=runM lp jn (cx [(99,⟨[T27,T27],[],[],.tup [T27,i64],fun x _ _=>ratio_Mul x.1 x.2.1⟩),(39,⟨[T27,T27],[],[],.tup [T27,i64],fun x _ _=>ratio_Add x.1 x.2.1⟩)] [(24,r24),(22,r22)]) hints 4 48 f48 m48 x y:=fun x y=>by kernel_rfl
theorem ok48:m48.ok prog 48:=MCtr.of_den (ctxT_ok (ctxOf_cons (ctxOf_cons (q24) (by kernel_rfl) ok39) (by kernel_rfl) ok99)) hmix (hl:=hints) (d:=4) func48 rfl (by decide) rfl (e48 lpK jnK ratio_Add ratio_Mul)
noncomputable def program_sums_feasible_1_b (_:Lp) (_:Jn) (x0:Int×Int):Option Bool :=
 some (decide (x0.1<0))
noncomputable def program_sums_feasible_1 (x0:Int×Int):Option Bool:=program_sums_feasible_1_b lpK jnK x0
abbrev t97:=(Int×Int)→Option (Bool)
noncomputable def c97:Ctr:=⟨[T27],[],[],.one .bool,fun x _ _=>program_sums_feasible_1 x.1⟩
theorem e97 (lp:Lp) (jn:Jn):∀(x:TsS c97.as) (F:TsF c97.fs) (y:TsS c97.cs),program_sums_feasible_1_b lp jn x.1=runC lp jn (cx [] [(24,r24),(22,r22)]) hints 4 97 f97 c97 x F y:=fun x F y=>by kernel_rfl
theorem ok97:c97.ok prog 97:=Ctr.of_den (ctxT_ok (q24)) hmix (hl:=hints) (d:=4) func97 rfl (by decide) (e97 lpK jnK)
noncomputable def ratio_Cmp_b (_:Lp) (jn:Jn) (ratio_size:t69) (ratio_Valid:t45) (ratio_product:t68) (ratio_less:t70) (x0:Int×Int) (x1:Int×Int):Option (Int×Int×Unit) :=
 
 let v4:Bool:=decide (x0.1<0);obind (ratio_Valid x0) fun (t:Bool) =>
 let v6:Bool:=!t;
 let v7:Bool:=!v6;
 let v8:Bool:=!v7||v7;bif v8 then obind (bif v7 then ratio_Valid x1 else some false) fun (t:Bool)=>bif v8 then bif v6||v7 then bif bif v6 then true else !t then some ((0 :
  Int),1,PUnit.unit) else obind (ratio_size x0.1) fun (t:Int)=>obind (ratio_product t (IntKind.wrap .u64 x1.2)) fun (t:Int×Int)=>obind (ratio_size x1.1)
  fun (t_1:Int)=>obind (ratio_product t_1 (IntKind.wrap .u64 x0.2)) fun (t_2:Int×Int)=>bif !decide (v4=decide (x1.1<0)) then bif v4 then some ((-1),
  0,PUnit.unit) else some (1,0,PUnit.unit) else jn ((Int×Int)×(Int×Int)×PUnit) (Int×Int×PUnit) (fun (x:(Int×Int)×(Int×Int)×PUnit)=>obind
  (ratio_less x.1 x.2.1) fun (t:Bool)=>bif t then some ((-1),0,PUnit.unit) else obind (ratio_less x.2.1 x.1) fun (t:Bool)=>bif t then some (1,
  0,PUnit.unit) else some (0,0,PUnit.unit)) fun (j:(Int×Int)×(Int×Int)×PUnit→Option (Int×Int×PUnit))=>bif v4 then j (t_2,t,PUnit.unit) else
  j (t,t_2,PUnit.unit) else none else none else none
noncomputable def ratio_Cmp (x0:Int×Int) (x1:Int×Int):Option (Int×Int×Unit):=ratio_Cmp_b lpK jnK ratio_size ratio_Valid ratio_product ratio_less x0 x1
abbrev t26:=(Int×Int)→(Int×Int)→Option (Int×Int×Unit)
noncomputable def k26 (ratio_Cmp:t26):Ctr:=⟨[T27,T27],[],[],.tup [i64,i64],fun x _ _=>ratio_Cmp x.1 x.2.1⟩
noncomputable def c26:Ctr:=k26 ratio_Cmp
theorem e26 (lp:Lp) (jn:Jn) (ratio_size:t69) (ratio_Valid:t45) (ratio_product:t68) (ratio_less:t70):∀(x:TsS c26.as) (F:TsF c26.fs) (y:TsS c26.cs),ratio_Cmp_b lp jn ratio_size ratio_Valid ratio_product ratio_less x.1 x.2.1=runC lp jn (cx [(70,k70 ratio_less),(68,k68 ratio_product),(45,k45 ratio_Valid),(69,k69 ratio_size)] [(24,r24),(22,r22)]) hints 4 26 f26 c26 x F y:=fun x F y=>by kernel_rfl
theorem ok26:c26.ok prog 26:=Ctr.of_den (ctxT_ok (ctxOf_cons (ctxOf_cons (ctxOf_cons (ctxOf_cons (q24) (by kernel_rfl) ok69) (by kernel_rfl) ok45) (by kernel_rfl) ok68) (by kernel_rfl) ok70)) hmix (hl:=hints) (d:=4) func26 rfl (by decide) (e26 lpK jnK ratio_size ratio_Valid ratio_product ratio_less)
noncomputable def program_cmp_b (_:Lp) (_:Jn) (ratio_Cmp:t26) (x0:Int×Int) (x1:Int):Option Int :=
 obind (ratio_Cmp x0 (x1,1)) fun (t:Int×Int×PUnit)=>some t.1
noncomputable def program_cmp (x0:Int×Int) (x1:Int):Option Int:=program_cmp_b lpK jnK ratio_Cmp x0 x1
abbrev t98:=(Int×Int)→(Int)→Option (Int)
noncomputable def k98 (program_cmp:t98):Ctr:=⟨[T27,i64],[],[],.one i64,fun x _ _=>program_cmp x.1 x.2.1⟩
noncomputable def c98:Ctr:=k98 program_cmp
theorem e98 (lp:Lp) (jn:Jn) (ratio_Cmp:t26):∀(x:TsS c98.as) (F:TsF c98.fs) (y:TsS c98.cs),program_cmp_b lp jn ratio_Cmp x.1 x.2.1=runC lp jn (cx [(26,k26 ratio_Cmp)] [(24,r24),(22,r22)]) hints 4 98 f98 c98 x F y:=fun x F y=>by kernel_rfl
theorem ok98:c98.ok prog 98:=Ctr.of_den (ctxT_ok (ctxOf_cons (q24) (by kernel_rfl) ok26)) hmix (hl:=hints) (d:=4) func98 rfl (by decide) (e98 lpK jnK ratio_Cmp)
noncomputable def program_sums_feasible_b (lp:Lp) (_:Jn) (slices_ContainsFunc_95:t95) (program_sums_feasible_1:t97) (program_cmp:t98) (program_sums_of:t48) (x0:Int) (x1:(List Int)×List ((List Int)×Int×Int)) (x2:List (Int×Int)):Option (Int×Bool) :=
 obind (slices_ContainsFunc_95 x2 fun (x:(Int×Int)×PUnit)=>program_sums_feasible_1 x.1) fun (t:Bool)=>lp (Bool×Int×Int×PUnit) (Int×Bool) (fun (again:Bool×Int×Int
  × PUnit→Option (Int×Bool)) (x:Bool×Int×Int×PUnit) =>
 let v8:Bool:=!x.1;
 let v9:Bool:=v8||x.1;
 let v10:List Int×Int×Int:=List.getD x1.2 (Int.toNat x.2.1) ([],0,0);
 let v11:Bool:=!decide (v10.2.1=1);
 let v12:Bool:=!decide (v10.2.1=2);
 let v13:Bool:=!decide (v10.2.1=3);
 let v14:Bool:=x.1&&!v11;bif decide (x.2.1<(↑(List.length x1.2):Int)) then bif inB x.2.1 (List.length x1.2) then obind (program_sums_of x.2.2.1 v10.1 x2)
  fun (t:Int×Int×Int)=>obind (program_cmp t.2 v10.2.2) fun (t_1:Int) =>
 let v17:Bool:=bif x.1 then bif v11 then true else decide (t_1≤0) else false;
 let v18:Bool:=!v17;
 let v19:Bool:=v17&&!v12;
 let v20:Bool:=bif v17 then bif v12 then true else decide (t_1≥0) else false;
 let v21:Bool:=!v20;
 let v22:Bool:=v20&&!v13;
 let v23:Bool:=v18||v17;
 let v24:Bool:=v21||v20;bif v9 then bif v9 then bif v9 then bif !v14||v14 then bif (v8||v9)&&(v8||(v11||(v8||v14))) then bif v9 then bif v23 then bif v23 then bif v23
  then bif !v19||v19 then bif (v18||v23)&&(v18||(v12||(v18||v19))) then bif v23 then bif v24 then bif v24 then bif v24 then bif !v22||v22 then bif (v21||v24)&&(v21 ||
  (v13||(v21||v22))) then bif v24 then again (bif v20 then bif v13 then true else decide (t_1=0) else false,IntKind.wrap .i64 (x.2.1+1),t.1,
  PUnit.unit) else none else none else none else none else none else none else none else none else none else none else none else none else none else none else none else none else none
  else none else none else some (x.2.2.1,x.1)) (!t,0,x0,PUnit.unit)
noncomputable def program_sums_feasible (x0:Int) (x1:(List Int)×List ((List Int)×Int×Int)) (x2:List (Int×Int)):Option (Int×Bool):=program_sums_feasible_b lpK jnK slices_ContainsFunc_95 program_sums_feasible_1 program_cmp program_sums_of x0 x1 x2
abbrev t47:=(Int)→((List Int)×List ((List Int)×Int×Int))→(List (Int×Int))→Option (Int×Bool)
noncomputable def k47 (program_sums_feasible:t47):MCtr:=⟨T75,[T25,(.sl T27)],.one .bool,fun x y=>program_sums_feasible x y.1 y.2.1⟩
noncomputable def m47:MCtr:=k47 program_sums_feasible
theorem e47 (lp:Lp) (jn:Jn) (slices_ContainsFunc_95:t95) (program_sums_feasible_1:t97) (program_cmp:t98) (program_sums_of:t48):∀(x:m47.s.T) (y:TsS m47.as),program_sums_feasible_b lp jn slices_ContainsFunc_95 program_sums_feasible_1 program_cmp program_sums_of x y.1 y.2.1=runM lp jn (ctxT tabs lits (ctxP [] [(48,k48 program_sums_of)] (ctxOf prog shs inls its [(98,k98 program_cmp),(97,⟨[T27],[],[],.one .bool,fun x _ _=>program_sums_feasible_1 x.1⟩),(95,k95 slices_ContainsFunc_95)] [(24,r24),(22,r22)]))) hints 4 47 f47 m47 x y:=fun x y=>by kernel_rfl
theorem ok47:m47.ok prog 47:=MCtr.of_den (ctxT_ok (ctxP_ok (ctxOf_cons (ctxOf_cons (ctxOf_cons (q24) (by kernel_rfl) ok95) (by kernel_rfl) ok97) (by kernel_rfl) ok98) (pcOk_nil) (mcOk_cons (by kernel_rfl) ok48 (mcOk_nil)))) hmix (hl:=hints) (d:=4) func47 rfl (by decide) rfl (e47 lpK jnK slices_ContainsFunc_95 program_sums_feasible_1 program_cmp program_sums_of)
noncomputable def program_column_b (lp:Lp) (_:Jn) (x0:(List Int)×List ((List Int)×Int×Int)) (x1:Int):Option (List Int) :=
 lp (List Int×Int×PUnit) (List Int) (fun (again:List Int×Int×PUnit→Option (List Int)) (x:List Int×Int×PUnit)=>bif decide (x.2.1<(↑(List.length x0.2):Int)) then
  bif inB x.2.1 (List.length x0.2) then bif inB x1 (List.length (List.getD x0.2 (Int.toNat x.2.1) ([],0,0)).1) then bif fitB (List.length x.1+(1 :
  Nat)) 8 then again (x.1++[List.getD (List.getD x0.2 (Int.toNat x.2.1) ([],0,0)).1 (Int.toNat x1) 0],IntKind.wrap .i64 (x.2.1 +
  1),PUnit.unit) else none else none else none else some x.1) ([],0,PUnit.unit)
noncomputable def program_column (x0:(List Int)×List ((List Int)×Int×Int)) (x1:Int):Option (List Int):=program_column_b lpK jnK x0 x1
abbrev t100:=((List Int)×List ((List Int)×Int×Int))→(Int)→Option (List Int)
noncomputable def k100 (program_column:t100):Ctr:=⟨[T25,i64],[],[],.one (.sl i64),fun x _ _=>program_column x.1 x.2.1⟩
noncomputable def c100:Ctr:=k100 program_column
theorem e100 (lp:Lp) (jn:Jn):∀(x:TsS c100.as) (F:TsF c100.fs) (y:TsS c100.cs),program_column_b lp jn x.1 x.2.1=runC lp jn (cx [] [(24,r24),(22,r22)]) hints 4 100 f100 c100 x F y:=fun x F y=>by kernel_rfl
theorem ok100:c100.ok prog 100:=Ctr.of_den (ctxT_ok (q24)) hmix (hl:=hints) (d:=4) func100 rfl (by decide) (e100 lpK jnK)
noncomputable def program_Check_1_b (_:Lp) (_:Jn) (x0:Int) (y0:(List Int)×List ((List Int)×Int×Int)):Option Int :=
 bif inB x0 (List.length y0.1) then some (List.getD y0.1 (Int.toNat x0) 0) else none
noncomputable def program_Check_1 (x0:Int) (y0:(List Int)×List ((List Int)×Int×Int)):Option Int:=program_Check_1_b lpK jnK x0 y0
abbrev t50:=(Int)→((List Int)×List ((List Int)×Int×Int))→Option (Int)
noncomputable def c50:Ctr:=⟨[i64],[],[T25],.one i64,fun x _ y=>program_Check_1 x.1 y.1⟩
theorem e50 (lp:Lp) (jn:Jn):∀(x:TsS c50.as) (F:TsF c50.fs) (y:TsS c50.cs),program_Check_1_b lp jn x.1 y.1=runC lp jn (cx [] [(24,r24),(22,r22)]) hints 4 50 f50 c50 x F y:=fun x F y=>by kernel_rfl
theorem ok50:c50.ok prog 50:=Ctr.of_den (ctxT_ok (q24)) hmix (hl:=hints) (d:=4) func50 rfl (by decide) (e50 lpK jnK)
noncomputable def program_rights_b (lp:Lp) (_:Jn) (x0:(List Int)×List ((List Int)×Int×Int)):Option (List Int) :=
 lp (List Int×Int×PUnit) (List Int) (fun (again:List Int×Int×PUnit→Option (List Int)) (x:List Int×Int×PUnit)=>bif decide (x.2.1<(↑(List.length x0.2):Int)) then
  bif inB x.2.1 (List.length x0.2) then bif fitB (List.length x.1+1) 8 then again (x.1++[(List.getD x0.2 (Int.toNat x.2.1) ([],0,(0 :
  Int))).2.2],IntKind.wrap .i64 (x.2.1+1),PUnit.unit) else none else none else some x.1) ([],0,PUnit.unit)
noncomputable def program_rights (x0:(List Int)×List ((List Int)×Int×Int)):Option (List Int):=program_rights_b lpK jnK x0
abbrev t51:=((List Int)×List ((List Int)×Int×Int))→Option (List Int)
noncomputable def k51 (program_rights:t51):Ctr:=⟨[T25],[],[],.one (.sl i64),fun x _ _=>program_rights x.1⟩
noncomputable def c51:Ctr:=k51 program_rights
theorem e51 (lp:Lp) (jn:Jn):∀(x:TsS c51.as) (F:TsF c51.fs) (y:TsS c51.cs),program_rights_b lp jn x.1=runC lp jn (cx [] [(24,r24),(22,r22)]) hints 4 51 f51 c51 x F y:=fun x F y=>by kernel_rfl
theorem ok51:c51.ok prog 51:=Ctr.of_den (ctxT_ok (q24)) hmix (hl:=hints) (d:=4) func51 rfl (by decide) (e51 lpK jnK)
noncomputable def program_signed_b (lp:Lp) (_:Jn) (x0:(List Int)×List ((List Int)×Int×Int)) (x1:List (Int×Int)):Option Bool :=
 lp (Int×PUnit) Bool (fun (again:Int×PUnit→Option Bool) (x:Int×PUnit) =>
 let v6:Bool:=inB x.1 (List.length x1);
 let v7:Bool:=decide ((List.getD x0.2 (Int.toNat x.1) ([],0,0)).2.1=1);
 let v8:Bool:=decide ((List.getD x0.2 (Int.toNat x.1) ([],0,0)).2.1=2);
 let v9:Bool:=!v7;
 let v10:Bool:=bif v7 then decide ((List.getD x1 (Int.toNat x.1) (0,0)).1>0) else false;
 let v11:Bool:=!v10;
 let v12:Bool:=!v11;
 let v13:Bool:=v9||v7;
 let v14:Bool:=v11&&v8;
 let v15:Bool:=!v14;
 let v16:Bool:=v12||v11;
 let v17:Bool:=v15||v14;bif decide (x.1<(↑(List.length x0.2):Int)) then bif inB x.1 (List.length x0.2) then bif v13&&(v13&&(v9||v6)) then bif v13 then bif v13 then
  bif v13 then bif v13 then bif v16 then bif v16 then bif v16 then bif v17&&(v17&&(v15||v6)) then bif v17 then bif v17 then bif v17 then bif (v12||v16)&&(v12||(!v8||(v12 ||
  v14))) then bif v10||v11 then bif bif v10 then true else bif v8 then decide ((List.getD x1 (Int.toNat x.1) (0,0)).1<0) else false then some false else
  again (IntKind.wrap .i64 (x.1+1),PUnit.unit) else none else none else none else none else none else none else none else none else none else none else none else none
  else none else none else none else some true) (0,PUnit.unit)
noncomputable def program_signed (x0:(List Int)×List ((List Int)×Int×Int)) (x1:List (Int×Int)):Option Bool:=program_signed_b lpK jnK x0 x1
abbrev t52:=((List Int)×List ((List Int)×Int×Int))→(List (Int×Int))→Option (Bool)
noncomputable def k52 (program_signed:t52):Ctr:=⟨[T25,(.sl T27)],[],[],.one .bool,fun x _ _=>program_signed x.1 x.2.1⟩
noncomputable def c52:Ctr:=k52 program_signed
theorem e52 (lp:Lp) (jn:Jn):∀(x:TsS c52.as) (F:TsF c52.fs) (y:TsS c52.cs),program_signed_b lp jn x.1 x.2.1=runC lp jn (cx [] [(24,r24),(22,r22)]) hints 4 52 f52 c52 x F y:=fun x F y=>by kernel_rfl
theorem ok52:c52.ok prog 52:=Ctr.of_den (ctxT_ok (q24)) hmix (hl:=hints) (d:=4) func52 rfl (by decide) (e52 lpK jnK)
noncomputable def program_Check_b (lp:Lp) (_:Jn) (program_Valid:t33) (ratio_Valid:t45) (program_right:t46) (program_cmp:t98) (program_column:t100) (program_Check_1:t50) (program_rights:t51) (program_signed:t52) (program_sums_of:t48) (program_sums_feasible:t47) (x0:(List Int)×List ((List Int)×Int×Int)) (x1:(Int×Int)×(List (Int×Int))×List (Int×Int)):Option (Bool×Int×Unit) :=
 
 let v4:Bool:=!decide ((↑(List.length x1.2.1):Int)=(↑(List.length x0.1):Int));
 let v5:Bool:=!v4;
 let v6:Bool:=!v5||v5;obind (program_Valid x0) fun (t:Bool) =>
 let v8:Bool:=!t;
 let v9:Bool:=!v8;
 let v10:Bool:=!v9||v9;bif v10 then bif v10 then obind (bif v9 then ratio_Valid x1.1 else some false) fun (t:Bool) =>
 let v12:Bool:=bif v8 then true else !t;
 let v13:Bool:=!v12;
 let v14:Bool:=!v13||v13;bif v10 then bif v8||v9 then bif v14 then bif v14 then obind (bif v13 then program_right x1.2.1 else some false) fun (t:Bool) =>
 let v16:Bool:=bif v12 then true else !t;
 let v17:Bool:=!v16;
 let v18:Bool:=!v17||v17;bif v14 then bif v12||v13 then bif v18 then bif v18 then obind (bif v17 then program_right x1.2.2 else some false) fun (t:Bool)=>bif v18 then bif
  v16||v17 then bif bif v16 then true else !t then some (false,1,PUnit.unit) else bif v6 then bif v6 then bif v6 then bif v6 then bif v6&&v6 then bif v4||v5 then bif bif
  v4 then true else !decide ((↑(List.length x1.2.2):Int)=(↑(List.length x0.2):Int)) then some (false,3,PUnit.unit) else obind (program_sums_feasible 0 x0
  x1.2.1) fun (t:Int×Bool)=>obind (program_sums_of t.1 x0.1 x1.2.1) fun (t_1:Int×Int×Int) =>
 let v22:Bool:=decide (t_1.2.1=x1.1.1)&&(decide (t_1.2.2=x1.1.2)&&true);bif !v22||v22 then lp (Bool×Int×Int×PUnit) (Bool×Int×PUnit) (fun (again :
  Bool×Int×Int×PUnit→Option (Bool×Int×PUnit)) (x:Bool×Int×Int×PUnit)=>bif decide (x.2.1<(↑(List.length x0.1):Int)) then obind (program_column x0 x.2.1)
  fun (t:List Int)=>obind (program_sums_of x.2.2.1 t x1.2.2) fun (t:Int×Int×Int)=>obind (program_Check_1 x.2.1 x0) fun (t_2:Int)=>obind (program_cmp t.2
  t_2) fun (t_3:Int) =>
 let v29:Bool:=decide (t_3≤0);bif !v29||v29 then again (bif v29 then x.1 else false,IntKind.wrap .i64 (x.2.1+1),t.1,PUnit.unit) else none else
  bif !x.1||x.1 then obind (program_rights x0) fun (t_2:List Int)=>obind (program_sums_of x.2.2.1 t_2 x1.2.2) fun (t_3:Int×Int×Int) =>
 let v27:Bool:=decide (t_3.2.1=x1.1.1)&&(decide (t_3.2.2=x1.1.2)&&true);
 let v28:Bool:=!v27||v27;bif v28 then bif v28&&v28 then obind (bif v27 then program_signed x0 x1.2.2 else some false) fun (t_4:Bool) =>
 let v30:Bool:=bif v27 then t_4 else false;
 let v31:Bool:=bif v30 then bif x.1 then bif v22 then t.2 else false else false else false;
 let v32:Bool:=!v31||v31;bif v28 then bif !v30||v30 then bif v32 then bif v32 then bif v32 then some (bif v31 then decide (t_3.1=0) else false,t_3.1,PUnit.unit)
  else none else none else none else none else none else none else none else none) (true,0,t_1.1,PUnit.unit) else none else none else none else none else none else none else
  none else none else none else none else none else none else none else none else none else none else none else none else none
noncomputable def program_Check (x0:(List Int)×List ((List Int)×Int×Int)) (x1:(Int×Int)×(List (Int×Int))×List (Int×Int)):Option (Bool×Int×Unit):=program_Check_b lpK jnK program_Valid ratio_Valid program_right program_cmp program_column program_Check_1 program_rights program_signed program_sums_of program_sums_feasible x0 x1
abbrev t14:=((List Int)×List ((List Int)×Int×Int))→((Int×Int)×(List (Int×Int))×List (Int×Int))→Option (Bool×Int×Unit)
noncomputable def c14:Ctr:=⟨[T25,T30],[],[],.tup [.bool,i64],fun x _ _=>program_Check x.1 x.2.1⟩
theorem e14 (lp:Lp) (jn:Jn) (program_Valid:t33) (ratio_Valid:t45) (program_right:t46) (program_cmp:t98) (program_column:t100) (program_Check_1:t50) (program_rights:t51) (program_signed:t52) (program_sums_of:t48) (program_sums_feasible:t47):∀(x:TsS c14.as) (F:TsF c14.fs) (y:TsS c14.cs),program_Check_b lp jn program_Valid ratio_Valid program_right program_cmp program_column program_Check_1 program_rights program_signed program_sums_of program_sums_feasible x.1 x.2.1=runC lp jn (ctxT tabs lits (ctxP [] [(47,k47 program_sums_feasible),(48,k48 program_sums_of)] (ctxOf prog shs inls its [(52,k52 program_signed),(51,k51 program_rights),(50,⟨[i64],[],[T25],.one i64,fun x _ y=>program_Check_1 x.1 y.1⟩),(100,k100 program_column),(98,k98 program_cmp),(46,k46 program_right),(45,k45 ratio_Valid),(33,k33 program_Valid)] [(24,r24),(22,r22)]))) hints 4 14 f14 c14 x F y:=fun x F y=>by kernel_rfl
theorem ok14:c14.ok prog 14:=Ctr.of_den (ctxT_ok (ctxP_ok (ctxOf_cons (ctxOf_cons (ctxOf_cons (ctxOf_cons (ctxOf_cons (ctxOf_cons (ctxOf_cons (ctxOf_cons (q24) (by kernel_rfl) ok33) (by kernel_rfl) ok45) (by kernel_rfl) ok46) (by kernel_rfl) ok98) (by kernel_rfl) ok100) (by kernel_rfl) ok50) (by kernel_rfl) ok51) (by kernel_rfl) ok52) (pcOk_nil) (mcOk_cons (by kernel_rfl) ok47 (mcOk_cons (by kernel_rfl) ok48 (mcOk_nil))))) hmix (hl:=hints) (d:=4) func14 rfl (by decide) (e14 lpK jnK program_Valid ratio_Valid program_right program_cmp program_column program_Check_1 program_rights program_signed program_sums_of program_sums_feasible)
noncomputable def program_Refutes_1_b (_:Lp) (_:Jn) (_:Int):Option Int :=
 some 0
noncomputable def program_Refutes_1 (x0:Int):Option Int:=program_Refutes_1_b lpK jnK x0
abbrev t53:=(Int)→Option (Int)
noncomputable def c53:Ctr:=⟨[i64],[],[],.one i64,fun x _ _=>program_Refutes_1 x.1⟩
theorem e53 (lp:Lp) (jn:Jn):∀(x:TsS c53.as) (F:TsF c53.fs) (y:TsS c53.cs),program_Refutes_1_b lp jn x.1=runC lp jn (cx [] [(24,r24),(22,r22)]) hints 4 53 f53 c53 x F y:=fun x F y=>by kernel_rfl
theorem ok53:c53.ok prog 53:=Ctr.of_den (ctxT_ok (q24)) hmix (hl:=hints) (d:=4) func53 rfl (by decide) (e53 lpK jnK)
noncomputable def program_Refutes_b (lp:Lp) (_:Jn) (program_Valid:t33) (program_right:t46) (program_cmp:t98) (program_column:t100) (program_rights:t51) (program_signed:t52) (program_Refutes_1:t53) (program_sums_of:t48) (x0:(List Int)×List ((List Int)×Int×Int)) (x1:List (Int×Int)):Option (Bool×Int×Unit) :=
 obind (program_Valid x0) fun (t:Bool) =>
 let v5:Bool:=!t;
 let v6:Bool:=!v5;
 let v7:Bool:=!v6||v6;bif v7 then obind (bif v6 then program_right x1 else some false) fun (t:Bool)=>bif v7 then bif v5||v6 then bif bif v5 then true else !t then some (false,
  1,PUnit.unit) else bif !decide ((↑(List.length x1):Int)=(↑(List.length x0.2):Int)) then some (false,3,PUnit.unit) else lp (Bool×Int×Int×PUnit) (Bool ×
  Int×PUnit) (fun (again:Bool×Int×Int×PUnit→Option (Bool×Int×PUnit)) (x:Bool×Int×Int×PUnit)=>bif decide (x.2.1<(↑(List.length x0.1):Int)) then obind
  (program_column x0 x.2.1) fun (t:List Int)=>obind (program_sums_of x.2.2.1 t x1) fun (t:Int×Int×Int)=>obind (program_Refutes_1 x.2.1) fun (t_1:Int)=>obind
  (program_cmp t.2 t_1) fun (t_2:Int) =>
 let v15:Bool:=decide (t_2≤0);bif !v15||v15 then again (bif v15 then x.1 else false,IntKind.wrap .i64 (x.2.1+1),t.1,PUnit.unit) else none else
  obind (program_rights x0) fun (t:List Int)=>obind (program_sums_of x.2.2.1 t x1) fun (t:Int×Int×Int) =>
 let v13:Bool:=decide (t.2.1>0);
 let v14:Bool:=!v13||v13;bif v14&&v14 then obind (bif v13 then program_signed x0 x1 else some false) fun (t_1:Bool) =>
 let v16:Bool:=bif v13 then t_1 else false;
 let v17:Bool:=bif v16 then x.1 else false;
 let v18:Bool:=!v17||v17;bif v14 then bif !v16||v16 then bif v18 then bif v18 then bif v18 then some (bif v17 then decide (t.1=0) else false,t.1,PUnit.unit) else
  none else none else none else none else none else none) (true,0,0,PUnit.unit) else none else none else none
noncomputable def program_Refutes (x0:(List Int)×List ((List Int)×Int×Int)) (x1:List (Int×Int)):Option (Bool×Int×Unit):=program_Refutes_b lpK jnK program_Valid program_right program_cmp program_column program_rights program_signed program_Refutes_1 program_sums_of x0 x1
abbrev t15:=((List Int)×List ((List Int)×Int×Int))→(List (Int×Int))→Option (Bool×Int×Unit)
noncomputable def k15 (program_Refutes:t15):Ctr:=⟨[T25,(.sl T27)],[],[],.tup [.bool,i64],fun x _ _=>program_Refutes x.1 x.2.1⟩
noncomputable def c15:Ctr:=k15 program_Refutes
theorem e15 (lp:Lp) (jn:Jn) (program_Valid:t33) (program_right:t46) (program_cmp:t98) (program_column:t100) (program_rights:t51) (program_signed:t52) (program_Refutes_1:t53) (program_sums_of:t48):∀(x:TsS c15.as) (F:TsF c15.fs) (y:TsS c15.cs),program_Refutes_b lp jn program_Valid program_right program_cmp program_column program_rights program_signed program_Refutes_1 program_sums_of x.1 x.2.1=runC lp jn (ctxT tabs lits (ctxP [] [(48,k48 program_sums_of)] (ctxOf prog shs inls its [(53,⟨[i64],[],[],.one i64,fun x _ _=>program_Refutes_1 x.1⟩),(52,k52 program_signed),(51,k51 program_rights),(100,k100 program_column),(98,k98 program_cmp),(46,k46 program_right),(33,k33 program_Valid)] [(24,r24),(22,r22)]))) hints 4 15 f15 c15 x F y:=fun x F y=>by kernel_rfl
theorem ok15:c15.ok prog 15:=Ctr.of_den (ctxT_ok (ctxP_ok (ctxOf_cons (ctxOf_cons (ctxOf_cons (ctxOf_cons (ctxOf_cons (ctxOf_cons (ctxOf_cons (q24) (by kernel_rfl) ok33) (by kernel_rfl) ok46) (by kernel_rfl) ok98) (by kernel_rfl) ok100) (by kernel_rfl) ok51) (by kernel_rfl) ok52) (by kernel_rfl) ok53) (pcOk_nil) (mcOk_cons (by kernel_rfl) ok48 (mcOk_nil)))) hmix (hl:=hints) (d:=4) func15 rfl (by decide) (e15 lpK jnK program_Valid program_right program_cmp program_column program_rights program_signed program_Refutes_1 program_sums_of)
noncomputable def program_size_b (_:Lp) (_:Jn) (x0:Int):Option Int :=
 
 let v3:Int:=IntKind.wrap .u64 x0;bif decide (x0<0) then some (IntKind.wrap .u64 (0 - v3)) else some v3
noncomputable def program_size (x0:Int):Option Int:=program_size_b lpK jnK x0
abbrev t107:=(Int)→Option (Int)
noncomputable def k107 (program_size:t107):Ctr:=⟨[i64],[],[],.one (.int .u64),fun x _ _=>program_size x.1⟩
noncomputable def c107:Ctr:=k107 program_size
theorem e107 (lp:Lp) (jn:Jn):∀(x:TsS c107.as) (F:TsF c107.fs) (y:TsS c107.cs),program_size_b lp jn x.1=runC lp jn (cx [] [(24,r24),(22,r22)]) hints 4 107 f107 c107 x F y:=fun x F y=>by kernel_rfl
theorem ok107:c107.ok prog 107:=Ctr.of_den (ctxT_ok (q24)) hmix (hl:=hints) (d:=4) func107 rfl (by decide) (e107 lpK jnK)
noncomputable def program_fits_1_b (lp:Lp) (_:Jn) (program_size:t107) (x0:List Int) (x1:Int):Option Int :=
 obind (program_size x1) fun (t:Int)=>lp (Int×Int×PUnit) Int (fun (again:Int×Int×PUnit→Option Int) (x:Int×Int×PUnit)=>bif decide (x.2.1<(↑(List.length x0) :
  Int)) then bif inB x.2.1 (List.length x0) then obind (program_size (List.getD x0 (Int.toNat x.2.1) 0)) fun (t:Int)=>again (IntKind.wrap .i64 (x.1 +
  IntKind.wrap .i64 t),IntKind.wrap .i64 (x.2.1+1),PUnit.unit) else none else some x.1) (IntKind.wrap .i64 (1+IntKind.wrap .i64 t),
  0,PUnit.unit)
noncomputable def program_fits_1 (x0:List Int) (x1:Int):Option Int:=program_fits_1_b lpK jnK program_size x0 x1
abbrev t106:=(List Int)→(Int)→Option (Int)
noncomputable def c106:Ctr:=⟨[(.sl i64),i64],[],[],.one i64,fun x _ _=>program_fits_1 x.1 x.2.1⟩
theorem e106 (lp:Lp) (jn:Jn) (program_size:t107):∀(x:TsS c106.as) (F:TsF c106.fs) (y:TsS c106.cs),program_fits_1_b lp jn program_size x.1 x.2.1=runC lp jn (cx [(107,k107 program_size)] [(24,r24),(22,r22)]) hints 4 106 f106 c106 x F y:=fun x F y=>by kernel_rfl
theorem ok106:c106.ok prog 106:=Ctr.of_den (ctxT_ok (ctxOf_cons (q24) (by kernel_rfl) ok107)) hmix (hl:=hints) (d:=4) func106 rfl (by decide) (e106 lpK jnK program_size)
noncomputable def slices_Max_108_b (lp:Lp) (jn:Jn) (x0:List Int):Option Int :=
 jn PUnit Int (fun (_:PUnit)=>bif inB 0 (List.length x0) then lp (Int×Int×PUnit) Int (fun (again:Int×Int×PUnit→Option Int) (x:Int×Int×PUnit)=>bif decide
  (x.2.1<(↑(List.length x0):Int)) then bif inB x.2.1 (List.length x0) then again (if List.getD x0 (Int.toNat x.2.1) 0>x.1 then List.getD x0 (Int.toNat
  x.2.1) 0 else x.1,IntKind.wrap .i64 (x.2.1+1),PUnit.unit) else none else some x.1) (List.getD x0 0 0,1,PUnit.unit) else
  none) fun (j:PUnit→Option Int)=>bif decide ((↑(List.length x0):Int)<1) then none else j PUnit.unit
noncomputable def slices_Max_108 (x0:List Int):Option Int:=slices_Max_108_b lpK jnK x0
abbrev t108:=(List Int)→Option (Int)
noncomputable def c108:Ctr:=⟨[(.sl i64)],[],[],.one i64,fun x _ _=>slices_Max_108 x.1⟩
theorem e108 (lp:Lp) (jn:Jn):∀(x:TsS c108.as) (F:TsF c108.fs) (y:TsS c108.cs),slices_Max_108_b lp jn x.1=runC lp jn (cx [] [(24,r24),(22,r22)]) hints 4 108 f108 c108 x F y:=fun x F y=>by kernel_rfl
theorem ok108:c108.ok prog 108:=Ctr.of_den (ctxT_ok (q24)) hmix (hl:=hints) (d:=4) func108 rfl (by decide) (e108 lpK jnK)
noncomputable def program_fits_b (lp:Lp) (_:Jn) (program_fits_1:t106) (slices_Max_108:t108) (x0:(List Int)×List ((List Int)×Int×Int)):Option Bool :=
 obind (program_fits_1 x0.1 0) fun (t:Int)=>lp (List Int×Int×PUnit) Bool (fun (again:List Int×Int×PUnit→Option Bool) (x:List Int×Int×PUnit) =>
 let v6:List Int×Int×Int:=List.getD x0.2 (Int.toNat x.2.1) ([],0,0);bif decide (x.2.1<(↑(List.length x0.2):Int)) then bif inB x.2.1
  (List.length x0.2) then obind (program_fits_1 v6.1 v6.2.2) fun (t:Int)=>bif fitB (List.length x.1+1) 8 then again (x.1++[t],IntKind.wrap .i64
  (x.2.1+1),PUnit.unit) else none else none else lp (Int×Int×PUnit) Bool (fun (again:Int×Int×PUnit→Option Bool) (x_1:Int×Int×PUnit) =>
 let v9:Int:=List.getD x.1 (Int.toNat x_1.2.1) 0;bif decide (x_1.2.1<(↑(List.length x.1):Int)) then bif inB x_1.2.1 (List.length x.1) then bif Nat.ble
  (Nat.succ (Int.toNat x_1.2.1)) (List.length x.1) then bif nzB v9 then bif decide (x_1.1>IntKind.wrap .i64 (Int.tdiv 17592186044416 v9)) then some false else
  again (IntKind.wrap .i64 (x_1.1*v9),IntKind.wrap .i64 (x_1.2.1+1),PUnit.unit) else none else none else none else obind (slices_Max_108 x.1) fun (t :
  Int)=>bif nzB t then some (decide (x_1.1≤IntKind.wrap .i64 (Int.tdiv 144115188075855872 t))) else none) (1,0,PUnit.unit)) ([t],0,
  PUnit.unit)
noncomputable def program_fits (x0:(List Int)×List ((List Int)×Int×Int)):Option Bool:=program_fits_b lpK jnK program_fits_1 slices_Max_108 x0
abbrev t62:=((List Int)×List ((List Int)×Int×Int))→Option (Bool)
noncomputable def c62:Ctr:=⟨[T25],[],[],.one .bool,fun x _ _=>program_fits x.1⟩
theorem e62 (lp:Lp) (jn:Jn) (program_fits_1:t106) (slices_Max_108:t108):∀(x:TsS c62.as) (F:TsF c62.fs) (y:TsS c62.cs),program_fits_b lp jn program_fits_1 slices_Max_108 x.1=runC lp jn (cx [(108,⟨[(.sl i64)],[],[],.one i64,fun x _ _=>slices_Max_108 x.1⟩),(106,⟨[(.sl i64),i64],[],[],.one i64,fun x _ _=>program_fits_1 x.1 x.2.1⟩)] [(24,r24),(22,r22)]) hints 4 62 f62 c62 x F y:=fun x F y=>by kernel_rfl
theorem ok62:c62.ok prog 62:=Ctr.of_den (ctxT_ok (ctxOf_cons (ctxOf_cons (q24) (by kernel_rfl) ok106) (by kernel_rfl) ok108)) hmix (hl:=hints) (d:=4) func62 rfl (by decide) (e62 lpK jnK program_fits_1 slices_Max_108)
noncomputable def program_table_artificial_b (lp:Lp) (_:Jn) (x0:(List (List Int))×Int×(List Int)×(List Int)×(List Int)×Int×Int) (x1:Int):Option Int :=
 lp (Int×Int×PUnit) Int (fun (again:Int×Int×PUnit→Option Int) (x:Int×Int×PUnit) =>
 let v6:Int×PUnit:=(IntKind.wrap .i64 (x.2.1+1),PUnit.unit);
 let v7:List Int:=List.getD x0.1 (Int.toNat x.2.1) [];bif decide (x.2.1<(↑(List.length x0.1):Int)) then bif inB x.2.1 (List.length x0.1) then bif inB x.2.1
  (List.length x0.2.2.1) then bif decide (List.getD x0.2.2.1 (Int.toNat x.2.1) 0≥x0.2.2.2.2.2.1) then bif inB x1 (List.length v7) then again
  (IntKind.wrap .i64 (x.1+List.getD v7 (Int.toNat x1) 0),v6) else none else again (x.1,v6) else none else none else some x.1) (0,0,PUnit.unit)
noncomputable def program_table_artificial (x0:(List (List Int))×Int×(List Int)×(List Int)×(List Int)×Int×Int) (x1:Int):Option Int:=program_table_artificial_b lpK jnK x0 x1
abbrev t73:=((List (List Int))×Int×(List Int)×(List Int)×(List Int)×Int×Int)→(Int)→Option (Int)
noncomputable def p73:PCtr:=⟨T93,[i64],.one i64,fun x y=>program_table_artificial x y.1⟩
theorem e73 (lp:Lp) (jn:Jn):∀(x:p73.s.T) (y:TsS p73.as),program_table_artificial_b lp jn x y.1=runP lp jn (cx [] [(24,r24),(22,r22)]) hints 4 73 f73 p73 x y:=fun x y=>by kernel_rfl
theorem ok73:p73.ok prog 73:=PCtr.of_den (ctxT_ok (q24)) hmix (hl:=hints) (d:=4) func73 rfl (by decide) (e73 lpK jnK)
noncomputable def program_times_b (_:Lp) (_:Jn) (bits_Mul64:t113) (program_size:t107) (x0:Int) (x1:Int):Option (Bool×Int×Int) :=
 
 let v4:Bool:=!decide (decide (x0<0)=decide (x1<0));
 let v5:Bool:=!v4;
 let v6:Bool:=v5||v4;obind (program_size x0) fun (t:Int)=>obind (program_size x1) fun (t_1:Int)=>obind (bits_Mul64 t t_1) fun (t:Int×Int×PUnit) =>
 let v10:Bool:=!decide (t.1=0);
 let v11:Bool:=v4&&!v10;bif v6 then bif v6 then bif !v11||v11 then bif (v5||v6)&&(v5||(v10||(v5||v11))) then bif v6 then some (bif v4 then bif v10 then true else !decide
  (t.2.1=0) else false,t.1,t.2.1) else none else none else none else none else none
noncomputable def program_times (x0:Int) (x1:Int):Option (Bool×Int×Int):=program_times_b lpK jnK bits_Mul64 program_size x0 x1
abbrev t123:=(Int)→(Int)→Option (Bool×Int×Int)
noncomputable def k123 (program_times:t123):Ctr:=⟨[i64,i64],[],[],.one T142,fun x _ _=>program_times x.1 x.2.1⟩
noncomputable def c123:Ctr:=k123 program_times
theorem e123 (lp:Lp) (jn:Jn) (bits_Mul64:t113) (program_size:t107):∀(x:TsS c123.as) (F:TsF c123.fs) (y:TsS c123.cs),program_times_b lp jn bits_Mul64 program_size x.1 x.2.1=runC lp jn (cx [(107,k107 program_size),(113,k113 bits_Mul64)] [(24,r24),(22,r22)]) hints 4 123 f123 c123 x F y:=fun x F y=>by kernel_rfl
theorem ok123:c123.ok prog 123:=Ctr.of_den (ctxT_ok (ctxOf_cons (ctxOf_cons (q24) (by kernel_rfl) ok113) (by kernel_rfl) ok107)) hmix (hl:=hints) (d:=4) func123 rfl (by decide) (e123 lpK jnK bits_Mul64 program_size)
noncomputable def program_product_cmpSize_b (_:Lp) (_:Jn) (x0:Bool×Int×Int) (x1:Bool×Int×Int):Option Int :=
 
 let v4:Bool:=decide (x0.2.1=x1.2.1);
 let v5:Bool:=!v4;
 let v6:Bool:=v5||v4;
 let v7:Bool:=!v5||v5;
 let v8:Bool:=bif v5 then decide (x0.2.1<x1.2.1) else false;
 let v9:Bool:=!v8;
 let v10:Bool:=!v9;
 let v11:Bool:=v9&&v4;
 let v12:Bool:=v10||v9;
 let v13:Bool:=!v11||v11;bif v7 then bif v7 then bif v7&&v7 then bif v7 then bif v12 then bif v12 then bif v12&&v12 then bif v12 then bif v13 then bif v13 then bif v13&&v13
  then bif (v10||v12)&&(v10||(v5||(v10||v11))) then bif v8||v9 then bif bif v8 then true else bif v4 then decide (x0.2.2<x1.2.2) else false then some (-1) else
  bif v6 then bif v6 then bif v6&&v6 then bif v6 then bif bif v4 then decide (x0.2.2=x1.2.2) else false then some 0 else some 1 else none else none else none
  else none else none else none else none else none else none else none else none else none else none else none else none else none else none
noncomputable def program_product_cmpSize (x0:Bool×Int×Int) (x1:Bool×Int×Int):Option Int:=program_product_cmpSize_b lpK jnK x0 x1
abbrev t129:=(Bool×Int×Int)→(Bool×Int×Int)→Option (Int)
noncomputable def k129 (program_product_cmpSize:t129):Ctr:=⟨[T142,T142],[],[],.one i64,fun x _ _=>program_product_cmpSize x.1 x.2.1⟩
noncomputable def c129:Ctr:=k129 program_product_cmpSize
theorem e129 (lp:Lp) (jn:Jn):∀(x:TsS c129.as) (F:TsF c129.fs) (y:TsS c129.cs),program_product_cmpSize_b lp jn x.1 x.2.1=runC lp jn (cx [] [(24,r24),(22,r22)]) hints 4 129 f129 c129 x F y:=fun x F y=>by kernel_rfl
theorem ok129:c129.ok prog 129:=Ctr.of_den (ctxT_ok (q24)) hmix (hl:=hints) (d:=4) func129 rfl (by decide) (e129 lpK jnK)
noncomputable def program_product_minus_b (_:Lp) (jn:Jn) (program_product_cmpSize:t129) (x0:Bool×Int×Int) (x1:Bool×Int×Int):Option (Bool×Int×Int) :=
 
 let v4:Bool:=!x0.1;
 let v5:Bool:=!x1.1;
 let v6:Bool:=!v4;
 let v7:Bool:=v4&&v5;
 let v8:Bool:=v6||v4;
 let v9:Bool:=!v7;
 let v10:Bool:=v9||v7;
 let v11:Bool:=!decide (x1.2.1=0);
 let v12:Bool:=v7&&!v11;
 let v13:Bool:=decide ((0:Int)≤0)&&decide ((0:Int)≤1);
 let v14:Bool:=!v12||v12;bif !decide (x0.1=x1.1) then bif v13 then bif decide (0≤addC x0.2.2 x1.2.2 0)&&decide (addC x0.2.2 x1.2.2 (0 :
  Int)≤1) then bif v8 then bif v8 then bif v8 then bif v10 then bif v10 then bif v10 then bif v14 then bif v14 then bif (v9||v10)&&(v9||(v11||(v9||v12))) then bif (v6
  || v8)&&(v6||(!v5||(v6||v7))) then bif x0.1||v4 then some (bif x0.1 then true else bif v5 then bif v11 then true else !decide (x1.2.2=0) else false,addO
  x0.2.1 x1.2.1 (addC x0.2.2 x1.2.2 0),addO x0.2.2 x1.2.2 0) else none else none else none else none else none else none else none else none else
  none else none else none else none else none else obind (program_product_cmpSize x0 x1) fun (t:Int)=>jn (Bool×(Bool×Int×Int)×(Bool×Int×Int)×PUnit) (Bool×Int×Int)
  (fun (x:Bool×(Bool×Int×Int)×(Bool×Int×Int)×PUnit) =>
 let v17:Bool:=!x.1;
 let v18:Bool:=v17||x.1;
 let v19:Bool:=!decide (subO x.2.1.2.1 x.2.2.1.2.1 (subC x.2.1.2.2 x.2.2.1.2.2 0)=0);
 let v20:Bool:=x.1&&!v19;bif v13 then bif decide (0≤subC x.2.1.2.2 x.2.2.1.2.2 0)&&decide (subC x.2.1.2.2 x.2.2.1.2.2 (0 :
  Int)≤1) then bif v18 then bif v18 then bif !v20||v20 then bif (v17||v18)&&(v17||(v19||(v17||v20))) then bif v18 then some (bif x.1 then bif v19 then true else
  !decide (subO x.2.1.2.2 x.2.2.1.2.2 0=0) else false,subO x.2.1.2.1 x.2.2.1.2.1 (subC x.2.1.2.2 x.2.2.1.2.2 (0 :
  Int)),subO x.2.1.2.2 x.2.2.1.2.2 0) else none else none else none else none else none else none else none) fun (j:Bool×(Bool×Int×Int)×(Bool×Int ×
  Int)×PUnit→Option (Bool×Int×Int))=>bif decide (t<0) then j (v4,x1,x0,PUnit.unit) else j (x0.1,x0,x1,PUnit.unit)
noncomputable def program_product_minus (x0:Bool×Int×Int) (x1:Bool×Int×Int):Option (Bool×Int×Int):=program_product_minus_b lpK jnK program_product_cmpSize x0 x1
abbrev t124:=(Bool×Int×Int)→(Bool×Int×Int)→Option (Bool×Int×Int)
noncomputable def k124 (program_product_minus:t124):Ctr:=⟨[T142,T142],[],[],.one T142,fun x _ _=>program_product_minus x.1 x.2.1⟩
noncomputable def c124:Ctr:=k124 program_product_minus
theorem e124 (lp:Lp) (jn:Jn) (program_product_cmpSize:t129):∀(x:TsS c124.as) (F:TsF c124.fs) (y:TsS c124.cs),program_product_minus_b lp jn program_product_cmpSize x.1 x.2.1=runC lp jn (cx [(129,k129 program_product_cmpSize)] [(24,r24),(22,r22)]) hints 4 124 f124 c124 x F y:=fun x F y=>by kernel_rfl
theorem ok124:c124.ok prog 124:=Ctr.of_den (ctxT_ok (ctxOf_cons (q24) (by kernel_rfl) ok129)) hmix (hl:=hints) (d:=4) func124 rfl (by decide) (e124 lpK jnK program_product_cmpSize)
noncomputable def program_product_over_b (_:Lp) (_:Jn) (bits_Div64:t121) (x0:Bool×Int×Int) (x1:Int):Option Int :=
 obind (bits_Div64 x0.2.1 x0.2.2 (IntKind.wrap .u64 x1)) fun (t:Int×Int×PUnit) =>
 let v5:Int:=IntKind.wrap .i64 t.1;bif x0.1 then some (IntKind.wrap .i64 (0 - v5)) else some v5
noncomputable def program_product_over (x0:Bool×Int×Int) (x1:Int):Option Int:=program_product_over_b lpK jnK bits_Div64 x0 x1
abbrev t125:=(Bool×Int×Int)→(Int)→Option (Int)
noncomputable def c125:Ctr:=⟨[T142,i64],[],[],.one i64,fun x _ _=>program_product_over x.1 x.2.1⟩
theorem e125 (lp:Lp) (jn:Jn) (bits_Div64:t121):∀(x:TsS c125.as) (F:TsF c125.fs) (y:TsS c125.cs),program_product_over_b lp jn bits_Div64 x.1 x.2.1=runC lp jn (cx [(121,k121 bits_Div64)] [(24,r24),(22,r22)]) hints 4 125 f125 c125 x F y:=fun x F y=>by kernel_rfl
theorem ok125:c125.ok prog 125:=Ctr.of_den (ctxT_ok (ctxOf_cons (q24) (by kernel_rfl) ok121)) hmix (hl:=hints) (d:=4) func125 rfl (by decide) (e125 lpK jnK bits_Div64)
noncomputable def program_table_pivot_b (lp:Lp) (_:Jn) (program_times:t123) (program_product_minus:t124) (program_product_over:t125) (x0:List Nat×List (Option (List Int))) (x1:Int) (x2:List Int) (x3:List Int) (x4:List Int) (x5:Int) (x6:Int) (x7:Int) (x8:Int):Option ((List Nat×List (Option (List Int)))×Int×(List Int)×(List Int)×(List Int)×Int×Int×Unit) :=
 
 let v11:List Int×List Int×List Int×Int×Int×PUnit:=(List.set x2 (Int.toNat x7) x8,x3,x4,x5,x6,PUnit.unit);bif inB x7 (List.length x0.1) then bif Nat.ble (Nat.succ
  (Int.toNat x7)) (List.length x0.1) then bif inB x8 (List.length (rowD x0.2 (List.getD x0.1 (Int.toNat x7) 0))) then bif Nat.ble (Nat.succ (Int.toNat x8)) (List.length
  (rowD x0.2 (List.getD x0.1 (Int.toNat x7) 0))) then lp (Int×(List Nat×List (Option (List Int)))×PUnit) ((List Nat×List (Option (List Int)))×Int×List Int×List
  Int×List Int×Int×Int×PUnit) (fun (again:Int×(List Nat×List (Option (List Int)))×PUnit→Option ((List Nat×List (Option (List Int)))×Int×List Int×List Int×List
  Int×Int×Int×PUnit)) (x:Int×(List Nat×List (Option (List Int)))×PUnit) =>
 let v14:Int:=IntKind.wrap .i64 (x.1+1);
 let v15:(List Nat×List (Option (List Int)))×PUnit:=(x.2.1,PUnit.unit);
 let v16:Int×(List Nat×List (Option (List Int)))×PUnit:=(0,v15);bif decide (x.1<(↑(List.length x0.1):Int)) then bif inB x.1 (List.length x.2.1.1) then
  bif Nat.ble (Nat.succ (Int.toNat x.1)) (List.length x.2.1.1) then bif decide (x.1=x7) then again (v14,v15) else bif inB x8 (List.length (rowD x.2.1.2 (List.getD
  x.2.1.1 (Int.toNat x.1) 0))) then bif Nat.ble (Nat.succ (Int.toNat x8)) (List.length (rowD x.2.1.2 (List.getD x.2.1.1 (Int.toNat x.1) 0))) then bif
  liveB x.2.1.2 (List.getD x.2.1.1 (Int.toNat x.1) 0) then lp (Int×(List Nat×List (Option (List Int)))×PUnit) ((List Nat×List (Option (List Int)))×Int ×
  List Int×List Int×List Int×Int×Int×PUnit) (fun (again_1:Int×(List Nat×List (Option (List Int)))×PUnit→Option ((List Nat×List (Option (List Int)))×Int×List Int
  × List Int×List Int×Int×Int×PUnit)) (x_1:Int×(List Nat×List (Option (List Int)))×PUnit)=>bif decide (x_1.1<(↑(List.length (rowD x.2.1.2 (List.getD
  x.2.1.1 (Int.toNat x.1) 0))):Int)) then bif inB x_1.1 (List.length (rowD x_1.2.1.2 (List.getD x.2.1.1 (Int.toNat x.1) 0))) then bif Nat.ble
  (Nat.succ (Int.toNat x_1.1)) (List.length (rowD x_1.2.1.2 (List.getD x.2.1.1 (Int.toNat x.1) 0))) then obind (program_times (List.getD (rowD x_1.2.1.2
  (List.getD x.2.1.1 (Int.toNat x.1) 0)) (Int.toNat x_1.1) 0) (List.getD (rowD x0.2 (List.getD x0.1 (Int.toNat x7) 0)) (Int.toNat x8) 0)) fun
  (t:Bool×Int×Int)=>bif inB x7 (List.length x_1.2.1.1) then bif Nat.ble (Nat.succ (Int.toNat x7)) (List.length x_1.2.1.1) then bif inB x_1.1 (List.length (rowD
  x_1.2.1.2 (List.getD x_1.2.1.1 (Int.toNat x7) 0))) then bif Nat.ble (Nat.succ (Int.toNat x_1.1)) (List.length (rowD x_1.2.1.2 (List.getD x_1.2.1.1
  (Int.toNat x7) 0))) then obind (program_times (List.getD (rowD x.2.1.2 (List.getD x.2.1.1 (Int.toNat x.1) 0)) (Int.toNat x8) 0) (List.getD (rowD
  x_1.2.1.2 (List.getD x_1.2.1.1 (Int.toNat x7) 0)) (Int.toNat x_1.1) 0)) fun (t_1:Bool×Int×Int)=>obind (program_product_minus t t_1) fun (t:Bool ×
  Int×Int)=>obind (program_product_over t x1) fun (t:Int)=>bif inB x_1.1 (List.length (rowD x_1.2.1.2 (List.getD x.2.1.1 (Int.toNat x.1) 0))) then bif
  Nat.ble (Nat.succ (Int.toNat x_1.1)) (List.length (rowD x_1.2.1.2 (List.getD x.2.1.1 (Int.toNat x.1) 0))) then again_1 (IntKind.wrap .i64 (x_1.1+(1 :
  Int)),(x_1.2.1.1,List.set x_1.2.1.2 (List.getD x.2.1.1 (Int.toNat x.1) 0) (some (List.set (rowD x_1.2.1.2 (List.getD x.2.1.1 (Int.toNat x.1)
  0)) (Int.toNat x_1.1) t))),PUnit.unit) else none else none else none else none else none else none else none else none else again (v14,x_1.2.1,PUnit.unit)) v16 else
  none else none else none else none else none else bif inB x7 (List.length x2) then bif Nat.ble (Nat.succ (Int.toNat x7)) (List.length x2) then bif decide (List.getD (rowD x0.2
  (List.getD x0.1 (Int.toNat x7) 0)) (Int.toNat x8) 0<0) then lp (Int×(List Nat×List (Option (List Int)))×PUnit) ((List Nat×List (Option (List Int))) ×
  Int×List Int×List Int×List Int×Int×Int×PUnit) (fun (again:Int×(List Nat×List (Option (List Int)))×PUnit→Option ((List Nat×List (Option (List Int)))×Int×List
  Int×List Int×List Int×Int×Int×PUnit)) (x_1:Int×(List Nat×List (Option (List Int)))×PUnit)=>bif decide (x_1.1<(↑(List.length x.2.1.1):Int)) then bif inB
  x_1.1 (List.length x_1.2.1.1) then bif Nat.ble (Nat.succ (Int.toNat x_1.1)) (List.length x_1.2.1.1) then bif liveB x_1.2.1.2 (List.getD x_1.2.1.1 (Int.toNat
  x_1.1) 0) then lp (Int×(List Nat×List (Option (List Int)))×PUnit) ((List Nat×List (Option (List Int)))×Int×List Int×List Int×List Int×Int×Int×PUnit) (fun
  (again_1:Int×(List Nat×List (Option (List Int)))×PUnit→Option ((List Nat×List (Option (List Int)))×Int×List Int×List Int×List Int×Int×Int×PUnit)) (x:Int ×
  (List Nat×List (Option (List Int)))×PUnit)=>bif decide (x.1<(↑(List.length (rowD x_1.2.1.2 (List.getD x_1.2.1.1 (Int.toNat x_1.1) 0))):Int)) then bif
  inB x.1 (List.length (rowD x.2.1.2 (List.getD x_1.2.1.1 (Int.toNat x_1.1) 0))) then bif Nat.ble (Nat.succ (Int.toNat x.1)) (List.length (rowD x.2.1.2
  (List.getD x_1.2.1.1 (Int.toNat x_1.1) 0))) then bif inB x.1 (List.length (rowD x.2.1.2 (List.getD x_1.2.1.1 (Int.toNat x_1.1) 0))) then bif
  Nat.ble (Nat.succ (Int.toNat x.1)) (List.length (rowD x.2.1.2 (List.getD x_1.2.1.1 (Int.toNat x_1.1) 0))) then again_1 (IntKind.wrap .i64 (x.1+(1 :
  Int)),(x.2.1.1,List.set x.2.1.2 (List.getD x_1.2.1.1 (Int.toNat x_1.1) 0) (some (List.set (rowD x.2.1.2 (List.getD x_1.2.1.1 (Int.toNat
  x_1.1) 0)) (Int.toNat x.1) (IntKind.wrap .i64 (0 - List.getD (rowD x.2.1.2 (List.getD x_1.2.1.1 (Int.toNat x_1.1) 0)) (Int.toNat x.1)
  0))))),PUnit.unit) else none else none else none else none else again (IntKind.wrap .i64 (x_1.1+1),x.2.1,PUnit.unit)) (0,x_1.2.1,
  PUnit.unit) else none else none else none else some (x_1.2.1,IntKind.wrap .i64 (0 - List.getD (rowD x0.2 (List.getD x0.1 (Int.toNat x7) 0)) (Int.toNat
  x8) 0),v11)) v16 else some (x.2.1,List.getD (rowD x0.2 (List.getD x0.1 (Int.toNat x7) 0)) (Int.toNat x8) 0,v11) else none else none) (0,x0,
  PUnit.unit) else none else none else none else none
noncomputable def program_table_pivot (x0:List Nat×List (Option (List Int))) (x1:Int) (x2:List Int) (x3:List Int) (x4:List Int) (x5:Int) (x6:Int) (x7:Int) (x8:Int):Option ((List Nat×List (Option (List Int)))×Int×(List Int)×(List Int)×(List Int)×Int×Int×Unit):=program_table_pivot_b lpK jnK program_times program_product_minus program_product_over x0 x1 x2 x3 x4 x5 x6 x7 x8
abbrev t109:=(List Nat×List (Option (List Int)))→(Int)→(List Int)→(List Int)→(List Int)→(Int)→(Int)→(Int)→(Int)→Option ((List Nat×List (Option (List Int)))×Int×(List Int)×(List Int)×(List Int)×Int×Int×Unit)
noncomputable def k109 (program_table_pivot:t109):SCtr:=⟨[.b [.x (.tab 22 .ref 3 i64),.d i64,.row 3 i64,.row 3 i64,.row 3 i64,.d i64,.d i64],.d i64,.d i64],[],fun x=>program_table_pivot x.1 x.2.1 x.2.2.1 x.2.2.2.1 x.2.2.2.2.1 x.2.2.2.2.2.1 x.2.2.2.2.2.2.1 x.2.2.2.2.2.2.2.1 x.2.2.2.2.2.2.2.2.1⟩
noncomputable def s109:SCtr:=k109 program_table_pivot
theorem e109 (lp:Lp) (jn:Jn) (program_times:t123) (program_product_minus:t124) (program_product_over:t125):∀x:TsR (rhI 0 s109.ks),program_table_pivot_b lp jn program_times program_product_minus program_product_over x.1 x.2.1 x.2.2.1 x.2.2.2.1 x.2.2.2.2.1 x.2.2.2.2.2.1 x.2.2.2.2.2.2.1 x.2.2.2.2.2.2.2.1 x.2.2.2.2.2.2.2.2.1=runS lp jn (Dn.look []) (cx [(125,⟨[T142,i64],[],[],.one i64,fun x _ _=>program_product_over x.1 x.2.1⟩),(124,k124 program_product_minus),(123,k123 program_times)] [(24,r24),(22,r22)]) hints 4 109 f109 s109 x:=fun x=>by kernel_rfl
theorem ok109:s109.ok prog 109:=SCtr.of_den (ctxT_ok (ctxOf_cons (ctxOf_cons (ctxOf_cons (q24) (by kernel_rfl) ok123) (by kernel_rfl) ok124) (by kernel_rfl) ok125)) hmix (scOk_nil) (hl:=hints) (d:=4) func109 rfl (by decide) (e109 lpK jnK program_times program_product_minus program_product_over)
noncomputable def program_product_cmp_b (_:Lp) (_:Jn) (program_product_cmpSize:t129) (x0:Bool×Int×Int) (x1:Bool×Int×Int):Option Int :=
 
 let v4:Bool:=!decide (x0.1=x1.1);
 let v5:Bool:=!v4||v4;bif v5 then bif v5 then bif bif v4 then x0.1 else false then some (-1) else bif v4 then some 1 else bif x0.1 then obind
  (program_product_cmpSize x1 x0) fun (t:Int)=>some t else obind (program_product_cmpSize x0 x1) fun (t:Int)=>some t else none else none
noncomputable def program_product_cmp (x0:Bool×Int×Int) (x1:Bool×Int×Int):Option Int:=program_product_cmp_b lpK jnK program_product_cmpSize x0 x1
abbrev t126:=(Bool×Int×Int)→(Bool×Int×Int)→Option (Int)
noncomputable def c126:Ctr:=⟨[T142,T142],[],[],.one i64,fun x _ _=>program_product_cmp x.1 x.2.1⟩
theorem e126 (lp:Lp) (jn:Jn) (program_product_cmpSize:t129):∀(x:TsS c126.as) (F:TsF c126.fs) (y:TsS c126.cs),program_product_cmp_b lp jn program_product_cmpSize x.1 x.2.1=runC lp jn (cx [(129,k129 program_product_cmpSize)] [(24,r24),(22,r22)]) hints 4 126 f126 c126 x F y:=fun x F y=>by kernel_rfl
theorem ok126:c126.ok prog 126:=Ctr.of_den (ctxT_ok (ctxOf_cons (q24) (by kernel_rfl) ok129)) hmix (hl:=hints) (d:=4) func126 rfl (by decide) (e126 lpK jnK program_product_cmpSize)
noncomputable def program_table_leaving_b (lp:Lp) (_:Jn) (program_times:t123) (program_product_cmp:t126) (x0:(List (List Int))×Int×(List Int)×(List Int)×(List Int)×Int×Int) (x1:Int):Option Int :=
 lp (Int×Int×PUnit) Int (fun (again:Int×Int×PUnit→Option Int) (x:Int×Int×PUnit) =>
 let v6:Int×PUnit:=(IntKind.wrap .i64 (x.2.1+1),PUnit.unit);
 let v7:Bool:=inB x.1 (List.length x0.1);
 let v8:List Int:=List.getD x0.1 (Int.toNat x.1) [];
 let v9:List Int:=List.getD x0.1 (Int.toNat x.2.1) [];
 let v10:Bool:=inB x1 (List.length v9);bif decide (x.2.1<(↑(List.length x0.1):Int)) then bif inB x.2.1 (List.length x0.1) then bif v10 then bif decide (List.getD v9
  (Int.toNat x1) 0≤0) then again (x.1,v6) else bif decide (x.1<0) then again (x.2.1,v6) else bif inB x0.2.2.2.2.2.2 (List.length v9) then
  bif v7 then bif inB x1 (List.length v8) then obind (program_times (List.getD v9 (Int.toNat x0.2.2.2.2.2.2) 0) (List.getD v8 (Int.toNat x1) 0)) fun (t:Bool
  × Int×Int)=>bif v7 then bif inB x0.2.2.2.2.2.2 (List.length v8) then bif v10 then obind (program_times (List.getD v8 (Int.toNat x0.2.2.2.2.2.2) 0)
  (List.getD v9 (Int.toNat x1) 0)) fun (t_1:Bool×Int×Int)=>obind (program_product_cmp t t_1) fun (t:Int) =>
 let v14:Bool:=decide (t=0);
 let v15:Bool:=decide (t<0);
 let v16:Bool:=!v15;
 let v17:Bool:=!v16;
 let v18:Bool:=v16&&v14;
 let v19:Bool:=!v18;
 let v20:Bool:=v17||v16;
 let v21:Bool:=v19||v18;bif v20 then bif v20 then bif v21 then bif v21 then bif v21 then bif v21&&(v21&&(v19||inB x.2.1 (List.length x0.2.2.1))) then bif v21 then
  bif v21 then bif v21 then bif v21 then bif v21&&(v21&&(v19||inB x.1 (List.length x0.2.2.1))) then bif v21 then bif v21&&v21 then bif (v17||v20)&&(v17||(!v14 ||
  (v17||v18))) then bif v15||v16 then bif bif v15 then true else bif v14 then decide (List.getD x0.2.2.1 (Int.toNat x.2.1) 0<List.getD x0.2.2.1 (Int.toNat
  x.1) 0) else false then again (x.2.1,v6) else again (x.1,v6) else none else none else none else none else none else none else none else none else none else none else
  none else none else none else none else none else none else none else none else none else none else none else none else none else some x.1) ((-1),0,PUnit.unit)
noncomputable def program_table_leaving (x0:(List (List Int))×Int×(List Int)×(List Int)×(List Int)×Int×Int) (x1:Int):Option Int:=program_table_leaving_b lpK jnK program_times program_product_cmp x0 x1
abbrev t110:=((List (List Int))×Int×(List Int)×(List Int)×(List Int)×Int×Int)→(Int)→Option (Int)
noncomputable def k110 (program_table_leaving:t110):PCtr:=⟨T93,[i64],.one i64,fun x y=>program_table_leaving x y.1⟩
noncomputable def p110:PCtr:=k110 program_table_leaving
theorem e110 (lp:Lp) (jn:Jn) (program_times:t123) (program_product_cmp:t126):∀(x:p110.s.T) (y:TsS p110.as),program_table_leaving_b lp jn program_times program_product_cmp x y.1=runP lp jn (cx [(126,⟨[T142,T142],[],[],.one i64,fun x _ _=>program_product_cmp x.1 x.2.1⟩),(123,k123 program_times)] [(24,r24),(22,r22)]) hints 4 110 f110 p110 x y:=fun x y=>by kernel_rfl
theorem ok110:p110.ok prog 110:=PCtr.of_den (ctxT_ok (ctxOf_cons (ctxOf_cons (q24) (by kernel_rfl) ok123) (by kernel_rfl) ok126)) hmix (hl:=hints) (d:=4) func110 rfl (by decide) (e110 lpK jnK program_times program_product_cmp)
noncomputable def program_table_start_b (lp:Lp) (_:Jn) (program_table_pivot:t109) (program_table_artificial:t73) (program_table_leaving:t110) (x0:List Nat×List (Option (List Int))) (x1:Int) (x2:List Int) (x3:List Int) (x4:List Int) (x5:Int) (x6:Int):Option ((List Nat×List (Option (List Int)))×Int×(List Int)×(List Int)×(List Int)×Int×Int×Bool×Unit) :=
 lp ((List Nat×List (Option (List Int)))×Int×List Int×List Int×List Int×Int×Int×PUnit) ((List Nat×List (Option (List Int)))×Int×List Int×List Int×List Int×Int ×
  Int×Bool×PUnit) (fun (again:(List Nat×List (Option (List Int)))×Int×List Int×List Int×List Int×Int×Int×PUnit→Option ((List Nat×List (Option (List Int)))×Int
  × List Int×List Int×List Int×Int×Int×Bool×PUnit)) (x:(List Nat×List (Option (List Int)))×Int×List Int×List Int×List Int×Int×Int×PUnit)=>lp (Int×Int ×
  PUnit) ((List Nat×List (Option (List Int)))×Int×List Int×List Int×List Int×Int×Int×Bool×PUnit) (fun (again_1:Int×Int×PUnit→Option ((List Nat×List (Option
  (List Int)))×Int×List Int×List Int×List Int×Int×Int×Bool×PUnit)) (x_1:Int×Int×PUnit) =>
 let v13:Bool:=decide (x_1.1<0);
 let v14:Int×PUnit:=(IntKind.wrap .i64 (x_1.2.1+1),PUnit.unit);
 let v15:Bool:=decide (x_1.2.1<x.2.2.2.2.2.1);
 let v16:Bool:=!v15||v15;bif v16 then bif v16 then bif bif v15 then v13 else false then obind (bif List.all x.1.1 fun (x_2:Nat)=>liveB x.1.2 x_2 then
  program_table_artificial (List.map (fun (x_2:Nat)=>rowD x.1.2 x_2) x.1.1,x.2.1,x.2.2.1,x.2.2.2.1,x.2.2.2.2.1,x.2.2.2.2.2.1,
  x.2.2.2.2.2.2.1) x_1.2.1 else none) fun (t:Int)=>bif decide (t>0) then again_1 (x_1.2.1,v14) else again_1 (x_1.1,v14) else bif v13 then obind
  (bif List.all x.1.1 fun (x_2:Nat)=>liveB x.1.2 x_2 then program_table_artificial (List.map (fun (x_2:Nat)=>rowD x.1.2 x_2) x.1.1,x.2.1,x.2.2.1,
  x.2.2.2.1,x.2.2.2.2.1,x.2.2.2.2.2.1,x.2.2.2.2.2.2.1) x.2.2.2.2.2.2.1 else none) fun (t:Int)=>bif decide (t>0)
  then some (x.1,x.2.1,x.2.2.1,x.2.2.2.1,x.2.2.2.2.1,x.2.2.2.2.2.1,x.2.2.2.2.2.2.1,false,PUnit.unit) else lp (Int×(List
  Nat×List (Option (List Int)))×Int×List Int×List Int×List Int×Int×Int×PUnit) ((List Nat×List (Option (List Int)))×Int×List Int×List Int×List Int×Int×Int ×
  Bool×PUnit) (fun (again:Int×(List Nat×List (Option (List Int)))×Int×List Int×List Int×List Int×Int×Int×PUnit→Option ((List Nat×List (Option (List Int)))×Int
  × List Int×List Int×List Int×Int×Int×Bool×PUnit)) (x_2:Int×(List Nat×List (Option (List Int)))×Int×List Int×List Int×List Int×Int×Int×PUnit)=>bif
  decide (x_2.1<(↑(List.length x.1.1):Int)) then lp (Int×(List Nat×List (Option (List Int)))×Int×List Int×List Int×List Int×Int×Int×PUnit) ((List Nat×List
  (Option (List Int)))×Int×List Int×List Int×List Int×Int×Int×Bool×PUnit) (fun (again_2:Int×(List Nat×List (Option (List Int)))×Int×List Int×List Int×List
  Int×Int×Int×PUnit→Option ((List Nat×List (Option (List Int)))×Int×List Int×List Int×List Int×Int×Int×Bool×PUnit)) (x:Int×(List Nat×List (Option (List
  Int)))×Int×List Int×List Int×List Int×Int×Int×PUnit) =>
 let v22:Int:=IntKind.wrap .i64 (x.1+1);
 let v23:Bool:=decide (x.1<x.2.2.2.2.2.2.1);
 let v24:Bool:=!v23;
 let v25:Bool:=v24||v23;
 let v26:(List Nat×List (Option (List Int)))×Int×List Int×List Int×List Int×Int×Int×PUnit:=(x.2.1,x.2.2.1,x.2.2.2.1,x.2.2.2.2.1,
  x.2.2.2.2.2.1,x.2.2.2.2.2.2.1,x.2.2.2.2.2.2.2.1,PUnit.unit);bif v25 then bif v25 then bif v25 then bif v25&&(v25&&(v24||inB x_2.1
  (List.length x.2.2.2.1))) then bif v25&&(v24||Nat.ble (Nat.succ (Int.toNat x_2.1)) (List.length x.2.2.2.1)) then bif v25 then bif v25 then bif v25 then bif v25 &&
  v25 then bif v25 then bif bif v23 then decide (List.getD x.2.2.2.1 (Int.toNat x_2.1) 0≥x.2.2.2.2.2.2.1) else false then bif inB x_2.1 (List.length
  x.2.1.1) then bif Nat.ble (Nat.succ (Int.toNat x_2.1)) (List.length x.2.1.1) then bif inB x.1 (List.length (rowD x.2.1.2 (List.getD x.2.1.1 (Int.toNat
  x_2.1) 0))) then bif Nat.ble (Nat.succ (Int.toNat x.1)) (List.length (rowD x.2.1.2 (List.getD x.2.1.1 (Int.toNat x_2.1) 0))) then bif !decide
  (List.getD (rowD x.2.1.2 (List.getD x.2.1.1 (Int.toNat x_2.1) 0)) (Int.toNat x.1) 0=0) then obind (program_table_pivot x.2.1 x.2.2.1
  x.2.2.2.1 x.2.2.2.2.1 x.2.2.2.2.2.1 x.2.2.2.2.2.2.1 x.2.2.2.2.2.2.2.1 x_2.1 x.1) fun (y:(List Nat×List (Option (List
  Int)))×Int×List Int×List Int×List Int×Int×Int×PUnit)=>again_2 (v22,y.1,y.2.1,y.2.2.1,y.2.2.2.1,y.2.2.2.2.1,y.2.2.2.2.2.1,
  y.2.2.2.2.2.2.1,PUnit.unit) else again_2 (v22,v26) else none else none else none else none else again (IntKind.wrap .i64 (x_2.1+1),v26) else none
  else none else none else none else none else none else none else none else none else none) (0,x_2.2.1,x_2.2.2.1,x_2.2.2.2.1,x_2.2.2.2.2.1,
  x_2.2.2.2.2.2.1,x_2.2.2.2.2.2.2.1,x_2.2.2.2.2.2.2.2.1,PUnit.unit) else some (x_2.2.1,x_2.2.2.1,x_2.2.2.2.1,
  x_2.2.2.2.2.1,x_2.2.2.2.2.2.1,x_2.2.2.2.2.2.2.1,x_2.2.2.2.2.2.2.2.1,true,PUnit.unit)) (0,x.1,x.2.1,
  x.2.2.1,x.2.2.2.1,x.2.2.2.2.1,x.2.2.2.2.2.1,x.2.2.2.2.2.2.1,PUnit.unit) else obind (bif List.all x.1.1 fun (x_2:Nat) =>
  liveB x.1.2 x_2 then program_table_leaving (List.map (fun (x_2:Nat)=>rowD x.1.2 x_2) x.1.1,x.2.1,x.2.2.1,x.2.2.2.1,x.2.2.2.2.1,
  x.2.2.2.2.2.1,x.2.2.2.2.2.2.1) x_1.1 else none) fun (t:Int)=>obind (program_table_pivot x.1 x.2.1 x.2.2.1 x.2.2.2.1
  x.2.2.2.2.1 x.2.2.2.2.2.1 x.2.2.2.2.2.2.1 t x_1.1) fun (y:(List Nat×List (Option (List Int)))×Int×List Int×List Int×List Int×Int ×
  Int×PUnit)=>again (y.1,y.2.1,y.2.2.1,y.2.2.2.1,y.2.2.2.2.1,y.2.2.2.2.2.1,y.2.2.2.2.2.2.1,PUnit.unit) else none else
  none) ((-1),0,PUnit.unit)) (x0,x1,x2,x3,x4,x5,x6,PUnit.unit)
noncomputable def program_table_start (x0:List Nat×List (Option (List Int))) (x1:Int) (x2:List Int) (x3:List Int) (x4:List Int) (x5:Int) (x6:Int):Option ((List Nat×List (Option (List Int)))×Int×(List Int)×(List Int)×(List Int)×Int×Int×Bool×Unit):=program_table_start_b lpK jnK program_table_pivot program_table_artificial program_table_leaving x0 x1 x2 x3 x4 x5 x6
abbrev t64:=(List Nat×List (Option (List Int)))→(Int)→(List Int)→(List Int)→(List Int)→(Int)→(Int)→Option ((List Nat×List (Option (List Int)))×Int×(List Int)×(List Int)×(List Int)×Int×Int×Bool×Unit)
noncomputable def k64 (program_table_start:t64):SCtr:=⟨[.b [.x (.tab 22 .ref 3 i64),.d i64,.row 3 i64,.row 3 i64,.row 3 i64,.d i64,.d i64]],[(false,[.d .bool])],fun x=>program_table_start x.1 x.2.1 x.2.2.1 x.2.2.2.1 x.2.2.2.2.1 x.2.2.2.2.2.1 x.2.2.2.2.2.2.1⟩
noncomputable def s64:SCtr:=k64 program_table_start
theorem e64 (lp:Lp) (jn:Jn) (program_table_pivot:t109) (program_table_artificial:t73) (program_table_leaving:t110):∀x:TsR (rhI 0 s64.ks),program_table_start_b lp jn program_table_pivot program_table_artificial program_table_leaving x.1 x.2.1 x.2.2.1 x.2.2.2.1 x.2.2.2.2.1 x.2.2.2.2.2.1 x.2.2.2.2.2.2.1=runS lp jn (Dn.look [(109,k109 program_table_pivot)]) (ctxT tabs lits (ctxP [(110,k110 program_table_leaving),(73,⟨T93,[i64],.one i64,fun x y=>program_table_artificial x y.1⟩)] [] (ctxOf prog shs inls its [] [(24,r24),(22,r22)]))) hints 4 64 f64 s64 x:=fun x=>by kernel_rfl
theorem ok64:s64.ok prog 64:=SCtr.of_den (ctxT_ok (ctxP_ok (q24) (pcOk_cons (by kernel_rfl) ok110 (pcOk_cons (by kernel_rfl) ok73 (pcOk_nil))) (mcOk_nil))) hmix (scOk_cons ok109 (scOk_nil)) (hl:=hints) (d:=4) func64 rfl (by decide) (e64 lpK jnK program_table_pivot program_table_artificial program_table_leaving)
noncomputable def program_table_cost_b (_:Lp) (_:Jn) (x0:(List (List Int))×Int×(List Int)×(List Int)×(List Int)×Int×Int) (x1:Int):Option Int :=
 bif decide (x1<(↑(List.length x0.2.2.2.2.1):Int)) then bif inB x1 (List.length x0.2.2.2.2.1) then some (List.getD x0.2.2.2.2.1 (Int.toNat x1) 0)
  else none else some 0
noncomputable def program_table_cost (x0:(List (List Int))×Int×(List Int)×(List Int)×(List Int)×Int×Int) (x1:Int):Option Int:=program_table_cost_b lpK jnK x0 x1
abbrev t66:=((List (List Int))×Int×(List Int)×(List Int)×(List Int)×Int×Int)→(Int)→Option (Int)
noncomputable def k66 (program_table_cost:t66):PCtr:=⟨T93,[i64],.one i64,fun x y=>program_table_cost x y.1⟩
noncomputable def p66:PCtr:=k66 program_table_cost
theorem e66 (lp:Lp) (jn:Jn):∀(x:p66.s.T) (y:TsS p66.as),program_table_cost_b lp jn x y.1=runP lp jn (cx [] [(24,r24),(22,r22)]) hints 4 66 f66 p66 x y:=fun x y=>by kernel_rfl
theorem ok66:p66.ok prog 66:=PCtr.of_den (ctxT_ok (q24)) hmix (hl:=hints) (d:=4) func66 rfl (by decide) (e66 lpK jnK)
noncomputable def program_table_reduced_b (lp:Lp) (_:Jn) (program_table_cost:t66) (x0:(List (List Int))×Int×(List Int)×(List Int)×(List Int)×Int×Int) (x1:Int):Option Int :=
 obind (program_table_cost x0 x1) fun (t:Int)=>lp (Int×Int×PUnit) Int (fun (again:Int×Int×PUnit→Option Int) (x:Int×Int×PUnit) =>
 let v7:List Int:=List.getD x0.1 (Int.toNat x.2.1) [];bif decide (x.2.1<(↑(List.length x0.1):Int)) then bif inB x.2.1 (List.length x0.1) then bif inB x.2.1
  (List.length x0.2.2.1) then obind (program_table_cost x0 (List.getD x0.2.2.1 (Int.toNat x.2.1) 0)) fun (t:Int)=>bif inB x1 (List.length v7) then again
  (IntKind.wrap .i64 (x.1 - IntKind.wrap .i64 (t*List.getD v7 (Int.toNat x1) 0)),IntKind.wrap .i64 (x.2.1+1),PUnit.unit) else none else
  none else none else some x.1) (IntKind.wrap .i64 (t*x0.2.1),0,PUnit.unit)
noncomputable def program_table_reduced (x0:(List (List Int))×Int×(List Int)×(List Int)×(List Int)×Int×Int) (x1:Int):Option Int:=program_table_reduced_b lpK jnK program_table_cost x0 x1
abbrev t111:=((List (List Int))×Int×(List Int)×(List Int)×(List Int)×Int×Int)→(Int)→Option (Int)
noncomputable def p111:PCtr:=⟨T93,[i64],.one i64,fun x y=>program_table_reduced x y.1⟩
theorem e111 (lp:Lp) (jn:Jn) (program_table_cost:t66):∀(x:p111.s.T) (y:TsS p111.as),program_table_reduced_b lp jn program_table_cost x y.1=runP lp jn (ctxT tabs lits (ctxP [(66,k66 program_table_cost)] [] (ctxOf prog shs inls its [] [(24,r24),(22,r22)]))) hints 4 111 f111 p111 x y:=fun x y=>by kernel_rfl
theorem ok111:p111.ok prog 111:=PCtr.of_den (ctxT_ok (ctxP_ok (q24) (pcOk_cons (by kernel_rfl) ok66 (pcOk_nil)) (mcOk_nil))) hmix (hl:=hints) (d:=4) func111 rfl (by decide) (e111 lpK jnK program_table_cost)
noncomputable def program_table_improve_b (lp:Lp) (_:Jn) (program_table_pivot:t109) (program_table_leaving:t110) (program_table_reduced:t111) (x0:List Nat×List (Option (List Int))) (x1:Int) (x2:List Int) (x3:List Int) (x4:List Int) (x5:Int) (x6:Int):Option ((List Nat×List (Option (List Int)))×Int×(List Int)×(List Int)×(List Int)×Int×Int×Bool×Unit) :=
 lp ((List Nat×List (Option (List Int)))×Int×List Int×List Int×List Int×Int×Int×PUnit) ((List Nat×List (Option (List Int)))×Int×List Int×List Int×List Int×Int ×
  Int×Bool×PUnit) (fun (again:(List Nat×List (Option (List Int)))×Int×List Int×List Int×List Int×Int×Int×PUnit→Option ((List Nat×List (Option (List Int)))×Int
  × List Int×List Int×List Int×Int×Int×Bool×PUnit)) (x:(List Nat×List (Option (List Int)))×Int×List Int×List Int×List Int×Int×Int×PUnit)=>lp (Int×Int ×
  PUnit) ((List Nat×List (Option (List Int)))×Int×List Int×List Int×List Int×Int×Int×Bool×PUnit) (fun (again_1:Int×Int×PUnit→Option ((List Nat×List (Option
  (List Int)))×Int×List Int×List Int×List Int×Int×Int×Bool×PUnit)) (x_1:Int×Int×PUnit) =>
 let v13:Bool:=decide (x_1.1<0);
 let v14:Int×PUnit:=(IntKind.wrap .i64 (x_1.2.1+1),PUnit.unit);
 let v15:Bool:=decide (x_1.2.1<x.2.2.2.2.2.1);
 let v16:Bool:=!v15||v15;bif v16 then bif v16 then bif bif v15 then v13 else false then obind (bif List.all x.1.1 fun (x_2:Nat)=>liveB x.1.2 x_2 then
  program_table_reduced (List.map (fun (x_2:Nat)=>rowD x.1.2 x_2) x.1.1,x.2.1,x.2.2.1,x.2.2.2.1,x.2.2.2.2.1,x.2.2.2.2.2.1,
  x.2.2.2.2.2.2.1) x_1.2.1 else none) fun (t:Int)=>bif decide (t<0) then again_1 (x_1.2.1,v14) else again_1 (x_1.1,v14) else bif v13 then some
  (x.1,x.2.1,x.2.2.1,x.2.2.2.1,x.2.2.2.2.1,x.2.2.2.2.2.1,x.2.2.2.2.2.2.1,true,PUnit.unit) else obind (bif List.all
  x.1.1 fun (x_2:Nat)=>liveB x.1.2 x_2 then program_table_leaving (List.map (fun (x_2:Nat)=>rowD x.1.2 x_2) x.1.1,x.2.1,x.2.2.1,x.2.2.2.1,
  x.2.2.2.2.1,x.2.2.2.2.2.1,x.2.2.2.2.2.2.1) x_1.1 else none) fun (t:Int)=>bif decide (t<0) then some (x.1,x.2.1,
  x.2.2.1,x.2.2.2.1,x.2.2.2.2.1,x.2.2.2.2.2.1,x.2.2.2.2.2.2.1,false,PUnit.unit) else obind (program_table_pivot x.1 x.2.1
  x.2.2.1 x.2.2.2.1 x.2.2.2.2.1 x.2.2.2.2.2.1 x.2.2.2.2.2.2.1 t x_1.1) fun (y:(List Nat×List (Option (List Int)))×Int×List Int
  × List Int×List Int×Int×Int×PUnit)=>again (y.1,y.2.1,y.2.2.1,y.2.2.2.1,y.2.2.2.2.1,y.2.2.2.2.2.1,y.2.2.2.2.2.2.1,
  PUnit.unit) else none else none) ((-1),0,PUnit.unit)) (x0,x1,x2,x3,x4,x5,x6,PUnit.unit)
noncomputable def program_table_improve (x0:List Nat×List (Option (List Int))) (x1:Int) (x2:List Int) (x3:List Int) (x4:List Int) (x5:Int) (x6:Int):Option ((List Nat×List (Option (List Int)))×Int×(List Int)×(List Int)×(List Int)×Int×Int×Bool×Unit):=program_table_improve_b lpK jnK program_table_pivot program_table_leaving program_table_reduced x0 x1 x2 x3 x4 x5 x6
abbrev t65:=(List Nat×List (Option (List Int)))→(Int)→(List Int)→(List Int)→(List Int)→(Int)→(Int)→Option ((List Nat×List (Option (List Int)))×Int×(List Int)×(List Int)×(List Int)×Int×Int×Bool×Unit)
noncomputable def k65 (program_table_improve:t65):SCtr:=⟨[.b [.x (.tab 22 .ref 3 i64),.d i64,.row 3 i64,.row 3 i64,.row 3 i64,.d i64,.d i64]],[(false,[.d .bool])],fun x=>program_table_improve x.1 x.2.1 x.2.2.1 x.2.2.2.1 x.2.2.2.2.1 x.2.2.2.2.2.1 x.2.2.2.2.2.2.1⟩
noncomputable def s65:SCtr:=k65 program_table_improve
theorem e65 (lp:Lp) (jn:Jn) (program_table_pivot:t109) (program_table_leaving:t110) (program_table_reduced:t111):∀x:TsR (rhI 0 s65.ks),program_table_improve_b lp jn program_table_pivot program_table_leaving program_table_reduced x.1 x.2.1 x.2.2.1 x.2.2.2.1 x.2.2.2.2.1 x.2.2.2.2.2.1 x.2.2.2.2.2.2.1=runS lp jn (Dn.look [(109,k109 program_table_pivot)]) (ctxT tabs lits (ctxP [(111,⟨T93,[i64],.one i64,fun x y=>program_table_reduced x y.1⟩),(110,k110 program_table_leaving)] [] (ctxOf prog shs inls its [] [(24,r24),(22,r22)]))) hints 4 65 f65 s65 x:=fun x=>by kernel_rfl
theorem ok65:s65.ok prog 65:=SCtr.of_den (ctxT_ok (ctxP_ok (q24) (pcOk_cons (by kernel_rfl) ok111 (pcOk_cons (by kernel_rfl) ok110 (pcOk_nil))) (mcOk_nil))) hmix (scOk_cons ok109 (scOk_nil)) (hl:=hints) (d:=4) func65 rfl (by decide) (e65 lpK jnK program_table_pivot program_table_leaving program_table_reduced)
noncomputable def ratio_Make_b (_:Lp) (_:Jn) (ratio_size:t69) (ratio_gcd:t88) (ratio_signed:t92) (x0:Int) (x1:Int):Option ((Int×Int)×Int×Unit) :=
 
 let v4:Bool:=!decide (x0=0);
 let v5:Bool:=!v4||v4;bif decide (x1=0) then some ((0,0),16,PUnit.unit) else obind (ratio_size x0) fun (t:Int)=>obind (ratio_size x1) fun
  (t_1:Int)=>obind (ratio_gcd t t_1) fun (t_2:Int) =>
 let v9:Bool:=nzB t_2;bif v5 then bif v5 then bif v5&&v5 then bif v5 then bif v9 then bif v9 then obind (ratio_signed (bif v4 then !decide (decide (x0<0)=decide (x1<(0
  : Int))) else false) (IntKind.wrap .u64 (Int.tdiv t t_2)) (IntKind.wrap .u64 (Int.tdiv t_1 t_2))) fun (t:(Int×Int)×Int×PUnit)=>some (t.1,t.2.1,
  PUnit.unit) else none else none else none else none else none else none
noncomputable def ratio_Make (x0:Int) (x1:Int):Option ((Int×Int)×Int×Unit):=ratio_Make_b lpK jnK ratio_size ratio_gcd ratio_signed x0 x1
abbrev t112:=(Int)→(Int)→Option ((Int×Int)×Int×Unit)
noncomputable def c112:Ctr:=⟨[i64,i64],[],[],.tup [T27,i64],fun x _ _=>ratio_Make x.1 x.2.1⟩
theorem e112 (lp:Lp) (jn:Jn) (ratio_size:t69) (ratio_gcd:t88) (ratio_signed:t92):∀(x:TsS c112.as) (F:TsF c112.fs) (y:TsS c112.cs),ratio_Make_b lp jn ratio_size ratio_gcd ratio_signed x.1 x.2.1=runC lp jn (cx [(92,k92 ratio_signed),(88,k88 ratio_gcd),(69,k69 ratio_size)] [(24,r24),(22,r22)]) hints 4 112 f112 c112 x F y:=fun x F y=>by kernel_rfl
theorem ok112:c112.ok prog 112:=Ctr.of_den (ctxT_ok (ctxOf_cons (ctxOf_cons (ctxOf_cons (q24) (by kernel_rfl) ok69) (by kernel_rfl) ok88) (by kernel_rfl) ok92)) hmix (hl:=hints) (d:=4) func112 rfl (by decide) (e112 lpK jnK ratio_size ratio_gcd ratio_signed)
noncomputable def program_table_part_b (_:Lp) (_:Jn) (ratio_Make:t112) (x0:(List (List Int))×Int×(List Int)×(List Int)×(List Int)×Int×Int) (x1:Int):Option (Int×Int) :=
 obind (ratio_Make x1 x0.2.1) fun (t:(Int×Int)×Int×PUnit)=>some t.1
noncomputable def program_table_part (x0:(List (List Int))×Int×(List Int)×(List Int)×(List Int)×Int×Int) (x1:Int):Option (Int×Int):=program_table_part_b lpK jnK ratio_Make x0 x1
abbrev t67:=((List (List Int))×Int×(List Int)×(List Int)×(List Int)×Int×Int)→(Int)→Option (Int×Int)
noncomputable def p67:PCtr:=⟨T93,[i64],.one T27,fun x y=>program_table_part x y.1⟩
theorem e67 (lp:Lp) (jn:Jn) (ratio_Make:t112):∀(x:p67.s.T) (y:TsS p67.as),program_table_part_b lp jn ratio_Make x y.1=runP lp jn (cx [(112,⟨[i64,i64],[],[],.tup [T27,i64],fun x _ _=>ratio_Make x.1 x.2.1⟩)] [(24,r24),(22,r22)]) hints 4 67 f67 p67 x y:=fun x y=>by kernel_rfl
theorem ok67:p67.ok prog 67:=PCtr.of_den (ctxT_ok (ctxOf_cons (q24) (by kernel_rfl) ok112)) hmix (hl:=hints) (d:=4) func67 rfl (by decide) (e67 lpK jnK ratio_Make)
noncomputable def program_Solve_b (lp:Lp) (jn:Jn) (program_Valid:t33) (program_fits:t62) (slices_Clone_22:t22) (program_table_start:t64) (program_table_improve:t65) (program_table_cost:t66) (program_table_part:t67) (x0:(List Int)×List ((List Int)×Int×Int)):Option (((Int×Int)×(List (Int×Int))×List (Int×Int))×Int×Unit) :=
 obind (program_Valid x0) fun (t:Bool)=>bif !t then some (((0,0),[],[]),1,PUnit.unit) else obind (program_fits x0) fun (t:Bool)=>bif !t then some ((((0 :
  Int),0),[],[]),5,PUnit.unit) else lp (Int×Int×PUnit) (((Int×Int)×List (Int×Int)×List (Int×Int))×Int×PUnit) (fun (again:Int×Int×PUnit →
  Option (((Int×Int)×List (Int×Int)×List (Int×Int))×Int×PUnit)) (x:Int×Int×PUnit) =>
 let v7:Int×PUnit:=(IntKind.wrap .i64 (x.2.1+1),PUnit.unit);
 let v8:Int:=IntKind.wrap .i64 ((↑(List.length x0.1):Int)+x.1);bif decide (x.2.1<(↑(List.length x0.2):Int)) then bif inB x.2.1 (List.length x0.2) then
  bif !decide ((List.getD x0.2 (Int.toNat x.2.1) ([],0,0)).2.1=3) then again (IntKind.wrap .i64 (x.1+1),v7) else again (x.1,
  v7) else none else obind (slices_Clone_22 x0.1) fun (t:List Int)=>lp (Int×Int×(List Nat×List (Option (List Int)))×Int×List Int×List Int×List Int×Int×Int×PUnit)
  (((Int×Int)×List (Int×Int)×List (Int×Int))×Int×PUnit) (fun (again:Int×Int×(List Nat×List (Option (List Int)))×Int×List Int×List Int×List Int×Int×Int ×
  PUnit→Option (((Int×Int)×List (Int×Int)×List (Int×Int))×Int×PUnit)) (x:Int×Int×(List Nat×List (Option (List Int)))×Int×List Int×List Int×List Int×Int ×
  Int×PUnit) =>
 let v12:Int:=IntKind.wrap .i64 (x.1+1);
 let v13:List Int×Int×Int:=List.getD x0.2 (Int.toNat x.2.1) ([],0,0);
 let v14:List Int:=List.replicate (Int.toNat (IntKind.wrap .i64 (x.2.2.2.2.2.2.2.2.1+1))) 0;
 let v15:Bool:=inB x.1 (Int.toNat (IntKind.wrap .i64 (x.2.2.2.2.2.2.2.2.1+1)));
 let v16:Bool:=Nat.ble (Nat.succ (Int.toNat x.1)) (Int.toNat (IntKind.wrap .i64 (x.2.2.2.2.2.2.2.2.1+1)));
 let v17:Int:=IntKind.wrap .i64 (x.2.2.2.2.2.2.2.1+x.2.1);
 let v18:List Int:=List.take (Int.toNat (IntKind.wrap .i64 (x.2.2.2.2.2.2.2.2.1+1))) v13.1;
 let v19:List Int:=List.set (List.take 0 v14++v18++List.drop (0+List.length v18) v14) (Int.toNat x.2.2.2.2.2.2.2.2.1) v13.2.2;bif decide
  (x.2.1<(↑(List.length x0.2):Int)) then bif inB x.2.1 (List.length x0.2) then bif decide (0≤IntKind.wrap .i64 (x.2.2.2.2.2.2.2.2.1+(1
  : Int)))&&fitB (Int.toNat (IntKind.wrap .i64 (x.2.2.2.2.2.2.2.2.1+1))) 8 then bif inB x.2.2.2.2.2.2.2.2.1 (Int.toNat
  (IntKind.wrap .i64 (x.2.2.2.2.2.2.2.2.1+1))) then bif Nat.ble (Nat.succ (Int.toNat x.2.2.2.2.2.2.2.2.1)) (Int.toNat (IntKind.wrap
  IntKind.i64 (x.2.2.2.2.2.2.2.2.1+1))) then jn (Int×List Int×PUnit) (((Int×Int)×List (Int×Int)×List (Int×Int))×Int×PUnit) (fun (x_1:Int ×
  List Int×PUnit) =>
 let v21:List Int×PUnit:=(x_1.2.1,PUnit.unit);jn (Int×List Int×PUnit) (((Int×Int)×List (Int×Int)×List (Int×Int))×Int×PUnit) (fun (x_2:Int×List Int ×
  PUnit)=>bif inB v17 (List.length x_2.2.1) then bif Nat.ble (Nat.succ (Int.toNat v17)) (List.length x_2.2.1) then bif fitB (List.length x.2.2.1.1+1) (24 :
  Nat) then bif fitB (List.length x.2.2.2.2.2.1+1) 8 then bif fitB (List.length x.2.2.2.2.1+1) 8 then again (x_1.1,
  IntKind.wrap .i64 (x.2.1+1),(x.2.2.1.1++[List.length x.2.2.1.2+0],x.2.2.1.2++[some (List.set x_2.2.1 (Int.toNat v17) (1
  : Int))]),x.2.2.2.1,x.2.2.2.2.1++[v17],x.2.2.2.2.2.1++[x_2.1],x.2.2.2.2.2.2.1,x.2.2.2.2.2.2.2.1,
  x.2.2.2.2.2.2.2.2.1,PUnit.unit) else none else none else none else none else none) fun (j:Int×List Int×PUnit→Option (((Int×Int)×List (Int×Int)×List
  (Int×Int))×Int×PUnit))=>bif decide (v13.2.2<0) then lp (Int×List Int×PUnit) (((Int×Int)×List (Int×Int)×List (Int×Int))×Int×PUnit) (fun (again :
  Int×List Int×PUnit→Option (((Int×Int)×List (Int×Int)×List (Int×Int))×Int×PUnit)) (x:Int×List Int×PUnit) =>
 let v25:Bool:=inB x.1 (List.length x.2.1);
 let v26:Bool:=Nat.ble (Nat.succ (Int.toNat x.1)) (List.length x.2.1);bif decide (x.1<(↑(List.length x_1.2.1):Int)) then bif v25 then bif v26 then bif v25 then bif v26
  then again (IntKind.wrap .i64 (x.1+1),List.set x.2.1 (Int.toNat x.1) (IntKind.wrap .i64 (0 - List.getD x.2.1 (Int.toNat x.1) 0)),
  PUnit.unit) else none else none else none else none else j ((-1),x.2.1,PUnit.unit)) (0,v21) else j (1,v21)) fun (j:Int×List Int×PUnit→Option (((Int
  × Int)×List (Int×Int)×List (Int×Int))×Int×PUnit))=>bif decide (v13.2.1=1) then bif v15 then bif v16 then j (v12,List.set v19 (Int.toNat x.1) 1,
  PUnit.unit) else none else none else jn (Int×List Int×PUnit) (((Int×Int)×List (Int×Int)×List (Int×Int))×Int×PUnit) (fun (x:Int×List Int×PUnit)=>j (x.1,
  x.2.1,PUnit.unit)) fun (j:Int×List Int×PUnit→Option (((Int×Int)×List (Int×Int)×List (Int×Int))×Int×PUnit))=>bif decide (v13.2.1=2) then bif
  v15 then bif v16 then j (v12,List.set v19 (Int.toNat x.1) (-1),PUnit.unit) else none else none else j (x.1,v19,PUnit.unit) else none else none else none else none else
  obind (program_table_start x.2.2.1 x.2.2.2.1 x.2.2.2.2.1 x.2.2.2.2.2.1 x.2.2.2.2.2.2.1 x.2.2.2.2.2.2.2.1
  x.2.2.2.2.2.2.2.2.1) fun (y:(List Nat×List (Option (List Int)))×Int×List Int×List Int×List Int×Int×Int×Bool×PUnit)=>bif
  !y.2.2.2.2.2.2.2.1 then some (((0,0),[],[]),22,PUnit.unit) else obind (program_table_improve y.1 y.2.1 y.2.2.1 y.2.2.2.1
  y.2.2.2.2.1 y.2.2.2.2.2.1 y.2.2.2.2.2.2.1) fun (y:(List Nat×List (Option (List Int)))×Int×List Int×List Int×List Int×Int×Int×Bool ×
  PUnit)=>bif !y.2.2.2.2.2.2.2.1 then some (((0,0),[],[]),21,PUnit.unit) else bif decide (0≤(↑(List.length x0.1):Int))&&fitB
  (Int.toNat (↑(List.length x0.1):Int)) 8 then lp (Int×Int×List Int×PUnit) (((Int×Int)×List (Int×Int)×List (Int×Int))×Int×PUnit) (fun (again:Int×Int ×
  List Int×PUnit→Option (((Int×Int)×List (Int×Int)×List (Int×Int))×Int×PUnit)) (x:Int×Int×List Int×PUnit) =>
 let v24:Int:=IntKind.wrap .i64 (x.2.1+1);
 let v25:Bool:=inB x.2.1 (List.length y.1.1);
 let v26:Bool:=Nat.ble (Nat.succ (Int.toNat x.2.1)) (List.length y.1.1);
 let v27:Int:=List.getD y.2.2.1 (Int.toNat x.2.1) 0;bif decide (x.2.1<(↑(List.length y.2.2.1):Int)) then bif inB x.2.1 (List.length y.2.2.1)
  then bif Nat.ble (Nat.succ (Int.toNat x.2.1)) (List.length y.2.2.1) then obind (bif List.all y.1.1 fun (x:Nat)=>liveB y.1.2 x then program_table_cost (List.map
  (fun (x:Nat)=>rowD y.1.2 x) y.1.1,y.2.1,y.2.2.1,y.2.2.2.1,y.2.2.2.2.1,y.2.2.2.2.2.1,y.2.2.2.2.2.2.1) v27 else
  none) fun (t:Int)=>bif v25 then bif v26 then bif inB y.2.2.2.2.2.2.1 (List.length (rowD y.1.2 (List.getD y.1.1 (Int.toNat x.2.1) 0))) then bif
  Nat.ble (Nat.succ (Int.toNat y.2.2.2.2.2.2.1)) (List.length (rowD y.1.2 (List.getD y.1.1 (Int.toNat x.2.1) 0))) then bif decide (v27<(↑(List.length
  x.2.2.1):Int)) then bif v25 then bif v26 then bif inB y.2.2.2.2.2.2.1 (List.length (rowD y.1.2 (List.getD y.1.1 (Int.toNat x.2.1) 0))) then bif
  Nat.ble (Nat.succ (Int.toNat y.2.2.2.2.2.2.1)) (List.length (rowD y.1.2 (List.getD y.1.1 (Int.toNat x.2.1) 0))) then bif inB v27 (List.length
  x.2.2.1) then bif Nat.ble (Nat.succ (Int.toNat v27)) (List.length x.2.2.1) then again (IntKind.wrap .i64 (x.1+IntKind.wrap .i64 (t*List.getD (rowD
  y.1.2 (List.getD y.1.1 (Int.toNat x.2.1) 0)) (Int.toNat y.2.2.2.2.2.2.1) 0)),v24,List.set x.2.2.1 (Int.toNat v27) (List.getD (rowD
  y.1.2 (List.getD y.1.1 (Int.toNat x.2.1) 0)) (Int.toNat y.2.2.2.2.2.2.1) 0),PUnit.unit) else none else none else none else none else none else
  none else again (IntKind.wrap .i64 (x.1+IntKind.wrap .i64 (t*List.getD (rowD y.1.2 (List.getD y.1.1 (Int.toNat x.2.1) 0)) (Int.toNat
  y.2.2.2.2.2.2.1) 0)),v24,x.2.2.1,PUnit.unit) else none else none else none else none else none else none else obind (bif List.all y.1.1 fun (x:Nat)
  =>liveB y.1.2 x then program_table_part (List.map (fun (x:Nat)=>rowD y.1.2 x) y.1.1,y.2.1,y.2.2.1,y.2.2.2.1,y.2.2.2.2.1,
  y.2.2.2.2.2.1,y.2.2.2.2.2.2.1) x.1 else none) fun (t:Int×Int)=>lp (Int×(Int×Int)×List (Int×Int)×List (Int×Int)×PUnit) (((Int×Int) ×
  List (Int×Int)×List (Int×Int))×Int×PUnit) (fun (again:Int×(Int×Int)×List (Int×Int)×List (Int×Int)×PUnit→Option (((Int×Int)×List (Int×Int)×List (Int ×
  Int))×Int×PUnit)) (x_1:Int×(Int×Int)×List (Int×Int)×List (Int×Int)×PUnit) =>
 let v31:List (Int×Int)×PUnit:=(x_1.2.2.2.1,PUnit.unit);bif decide (x_1.1<(↑(List.length x.2.2.1):Int)) then bif inB x_1.1 (List.length x.2.2.1) then
  bif Nat.ble (Nat.succ (Int.toNat x_1.1)) (List.length x.2.2.1) then obind (bif List.all y.1.1 fun (x:Nat)=>liveB y.1.2 x then program_table_part (List.map (fun (x :
  Nat)=>rowD y.1.2 x) y.1.1,y.2.1,y.2.2.1,y.2.2.2.1,y.2.2.2.2.1,y.2.2.2.2.2.1,y.2.2.2.2.2.2.1) (List.getD
  x.2.2.1 (Int.toNat x_1.1) 0) else none) fun (t:Int×Int)=>bif fitB (List.length x_1.2.2.1+1) 16 then again (IntKind.wrap .i64
  (x_1.1+1),x_1.2.1,x_1.2.2.1++[t],v31) else none else none else none else lp (Int×(Int×Int)×List (Int×Int)×List (Int×Int)×PUnit) (((Int×Int) ×
  List (Int×Int)×List (Int×Int))×Int×PUnit) (fun (again:Int×(Int×Int)×List (Int×Int)×List (Int×Int)×PUnit→Option (((Int×Int)×List (Int×Int)×List (Int ×
  Int))×Int×PUnit)) (x:Int×(Int×Int)×List (Int×Int)×List (Int×Int)×PUnit) =>
 let v34:Int:=IntKind.wrap .i64 (y.2.2.2.2.2.1+x.1);bif decide (x.1<(↑(List.length x0.2):Int)) then lp (Int×Int×PUnit) (((Int×Int)×List (Int ×
  Int)×List (Int×Int))×Int×PUnit) (fun (again_1:Int×Int×PUnit→Option (((Int×Int)×List (Int×Int)×List (Int×Int))×Int×PUnit)) (x_2:Int×Int×PUnit)=>bif
  decide (x_2.2.1<(↑(List.length y.2.2.1):Int)) then bif inB x_2.2.1 (List.length y.2.2.1) then bif Nat.ble (Nat.succ (Int.toNat x_2.2.1)) (List.length
  y.2.2.1) then obind (bif List.all y.1.1 fun (x:Nat)=>liveB y.1.2 x then program_table_cost (List.map (fun (x:Nat)=>rowD y.1.2 x) y.1.1,y.2.1,
  y.2.2.1,y.2.2.2.1,y.2.2.2.2.1,y.2.2.2.2.2.1,y.2.2.2.2.2.2.1) (List.getD y.2.2.1 (Int.toNat x_2.2.1) 0) else none)
  fun (t:Int)=>bif inB x_2.2.1 (List.length y.1.1) then bif Nat.ble (Nat.succ (Int.toNat x_2.2.1)) (List.length y.1.1) then bif inB v34 (List.length (rowD y.1.2
  (List.getD y.1.1 (Int.toNat x_2.2.1) 0))) then bif Nat.ble (Nat.succ (Int.toNat v34)) (List.length (rowD y.1.2 (List.getD y.1.1 (Int.toNat x_2.2.1) (0 :
  Nat)))) then again_1 (IntKind.wrap .i64 (x_2.1+IntKind.wrap .i64 (t*List.getD (rowD y.1.2 (List.getD y.1.1 (Int.toNat x_2.2.1) 0)) (Int.toNat
  v34) 0)),IntKind.wrap .i64 (x_2.2.1+1),PUnit.unit) else none else none else none else none else none else none else bif inB x.1 (List.length
  y.2.2.2.1) then bif Nat.ble (Nat.succ (Int.toNat x.1)) (List.length y.2.2.2.1) then obind (bif List.all y.1.1 fun (x:Nat)=>liveB y.1.2 x then
  program_table_part (List.map (fun (x:Nat)=>rowD y.1.2 x) y.1.1,y.2.1,y.2.2.1,y.2.2.2.1,y.2.2.2.2.1,y.2.2.2.2.2.1,
  y.2.2.2.2.2.2.1) (IntKind.wrap .i64 (List.getD y.2.2.2.1 (Int.toNat x.1) 0*x_2.1)) else none) fun (t:Int×Int)=>bif fitB (List.length
  x.2.2.2.1+1) 16 then again (IntKind.wrap .i64 (x.1+1),x.2.1,x.2.2.1,x.2.2.2.1++[t],PUnit.unit) else none else none
  else none) (0,0,PUnit.unit) else some ((x.2.1,x.2.2.1,x.2.2.2.1),0,PUnit.unit)) (0,x_1.2.1,x_1.2.2.1,v31)) ((0 :
  Int),t,[],[],PUnit.unit)) (0,0,List.replicate (Int.toNat (↑(List.length x0.1):Int)) 0,PUnit.unit) else none) ((↑(List.length x0.1):Int),(0 :
  Int),([],[]),1,[],[],t,v8,IntKind.wrap .i64 (v8+(↑(List.length x0.2):Int)),PUnit.unit)) (0,0,PUnit.unit)
noncomputable def program_Solve (x0:(List Int)×List ((List Int)×Int×Int)):Option (((Int×Int)×(List (Int×Int))×List (Int×Int))×Int×Unit):=program_Solve_b lpK jnK program_Valid program_fits slices_Clone_22 program_table_start program_table_improve program_table_cost program_table_part x0
abbrev t21:=((List Int)×List ((List Int)×Int×Int))→Option (((Int×Int)×(List (Int×Int))×List (Int×Int))×Int×Unit)
noncomputable def k21 (program_Solve:t21):Ctr:=⟨[T25],[],[],.tup [T30,i64],fun x _ _=>program_Solve x.1⟩
noncomputable def c21:Ctr:=k21 program_Solve
theorem e21 (lp:Lp) (jn:Jn) (program_Valid:t33) (program_fits:t62) (slices_Clone_22:t22) (program_table_start:t64) (program_table_improve:t65) (program_table_cost:t66) (program_table_part:t67):∀(x:TsS c21.as) (F:TsF c21.fs) (y:TsS c21.cs),program_Solve_b lp jn program_Valid program_fits slices_Clone_22 program_table_start program_table_improve program_table_cost program_table_part x.1=runCS lp jn (Dn.look [(65,k65 program_table_improve),(64,k64 program_table_start)]) (ctxT tabs lits (ctxP [(67,⟨T93,[i64],.one T27,fun x y=>program_table_part x y.1⟩),(66,k66 program_table_cost)] [] (ctxOf prog shs inls its [(62,⟨[T25],[],[],.one .bool,fun x _ _=>program_fits x.1⟩),(33,k33 program_Valid)] [(24,r24),(22,k22 slices_Clone_22)]))) hints 4 21 f21 c21 x F y:=fun x F y=>by kernel_rfl
theorem ok21:c21.ok prog 21:=Ctr.of_denS (ctxT_ok (ctxP_ok (ctxOf_cons (ctxOf_cons (q24) (by kernel_rfl) ok33) (by kernel_rfl) ok62) (pcOk_cons (by kernel_rfl) ok67 (pcOk_cons (by kernel_rfl) ok66 (pcOk_nil))) (mcOk_nil))) hmix (scOk_cons ok65 (scOk_cons ok64 (scOk_nil))) (hl:=hints) (d:=4) func21 rfl (by decide) (e21 lpK jnK program_Valid program_fits slices_Clone_22 program_table_start program_table_improve program_table_cost program_table_part)
end Go.Proofs.Ytnbbackjofgcfaa

namespace Go.Proofs.Ytnbbackjofgcfaa
open Try Dn Dn.Sh
set_option maxRecDepth 100000
noncomputable def law05_example_b (_:Lp) (_:Jn):Option ((List Int)×List ((List Int)×Int×Int)) :=
 some ([(-1),(-1)],[([1,2],1,4),([3,1],1,6)])
noncomputable def law05_example:Option ((List Int)×List ((List Int)×Int×Int)):=law05_example_b lpK jnK
abbrev t40:=Option ((List Int)×List ((List Int)×Int×Int))
noncomputable def c40:Ctr:=⟨[],[],[],.one T25,fun _ _ _=>law05_example⟩
theorem e40 (lp:Lp) (jn:Jn):∀(x:TsS c40.as) (F:TsF c40.fs) (y:TsS c40.cs),law05_example_b lp jn=runC lp jn (cx [] [(24,r24),(22,r22)]) hints 4 40 f40 c40 x F y:=fun x F y=>by kernel_rfl
theorem ok40:c40.ok prog 40:=Ctr.of_den (ctxT_ok (q24)) hmix (hl:=hints) (d:=4) func40 rfl (by decide) (e40 lpK jnK)
noncomputable def law05_awake_b (_:Lp) (_:Jn) (program_Check:t14) (program_Refutes:t15) (program_Solve:t21) (law05_example:t40):Option Bool :=
 obind law05_example fun (t:List Int×List (List Int×Int×Int))=>obind (program_Solve t) fun (t:((Int×Int)×List (Int×Int)×List (Int×Int))×Int×PUnit) =>
 let v4:Bool:=decide (t.2.1=0);
 let v5:Bool:=!v4||v4;
 let v6:Bool:=bif v4 then decide (t.1.1.1=(-14))&&(decide (t.1.1.2=5)&&true) else false;
 let v7:Bool:=!v6||v6;obind law05_example fun (t:List Int×List (List Int×Int×Int))=>obind (program_Check t (((-14),5),[(8,5),(6,
  5)],[((-2),5),((-1),5)])) fun (t:Bool×Int×PUnit) =>
 let v10:Bool:=bif v6 then decide (t.2.1=0) else false;
 let v11:Bool:=bif v10 then t.1 else false;
 let v12:Bool:=!v11||v11;obind (program_Refutes ([0],[([1],2,3),([1],1,2)]) [(1,1),((-1),(1 :
  Int))]) fun (t:Bool×Int×PUnit) =>
 let v14:Bool:=bif v11 then decide (t.2.1=0) else false;bif v5 then bif v5&&v5 then bif v5 then bif v7 then bif v7 then bif !v10||v10 then bif v12 then bif v12 then
  bif !v14||v14 then some (bif v14 then t.1 else false) else none else none else none else none else none else none else none else none else none
noncomputable def law05_awake:Option Bool:=law05_awake_b lpK jnK program_Check program_Refutes program_Solve law05_example
abbrev t11:=Option (Bool)
noncomputable def c11:Ctr:=⟨[],[],[],.one .bool,fun _ _ _=>law05_awake⟩
theorem e11 (lp:Lp) (jn:Jn) (program_Check:t14) (program_Refutes:t15) (program_Solve:t21) (law05_example:t40):∀(x:TsS c11.as) (F:TsF c11.fs) (y:TsS c11.cs),law05_awake_b lp jn program_Check program_Refutes program_Solve law05_example=runC lp jn (cx [(40,⟨[],[],[],.one T25,fun _ _ _=>law05_example⟩),(21,k21 program_Solve),(15,k15 program_Refutes),(14,⟨[T25,T30],[],[],.tup [.bool,i64],fun x _ _=>program_Check x.1 x.2.1⟩)] [(24,r24),(22,r22)]) hints 4 11 f11 c11 x F y:=fun x F y=>by kernel_rfl
theorem ok11:c11.ok prog 11:=Ctr.of_den (ctxT_ok (ctxOf_cons (ctxOf_cons (ctxOf_cons (ctxOf_cons (q24) (by kernel_rfl) ok14) (by kernel_rfl) ok15) (by kernel_rfl) ok21) (by kernel_rfl) ok40)) hmix (hl:=hints) (d:=4) func11 rfl (by decide) (e11 lpK jnK program_Check program_Refutes program_Solve law05_example)
noncomputable def law05_few_1_b (_:Lp) (_:Jn) (x0:(List Int)×Int×Int):Option Bool :=
 some (decide ((↑(List.length x0.1):Int)>14))
noncomputable def law05_few_1 (x0:(List Int)×Int×Int):Option Bool:=law05_few_1_b lpK jnK x0
abbrev t42:=((List Int)×Int×Int)→Option (Bool)
noncomputable def c42:Ctr:=⟨[T45],[],[],.one .bool,fun x _ _=>law05_few_1 x.1⟩
theorem e42 (lp:Lp) (jn:Jn):∀(x:TsS c42.as) (F:TsF c42.fs) (y:TsS c42.cs),law05_few_1_b lp jn x.1=runC lp jn (cx [] [(24,r24),(22,r22)]) hints 4 42 f42 c42 x F y:=fun x F y=>by kernel_rfl
theorem ok42:c42.ok prog 42:=Ctr.of_den (ctxT_ok (q24)) hmix (hl:=hints) (d:=4) func42 rfl (by decide) (e42 lpK jnK)
noncomputable def law05_few_b (_:Lp) (_:Jn) (slices_ContainsFunc_41:t41) (law05_few_1:t42) (x0:(List Int)×List ((List Int)×Int×Int)):Option Bool :=
 
 let v3:Bool:=decide ((↑(List.length x0.1):Int)≤14);
 let v4:Bool:=!v3||v3;
 let v5:Bool:=bif v3 then decide ((↑(List.length x0.2):Int)≤8) else false;
 let v6:Bool:=!v5||v5;bif v4 then bif v4 then bif v4 then bif v4 then bif v6 then bif v6 then obind (bif v5 then slices_ContainsFunc_41 x0.2 fun (x:(List Int×Int×Int) ×
  PUnit)=>law05_few_1 x.1 else some false) fun (t:Bool)=>bif v6 then bif v6 then some (bif v5 then !t else false) else none else none else none else none else none else none else
  none else none
noncomputable def law05_few (x0:(List Int)×List ((List Int)×Int×Int)):Option Bool:=law05_few_b lpK jnK slices_ContainsFunc_41 law05_few_1 x0
abbrev t12:=((List Int)×List ((List Int)×Int×Int))→Option (Bool)
noncomputable def c12:Ctr:=⟨[T25],[],[],.one .bool,fun x _ _=>law05_few x.1⟩
theorem e12 (lp:Lp) (jn:Jn) (slices_ContainsFunc_41:t41) (law05_few_1:t42):∀(x:TsS c12.as) (F:TsF c12.fs) (y:TsS c12.cs),law05_few_b lp jn slices_ContainsFunc_41 law05_few_1 x.1=runC lp jn (cx [(42,⟨[T45],[],[],.one .bool,fun x _ _=>law05_few_1 x.1⟩),(41,k41 slices_ContainsFunc_41)] [(24,r24),(22,r22)]) hints 4 12 f12 c12 x F y:=fun x F y=>by kernel_rfl
theorem ok12:c12.ok prog 12:=Ctr.of_den (ctxT_ok (ctxOf_cons (ctxOf_cons (q24) (by kernel_rfl) ok41) (by kernel_rfl) ok42)) hmix (hl:=hints) (d:=4) func12 rfl (by decide) (e12 lpK jnK slices_ContainsFunc_41 law05_few_1)
noncomputable def law05_empty_b (_:Lp) (_:Jn) (x0:(Int×Int)×(List (Int×Int))×List (Int×Int)):Option Bool :=
 
 let v3:Bool:=decide (x0.1.1=0)&&(decide (x0.1.2=0)&&true);
 let v4:Bool:=bif v3 then decide ((↑(List.length x0.2.1):Int)=0) else false;
 let v5:Bool:=!v3||v3;
 let v6:Bool:=!v4||v4;bif v5 then bif v5 then bif v5 then bif v5 then bif v6 then bif v6 then bif v6 then bif v6 then some (bif v4 then decide ((↑(List.length x0.2.2):Int) =
  0) else false) else none else none else none else none else none else none else none else none
noncomputable def law05_empty (x0:(Int×Int)×(List (Int×Int))×List (Int×Int)):Option Bool:=law05_empty_b lpK jnK x0
abbrev t25:=((Int×Int)×(List (Int×Int))×List (Int×Int))→Option (Bool)
noncomputable def c25:Ctr:=⟨[T30],[],[],.one .bool,fun x _ _=>law05_empty x.1⟩
theorem e25 (lp:Lp) (jn:Jn):∀(x:TsS c25.as) (F:TsF c25.fs) (y:TsS c25.cs),law05_empty_b lp jn x.1=runC lp jn (cx [] [(24,r24),(22,r22)]) hints 4 25 f25 c25 x F y:=fun x F y=>by kernel_rfl
theorem ok25:c25.ok prog 25:=Ctr.of_den (ctxT_ok (q24)) hmix (hl:=hints) (d:=4) func25 rfl (by decide) (e25 lpK jnK)
noncomputable def law05_ProgramMore_b (lp:Lp) (_:Jn) (ratio_Cmp:t26) (program_Solve:t21) (law05_awake:t11) (law05_few:t12) (law05_empty:t25) (slices_Clone_22:t22) (slices_Clone_24:t24) (x0:(List Int)×List ((List Int)×Int×Int)) (x1:(List Int)×Int×Int):Option Bool :=
 obind law05_awake fun (t:Bool)=>bif !t then some false else obind (law05_few x0) fun (t:Bool) =>
 let v6:Bool:=!t;
 let v7:Bool:=!v6;
 let v8:Bool:=!v7||v7;bif v8 then bif v8 then bif v8 then bif v6||v7 then bif bif v6 then true else decide ((↑(List.length x1.1):Int)>14) then some true else obind
  (program_Solve x0) fun (t:((Int×Int)×List (Int×Int)×List (Int×Int))×Int×PUnit) =>
 let v10:Bool:=decide (t.2.1=0);
 let v11:Bool:=!v10||v10;obind (slices_Clone_22 x0.1) fun (t_1:List Int)=>lp (Int×Int×List Int×PUnit) Bool (fun (again:Int×Int×List Int×PUnit→Option Bool) (x :
  Int×Int×List Int×PUnit) =>
 let v15:Bool:=inB x.1 (List.length x.2.2.1);
 let v16:Bool:=Nat.ble (Nat.succ (Int.toNat x.1)) (List.length x.2.2.1);
 let v17:Bool:=inB x.2.1 (List.length x.2.2.1);
 let v18:Bool:=Nat.ble (Nat.succ (Int.toNat x.2.1)) (List.length x.2.2.1);bif decide (x.1<x.2.1) then bif v17 then bif v18 then bif v15 then bif v16 then bif v15
  then bif v16 then bif v17 then bif v18 then again (IntKind.wrap .i64 (x.1+1),IntKind.wrap .i64 (x.2.1 - 1),List.set (List.set x.2.2.1
  (Int.toNat x.1) (List.getD x.2.2.1 (Int.toNat x.2.1) 0)) (Int.toNat x.2.1) (List.getD x.2.2.1 (Int.toNat x.1) 0),PUnit.unit) else none else none
  else none else none else none else none else none else none else lp (Int×List Int×List (List Int×Int×Int)×PUnit) Bool (fun (again:Int×List Int×List (List Int×Int ×
  Int)×PUnit→Option Bool) (x:Int×List Int×List (List Int×Int×Int)×PUnit) =>
 let v21:List Int×Int×Int:=List.getD x0.2 (Int.toNat x.1) ([],0,0);bif decide (x.1<(↑(List.length x0.2):Int)) then bif inB x.1 (List.length x0.2)
  then obind (slices_Clone_22 v21.1) fun (t:List Int)=>lp (Int×Int×List Int×PUnit) Bool (fun (again_1:Int×Int×List Int×PUnit→Option Bool) (x_1:Int×Int×List Int
  × PUnit) =>
 let v25:Bool:=inB x_1.1 (List.length x_1.2.2.1);
 let v26:Bool:=Nat.ble (Nat.succ (Int.toNat x_1.1)) (List.length x_1.2.2.1);
 let v27:Bool:=inB x_1.2.1 (List.length x_1.2.2.1);
 let v28:Bool:=Nat.ble (Nat.succ (Int.toNat x_1.2.1)) (List.length x_1.2.2.1);bif decide (x_1.1<x_1.2.1) then bif v27 then bif v28 then bif v25 then bif v26 then bif
  v25 then bif v26 then bif v27 then bif v28 then again_1 (IntKind.wrap .i64 (x_1.1+1),IntKind.wrap .i64 (x_1.2.1 - 1),List.set (List.set
  x_1.2.2.1 (Int.toNat x_1.1) (List.getD x_1.2.2.1 (Int.toNat x_1.2.1) 0)) (Int.toNat x_1.2.1) (List.getD x_1.2.2.1 (Int.toNat x_1.1) 0),
  PUnit.unit) else none else none else none else none else none else none else none else none else bif fitB (1+List.length x.2.2.1) 40 then again (IntKind.wrap
  IntKind.i64 (x.1+1),x.2.1,(x_1.2.2.1,v21.2) ::x.2.2.1,PUnit.unit) else none) (0,IntKind.wrap .i64 ((↑(List.length t):Int) - (1 :
  Int)),t,PUnit.unit) else none else obind (program_Solve (x.2.1,x.2.2.1)) fun (t_2:((Int×Int)×List (Int×Int)×List (Int×Int))×Int×PUnit) =>
 let v23:Bool:=!decide (t.2.1=t_2.2.1);
 let v24:Bool:=!v23;
 let v25:Bool:=!v24||v24;bif v25 then bif v25 then bif v25&&v25 then bif v23||v24 then bif bif v23 then true else !(decide (t.1.1.1=t_2.1.1.1)&&(decide
  (t.1.1.2=t_2.1.1.2)&&true)) then some false else obind (slices_Clone_24 x0.2) fun (t_3:List (List Int×Int×Int))=>bif fitB (List.length t_3+1) (40 :
  Nat) then obind (program_Solve (x0.1,t_3++[x1])) fun (t_4:((Int×Int)×List (Int×Int)×List (Int×Int))×Int×PUnit) =>
 let v28:Bool:=decide (t_4.2.1=1);
 let v29:Bool:=decide (t_4.2.1=22);
 let v30:Bool:=!v28;
 let v31:Bool:=bif v10 then v29 else false;
 let v32:Bool:=!v31;bif !v30||v30 then bif v28||v30 then bif bif v28 then true else decide (t_4.2.1=5) then obind (law05_empty t_4.1) fun (t:Bool)=>some t else
  bif decide (t.2.1=22) then some v29 else bif v11 then bif v11 then bif bif v10 then decide (t_4.2.1=0) else false then obind (ratio_Cmp t.1.1
  t_4.1.1) fun (t:Int×Int×PUnit) =>
 let v34:Bool:=decide (t.2.1=0);
 let v35:Bool:=!v34||v34;bif v35 then bif v35 then some (bif v34 then decide (t.1≤0) else false) else none else none else bif v11 then bif v11 then bif !v32||v32 then
  bif v31||v32 then some (bif v31 then true else decide (t.2.1=21)) else none else none else none else none else none else none else none else none else none else none
  else none else none else none) (0,x.2.2.1,[],PUnit.unit)) (0,IntKind.wrap .i64 ((↑(List.length t_1):Int) - 1),t_1,PUnit.unit) else none else
  none else none else none
noncomputable def law05_ProgramMore (x0:(List Int)×List ((List Int)×Int×Int)) (x1:(List Int)×Int×Int):Option Bool:=law05_ProgramMore_b lpK jnK ratio_Cmp program_Solve law05_awake law05_few law05_empty slices_Clone_22 slices_Clone_24 x0 x1
noncomputable def c4:Ctr:=⟨[T25,T45],[],[],.one .bool,fun x _ _=>law05_ProgramMore x.1 x.2.1⟩
theorem e4 (lp:Lp) (jn:Jn) (ratio_Cmp:t26) (program_Solve:t21) (law05_awake:t11) (law05_few:t12) (law05_empty:t25) (slices_Clone_22:t22) (slices_Clone_24:t24):∀(x:TsS c4.as) (F:TsF c4.fs) (y:TsS c4.cs),law05_ProgramMore_b lp jn ratio_Cmp program_Solve law05_awake law05_few law05_empty slices_Clone_22 slices_Clone_24 x.1 x.2.1=runC lp jn (cx [(25,⟨[T30],[],[],.one .bool,fun x _ _=>law05_empty x.1⟩),(12,⟨[T25],[],[],.one .bool,fun x _ _=>law05_few x.1⟩),(11,⟨[],[],[],.one .bool,fun _ _ _=>law05_awake⟩),(21,k21 program_Solve),(26,k26 ratio_Cmp)] [(24,⟨[(.sl T45)],45,T45,fun x=>slices_Clone_24 x.1⟩),(22,k22 slices_Clone_22)]) hints 4 4 f4 c4 x F y:=fun x F y=>by kernel_rfl
theorem ok4:c4.ok prog 4:=Ctr.of_den (ctxT_ok (ctxOf_cons (ctxOf_cons (ctxOf_cons (ctxOf_cons (ctxOf_cons (q24) (by kernel_rfl) ok26) (by kernel_rfl) ok21) (by kernel_rfl) ok11) (by kernel_rfl) ok12) (by kernel_rfl) ok25)) hmix (hl:=hints) (d:=4) func4 rfl (by decide) (e4 lpK jnK ratio_Cmp program_Solve law05_awake law05_few law05_empty slices_Clone_22 slices_Clone_24)
end Go.Proofs.Ytnbbackjofgcfaa

namespace Go.Proofs.Ytnbbackjofgcfaa
namespace Dn
section
variable {T R α σ:Type}
theorem obind_some' {t:T} {k:T→Option R}:obind (some t) k=k t:=rfl
theorem loopF_eq {F:(α→Option R)→α→Option R} {g:α→Option R} (I:α→Prop) (μ:α→Nat)
  (h:∀x rec,I x→(∀y,I y→μ y<μ x→rec y=g y)→F rec x=g x):∀{n:Nat} {x:α},I x→μ x<n→loopF F n x=g x
 | 0,x,_,hn=>by omega
 | n+1,x,hx,hn=>by
  rw[loopF_succ]
  exact h x _ hx fun y hy hlt=>loopF_eq I μ h hy (by omega)
theorem lpK_loop {F:(α→Option R)→α→Option R} {g:α→Option R} (I:α→Prop) (μ:α→Nat)
  (h:∀x rec,I x→(∀y,I y→μ y<μ x→rec y=g y)→F rec x=g x) {x:α} (hx:I x) (hn:μ x<1180591620717411303424):lpK α R F x=g x:=loopF_eq I μ h hx hn
theorem jnK_eq' {j:α→Option R} {f:(α→Option R)→Option R}:jnK α R j f=f j:=rfl
theorem wrap_id {x:Int} (h1: -9223372036854775808≤x) (h2:x<9223372036854775808):IntKind.wrap .i64 x=x:=by
 rw[IntKind.wrap_i64];omega
def upF (b:Nat→σ→(σ→Option R)→Option R) (f:σ→Option R):Nat→Nat→σ→Option R
 | 0,_,s=>f s
 | k+1,i,s=>b i s (upF b f k (i+1))
theorem loopF_up {F:(α→Option R)→α→Option R} (n:Nat) (hn:n≤1180591620717411303423) (enc:Nat→σ→α) (b:Nat→σ→(σ→Option R)→Option R) (f:σ→Option R)
  (hb:∀again (i:Nat) s,i<n→F again (enc i s)=b i s (fun s'=>again (enc (i+1) s'))) (hf:∀again s,F again (enc n s)=f s) (s:σ) :
  loopF F K0 (enc 0 s)=upF b f n 0 s:=by
 have key:∀(k:Nat) (i:Nat) (m:Nat) (s:σ),i+k=n→k<m→loopF F m (enc i s)=upF b f k i s:=by
  intro k
  induction k with
  | zero =>
   intro i m s h1 h2
   obtain ⟨m,rfl⟩:∃m',m=m'+1:=⟨m - 1,by omega⟩
   have:i=n:=by omega
   subst this
   simp only[loopF_succ,hf,upF]
  | succ k ih =>
   intro i m s h1 h2
   obtain ⟨m,rfl⟩:∃m',m=m'+1:=⟨m - 1,by omega⟩
   simp only[loopF_succ,upF]
   rw[hb _ _ _ (by omega)]
   congr 1
   funext s'
   exact ih (i+1) m s' (by omega) (by omega)
 exact key n 0 K0 s (by omega) (by unfold K0;omega)
theorem inB_nat {i n:Nat}:inB (i:Int) n=decide (i<n):=by
 rw[Bool.eq_iff_iff,inB_iff,decide_eq_true_iff];omega
theorem inB_of {i:Int} {n:Nat} (h1:0≤i) (h2:i<n):inB i n=true:=inB_iff.2 ⟨h1,h2⟩
theorem nzB_of {n:Int} (h:n≠0):nzB n=true:=nzB_iff.2 h
theorem fitB_of {n k:Nat} (h:n*k≤140737488355328):fitB n k=true:=fitB_iff.2 h
theorem ble_of {n m:Nat} (h:n≤m):Nat.ble n m=true:=by rw[Nat.ble_eq];exact h
theorem cT0 {α:Sort _} {c:Bool} (h:c=true) (a b:α):cond c a b=a:=by subst h;rfl
theorem cT {α:Sort _} (a b:α):cond true a b=a:=cT0 (Eq.trans rfl rfl) a b
theorem cF0 {α:Sort _} {c:Bool} (h:c=false) (a b:α):cond c a b=b:=by subst h;rfl
theorem cF {α:Sort _} (a b:α):cond false a b=b:=cF0 (Eq.trans rfl rfl) a b
theorem or_self_not {b:Bool}:(b||!b)=true:=by cases b<;>rfl
theorem not_or_self' {b:Bool}:(!b||b)=true:=by cases b<;>rfl
theorem bif_false' {b:Bool} {c:Bool}:(bif b then c else false)=(b&&c):=by cases b<;>rfl
theorem bif_true' {b:Bool} {c:Bool}:(bif b then true else c)=(b||c):=by cases b<;>rfl
theorem ite_max {a b:Int}:(if b>a then b else a)=max a b:=by omega
theorem getD_nat {l:List α} {d:α} {i:Nat} (h:i<l.length):l.getD i d=l[i]:=by simp[List.getD,h]
end
end Dn
end Go.Proofs.Ytnbbackjofgcfaa

namespace Go.Proofs.Ytnbbackjofgcfaa
namespace Dn
abbrev Fq:=Int×Int
def okF (a:Fq):Prop:=(1≤a.2∧a.2≤1152921504606846976)∧(-1152921504606846976≤a.1∧a.1≤1152921504606846976)∧Nat.gcd a.1.natAbs a.2.natAbs=1
instance (a:Fq):Decidable (okF a):=by unfold okF;infer_instance
def qv (a:Fq):Rat:=mkRat a.1 a.2.toNat
def fitsQ (q:Rat):Prop:=q.num.natAbs≤1152921504606846976∧q.den≤1152921504606846976
instance (q:Rat):Decidable (fitsQ q):=by unfold fitsQ;infer_instance
def prQ (q:Rat):Fq:=(q.num,(q.den:Int))
def fitQ (q:Rat):Fq×Int×Unit:=if fitsQ q then (prQ q,0,()) else ((0,0),5,())
theorem okF_num {a:Fq} (h:okF a):(qv a).num=a.1:=by
 obtain ⟨⟨h1,h2⟩,_,h3⟩:=h
 have h0:a.2.toNat≠0:=by omega
 have h4:Nat.gcd a.2.toNat a.1.natAbs=1:=by rw[Nat.gcd_comm,show a.2.toNat=a.2.natAbs by omega];exact h3
 rw[qv,Rat.num_mkRat,if_neg h0,h4]
 simp
theorem okF_den {a:Fq} (h:okF a):((qv a).den:Int)=a.2:=by
 obtain ⟨⟨h1,h2⟩,_,h3⟩:=h
 have h0:a.2.toNat≠0:=by omega
 have h4:Nat.gcd a.2.toNat a.1.natAbs=1:=by rw[Nat.gcd_comm,show a.2.toNat=a.2.natAbs by omega];exact h3
 rw[qv,Rat.den_mkRat,if_neg h0,h4]
 simp;omega
theorem qv_prQ (q:Rat):qv (prQ q)=q:=by
 unfold qv prQ
 simp only[Int.toNat_natCast]
 exact Rat.mkRat_self q
theorem okF_prQ {q:Rat} (h:fitsQ q):okF (prQ q):=by
 obtain ⟨h1,h2⟩:=h
 have:=q.den_pos
 refine ⟨⟨?_,?_⟩,⟨?_,?_⟩,?_⟩
 ·simp only[prQ];omega
 ·simp only[prQ];omega
 ·simp only[prQ];omega
 ·simp only[prQ];omega
 ·simp only[prQ]
  rw[Int.natAbs_natCast]
  exact q.reduced
theorem fitQ_cases (q:Rat):(fitsQ q∧fitQ q=(prQ q,0,()))∨(¬ fitsQ q∧fitQ q=((0,0),5,())):=by
 unfold fitQ
 by_cases h:fitsQ q
 ·exact .inl ⟨h,by rw[if_pos h]⟩
 ·exact .inr ⟨h,by rw[if_neg h]⟩
theorem qv_int (n:Int):qv (n,1)=(n:Rat):=by
 show mkRat n 1=(n:Rat)
 rw[Rat.mkRat_eq_div]
 show (n:Rat) / ((1:Nat):Rat)=n
 rw[show ((1:Nat):Rat)=1 from rfl]
 grind
theorem okF_int {n:Int} (h1: -1152921504606846976≤n) (h2:n≤1152921504606846976):okF (n,1):=⟨⟨by simp,by simp⟩,⟨h1,h2⟩,by simp⟩
theorem okF_nonneg {a:Fq} (h:okF a):0≤qv a↔0≤a.1:=by rw[←Rat.num_nonneg,okF_num h]
theorem okF_zero {a:Fq} (h:okF a):qv a=0↔a.1=0:=by rw[←Rat.num_eq_zero,okF_num h]
theorem okF_neg {a:Fq} (h:okF a):qv a<0↔a.1<0:=by
 rw[←Rat.not_le,okF_nonneg h];omega
theorem okF_le {a b:Fq} (ha:okF a) (hb:okF b):qv a≤qv b↔a.1*b.2≤b.1*a.2:=by
 rw[Rat.le_iff,okF_num ha,okF_num hb,okF_den ha,okF_den hb]
theorem okF_lt {a b:Fq} (ha:okF a) (hb:okF b):qv a<qv b↔a.1*b.2<b.1*a.2:=by
 rw[Rat.lt_iff,okF_num ha,okF_num hb,okF_den ha,okF_den hb]
def sgn (s:Bool) (n:Nat):Int:=if s then -(n:Int) else n
theorem mkQ_low {s:Bool} {n d:Nat} (hd:0<d) (hc:Nat.gcd n d=1):(mkRat (sgn s n) d).num=sgn s n∧(mkRat (sgn s n) d).den=d:=by
 have h0:d≠0:=by omega
 have ha:(sgn s n).natAbs=n:=by unfold sgn;split<;>simp
 have hg:Nat.gcd d (sgn s n).natAbs=1:=by rw[ha,Nat.gcd_comm];exact hc
 rw[Rat.num_mkRat,Rat.den_mkRat,if_neg h0,if_neg h0,hg]
 simp
theorem mkQ_div {s:Bool} {n d:Nat} (hd:0<d):mkRat (sgn s n) d=mkRat (sgn s (n / Nat.gcd n d)) (d / Nat.gcd n d)∧0<d / Nat.gcd n d∧Nat.gcd (n / Nat.gcd n d) (d / Nat.gcd n d)=1:=by
 have hg:0<Nat.gcd n d:=Nat.gcd_pos_of_pos_right _ hd
 have h1:n / Nat.gcd n d*Nat.gcd n d=n:=Nat.div_mul_cancel (Nat.gcd_dvd_left n d)
 have h2:d / Nat.gcd n d*Nat.gcd n d=d:=Nat.div_mul_cancel (Nat.gcd_dvd_right n d)
 refine ⟨?_,Nat.div_pos (Nat.le_of_dvd hd (Nat.gcd_dvd_right n d)) hg,Nat.gcd_div_gcd_div_gcd_of_pos_right hd⟩
 have h3:sgn s n=sgn s (n / Nat.gcd n d)*(Nat.gcd n d:Int):=by
  unfold sgn
  split
  ·rw[Int.neg_mul,←Int.natCast_mul,h1]
  ·rw[←Int.natCast_mul,h1]
 have h4:mkRat (sgn s n) d=mkRat (sgn s (n / Nat.gcd n d)*(Nat.gcd n d:Int)) (d / Nat.gcd n d*Nat.gcd n d):=by rw[←h3,h2]
 rw[h4]
 exact Rat.mkRat_mul_right (by omega)
theorem mkQ_congr {s:Bool} {n d m e:Nat} (hd:0<d) (he:0<e) (h:n*e=m*d):mkRat (sgn s n) d=mkRat (sgn s m) e:=by
 rw[Rat.mkRat_eq_iff (by omega) (by omega)]
 unfold sgn
 split
 ·rw[Int.neg_mul,Int.neg_mul,←Int.natCast_mul,←Int.natCast_mul,h]
 ·rw[←Int.natCast_mul,←Int.natCast_mul,h]
theorem fit_low {s:Bool} {n d:Nat} (hd:0<d) (hc:Nat.gcd n d=1):fitQ (mkRat (sgn s n) d)=if n≤1152921504606846976∧d≤1152921504606846976 then ((sgn s n,(d:Int)),0,()) else ((0,0),5,()):=by
 obtain ⟨h1,h2⟩:=mkQ_low (s:=s) hd hc
 have ha:(sgn s n).natAbs=n:=by unfold sgn;split<;>simp
 unfold fitQ
 have e:fitsQ (mkRat (sgn s n) d)↔n≤1152921504606846976∧d≤1152921504606846976:=by unfold fitsQ;rw[h1,h2,ha]
 have e2:prQ (mkRat (sgn s n) d)=(sgn s n,(d:Int)):=by unfold prQ;rw[h1,h2]
 rw[e2]
 by_cases h:n≤1152921504606846976∧d≤1152921504606846976
 ·rw[if_pos h,if_pos (e.2 h)]
 ·rw[if_neg h,if_neg (fun hh=>h (e.1 hh))]
theorem size_sgn (n:Int):n=sgn (decide (n<0)) n.natAbs:=by
 unfold sgn
 by_cases h:n<0
 ·simp[h];omega
 ·simp[h];omega
theorem okF_mkQ (a:Fq):qv a=mkRat (sgn (decide (a.1<0)) a.1.natAbs) a.2.toNat:=by
 unfold qv
 rw[←size_sgn]
theorem mul_sgn {s t:Bool} {m n:Nat}:sgn s m*sgn t n=sgn (s !=t) (m*n):=by
 unfold sgn
 cases s<;>cases t<;>simp[Int.neg_mul,Int.mul_neg]
theorem mkQ_mul {s t:Bool} {m n d e:Nat}:mkRat (sgn s m) d*mkRat (sgn t n) e=mkRat (sgn (s !=t) (m*n)) (d*e):=by
 rw[Rat.mkRat_mul_mkRat,mul_sgn]
theorem sgn_zero (s t:Bool):sgn s 0=sgn t 0:=by unfold sgn;cases s<;>cases t<;>rfl
end Dn
end Go.Proofs.Ytnbbackjofgcfaa

namespace Go.Proofs.Ytnbbackjofgcfaa
open Try Dn Dn.Sh
theorem u_wrap {x:Int} (h1:0≤x) (h2:x<18446744073709551616):IntKind.wrap .u64 x=x:=by
 rw[IntKind.wrap_u64];omega
theorem size_ok {x:Int} (h1: -9223372036854775808≤x) (h2:x<9223372036854775808):ratio_size x=some (x.natAbs:Int):=by
 simp only[ratio_size,ratio_size_b]
 by_cases h:x<0
 ·simp only[h,decide_true,cond_true]
  rw[IntKind.wrap_u64,IntKind.wrap_u64]
  congr 1;omega
 ·simp only[h,decide_false,cond_false]
  rw[u_wrap (by omega) (by omega)]
  congr 1;omega
theorem gcd_ok (m n:Nat) (hn:n<18446744073709551616):ratio_gcd (m:Int) (n:Int)=some ((Nat.gcd m n:Nat):Int):=by
 simp only[ratio_gcd,ratio_gcd_b]
 refine lpK_loop (g:=fun x=>some ((Nat.gcd x.1.toNat x.2.1.toNat:Nat):Int)) (I:=fun (x:Int×Int×PUnit)=>0≤x.1∧0≤x.2.1) (μ:=fun (x:Int×Int×PUnit)=>x.2.1.toNat) (x:=((m:Int),(n:Int),PUnit.unit)) ?_ ⟨Int.natCast_nonneg _,Int.natCast_nonneg _⟩ (by simp only;omega)
 rintro ⟨a,b,_⟩ rec ⟨h1,h2⟩ hrec
 simp only at h1 h2 ⊢
 by_cases hb:b=0
 ·subst hb
  simp only[decide_true,Bool.not_true,cond_false,Int.toNat_zero,Nat.gcd_zero_right]
  congr 1;omega
 ·rw[decide_eq_false hb,nzB_of hb,Int.tmod_eq_emod_of_nonneg h1]
  simp only[Bool.not_false,cT]
  have h3:0≤a % b:=Int.emod_nonneg _ hb
  have h4:a % b<b:=Int.emod_lt_of_pos _ (by omega)
  rw[hrec _ ⟨by simp only;omega,by simp only;omega⟩ (by simp only;omega)]
  simp only
  congr 2
  rw[Int.toNat_emod h1 h2,Nat.gcd_comm a.toNat,Nat.gcd_rec b.toNat a.toNat,Nat.gcd_comm]
theorem signed_ok (s:Bool) (n d:Nat) (h1:n<18446744073709551616) (h2:d<18446744073709551616) :
  ratio_signed s (n:Int) (d:Int)=some (if n≤1152921504606846976∧d≤1152921504606846976 then ((sgn s n,(d:Int)),0,()) else ((0,0),5,())):=by
 simp only[ratio_signed,ratio_signed_b,not_or_self',or_self_not,cond_true]
 by_cases hn:n≤1152921504606846976
 ·by_cases hd:d≤1152921504606846976
  ·have e1:decide ((n:Int)>1152921504606846976)=false:=decide_eq_false (by omega)
   have e2:decide ((d:Int)>1152921504606846976)=false:=decide_eq_false (by omega)
   rw[wrap_id (x:=(n:Int)) (by omega) (by omega),wrap_id (x:=(d:Int)) (by omega) (by omega),wrap_id (x:=0 - (n:Int)) (by omega) (by omega)]
   simp only[e1,e2,cond_false,hn,hd,and_self,if_true]
   cases s<;>simp[sgn]
  ·have e2:decide ((d:Int)>1152921504606846976)=true:=decide_eq_true (by omega)
   simp only[e2,bif_true',Bool.or_true,cond_true,hd,and_false,if_false]
 ·have e1:decide ((n:Int)>1152921504606846976)=true:=decide_eq_true (by omega)
  simp only[e1,cond_true,hn,false_and,if_false]
def divQ (n d:Int):Rat:=mkRat (sgn (decide (n<0) !=decide (d<0)) n.natAbs) d.natAbs
theorem divQ_eq {n d:Int} (hd:d≠0):divQ n d=(n:Rat) / d:=by
 unfold divQ
 rw[←Rat.divInt_eq_div,show mkRat (sgn (decide (n<0) !=decide (d<0)) n.natAbs) d.natAbs=Rat.divInt (sgn (decide (n<0) !=decide (d<0)) n.natAbs) (d.natAbs:Int) from (Rat.divInt_ofNat _ _).symm]
 rw[Rat.divInt_eq_divInt_iff (by omega) hd]
 unfold sgn
 by_cases h1:n<0<;>by_cases h2:d<0
 ·rw[show ((n.natAbs:Nat):Int)= -n by omega,show ((d.natAbs:Nat):Int)= -d by omega]
  simp[h1,h2,Int.neg_mul,Int.mul_neg]
 ·rw[show ((n.natAbs:Nat):Int)= -n by omega,show ((d.natAbs:Nat):Int)=d by omega]
  simp[h1,h2]
 ·rw[show ((n.natAbs:Nat):Int)=n by omega,show ((d.natAbs:Nat):Int)= -d by omega]
  simp[h1,h2,Int.neg_mul,Int.mul_neg]
 ·rw[show ((n.natAbs:Nat):Int)=n by omega,show ((d.natAbs:Nat):Int)=d by omega]
  simp[h1,h2]
theorem tdiv_nat (m n:Nat):Int.tdiv (m:Int) (n:Int)=((m / n:Nat):Int):=by
 rw[Int.tdiv_eq_ediv_of_nonneg (by omega)]
 rfl
theorem Make_ok {n d:Int} (h1: -9223372036854775808≤n) (h2:n<9223372036854775808) (h3: -9223372036854775808≤d) (h4:d<9223372036854775808) :
  ratio_Make n d=some (if d=0 then ((0,0),16,()) else fitQ (divQ n d)):=by
 simp only[ratio_Make,ratio_Make_b,not_or_self',Bool.and_self,cond_true]
 by_cases hd:d=0
 ·simp only[hd,decide_true,cond_true,if_true]
 ·simp only[hd,decide_false,cond_false,if_false]
  rw[size_ok h1 h2,obind_some',size_ok h3 h4,obind_some',gcd_ok _ _ (by omega),obind_some']
  have hg:0<Nat.gcd n.natAbs d.natAbs:=Nat.gcd_pos_of_pos_right _ (by omega)
  have a1:n.natAbs / Nat.gcd n.natAbs d.natAbs≤n.natAbs:=Nat.div_le_self _ _
  have a2:d.natAbs / Nat.gcd n.natAbs d.natAbs≤d.natAbs:=Nat.div_le_self _ _
  have hz:nzB ((Nat.gcd n.natAbs d.natAbs:Nat):Int)=true:=nzB_of (by omega)
  obtain ⟨m1,m2,m3⟩:=mkQ_div (s:=decide (n<0) !=decide (d<0)) (n:=n.natAbs) (d:=d.natAbs) (by omega)
  have hs:n=0→n.natAbs / Nat.gcd n.natAbs d.natAbs=0:=fun h=>by subst h;simp
  rw[hz,cond_true,cond_true,tdiv_nat,tdiv_nat]
  unfold divQ
  rw[m1]
  generalize n.natAbs / Nat.gcd n.natAbs d.natAbs=p at *
  generalize d.natAbs / Nat.gcd n.natAbs d.natAbs=q at *
  rw[u_wrap (by omega) (by omega),u_wrap (by omega) (by omega),signed_ok _ _ _ (by omega) (by omega),obind_some',fit_low m2 m3]
  have hs:sgn (bif !decide (n=0) then !decide (decide (n<0)=decide (d<0)) else false) p=sgn (decide (n<0) !=decide (d<0)) p:=by
   by_cases h0:n=0
   ·rw[hs h0]
    exact sgn_zero _ _
   ·simp only[h0,decide_false,Bool.not_false,cond_true]
    cases decide (n<0)<;>cases decide (d<0)<;>rfl
  rw[hs]
theorem Valid_ok {a:Fq}:ratio_Valid a=some (decide (okF a)):=by
 simp only[ratio_Valid,ratio_Valid_b,not_or_self',Bool.and_self,cond_true,bif_false']
 unfold okF
 by_cases h1:1≤a.2
 ·by_cases h2:a.2≤1152921504606846976
  ·by_cases h3: -1152921504606846976≤a.1
   ·by_cases h4:a.1≤1152921504606846976
    ·have e:IntKind.wrap .u64 a.2=((a.2.natAbs:Nat):Int):=by rw[u_wrap (by omega) (by omega)];omega
     simp only[ge_iff_le,h1,h2,h3,h4,decide_true,Bool.and_self,cond_true]
     rw[size_ok (by omega) (by omega),obind_some',e,gcd_ok _ _ (by omega),obind_some']
     congr 1
     rw[Bool.eq_iff_iff]
     simp only[Bool.true_and,decide_eq_true_eq,true_and]
     generalize Nat.gcd a.1.natAbs a.2.natAbs=g
     omega
    ·simp[obind_some',h4]
   ·simp[obind_some',h3]
  ·simp[obind_some',h2]
 ·simp[obind_some',h1]
end Go.Proofs.Ytnbbackjofgcfaa

namespace Go.Proofs.Ytnbbackjofgcfaa
open Try Dn Dn.Sh
theorem land32 {x:Int} (h1:0≤x) (h2:x<18446744073709551616):((Nat.land (Int.toNat (x % Int.ofNat 18446744073709551616)) (Int.toNat ((4294967295:Int) % Int.ofNat 18446744073709551616)):Nat):Int)=x % 4294967296:=by
 have e1:x % Int.ofNat 18446744073709551616=x:=Int.emod_eq_of_lt h1 h2
 have e2:Int.toNat ((4294967295:Int) % Int.ofNat 18446744073709551616)=2 ^ 32 - 1:=by decide
 rw[e1,e2]
 have:Nat.land x.toNat (2 ^ 32 - 1)=x.toNat % 2 ^ 32:=Nat.and_two_pow_sub_one_eq_mod x.toNat 32
 rw[this]
 omega
def hl (n:Nat):Int×Int:=(((n / 18446744073709551616:Nat):Int),((n % 18446744073709551616:Nat):Int))
theorem mulW {x y:Int} (x0:0≤x) (x1:x<18446744073709551616) (y0:0≤y) (y1:y<18446744073709551616):bits_Mul64 x y=some (x*y / 18446744073709551616,x*y % 18446744073709551616,()):=by
 have p32:(2:Int) ^ (32:Nat)=4294967296:=by decide
 simp only[bits_Mul64,bits_Mul64_b,p32,show decide ((0:Int)≤32)=true from rfl,cond_true]
 obtain ⟨a,b,ha,hb,hx⟩:∃a b,a=x / 4294967296∧b=x % 4294967296∧x=a*4294967296+b:=⟨_,_,rfl,rfl,by omega⟩
 obtain ⟨c,d,hc,hd,hy⟩:∃c d,c=y / 4294967296∧d=y % 4294967296∧y=c*4294967296+d:=⟨_,_,rfl,rfl,by omega⟩
 have fd:∀n:Int,Int.fdiv n 4294967296=n / 4294967296:=fun n=>Int.fdiv_eq_ediv_of_nonneg n (by omega)
 rw[land32 x0 x1,land32 y0 y1,←hb,←hd]
 simp only[fd,←ha,←hc]
 have a0:0≤a∧a≤4294967295:=by omega
 have b0:0≤b∧b≤4294967295:=by omega
 have c0:0≤c∧c≤4294967295:=by omega
 have d0:0≤d∧d≤4294967295:=by omega
 have mb:∀{m n:Int},0≤m∧m≤4294967295→0≤n∧n≤4294967295→0≤m*n∧m*n≤18446744065119617025:=fun {m n} hm hn=>⟨Int.mul_nonneg hm.1 hn.1,Int.le_trans (Int.mul_le_mul hm.2 hn.2 hn.1 (by omega)) (by decide)⟩
 have e1:=mb a0 c0
 have e2:=mb a0 d0
 have e3:=mb b0 c0
 have e4:=mb b0 d0
 have hxy:x*y=a*c*18446744073709551616+(a*d+b*c)*4294967296+b*d:=by rw[hx,hy];grind
 rw[IntKind.wrap_u64 (x*y)]
 rw[hxy]
 rw[u_wrap (x:=b) (by omega) (by omega),u_wrap (x:=d) (by omega) (by omega)]
 rw[u_wrap (x:=b*d) (by omega) (by omega),u_wrap (x:=a*d) (by omega) (by omega),u_wrap (x:=b*c) (by omega) (by omega),u_wrap (x:=a*c) (by omega) (by omega)]
 generalize b*d=bd at *
 generalize a*d=ad at *
 generalize b*c=bc at *
 generalize a*c=ac at *
 rw[u_wrap (x:=ad+bd / 4294967296) (by omega) (by omega)]
 generalize ht:ad+bd / 4294967296=t
 rw[land32 (by omega) (by omega)]
 rw[u_wrap (x:=t % 4294967296) (by omega) (by omega)]
 rw[u_wrap (x:=t % 4294967296+bc) (by omega) (by omega),u_wrap (x:=ac+t / 4294967296) (by omega) (by omega)]
 rw[u_wrap (x:=ac+t / 4294967296+(t % 4294967296+bc) / 4294967296) (by omega) (by omega)]
 congr 1
 ext
 ·simp only;omega
 ·rfl
theorem product_ok {m n:Nat} (hm:m<18446744073709551616) (hn:n<18446744073709551616):ratio_product (m:Int) (n:Int)=some (hl (m*n)):=by
 simp only[ratio_product,ratio_product_b]
 rw[mulW (by omega) (by omega) (by omega) (by omega),obind_some',←Int.natCast_mul]
 rfl
theorem hl_small {n:Nat} (h:n<18446744073709551616):hl n=(0,(n:Int)):=by
 unfold hl
 rw[Nat.div_eq_of_lt h,Nat.mod_eq_of_lt h]
 rfl
theorem hl_big {n:Nat} (h:¬ n<18446744073709551616):(hl n).1>0:=by
 unfold hl
 simp only
 omega
theorem Mul_ok {a b:Fq} (ha:okF a) (hb:okF b):ratio_Mul a b=some (fitQ (qv a*qv b)):=by
 simp only[ratio_Mul,ratio_Mul_b,Valid_ok,ha,hb,decide_true,obind_some',Bool.not_true,Bool.not_false,Bool.and_self,cond_true,cond_false,not_or_self',or_self_not]
 have ha':=ha
 have hb':=hb
 obtain ⟨⟨a1,a2⟩,⟨a3,a4⟩,a5⟩:=ha'
 obtain ⟨⟨b1,b2⟩,⟨b3,b4⟩,b5⟩:=hb'
 rw[okF_mkQ a,okF_mkQ b,mkQ_mul]
 obtain ⟨d,hd⟩:∃d:Nat,a.2=(d:Int):=⟨a.2.toNat,by omega⟩
 obtain ⟨e,he⟩:∃e:Nat,b.2=(e:Int):=⟨b.2.toNat,by omega⟩
 rw[size_ok (by omega) (by omega),size_ok (by omega) (by omega)]
 simp only[obind_some',hd,he,Int.toNat_natCast] at *
 rw[u_wrap (x:=(d:Int)) (by omega) (by omega),u_wrap (x:=(e:Int)) (by omega) (by omega),gcd_ok _ _ (by omega),obind_some',gcd_ok _ _ (by omega),obind_some']
 have sa:a.1.natAbs≤1152921504606846976:=by omega
 have sb:b.1.natAbs≤1152921504606846976:=by omega
 have za:a.1=0↔a.1.natAbs=0:=by omega
 have zb:b.1=0↔b.1.natAbs=0:=by omega
 have hlt:decide (a.1<0)=true→a.1.natAbs≠0:=fun h=>by have:=of_decide_eq_true h;omega
 rw[Int.natAbs_natCast] at a5 b5
 generalize a.1.natAbs=m at *
 generalize b.1.natAbs=n at *
 generalize decide (a.1<0)=s at *
 generalize decide (b.1<0)=t at *
 have hd0:0<d:=by omega
 have he0:0<e:=by omega
 have hg:0<Nat.gcd m e:=Nat.gcd_pos_of_pos_right _ he0
 have hh:0<Nat.gcd n d:=Nat.gcd_pos_of_pos_right _ hd0
 rw[nzB_of (show ((Nat.gcd m e:Nat):Int)≠0 by omega),nzB_of (show ((Nat.gcd n d:Nat):Int)≠0 by omega)]
 simp only[cond_true,tdiv_nat]
 have m1:m / Nat.gcd m e*Nat.gcd m e=m:=Nat.div_mul_cancel (Nat.gcd_dvd_left m e)
 have e1:e / Nat.gcd m e*Nat.gcd m e=e:=Nat.div_mul_cancel (Nat.gcd_dvd_right m e)
 have n1:n / Nat.gcd n d*Nat.gcd n d=n:=Nat.div_mul_cancel (Nat.gcd_dvd_left n d)
 have d1:d / Nat.gcd n d*Nat.gcd n d=d:=Nat.div_mul_cancel (Nat.gcd_dvd_right n d)
 have c1:Nat.Coprime (m / Nat.gcd m e) (e / Nat.gcd m e):=Nat.coprime_div_gcd_div_gcd hg
 have c2:Nat.Coprime (n / Nat.gcd n d) (d / Nat.gcd n d):=Nat.coprime_div_gcd_div_gcd hh
 have q1:m / Nat.gcd m e≤m:=Nat.div_le_self _ _
 have q2:e / Nat.gcd m e≤e:=Nat.div_le_self _ _
 have q3:n / Nat.gcd n d≤n:=Nat.div_le_self _ _
 have q4:d / Nat.gcd n d≤d:=Nat.div_le_self _ _
 have p2:0<e / Nat.gcd m e:=Nat.div_pos (Nat.le_of_dvd he0 (Nat.gcd_dvd_right m e)) hg
 have p4:0<d / Nat.gcd n d:=Nat.div_pos (Nat.le_of_dvd hd0 (Nat.gcd_dvd_right n d)) hh
 have x1:m / Nat.gcd m e∣m:=Nat.div_dvd_of_dvd (Nat.gcd_dvd_left m e)
 have x2:e / Nat.gcd m e∣e:=Nat.div_dvd_of_dvd (Nat.gcd_dvd_right m e)
 have x3:n / Nat.gcd n d∣n:=Nat.div_dvd_of_dvd (Nat.gcd_dvd_left n d)
 have x4:d / Nat.gcd n d∣d:=Nat.div_dvd_of_dvd (Nat.gcd_dvd_right n d)
 generalize Nat.gcd m e=g at *
 generalize Nat.gcd n d=h at *
 generalize m / g=m' at *
 generalize e / g=e' at *
 generalize n / h=n' at *
 generalize d / h=d' at *
 have cop:Nat.gcd (m'*n') (d'*e')=1:=by
  refine Nat.Coprime.mul_left (Nat.Coprime.mul_right ?_ c1) (Nat.Coprime.mul_right c2 ?_)
  ·exact Nat.Coprime.coprime_dvd_left x1 (Nat.Coprime.coprime_dvd_right x4 a5)
  ·exact Nat.Coprime.coprime_dvd_left x3 (Nat.Coprime.coprime_dvd_right x2 b5)
 have hq:mkRat (sgn (s !=t) (m*n)) (d*e)=mkRat (sgn (s !=t) (m'*n')) (d'*e'):=by
  refine mkQ_congr (Nat.mul_pos hd0 he0) (Nat.mul_pos p4 p2) ?_
  rw[←m1,←n1,←d1,←e1]
  grind
 rw[hq,fit_low (Nat.mul_pos p4 p2) cop]
 rw[u_wrap (by omega) (by omega),u_wrap (by omega) (by omega),product_ok (by omega) (by omega),obind_some',u_wrap (by omega) (by omega),u_wrap (by omega) (by omega),product_ok (by omega) (by omega),obind_some']
 by_cases hN:m'*n'<18446744073709551616
 ·rw[hl_small hN]
  by_cases hD:d'*e'<18446744073709551616
  ·rw[hl_small hD]
   simp only[show decide ((0:Int)>0)=false from rfl,cond_false]
   rw[signed_ok _ _ _ hN hD,obind_some']
   have hs:sgn (bif decide (((m'*n':Nat):Int)>0) then !decide (s=t) else false) (m'*n')=sgn (s !=t) (m'*n'):=by
    by_cases h0:m'*n'=0
    ·rw[h0];exact sgn_zero _ _
    ·rw[decide_eq_true (show ((m'*n':Nat):Int)>0 by omega)]
     cases s<;>cases t<;>rfl
   rw[hs]
  ·have:=hl_big hD
   simp only[show decide ((0:Int)>0)=false from rfl,cond_false,decide_eq_true this,cond_true]
   rw[if_neg (by omega)]
 ·have:=hl_big hN
  simp only[decide_eq_true this,cond_true]
  rw[if_neg (by omega)]
end Go.Proofs.Ytnbbackjofgcfaa

namespace Go.Proofs.Ytnbbackjofgcfaa
open Try Dn Dn.Sh
theorem fdiv_of {n d:Int} (h:0≤d):Int.fdiv n d=n / d:=Int.fdiv_eq_ediv_of_nonneg n h
theorem zero_hl {n:Nat} (_:n<340282366920938463463374607431768211456):(decide ((hl n).1=0)&&(decide ((hl n).2=0)&&true))=decide (n=0):=by
 rw[Bool.and_true,Bool.eq_iff_iff,Bool.and_eq_true,decide_eq_true_iff,decide_eq_true_iff,decide_eq_true_iff]
 simp only[hl]
 omega
end Go.Proofs.Ytnbbackjofgcfaa

namespace Go.Proofs.Ytnbbackjofgcfaa
open Try Dn Dn.Sh
theorem divMod_of {t b q r:Nat} (hr:r<b) (h:t=q*b+r):t / b=q∧t % b=r:=by
 subst h
 constructor
 ·rw[Nat.mul_comm,Nat.mul_add_div (by omega),Nat.div_eq_of_lt hr,Nat.add_zero]
 ·rw[Nat.mul_comm,Nat.mul_add_mod,Nat.mod_eq_of_lt hr]
theorem not_dec_eq {a b:Prop} [Decidable a] [Decidable b]:(!decide (decide a=decide b))=(decide a !=decide b):=by
 cases decide a<;>cases decide b<;>rfl
end Go.Proofs.Ytnbbackjofgcfaa

namespace Go.Proofs.Ytnbbackjofgcfaa
open Try Dn Dn.Sh
theorem rLess_ok {a b:Nat}:ratio_less (hl a) (hl b)=some (decide (a<b)):=by
 simp only[ratio_less,ratio_less_b]
 have e:decide (a<b)=(bif decide ((hl a).1<(hl b).1) then true else bif decide ((hl a).1=(hl b).1) then decide ((hl a).2<(hl b).2) else false):=by
  by_cases c1:(hl a).1<(hl b).1
  ·simp only[c1,decide_true,cond_true]
   simp only[hl] at c1
   exact decide_eq_true (by omega)
  ·by_cases c2:(hl a).1=(hl b).1
   ·rw[decide_eq_false c1,decide_eq_true c2,cond_true,cond_false]
    have e2:a<b↔(hl a).2<(hl b).2:=by
     simp only[hl] at c1 c2 ⊢
     omega
    rw[Bool.eq_iff_iff,decide_eq_true_iff,decide_eq_true_iff]
    exact e2
   ·simp only[c1,c2,decide_false,cond_false]
    simp only[hl] at c1 c2
    exact decide_eq_false (by omega)
 rw[e]
 cases decide ((hl a).1<(hl b).1)<;>cases decide ((hl a).1=(hl b).1)<;>rfl
theorem addC_hl {m n:Nat}:addC (hl m).2 (hl n).2 0=(((m % 18446744073709551616+n % 18446744073709551616) / 18446744073709551616:Nat):Int):=by
 simp only[addC,hl,Int.toNat_natCast,Int.toNat_zero,Nat.add_zero]
 rfl
theorem subC_hl {m n:Nat}:subC (hl m).2 (hl n).2 0=(((if m % 18446744073709551616<n % 18446744073709551616 then 1 else 0:Nat):Nat):Int):=by
 simp only[subC,hl,Int.toNat_natCast,Int.toNat_zero,Nat.add_zero]
 cases h:Nat.blt (m % 18446744073709551616) (n % 18446744073709551616) with
 | true =>
  have h':m % 18446744073709551616<n % 18446744073709551616:=by simpa [Nat.blt_eq] using h
  rw[if_pos h'];rfl
 | false =>
  have h':¬ m % 18446744073709551616<n % 18446744073709551616:=by
   intro h2
   have:Nat.blt (m % 18446744073709551616) (n % 18446744073709551616)=true:=by simpa [Nat.blt_eq] using h2
   rw[this] at h;cases h
  rw[if_neg h'];rfl
theorem rPlus_ok {m n:Nat} (h:m+n<340282366920938463463374607431768211456):ratio_plus (hl m) (hl n)=some (hl (m+n)):=by
 simp only[ratio_plus,ratio_plus_b,addC_hl]
 have c1:decide ((0:Int)≤(0:Int))=true:=rfl
 have c2:decide ((0:Int)≤(1:Int))=true:=rfl
 rw[c1,c2,decide_eq_true (show (0:Int)≤(((m % 18446744073709551616+n % 18446744073709551616) / 18446744073709551616:Nat):Int) by omega),decide_eq_true (show (((m % 18446744073709551616+n % 18446744073709551616) / 18446744073709551616:Nat):Int)≤1 by omega)]
 simp only[Bool.and_self,cT,Option.some.injEq,addO,hl,Int.toNat_natCast,Int.toNat_zero,Nat.add_zero,Prod.mk.injEq]
 constructor
 ·show ((_:Nat):Int)=((_:Nat):Int)
  omega
 ·show ((_:Nat):Int)=((_:Nat):Int)
  omega
theorem rMinus_ok {m n:Nat} (h:n≤m) (hm:m<340282366920938463463374607431768211456):ratio_minus (hl m) (hl n)=some (hl (m - n)):=by
 simp only[ratio_minus,ratio_minus_b,subC_hl]
 have c1:decide ((0:Int)≤(0:Int))=true:=rfl
 have c2:decide ((0:Int)≤(1:Int))=true:=rfl
 have hb:(if m % 18446744073709551616<n % 18446744073709551616 then 1 else 0:Nat)≤1:=by split<;>omega
 have hc:(if m % 18446744073709551616<n % 18446744073709551616 then 1 else 0:Nat)=1∧m % 18446744073709551616<n % 18446744073709551616∨(if m % 18446744073709551616<n % 18446744073709551616 then 1 else 0:Nat)=0∧¬ m % 18446744073709551616<n % 18446744073709551616:=by split<;>simp_all
 generalize (if m % 18446744073709551616<n % 18446744073709551616 then 1 else 0:Nat)=c at *
 rw[c1,c2,decide_eq_true (show (0:Int)≤(c:Int) by omega),decide_eq_true (show (c:Int)≤1 by omega)]
 simp only[Bool.and_self,cT,Option.some.injEq,subO,hl,Int.toNat_natCast,Int.toNat_zero,Nat.sub_zero,Prod.mk.injEq]
 constructor
 ·show ((_:Nat):Int)=((_:Nat):Int)
  omega
 ·show ((_:Nat):Int)=((_:Nat):Int)
  omega
noncomputable def lenT (T:ByteArray) (a b:Int):Option Int :=
 bif decide (a≥(256:Int)) then bif decide ((0:Int)≤(8:Int)) then bif inB (IntKind.wrap .u8 (Int.fdiv a ((2:Int) ^ (8:Nat)))) (256:Nat) then
  some (IntKind.wrap .i64 (IntKind.wrap .i64 (b+(8:Int))+IntKind.wrap .i64 (byteAt T (Int.toNat (IntKind.wrap .u8 (Int.fdiv a ((2:Int) ^ (8:Nat)))))))) else none else none
 else bif inB (IntKind.wrap .u8 a) (256:Nat) then some (IntKind.wrap .i64 (b+IntKind.wrap .i64 (byteAt T (Int.toNat (IntKind.wrap .u8 a))))) else none
noncomputable def lenU (T:ByteArray) (a b:Int):Option Int:=bif decide (a≥(65536:Int)) then bif decide ((0:Int)≤(16:Int)) then lenT T (Int.fdiv a ((2:Int) ^ (16:Nat))) (IntKind.wrap .i64 (b+(16:Int))) else none else lenT T a b
theorem len_table:∃T:ByteArray,(∀i,i<256→0≤byteAt T i∧byteAt T i≤8∧(0<i→i<2 ^ (byteAt T i).toNat∧2 ^ (byteAt T i).toNat≤2*i)) ∧
  ∀x,bits_Len64 x=bif decide (x≥(4294967296:Int)) then bif decide ((0:Int)≤(32:Int)) then lenU T (Int.fdiv x ((2:Int) ^ (32:Nat))) 32 else none else lenU T x 0 :=
 ⟨_,by decide +kernel,fun _=>rfl⟩
def isLen (n L:Nat):Prop:=n<2 ^ L∧2 ^ L≤2*n
theorem isLen_shift {n k L:Nat} (h:isLen (n / 2 ^ k) L):isLen n (L+k):=by
 obtain ⟨h1,h2⟩:=h
 have hk:0<2 ^ k:=Nat.two_pow_pos k
 unfold isLen
 rw[Nat.pow_add]
 constructor
 ·exact (Nat.div_lt_iff_lt_mul hk).1 h1
 ·have h3:n / 2 ^ k*2 ^ k≤n:=Nat.div_mul_le_self n _
  have h4:=Nat.mul_le_mul_right (2 ^ k) h2
  rw[Nat.mul_assoc] at h4
  omega
theorem u8_wrap {x:Int} (h1:0≤x) (h2:x<256):IntKind.wrap .u8 x=x:=by
 rw[IntKind.wrap_u8];omega
theorem Len64_ok {n:Nat} (h0:0<n) (h1:n<18446744073709551616):∃L:Nat,bits_Len64 (n:Int)=some (L:Int)∧isLen n L∧L≤64:=by
 obtain ⟨T,hT,hx⟩:=len_table
 have tab:∀i:Nat,0<i→i<256→∃L:Nat,byteAt T i=L∧L≤8∧isLen i L:=fun i h2 h3=>by
  obtain ⟨a1,a2,a3⟩:=hT i h3
  exact ⟨(byteAt T i).toNat,by omega,by omega,a3 h2⟩
 have p8:(2:Int) ^ (8:Nat)=256:=by decide
 have p16:(2:Int) ^ (16:Nat)=65536:=by decide
 have p32:(2:Int) ^ (32:Nat)=4294967296:=by decide
 have stepT:∀a b:Nat,0<a→a<65536→b≤48→∃L:Nat,lenT T (a:Int) (b:Int)=some ((L+b:Nat):Int)∧isLen a L∧L≤16:=fun a b ha hb hb2=>by
  unfold lenT
  by_cases h:a<256
  ·obtain ⟨L,e1,e2,e3⟩:=tab a ha h
   rw[decide_eq_false (show ¬ (a:Int)≥256 by omega),cond_false,u8_wrap (by omega) (by omega),inB_of (by omega) (by omega),cond_true,Int.toNat_natCast,e1,wrap_id (x:=(L:Int)) (by omega) (by omega),wrap_id (by omega) (by omega)]
   exact ⟨L,by congr 1;omega,e3,by omega⟩
  ·obtain ⟨L,e1,e2,e3⟩:=tab (a / 256) (by omega) (by omega)
   rw[decide_eq_true (show (a:Int)≥256 by omega),cond_true,show decide ((0:Int)≤8)=true from rfl,cond_true,p8,fdiv_of (by omega),u8_wrap (by omega) (by omega),inB_of (by omega) (by omega),cond_true,show ((a:Int) / 256).toNat=a / 256 by omega,e1,wrap_id (x:=(L:Int)) (by omega) (by omega),wrap_id (x:=(b:Int)+8) (by omega) (by omega),wrap_id (by omega) (by omega)]
   exact ⟨L+8,by congr 1;omega,isLen_shift (k:=8) e3,by omega⟩
 have stepU:∀a b:Nat,0<a→a<4294967296→b≤32→∃L:Nat,lenU T (a:Int) (b:Int)=some ((L+b:Nat):Int)∧isLen a L∧L≤32:=fun a b ha hb hb2=>by
  unfold lenU
  by_cases h:a<65536
  ·obtain ⟨L,e1,e2,e3⟩:=stepT a b ha h (by omega)
   rw[decide_eq_false (show ¬ (a:Int)≥65536 by omega),cond_false,e1]
   exact ⟨L,rfl,e2,by omega⟩
  ·obtain ⟨L,e1,e2,e3⟩:=stepT (a / 65536) (b+16) (by omega) (by omega) (by omega)
   rw[decide_eq_true (show (a:Int)≥65536 by omega),cond_true,show decide ((0:Int)≤16)=true from rfl,cond_true,p16,fdiv_of (by omega),wrap_id (by omega) (by omega),show (a:Int) / 65536=((a / 65536:Nat):Int) by omega,show (b:Int)+16=((b+16:Nat):Int) by omega,e1]
   exact ⟨L+16,by congr 1;omega,isLen_shift (k:=16) e2,by omega⟩
 rw[hx]
 by_cases h:n<4294967296
 ·obtain ⟨L,e1,e2,e3⟩:=stepU n 0 h0 h (by omega)
  rw[decide_eq_false (show ¬ (n:Int)≥4294967296 by omega),cond_false]
  exact ⟨L,e1,e2,by omega⟩
 ·obtain ⟨L,e1,e2,e3⟩:=stepU (n / 4294967296) 32 (by omega) (by omega) (by omega)
  rw[decide_eq_true (show (n:Int)≥4294967296 by omega),cond_true,show decide ((0:Int)≤32)=true from rfl,cond_true,p32,fdiv_of (by omega),show (n:Int) / 4294967296=((n / 4294967296:Nat):Int) by omega]
  exact ⟨L+32,e1,isLen_shift (k:=32) e2,by omega⟩
end Go.Proofs.Ytnbbackjofgcfaa

namespace Go.Proofs.Ytnbbackjofgcfaa
open Try Dn Dn.Sh
theorem digit_stop {q r U u y1 y0:Int} (hq:q*y1+r=U) (_:0≤u) (hy:0<y1*4294967296+y0) (hge:(U*4294967296+u) / (y1*4294967296+y0)≤q) (ht:q*y0≤4294967296*r+u):q=(U*4294967296+u) / (y1*4294967296+y0):=by
 refine Int.le_antisymm (Int.le_ediv_of_mul_le hy ?_) hge
 rw[Int.mul_add,←Int.mul_assoc]
 omega
theorem digit_less {q r U u y1 y0:Int} (hq:q*y1+r=U) (hy:0<y1*4294967296+y0) (hU:U*4294967296+u<(y1*4294967296+y0)*4294967296) (ht:q≥4294967296∨q*y0>4294967296*r+u):(U*4294967296+u) / (y1*4294967296+y0)≤q - 1:=by
 have:(U*4294967296+u) / (y1*4294967296+y0)<q:=by
  refine Int.ediv_lt_of_lt_mul hy ?_
  rcases ht with ht | ht
  ·exact Int.lt_of_lt_of_le hU (by rw[Int.mul_comm q];exact Int.mul_le_mul_of_nonneg_left ht (by omega))
  ·rw[Int.mul_add,←Int.mul_assoc]
   omega
 omega
theorem digit_end {q r U u y1 y0:Int} (hq:q*y1+r=U) (hu:0≤u) (hy:0<y1*4294967296+y0) (h0:0≤y0∧y0<4294967296) (hge:(U*4294967296+u) / (y1*4294967296+y0)≤q - 1) (hr:r+y1≥4294967296) (hq2:1≤q∧q≤4294967297):q - 1=(U*4294967296+u) / (y1*4294967296+y0):=by
 refine Int.le_antisymm (Int.le_ediv_of_mul_le hy ?_) hge
 have e1:(q - 1)*y0≤4294967296*4294967295:=Int.mul_le_mul (by omega) (by omega) h0.1 (by omega)
 rw[Int.mul_add,←Int.mul_assoc,Int.sub_mul q 1 y1,Int.one_mul]
 omega
theorem lor_add {s:Nat} {a b:Nat} (h:b<2 ^ s):Nat.lor (a*2 ^ s) b=a*2 ^ s+b:=by
 have:=Nat.two_pow_add_eq_or_of_lt h a
 rw[Nat.mul_comm a]
 exact this.symm
theorem digit_loop {α R:Type} {F:(α→Option R)→α→Option R} {J:Int→Option R} {U u y1 y0:Int} (enc:Int→Int→α) (dec:α→Int) (hdec:∀q r,dec (enc q r)=q)
  (hu:0≤u) (h0:0≤y0∧y0<4294967296) (h1:2147483648≤y1∧y1<4294967296) (hU0:0≤U) (hU:U*4294967296+u<(y1*4294967296+y0)*4294967296)
  (hF1:∀again q r,1≤q→q≤4294967297→0≤r→r<4294967296→(q≥4294967296∨q*y0>4294967296*r+u)→F again (enc q r)=bif decide (r+y1≥4294967296) then J (q - 1) else again (enc (q - 1) (r+y1)))
  (hF2:∀again q r,0≤q→q<4294967296→0≤r→r<4294967296→¬ q*y0>4294967296*r+u→F again (enc q r)=J q)
  {q r:Int} (hq:q*y1+r=U) (hq0:0≤q) (hq2:q≤4294967297) (hr0:0≤r) (hr1:r<4294967296) (hge:(U*4294967296+u) / (y1*4294967296+y0)≤q) :
  lpK α R F (enc q r)=J ((U*4294967296+u) / (y1*4294967296+y0)):=by
 have hD:0≤(U*4294967296+u) / (y1*4294967296+y0):=Int.ediv_nonneg (by omega) (by omega)
 refine lpK_loop (g:=fun _=>J ((U*4294967296+u) / (y1*4294967296+y0))) (I:=fun x=>∃q r,x=enc q r∧q*y1+r=U∧0≤q∧q≤4294967297∧0≤r∧r<4294967296∧(U*4294967296+u) / (y1*4294967296+y0)≤q) (μ:=fun x=>(dec x).toNat) ?_ ⟨q,r,rfl,hq,hq0,hq2,hr0,hr1,hge⟩ (by rw[hdec];omega)
 rintro _ rec ⟨q,r,rfl,hq,hq0,hq2,hr0,hr1,hge⟩ hrec
 have hy:0<y1*4294967296+y0:=by omega
 by_cases ht:q≥4294967296∨q*y0>4294967296*r+u
 ·have hl:=digit_less hq hy hU ht
  rw[hF1 _ _ _ (by omega) hq2 hr0 hr1 ht]
  by_cases hr:r+y1≥4294967296
  ·rw[decide_eq_true hr,cond_true,digit_end hq hu hy h0 hl hr ⟨by omega,hq2⟩]
  ·rw[decide_eq_false hr,cond_false]
   refine hrec _ ⟨q - 1,r+y1,rfl,?_,by omega,by omega,by omega,by omega,hl⟩ (by rw[hdec,hdec];omega)
   rw[Int.sub_mul,Int.one_mul];omega
 ·rw[not_or] at ht
  rw[hF2 _ _ _ hq0 (by omega) hr0 hr1 ht.2,←digit_stop hq hu hy hge (by omega)]
theorem digit_init {U u y1 y0:Int} (hu:0≤u∧u<4294967296) (h0:0≤y0∧y0<4294967296) (h1:2147483648≤y1∧y1<4294967296) (hU0:0≤U) (hU:U<y1*4294967296+y0) :
  (U / y1)*y1+(U - U / y1*y1)=U∧0≤U / y1∧U / y1≤4294967297∧0≤U - U / y1*y1∧U - U / y1*y1<4294967296∧(U*4294967296+u) / (y1*4294967296+y0)≤U / y1:=by
 have e1:=Int.mul_ediv_add_emod U y1
 have e2:=Int.emod_nonneg U (show y1≠0 by omega)
 have e3:=Int.emod_lt_of_pos U (show 0<y1 by omega)
 rw[Int.mul_comm] at e1
 refine ⟨by omega,Int.ediv_nonneg hU0 (by omega),?_,by omega,by omega,?_⟩
 ·have:U / y1<4294967298:=Int.ediv_lt_of_lt_mul (by omega) (by omega)
  omega
 ·have:(U*4294967296+u) / (y1*4294967296+y0)<U / y1+1:=by
   refine Int.ediv_lt_of_lt_mul (by omega) ?_
   have hq:0≤U / y1:=Int.ediv_nonneg hU0 (by omega)
   have e4:0≤(U / y1+1)*y0:=Int.mul_nonneg (by omega) h0.1
   rw[Int.mul_add,←Int.mul_assoc,Int.add_mul (U / y1) 1 y1,Int.one_mul]
   omega
  omega
noncomputable def dv2E (_ _ Y u0 P q1 un:Int) (q:Int):Option (Int×Int×Unit):=some (IntKind.wrap .u64 (IntKind.wrap .u64 (q1*4294967296)+q),Int.fdiv (IntKind.wrap .u64 (IntKind.wrap .u64 (IntKind.wrap .u64 (un*4294967296)+u0) - IntKind.wrap .u64 (q*Y))) P,())
noncomputable def dv2 (y1 y0 Y u0 P q1 un:Int):Option (Int×Int×Unit):=lpK (Int×Int×PUnit) (Int×Int×PUnit) (fun again x=>bif (bif decide (x.2.1≥4294967296) then true else decide (IntKind.wrap .u64 (x.2.1*y0)>IntKind.wrap .u64 (IntKind.wrap .u64 (4294967296*x.1)+u0))) then
 (bif decide (IntKind.wrap .u64 (x.1+y1)≥4294967296) then dv2E y1 y0 Y u0 P q1 un (IntKind.wrap .u64 (x.2.1 - 1)) else again (IntKind.wrap .u64 (x.1+y1),IntKind.wrap .u64 (x.2.1 - 1),PUnit.unit)) else dv2E y1 y0 Y u0 P q1 un x.2.1)
 (IntKind.wrap .u64 (un - IntKind.wrap .u64 (IntKind.wrap .u64 (Int.tdiv un y1)*y1)),IntKind.wrap .u64 (Int.tdiv un y1),PUnit.unit)
theorem dv2_ok {y1 y0 u0 P q1 un:Int} (hu:0≤u0∧u0<4294967296) (h0:0≤y0∧y0<4294967296) (h1:2147483648≤y1∧y1<4294967296) (hU0:0≤un) (hU:un<y1*4294967296+y0) :
  dv2 y1 y0 (y1*4294967296+y0) u0 P q1 un=dv2E y1 y0 (y1*4294967296+y0) u0 P q1 un ((un*4294967296+u0) / (y1*4294967296+y0)):=by
 obtain ⟨i1,i2,i3,i4,i5,i6⟩:=digit_init (U:=un) hu h0 h1 hU0 hU
 unfold dv2
 rw[Int.tdiv_eq_ediv_of_nonneg hU0]
 have hm:un / y1*y1≤un:=by omega
 have hm0:0≤un / y1*y1:=Int.mul_nonneg i2 (by omega)
 rw[u_wrap (x:=un / y1) i2 (by omega),u_wrap (x:=un / y1*y1) hm0 (by omega),u_wrap (x:=un - un / y1*y1) (by omega) (by omega)]
 refine digit_loop (α:=Int×Int×PUnit) (enc:=fun q r=>(r,q,PUnit.unit)) (dec:=fun x=>x.2.1) (fun _ _=>rfl) hu.1 h0 h1 hU0 (by omega) ?_ ?_ i1 i2 i3 i4 i5 i6
 ·intro again q r g1 g2 g3 g4 g5
  have e1:0≤q*y0:=Int.mul_nonneg (by omega) h0.1
  have e2:q*y0≤4294967297*4294967295:=Int.mul_le_mul g2 (by omega) h0.1 (by omega)
  simp only
  rw[u_wrap (x:=q*y0) e1 (by omega),u_wrap (x:=4294967296*r) (by omega) (by omega),u_wrap (x:=4294967296*r+u0) (by omega) (by omega),u_wrap (x:=r+y1) (by omega) (by omega),u_wrap (x:=q - 1) (by omega) (by omega)]
  have e:(bif decide (q≥4294967296) then true else decide (q*y0>4294967296*r+u0))=true:=by
   rcases g5 with ht | ht
   ·rw[decide_eq_true ht];rfl
   ·rw[decide_eq_true ht];cases decide (q≥4294967296)<;>rfl
  rw[e,cT]
 ·intro again q r g1 g2 g3 g4 g5
  have e1:0≤q*y0:=Int.mul_nonneg (by omega) h0.1
  have e2:q*y0≤4294967297*4294967295:=Int.mul_le_mul (by omega) (by omega) h0.1 (by omega)
  simp only
  rw[u_wrap (x:=q*y0) e1 (by omega),u_wrap (x:=4294967296*r) (by omega) (by omega),u_wrap (x:=4294967296*r+u0) (by omega) (by omega)]
  rw[decide_eq_false (show ¬ q≥4294967296 by omega),decide_eq_false g5,cF,cF]
noncomputable def dv1E (y1 y0 Y u1 u0 P U:Int) (q1:Int):Option (Int×Int×Unit):=dv2 y1 y0 Y u0 P q1 (IntKind.wrap .u64 (IntKind.wrap .u64 (IntKind.wrap .u64 (U*4294967296)+u1) - IntKind.wrap .u64 (q1*Y)))
noncomputable def dv1 (y1 y0 Y u1 u0 P U:Int):Option (Int×Int×Unit):=lpK (Int×Int×PUnit) (Int×Int×PUnit) (fun again x=>bif (bif decide (x.1≥4294967296) then true else decide (IntKind.wrap .u64 (x.1*y0)>IntKind.wrap .u64 (IntKind.wrap .u64 (4294967296*x.2.1)+u1))) then
 (bif decide (IntKind.wrap .u64 (x.2.1+y1)≥4294967296) then dv1E y1 y0 Y u1 u0 P U (IntKind.wrap .u64 (x.1 - 1)) else again (IntKind.wrap .u64 (x.1 - 1),IntKind.wrap .u64 (x.2.1+y1),PUnit.unit)) else dv1E y1 y0 Y u1 u0 P U x.1)
 (IntKind.wrap .u64 (Int.tdiv U y1),IntKind.wrap .u64 (U - IntKind.wrap .u64 (IntKind.wrap .u64 (Int.tdiv U y1)*y1)),PUnit.unit)
theorem dv1_ok {y1 y0 u1 u0 P U:Int} (hu:0≤u1∧u1<4294967296) (h0:0≤y0∧y0<4294967296) (h1:2147483648≤y1∧y1<4294967296) (hU0:0≤U) (hU:U<y1*4294967296+y0) :
  dv1 y1 y0 (y1*4294967296+y0) u1 u0 P U=dv1E y1 y0 (y1*4294967296+y0) u1 u0 P U ((U*4294967296+u1) / (y1*4294967296+y0)):=by
 obtain ⟨i1,i2,i3,i4,i5,i6⟩:=digit_init (U:=U) hu h0 h1 hU0 hU
 unfold dv1
 rw[Int.tdiv_eq_ediv_of_nonneg hU0]
 have hm:U / y1*y1≤U:=by omega
 have hm0:0≤U / y1*y1:=Int.mul_nonneg i2 (by omega)
 rw[u_wrap (x:=U / y1) i2 (by omega),u_wrap (x:=U / y1*y1) hm0 (by omega),u_wrap (x:=U - U / y1*y1) (by omega) (by omega)]
 refine digit_loop (α:=Int×Int×PUnit) (enc:=fun q r=>(q,r,PUnit.unit)) (dec:=fun x=>x.1) (fun _ _=>rfl) hu.1 h0 h1 hU0 (by omega) ?_ ?_ i1 i2 i3 i4 i5 i6
 ·intro again q r g1 g2 g3 g4 g5
  have e1:0≤q*y0:=Int.mul_nonneg (by omega) h0.1
  have e2:q*y0≤4294967297*4294967295:=Int.mul_le_mul g2 (by omega) h0.1 (by omega)
  simp only
  rw[u_wrap (x:=q*y0) e1 (by omega),u_wrap (x:=4294967296*r) (by omega) (by omega),u_wrap (x:=4294967296*r+u1) (by omega) (by omega),u_wrap (x:=r+y1) (by omega) (by omega),u_wrap (x:=q - 1) (by omega) (by omega)]
  have e:(bif decide (q≥4294967296) then true else decide (q*y0>4294967296*r+u1))=true:=by
   rcases g5 with ht | ht
   ·rw[decide_eq_true ht];rfl
   ·rw[decide_eq_true ht];cases decide (q≥4294967296)<;>rfl
  rw[e,cT]
 ·intro again q r g1 g2 g3 g4 g5
  have e1:0≤q*y0:=Int.mul_nonneg (by omega) h0.1
  have e2:q*y0≤4294967297*4294967295:=Int.mul_le_mul (by omega) (by omega) h0.1 (by omega)
  simp only
  rw[u_wrap (x:=q*y0) e1 (by omega),u_wrap (x:=4294967296*r) (by omega) (by omega),u_wrap (x:=4294967296*r+u1) (by omega) (by omega)]
  rw[decide_eq_false (show ¬ q≥4294967296 by omega),decide_eq_false g5,cF,cF]
theorem dv_ok {U W Y P:Nat} (hY:9223372036854775808≤Y) (hY2:Y<18446744073709551616) (hW:W<18446744073709551616) (hU:U<Y) :
  dv1 ((Y:Int) / 4294967296) ((Y:Int) % 4294967296) (Y:Int) ((W:Int) / 4294967296) ((W:Int) % 4294967296) (P:Int) (U:Int)=some ((((U*18446744073709551616+W) / Y:Nat):Int),(((U*18446744073709551616+W) % Y / P:Nat):Int),()):=by
 have eY:(Y:Int) / 4294967296*4294967296+(Y:Int) % 4294967296=Y:=by omega
 have h1:=dv1_ok (y1:=(Y:Int) / 4294967296) (y0:=(Y:Int) % 4294967296) (u1:=(W:Int) / 4294967296) (u0:=(W:Int) % 4294967296) (P:=(P:Int)) (U:=(U:Int)) (by omega) (by omega) (by omega) (by omega) (by omega)
 rw[eY] at h1
 rw[h1]
 unfold dv1E
 obtain ⟨A,hA⟩:∃A:Nat,A=U*4294967296+W / 4294967296:=⟨_,rfl⟩
 have hAi:(U:Int)*4294967296+(W:Int) / 4294967296=(A:Int):=by omega
 rw[hAi]
 have hq1:A / Y<4294967296:=(Nat.div_lt_iff_lt_mul (by omega)).2 (by omega)
 have d1:=Nat.div_add_mod A Y
 have d2:=Nat.mod_lt A (show Y>0 by omega)
 rw[show (A:Int) / (Y:Int)=((A / Y:Nat):Int) from rfl]
 have hun:IntKind.wrap .u64 (IntKind.wrap .u64 (IntKind.wrap .u64 ((U:Int)*4294967296)+(W:Int) / 4294967296) - IntKind.wrap .u64 (((A / Y:Nat):Int)*(Y:Int)))=((A % Y:Nat):Int):=by
  rw[←Int.natCast_mul,Nat.mul_comm (A / Y)]
  generalize A / Y=q1 at *
  generalize Y*q1=m at *
  rw[IntKind.wrap_u64,IntKind.wrap_u64,IntKind.wrap_u64,IntKind.wrap_u64]
  omega
 rw[hun]
 have h2:=dv2_ok (y1:=(Y:Int) / 4294967296) (y0:=(Y:Int) % 4294967296) (u0:=(W:Int) % 4294967296) (P:=(P:Int)) (q1:=((A / Y:Nat):Int)) (un:=((A % Y:Nat):Int)) (by omega) (by omega) (by omega) (by omega) (by omega)
 rw[eY] at h2
 rw[h2]
 unfold dv2E
 obtain ⟨B,hB⟩:∃B:Nat,B=A % Y*4294967296+W % 4294967296:=⟨_,rfl⟩
 have hBi:((A % Y:Nat):Int)*4294967296+(W:Int) % 4294967296=(B:Int):=by omega
 rw[hBi,show (B:Int) / (Y:Int)=((B / Y:Nat):Int) from rfl]
 have hq0:B / Y<4294967296:=(Nat.div_lt_iff_lt_mul (by omega)).2 (by omega)
 have d3:=Nat.div_add_mod B Y
 have d4:=Nat.mod_lt B (show Y>0 by omega)
 have hN:U*18446744073709551616+W=(A / Y*4294967296+B / Y)*Y+B % Y:=by
  rw[Nat.add_mul,Nat.mul_right_comm,Nat.mul_comm (A / Y),Nat.mul_comm (B / Y)]
  omega
 obtain ⟨n1,n2⟩:=divMod_of d4 hN
 rw[n1,n2]
 have hrest:IntKind.wrap .u64 (IntKind.wrap .u64 (IntKind.wrap .u64 (((A % Y:Nat):Int)*4294967296)+(W:Int) % 4294967296) - IntKind.wrap .u64 (((B / Y:Nat):Int)*(Y:Int)))=((B % Y:Nat):Int):=by
  rw[←Int.natCast_mul,Nat.mul_comm (B / Y)]
  generalize B / Y=q0 at *
  generalize Y*q0=m at *
  generalize A % Y=r1 at *
  rw[IntKind.wrap_u64,IntKind.wrap_u64,IntKind.wrap_u64,IntKind.wrap_u64]
  omega
 rw[hrest,fdiv_of (by omega)]
 generalize A / Y=q1 at *
 generalize B / Y=q0 at *
 rw[u_wrap (x:=(q1:Int)*4294967296) (by omega) (by omega),u_wrap (by omega) (by omega)]
 rfl
theorem tmod_nat (m n:Nat):Int.tmod (m:Int) (n:Int)=((m % n:Nat):Int):=by
 rw[Int.tmod_eq_emod_of_nonneg (by omega)]
 rfl
theorem jnT {α R:Type} (j:α→Option R) (f:(α→Option R)→Option R):jnK α R j f=f j:=Eq.trans rfl rfl
theorem Div64_ok {h l y:Nat} (hy:h<y) (hy2:y<18446744073709551616) (hl0:l<18446744073709551616):bits_Div64 (h:Int) (l:Int) (y:Int)=some ((((h*18446744073709551616+l) / y:Nat):Int),(((h*18446744073709551616+l) % y:Nat):Int),()):=by
 simp only[bits_Div64,bits_Div64_b,jnT]
 rw[decide_eq_false (show ¬ (y:Int)=0 by omega),cF,decide_eq_false (show ¬ (y:Int)≤(h:Int) by omega),cF]
 have hz:nzB (y:Int)=true:=nzB_of (by omega)
 by_cases h0:h=0
 ·subst h0
  rw[decide_eq_true (show ((0:Nat):Int)=0 from rfl),cT,hz,cT,cT,tdiv_nat,tmod_nat,Nat.zero_mul,Nat.zero_add]
  have:=Nat.div_le_self l y
  generalize l / y=d at *
  rw[u_wrap (by omega) (by omega)]
 ·rw[decide_eq_false (show ¬ (h:Int)=0 by omega),cF]
  obtain ⟨L,e1,⟨e2,e3⟩,e4⟩:=Len64_ok (n:=y) (by omega) hy2
  simp only[bits_LeadingZeros64,bits_LeadingZeros64_b,e1,obind_some']
  rw[wrap_id (x:=64 - (L:Int)) (by omega) (by omega)]
  obtain ⟨s,hs⟩:∃s:Nat,L+s=64:=⟨64 - L,by omega⟩
  have w1:IntKind.wrap .u64 (64 - (L:Int))=(s:Int):=by rw[u_wrap (by omega) (by omega)];omega
  have w2:IntKind.wrap .u64 (64 - (s:Int))=(L:Int):=by rw[u_wrap (by omega) (by omega)];omega
  have p2:∀k:Nat,(2:Int) ^ k=((2 ^ k:Nat):Int):=fun k=>by rw[Int.natCast_pow];rfl
  have p32:(2:Int) ^ (32:Nat)=4294967296:=by decide
  simp only[w1,w2,Int.toNat_natCast,Nat.min_eq_left (show s≤64 by omega),Nat.min_eq_left (show L≤64 by omega),p32]
  simp only[p2]
  have hPQ:2 ^ s*2 ^ L=18446744073709551616:=by rw[←Nat.pow_add,show s+L=64 by omega]
  have hP:0<2 ^ s:=Nat.two_pow_pos s
  have hQ:0<2 ^ L:=Nat.two_pow_pos L
  have hYlt:y*2 ^ s<18446744073709551616:=by rw[←hPQ,Nat.mul_comm (2 ^ s)];exact Nat.mul_lt_mul_of_pos_right e2 hP
  have hYge:9223372036854775808≤y*2 ^ s:=by
   have:=Nat.mul_le_mul_right (2 ^ s) e3
   rw[Nat.mul_comm (2 ^ L),hPQ,Nat.mul_assoc] at this
   omega
  have hhP:h*2 ^ s+2 ^ s≤y*2 ^ s:=by rw[←Nat.succ_mul];exact Nat.mul_le_mul_right _ hy
  have hlQ:l / 2 ^ L<2 ^ s:=by rw[Nat.div_lt_iff_lt_mul hQ,hPQ];exact hl0
  have hlor:IntKind.wrap .u64 ((Nat.lor (Int.toNat (IntKind.wrap .u64 ((h:Int)*((2 ^ s:Nat):Int)) % Int.ofNat 18446744073709551616)) (Int.toNat (Int.fdiv (l:Int) ((2 ^ L:Nat):Int) % Int.ofNat 18446744073709551616)):Nat):Int)=((h*2 ^ s+l / 2 ^ L:Nat):Int):=by
   have a1:IntKind.wrap .u64 ((h:Int)*((2 ^ s:Nat):Int))=((h*2 ^ s:Nat):Int):=by rw[←Int.natCast_mul,u_wrap (by omega) (by omega)]
   have a2:Int.fdiv (l:Int) ((2 ^ L:Nat):Int)=((l / 2 ^ L:Nat):Int):=by rw[fdiv_of (by omega)];rfl
   have a3:∀n:Nat,n<18446744073709551616→Int.toNat ((n:Int) % Int.ofNat 18446744073709551616)=n:=fun n hn=>by
    rw[show Int.ofNat 18446744073709551616=(18446744073709551616:Int) from rfl];omega
   rw[a1,a2,a3 (h*2 ^ s) (by omega),a3 (l / 2 ^ L) (by omega),lor_add hlQ]
   exact u_wrap (Int.natCast_nonneg _) (by
    have h5:h*2 ^ s+l / 2 ^ L<18446744073709551616:=by omega
    exact Int.ofNat_lt.2 h5)
  have hlo:IntKind.wrap .u64 ((l:Int)*((2 ^ s:Nat):Int))=((l % 2 ^ L*2 ^ s:Nat):Int):=by
   rw[←Int.natCast_mul,IntKind.wrap_u64]
   have a1:l*2 ^ s=(l / 2 ^ L)*18446744073709551616+l % 2 ^ L*2 ^ s:=by
    rw[←hPQ,Nat.mul_comm (2 ^ s),←Nat.mul_assoc,←Nat.add_mul,Nat.mul_comm (l / 2 ^ L),Nat.div_add_mod]
   have a2:l % 2 ^ L*2 ^ s<18446744073709551616:=by rw[←hPQ,Nat.mul_comm (2 ^ s)];exact Nat.mul_lt_mul_of_pos_right (Nat.mod_lt _ hQ) hP
   rw[a1]
   generalize l / 2 ^ L=A at *
   generalize l % 2 ^ L*2 ^ s=B at *
   omega
  have hlolt:l % 2 ^ L*2 ^ s<18446744073709551616:=by rw[←hPQ,Nat.mul_comm (2 ^ s)];exact Nat.mul_lt_mul_of_pos_right (Nat.mod_lt _ hQ) hP
  have hN:(h*18446744073709551616+l)*2 ^ s=(h*2 ^ s+l / 2 ^ L)*18446744073709551616+l % 2 ^ L*2 ^ s:=by
   have a1:l*2 ^ s=(l / 2 ^ L)*18446744073709551616+l % 2 ^ L*2 ^ s:=by
    rw[←hPQ,Nat.mul_comm (2 ^ s),←Nat.mul_assoc,←Nat.add_mul,Nat.mul_comm (l / 2 ^ L),Nat.div_add_mod]
   rw[Nat.add_mul,a1,Nat.add_mul,Nat.mul_right_comm]
   omega
  have hY:IntKind.wrap .u64 ((y:Int)*((2 ^ s:Nat):Int))=((y*2 ^ s:Nat):Int):=by rw[←Int.natCast_mul,u_wrap (by omega) (by omega)]
  have hdiv:(h*18446744073709551616+l) / y=((h*2 ^ s+l / 2 ^ L)*18446744073709551616+l % 2 ^ L*2 ^ s) / (y*2 ^ s):=by rw[←hN,Nat.mul_div_mul_right _ _ hP]
  have hmod:((h*18446744073709551616+l) % y)*2 ^ s=((h*2 ^ s+l / 2 ^ L)*18446744073709551616+l % 2 ^ L*2 ^ s) % (y*2 ^ s):=by rw[←hN,Nat.mul_mod_mul_right]
  rw[hlor,hlo,hY]
  have hU:h*2 ^ s+l / 2 ^ L<y*2 ^ s:=by omega
  have hm:(h*18446744073709551616+l) % y=((h*2 ^ s+l / 2 ^ L)*18446744073709551616+l % 2 ^ L*2 ^ s) % (y*2 ^ s) / 2 ^ s:=by rw[←hmod,Nat.mul_div_cancel _ hP]
  rw[hdiv,hm]
  generalize h*2 ^ s+l / 2 ^ L=U at *
  generalize l % 2 ^ L*2 ^ s=W at *
  generalize y*2 ^ s=Y at *
  generalize 2 ^ s=P at *
  clear e2 e3 e1 hlor hlo hN hdiv hmod hm hlQ hPQ hhP hY
  have hdv:=dv_ok (P:=P) hYge hYlt hlolt hU
  rw[←hdv]
  have c1:decide ((0:Int)≤(s:Int))=true:=decide_eq_true (by omega)
  have c2:decide ((0:Int)≤(L:Int))=true:=decide_eq_true (by omega)
  have c3:decide ((0:Int)≤(32:Int))=true:=rfl
  have c4:nzB ((Y:Int) / 4294967296)=true:=nzB_of (by omega)
  have m1:∀n:Nat,n<18446744073709551616→IntKind.wrap .u64 ((Nat.land (Int.toNat ((n:Int) % Int.ofNat 18446744073709551616)) (Int.toNat ((4294967295:Int) % Int.ofNat 18446744073709551616)):Nat):Int)=(n:Int) % 4294967296:=fun n hn=>by
   rw[land32 (by omega) (by omega),u_wrap (by omega) (by omega)]
  simp only[fdiv_of (show (0:Int)≤4294967296 by omega),c1,c2,c3,c4,m1 Y hYlt,m1 W hlolt,or_self_not,Bool.not_not,Bool.and_self,cT]
  rfl
end Go.Proofs.Ytnbbackjofgcfaa

namespace Go.Proofs.Ytnbbackjofgcfaa
open Try Dn Dn.Sh
theorem over_ok {n b:Nat} (hb0:0<b) (hb:b<18446744073709551616) (hn:n<340282366920938463463374607431768211456):ratio_over (hl n) (b:Int)=some (hl (n / b),((n % b:Nat):Int),()):=by
 have hz:nzB (b:Int)=true:=nzB_of (by omega)
 obtain ⟨h,l,hh,hl',hnn⟩:∃h l:Nat,h=n / 18446744073709551616∧l=n % 18446744073709551616∧n=h*18446744073709551616+l:=⟨_,_,rfl,rfl,by omega⟩
 have e:hl n=((h:Int),(l:Int)):=by unfold hl;rw[hh,hl']
 rw[e]
 simp only[ratio_over,ratio_over_b]
 rw[hz,tmod_nat,Div64_ok (Nat.mod_lt h hb0) hb (by omega),obind_some']
 have d1:=Nat.div_add_mod h b
 have d2:=Nat.mod_lt h hb0
 obtain ⟨A,hA⟩:∃A,A=h % b*18446744073709551616+l:=⟨_,rfl⟩
 rw[←hA]
 have d3:=Nat.div_add_mod A b
 have d4:=Nat.mod_lt A hb0
 have d5:A / b<18446744073709551616:=(Nat.div_lt_iff_lt_mul hb0).2 (by
  have:(h % b+1)*18446744073709551616≤b*18446744073709551616:=Nat.mul_le_mul_right _ d2
  rw[Nat.mul_comm 18446744073709551616 b]
  omega)
 have hN:n=(h / b*18446744073709551616+A / b)*b+A % b:=by
  have e1:(h / b*18446744073709551616+A / b)*b=b*(h / b)*18446744073709551616+b*(A / b):=by grind
  rw[e1,hnn]
  generalize b*(h / b)=x at *
  generalize b*(A / b)=y at *
  generalize A % b=r at *
  generalize h % b=r1 at *
  clear e hz hb0 hb hn hh hl' hnn d5 e1
  omega
 obtain ⟨n1,n2⟩:=divMod_of d4 hN
 rw[n1,n2,tdiv_nat]
 have d6:h / b<18446744073709551616:=Nat.lt_of_le_of_lt (Nat.div_le_self h b) (by omega)
 generalize h / b=x at *
 generalize A / b=y at *
 rw[u_wrap (x:=(x:Int)) (by omega) (by omega)]
 unfold hl
 rw[show (x*18446744073709551616+y) / 18446744073709551616=x by omega,show (x*18446744073709551616+y) % 18446744073709551616=y by omega]
 rfl
theorem sum_cop {na nb:Int} {da A B:Nat} (ha:Nat.gcd na.natAbs da=1) (hA:A∣da) (hAB:Nat.gcd A B=1):Nat.gcd (na*B+nb*A).natAbs A=1:=by
 have d1:=Nat.gcd_dvd_left (na*B+nb*A).natAbs A
 have d2:=Nat.gcd_dvd_right (na*B+nb*A).natAbs A
 generalize Nat.gcd (na*B+nb*A).natAbs A=d at *
 have e1:(d:Int)∣na*B+nb*A:=Int.ofNat_dvd_left.2 d1
 have e2:(d:Int)∣nb*A:=Int.dvd_mul_of_dvd_right (Int.ofNat_dvd.2 d2)
 have e3:(d:Int)∣na*B:=(Int.dvd_iff_dvd_of_dvd_add e1).2 e2
 have e4:d∣na.natAbs*B:=by
  have:=Int.ofNat_dvd_left.1 e3
  rwa [Int.natAbs_mul,Int.natAbs_natCast] at this
 have e5:Nat.Coprime d na.natAbs:=(Nat.Coprime.coprime_dvd_right (Nat.dvd_trans d2 hA) ha).symm
 have e6:d∣B:=Nat.Coprime.dvd_of_dvd_mul_left e5 e4
 have e7:=Nat.dvd_gcd d2 e6
 rw[hAB] at e7
 exact Nat.dvd_one.1 e7
theorem sum_plain {na nb:Int} {da db g A B:Nat} (ha:Nat.gcd na.natAbs da=1) (hb:Nat.gcd nb.natAbs db=1) (h1:da=A*g) (h2:db=B*g) (hAB:Nat.gcd A B=1) (hg:0<g) (hA:0<A) (hB:0<B) {c:Nat} (hc:c=Nat.gcd g (na*B+nb*A).natAbs) :
  mkRat na da+mkRat nb db=mkRat (na*B+nb*A) (A*db)∧Nat.gcd ((na*B+nb*A).natAbs / c) (A*(db / c))=1∧0<c∧c∣(na*B+nb*A).natAbs∧c∣db:=by
 have hc0:0<c:=by rw[hc];exact Nat.gcd_pos_of_pos_left _ hg
 have k1:Nat.gcd (na*B+nb*A).natAbs A=1:=sum_cop ha ⟨g,h1⟩ hAB
 have k2:Nat.gcd (na*B+nb*A).natAbs B=1:=by
  rw[Int.add_comm]
  exact sum_cop hb ⟨g,h2⟩ (by rw[Nat.gcd_comm];exact hAB)
 have c1:c∣(na*B+nb*A).natAbs:=by rw[hc];exact Nat.gcd_dvd_right _ _
 have c2:c∣g:=by rw[hc];exact Nat.gcd_dvd_left _ _
 refine ⟨?_,?_,hc0,c1,by rw[h2];exact Nat.dvd_trans c2 (Nat.dvd_mul_left g B)⟩
 ·have p1:0<A*g:=Nat.mul_pos hA hg
  have p2:0<B*g:=Nat.mul_pos hB hg
  have p3:0<A*(B*g):=Nat.mul_pos hA p2
  rw[Rat.mkRat_add_mkRat _ _ (by omega) (by omega),h1,h2,Rat.mkRat_eq_iff (Nat.ne_of_gt (Nat.mul_pos p1 p2)) (by omega)]
  simp only[Int.natCast_mul]
  grind
 ·have c3:Nat.gcd ((na*B+nb*A).natAbs / c) (g / c)=1:=by
   rw[hc,Nat.gcd_comm]
   exact Nat.gcd_div_gcd_div_gcd_of_pos_left hg
  have hdb:db / c=B*(g / c):=by rw[h2,Nat.mul_div_assoc _ c2]
  have dv:(na*B+nb*A).natAbs / c∣(na*B+nb*A).natAbs:=Nat.div_dvd_of_dvd c1
  rw[hdb]
  exact Nat.Coprime.mul_right (Nat.Coprime.coprime_dvd_left dv k1) (Nat.Coprime.mul_right (Nat.Coprime.coprime_dvd_left dv k2) c3)
theorem Add_ok {a b:Fq} (ha:okF a) (hb:okF b):ratio_Add a b=some (fitQ (qv a+qv b)):=by
 obtain ⟨na,da'⟩:=a
 obtain ⟨nb,db'⟩:=b
 have ha':=ha
 have hb':=hb
 unfold okF at ha' hb'
 simp only at ha' hb'
 obtain ⟨⟨a1,a2⟩,⟨a3,a4⟩,a5⟩:=ha'
 obtain ⟨⟨b1,b2⟩,⟨b3,b4⟩,b5⟩:=hb'
 obtain ⟨da,rfl⟩:∃da:Nat,da'=da:=⟨da'.toNat,by omega⟩
 obtain ⟨db,rfl⟩:∃db:Nat,db'=db:=⟨db'.toNat,by omega⟩
 rw[Int.natAbs_natCast] at a5 b5
 simp only[ratio_Add,ratio_Add_b,Valid_ok,decide_eq_true ha,decide_eq_true hb,obind_some',Bool.not_true,Bool.not_false,Bool.or_true,cT,cF,jnT]
 rw[u_wrap (x:=(da:Int)) (by omega) (by omega),u_wrap (x:=(db:Int)) (by omega) (by omega),gcd_ok _ _ (by omega),obind_some',size_ok (by omega) (by omega),obind_some',size_ok (by omega) (by omega)]
 have hg:0<Nat.gcd da db:=Nat.gcd_pos_of_pos_left _ (by omega)
 have hgl:Nat.gcd da db≤da:=Nat.gcd_le_left _ (by omega)
 obtain ⟨A,hA⟩:∃A,A=da / Nat.gcd da db:=⟨_,rfl⟩
 obtain ⟨B,hB⟩:∃B,B=db / Nat.gcd da db:=⟨_,rfl⟩
 have hAg:da=A*Nat.gcd da db:=by rw[hA,Nat.div_mul_cancel (Nat.gcd_dvd_left _ _)]
 have hBg:db=B*Nat.gcd da db:=by rw[hB,Nat.div_mul_cancel (Nat.gcd_dvd_right _ _)]
 have hAB:Nat.gcd A B=1:=by rw[hA,hB];exact Nat.gcd_div_gcd_div_gcd_of_pos_left (by omega)
 have hA0:0<A:=by rw[hA];exact Nat.div_pos (Nat.gcd_le_left _ (by omega)) hg
 have hB0:0<B:=by rw[hB];exact Nat.div_pos (Nat.gcd_le_right _ (by omega)) hg
 have hAl:A≤da:=by rw[hA];exact Nat.div_le_self _ _
 have hBl:B≤db:=by rw[hB];exact Nat.div_le_self _ _
 have hz:nzB ((Nat.gcd da db:Nat):Int)=true:=nzB_of (by omega)
 rw[hz,cT,tdiv_nat,tdiv_nat,←hA,←hB,u_wrap (x:=(A:Int)) (by omega) (by omega),u_wrap (x:=(B:Int)) (by omega) (by omega)]
 have x1:na.natAbs*B≤1152921504606846976*1152921504606846976:=Nat.mul_le_mul (by omega) (by omega)
 have y1:nb.natAbs*A≤1152921504606846976*1152921504606846976:=Nat.mul_le_mul (by omega) (by omega)
 rw[product_ok (by omega) (by omega),obind_some',obind_some',cT,product_ok (by omega) (by omega),obind_some']
 have hsum:=sum_plain (na:=na) (nb:=nb) a5 b5 hAg hBg hAB hg hA0 hB0 rfl
 generalize Nat.gcd da db=g at *
 have hv:qv (na,(da:Int))+qv (nb,(db:Int))=mkRat na da+mkRat nb db:=rfl
 rw[hv,hsum.1]
 simp only[or_self_not,Bool.not_not,cT]
 have tail:∀(s:Bool) (N:Nat),N≤2658455991569831745807614120560689152→sgn s N=na*B+nb*A→(bif decide ((hl N).1=0)&&(decide ((hl N).2=0)&&true) then some (((0:Int),(1:Int)),(0:Int),PUnit.unit) else
   obind (ratio_over (hl N) (g:Int)) fun t_5=>obind (ratio_gcd (g:Int) t_5.2.1) fun t_1=>obind (ratio_over (hl N) t_1) fun t_6=>bif nzB t_1 then obind (ratio_product (A:Int) (IntKind.wrap .u64 (Int.tdiv (db:Int) t_1))) fun t =>
    bif bif decide (t_6.1.1>0) then true else decide (t.1>0) then some (((0:Int),(0:Int)),(5:Int),PUnit.unit) else obind (ratio_signed s t_6.1.2 t.2) fun t=>some (t.1,t.2.1,PUnit.unit) else none)=some (fitQ (mkRat (na*B+nb*A) (A*db))):=by
  intro s N hN hs
  have hNT:(na*B+nb*A).natAbs=N:=by rw[←hs];unfold sgn;split<;>simp
  rw[hNT] at hsum
  rw[zero_hl (by omega)]
  by_cases h0:N=0
  ·rw[decide_eq_true h0,cT,←hs,h0,show sgn s 0=0 by unfold sgn;cases s<;>rfl,Rat.zero_mkRat]
   rfl
  ·obtain ⟨c,hc⟩:∃c,c=Nat.gcd g N:=⟨_,rfl⟩
   rw[←hc] at hsum
   obtain ⟨_,s2,s3,s4,s5⟩:=hsum
   have hcg:c≤g:=by rw[hc];exact Nat.gcd_le_left _ hg
   rw[decide_eq_false h0,cF,over_ok hg (by omega) (by omega),obind_some',gcd_ok _ _ (by have:=Nat.mod_lt N hg;generalize N % g=w at *;omega),obind_some',Nat.gcd_comm,←Nat.gcd_rec,←hc,over_ok s3 (by omega) (by omega),obind_some',nzB_of (by omega),cT,tdiv_nat]
   have hdc:db / c≤db:=Nat.div_le_self _ _
   have hdc0:0<db / c:=Nat.div_pos (Nat.le_of_dvd (by omega) s5) s3
   rw[u_wrap (by omega) (by generalize db / c=w at *;omega),product_ok (by omega) (by generalize db / c=w at *;omega),obind_some']
   have hNc:N / c≤N:=Nat.div_le_self _ _
   have hval:mkRat (na*B+nb*A) (A*db)=mkRat (sgn s (N / c)) (A*(db / c)):=by
    rw[←hs]
    refine mkQ_congr (Nat.mul_pos hA0 (by omega)) (Nat.mul_pos hA0 hdc0) ?_
    obtain ⟨x,rfl⟩:=s4
    obtain ⟨y,rfl⟩:=s5
    rw[Nat.mul_div_cancel_left _ s3,Nat.mul_div_cancel_left _ s3]
    grind
   rw[hval,fit_low (Nat.mul_pos hA0 hdc0) s2]
   have hden:A*(db / c)≤1152921504606846976*1152921504606846976:=Nat.mul_le_mul (by omega) (by omega)
   generalize N / c=n at *
   generalize A*(db / c)=d at *
   by_cases hn:n<18446744073709551616
   ·by_cases hd:d<18446744073709551616
    ·rw[hl_small hn,hl_small hd]
     simp only
     rw[show decide ((0:Int)>0)=false from rfl,cF,cF,signed_ok _ _ _ hn hd,obind_some']
    ·rw[hl_small hn]
     simp only
     rw[show decide ((0:Int)>0)=false from rfl,decide_eq_true (hl_big hd),cF,cT,if_neg (by omega)]
   ·rw[decide_eq_true (hl_big hn),cT,cT,if_neg (by omega)]
 have sx:∀{n:Int} {s:Bool},s=decide (n<0)→n=sgn s n.natAbs:=fun {n s} h=>by rw[h];exact size_sgn n
 by_cases hsg:decide (na<0)=decide (nb<0)
 ·rw[decide_eq_true hsg,cT,rPlus_ok (by omega),obind_some']
  refine tail _ _ (by omega) ?_
  have e1:na=sgn (decide (na<0)) na.natAbs:=size_sgn na
  have e2:nb=sgn (decide (na<0)) nb.natAbs:=by rw[hsg];exact size_sgn nb
  generalize na.natAbs=m at *
  generalize nb.natAbs=n at *
  generalize decide (na<0)=s at *
  rw[e1,e2]
  unfold sgn
  cases s
  ·simp only[Bool.false_eq_true,if_false]
   rw[Int.natCast_add,Int.natCast_mul,Int.natCast_mul]
  ·simp only[if_true]
   rw[Int.natCast_add,Int.natCast_mul,Int.natCast_mul]
   grind
 ·have e1:na=sgn (decide (na<0)) na.natAbs:=size_sgn na
  have e2:nb=sgn (!decide (na<0)) nb.natAbs:=by
   have:(!decide (na<0))=decide (nb<0):=by
    clear tail sx hsum hv ha hb
    revert hsg
    cases decide (na<0)<;>cases decide (nb<0)<;>simp
   rw[this];exact size_sgn nb
  rw[decide_eq_false hsg,cF,rLess_ok,obind_some']
  by_cases hlt:na.natAbs*B<nb.natAbs*A
  ·rw[decide_eq_true hlt,cT,rMinus_ok (by omega) (by omega),obind_some']
   refine tail _ _ (by omega) ?_
   generalize na.natAbs=m at *
   generalize nb.natAbs=n at *
   generalize decide (na<0)=s at *
   rw[e1,e2]
   have e3:(((n*A - m*B:Nat)):Int)=(n:Int)*A - (m:Int)*B:=by rw[Int.ofNat_sub (Nat.le_of_lt hlt),Int.natCast_mul,Int.natCast_mul]
   unfold sgn
   cases s
   ·simp only[Bool.false_eq_true,if_false,Bool.not_false,if_true]
    grind
   ·simp only[if_true,Bool.not_true,Bool.false_eq_true,if_false]
    grind
  ·rw[decide_eq_false hlt,cF,rMinus_ok (by omega) (by omega),obind_some']
   refine tail _ _ (by omega) ?_
   generalize na.natAbs=m at *
   generalize nb.natAbs=n at *
   generalize decide (na<0)=s at *
   rw[e1,e2]
   have e3:(((m*B - n*A:Nat)):Int)=(m:Int)*B - (n:Int)*A:=by rw[Int.ofNat_sub (Nat.not_lt.1 hlt),Int.natCast_mul,Int.natCast_mul]
   unfold sgn
   cases s
   ·simp only[Bool.false_eq_true,if_false,Bool.not_false,if_true]
    grind
   ·simp only[if_true,Bool.not_true,Bool.false_eq_true,if_false]
    grind
end Go.Proofs.Ytnbbackjofgcfaa

namespace Go.Proofs.Ytnbbackjofgcfaa
namespace Dn
theorem lpK_up {σ α R:Type} {F:(α→Option R)→α→Option R} (n:Nat) (hn:n≤1180591620717411303423) (enc:Nat→σ→α) (b:Nat→σ→(σ→Option R)→Option R) (f:σ→Option R)
  (hb:∀again (i:Nat) s,i<n→F again (enc i s)=b i s (fun s'=>again (enc (i+1) s'))) (hf:∀again s,F again (enc n s)=f s) (s:σ) :
  lpK α R F (enc 0 s)=upF b f n 0 s:=loopF_up n hn enc b f hb hf s
def idxI {α:Type} (p:α→Bool):List α→Int→Int
 | [],_=> -1
 | a ::l,i=>bif p a then i else idxI p l (i+1)
theorem idxI_neg {α:Type} {p:α→Bool}:∀{l:List α} {i:Int},0≤i→(idxI p l i<0↔∀a ∈ l,p a=false)
 | [],i,h=>by simp[idxI]
 | a ::l,i,h=>by
  unfold idxI
  cases hp:p a with
  | true=>simp only[cond_true,List.mem_cons,forall_eq_or_imp,hp];simp;omega
  | false=>simp only[cond_false,List.mem_cons,forall_eq_or_imp,hp,true_and];exact idxI_neg (by omega)
theorem idxI_drop {α:Type} {p:α→Bool} {l:List α} {d:α} {i:Nat} (h:i<l.length):idxI p (l.drop i) i=bif p (l.getD i d) then (i:Int) else idxI p (l.drop (i+1)) ((i:Int)+1):=by
 rw[List.drop_eq_getElem_cons h,getD_nat h]
 rfl
theorem index_loop {α:Type} {f:(α×Unit)→Option Bool} {d:α} {p:α→Bool} {l:List α} (hl:l.length≤1000000) (h:∀a,a ∈ l→f (a,())=some (p a)) :
  lpK (Int×PUnit) Int (fun (again:Int×PUnit→Option Int) (x:Int×PUnit)=>bif decide (x.1<(↑(List.length l):Int)) then bif inB x.1 (List.length l) then obind (f
   (List.getD l (Int.toNat x.1) d,PUnit.unit)) fun (t:Bool)=>bif t then some x.1 else again
   (IntKind.wrap .i64 (x.1+(1:Int)),PUnit.unit) else none else some (-1:Int)) ((0:Int),PUnit.unit)=some (idxI p l 0):=by
 refine lpK_loop (g:=fun _=>some (idxI p l 0)) (I:=fun (x:Int×PUnit)=>0≤x.1∧x.1≤l.length∧idxI p (l.drop x.1.toNat) x.1=idxI p l 0) (μ:=fun (x:Int×PUnit)=>((l.length:Int) - x.1).toNat) ?_ ⟨by simp,by simp only;omega,rfl⟩ (by simp only;omega)
 rintro ⟨i,_⟩ rec ⟨h0,h1,h2⟩ hrec
 simp only at h0 h1 h2 ⊢
 by_cases hi:i<l.length
 ·obtain ⟨n,rfl⟩:∃n:Nat,i=n:=⟨i.toNat,by omega⟩
  rw[decide_eq_true hi,cond_true,inB_of h0 hi,cond_true,Int.toNat_natCast,h _ (by rw[getD_nat (by omega)];exact List.getElem_mem (by omega)),obind_some',wrap_id (by omega) (by omega)]
  rw[Int.toNat_natCast,idxI_drop (d:=d) (by omega)] at h2
  cases hp:p (l.getD n d) with
  | true=>rw[hp,cond_true] at h2;rw[cond_true,h2]
  | false=>rw[hp,cond_false] at h2;rw[cond_false];exact hrec _ ⟨by simp only;omega,by simp only;omega,h2⟩ (by simp only;omega)
 ·rw[decide_eq_false hi,cond_false]
  have e:i.toNat=l.length:=by omega
  rw[e,List.drop_length] at h2
  rw[←h2]
  rfl
theorem upF_all {R σ:Type} {b:Nat→σ→(σ→Option R)→Option R} {f:σ→Option R} {p:Nat→Bool} {r:Option R} {s:σ} (n:Nat) (hb:∀i (k:σ→Option R),i<n→b i s k=bif p i then k s else r) :
  ∀(k i:Nat),i+k≤n→upF b f k i s=bif (List.range' i k).all p then f s else r
 | 0,i,_=>rfl
 | k+1,i,h=>by
  simp only[upF,hb i _ (by omega),List.range'_succ,List.all_cons]
  cases hp:p i with
  | true=>exact upF_all n hb k (i+1) (by omega)
  | false=>rfl
end Dn
end Go.Proofs.Ytnbbackjofgcfaa

namespace Go.Proofs.Ytnbbackjofgcfaa
open Try Dn Dn.Sh
end Go.Proofs.Ytnbbackjofgcfaa

namespace Go.Proofs.Ytnbbackjofgcfaa
open Try Dn Dn.Sh
def cmpQ (p q:Rat):Int:=if p<q then -1 else if p=q then 0 else 1
theorem cmp_signs {a b:Fq} (ha:okF a) (hb:okF b) {M N:Nat} (hM:M=a.1.natAbs*b.2.natAbs) (hN:N=b.1.natAbs*a.2.natAbs) :
  cmpQ (qv a) (qv b)=if a.1<0 then (if b.1<0 then (if N<M then -1 else if M=N then 0 else 1) else -1) else (if b.1<0 then 1 else (if M<N then -1 else if M=N then 0 else 1)):=by
 have e1:=okF_lt ha hb
 have e2:qv a=qv b↔a.1*b.2=b.1*a.2:=by
  have h1:=okF_le ha hb
  have h2:=okF_le hb ha
  constructor
  ·intro h
   have h3:=h1.1 (by rw[h];exact Rat.le_refl)
   have h4:=h2.1 (by rw[h];exact Rat.le_refl)
   omega
  ·intro h
   exact Rat.le_antisymm (h1.2 (by omega)) (h2.2 (by omega))
 obtain ⟨⟨a1,_⟩,_,_⟩:=ha
 obtain ⟨⟨b1,_⟩,_,_⟩:=hb
 have eM:(M:Int)=(a.1.natAbs:Int)*b.2:=by rw[hM,Int.natCast_mul,show ((b.2.natAbs:Nat):Int)=b.2 by omega]
 have eN:(N:Int)=(b.1.natAbs:Int)*a.2:=by rw[hN,Int.natCast_mul,show ((a.2.natAbs:Nat):Int)=a.2 by omega]
 have sa:a.1*b.2=if a.1<0 then -(M:Int) else M:=by
  split
  ·rw[eM,←Int.neg_mul];congr 1;omega
  ·rw[eM];congr 1;omega
 have sb:b.1*a.2=if b.1<0 then -(N:Int) else N:=by
  split
  ·rw[eN,←Int.neg_mul];congr 1;omega
  ·rw[eN];congr 1;omega
 have p1:a.1<0→0<M:=fun h=>by rw[hM];exact Nat.mul_pos (by omega) (by omega)
 have p2:b.1<0→0<N:=fun h=>by rw[hN];exact Nat.mul_pos (by omega) (by omega)
 unfold cmpQ
 simp only[e1,e2,sa,sb]
 clear e1 e2 sa sb eM eN hM hN
 by_cases c1:a.1<0
 ·by_cases c2:b.1<0
  ·simp only[c1,c2,if_true]
   repeat' split
   all_goals first | rfl | omega
  ·have:=p1 c1
   simp only[c1,c2,if_true,if_false]
   repeat' split
   all_goals first | rfl | omega
 ·by_cases c2:b.1<0
  ·have:=p2 c2
   simp only[c1,c2,if_true,if_false]
   repeat' split
   all_goals first | rfl | omega
  ·simp only[c1,c2,if_false]
   repeat' split
   all_goals first | rfl | omega
theorem Cmp_ok {a b:Fq} (ha:okF a) (hb:okF b):ratio_Cmp a b=some (cmpQ (qv a) (qv b),0,()):=by
 have hs:=cmp_signs ha hb rfl rfl
 have ha':=ha
 have hb':=hb
 obtain ⟨⟨a1,a2⟩,⟨a3,a4⟩,_⟩:=ha'
 obtain ⟨⟨b1,b2⟩,⟨b3,b4⟩,_⟩:=hb'
 simp only[ratio_Cmp,ratio_Cmp_b,Valid_ok,decide_eq_true ha,decide_eq_true hb,obind_some',Bool.not_true,Bool.not_false,Bool.or_true,cT,cF,jnT]
 rw[size_ok (by omega) (by omega),obind_some',u_wrap (by omega) (by omega),u_wrap (by omega) (by omega),show b.2=((b.2.natAbs:Nat):Int) by omega,product_ok (by omega) (by omega),obind_some',size_ok (by omega) (by omega),obind_some',show a.2=((a.2.natAbs:Nat):Int) by omega,product_ok (by omega) (by omega),obind_some']
 simp only[not_dec_eq]
 rw[hs]
 clear hs
 generalize a.1.natAbs*b.2.natAbs=M
 generalize b.1.natAbs*a.2.natAbs=N
 by_cases c1:a.1<0
 ·by_cases c2:b.1<0
  ·rw[if_pos c1,if_pos c2]
   simp only[decide_eq_true c1,decide_eq_true c2,bne_self_eq_false,cT,cF,rLess_ok,obind_some']
   by_cases e:N<M
   ·simp only[decide_eq_true e,cT];rw[if_pos e]
   ·simp only[decide_eq_false e,cF];rw[if_neg e]
    by_cases e2:M<N
    ·simp only[decide_eq_true e2,cT];rw[if_neg (by omega)]
    ·simp only[decide_eq_false e2,cF];rw[if_pos (by omega)]
  ·rw[if_pos c1,if_neg c2]
   simp only[decide_eq_true c1,decide_eq_false c2,Bool.true_bne,Bool.not_false,cT]
 ·by_cases c2:b.1<0
  ·rw[if_neg c1,if_pos c2]
   simp only[decide_eq_false c1,decide_eq_true c2,Bool.false_bne,cT,cF]
  ·rw[if_neg c1,if_neg c2]
   simp only[decide_eq_false c1,decide_eq_false c2,bne_self_eq_false,cF,rLess_ok,obind_some']
   by_cases e:M<N
   ·simp only[decide_eq_true e,cT];rw[if_pos e]
   ·simp only[decide_eq_false e,cF];rw[if_neg e]
    by_cases e2:N<M
    ·simp only[decide_eq_true e2,cT];rw[if_neg (by omega)]
    ·simp only[decide_eq_false e2,cF];rw[if_pos (by omega)]
end Go.Proofs.Ytnbbackjofgcfaa

namespace Go.Proofs.Ytnbbackjofgcfaa
namespace Dn
def listF {α σ R:Type} (b:α→σ→(σ→Option R)→Option R) (f:σ→Option R):List α→σ→Option R
 | [],s=>f s
 | a ::l,s=>b a s (listF b f l)
theorem upF_list {α σ R:Type} (L:List α) (d:α) {b:α→σ→(σ→Option R)→Option R} {c:Nat→σ→(σ→Option R)→Option R} {f:σ→Option R} (h:∀i s k,i<L.length→c i s k=b (L.getD i d) s k) :
  ∀(k i:Nat) (s:σ),i+k=L.length→upF c f k i s=listF b f (L.drop i) s
 | 0,i,s,hi=>by
  rw[List.drop_of_length_le (by omega)]
  rfl
 | k+1,i,s,hi=>by
  rw[List.drop_eq_getElem_cons (show i<L.length by omega)]
  simp only[upF,listF]
  rw[h _ _ _ (by omega),getD_nat (by omega)]
  congr 1
  funext s'
  exact upF_list L d h k (i+1) s' (by omega)
theorem lpK_int {α β σ R:Type} (L:List α) (d:α) (hn:L.length≤1180591620717411303423) {F:(β→Option R)→β→Option R} (enc:Nat→σ→β) (b:α→σ→(σ→Option R)→Option R) (f:σ→Option R)
  (hb:∀again (i:Nat) s,i<L.length→F again (enc i s)=b (L.getD i d) s (fun s'=>again (enc (i+1) s'))) (hf:∀again s,F again (enc L.length s)=f s) (s:σ):lpK β R F (enc 0 s)=listF b f L s :=
 (lpK_up L.length hn enc (fun i s k=>b (L.getD i d) s k) f hb hf s).trans ((upF_list L d (b:=b) (fun _ _ _ _=>rfl) L.length 0 s (by omega)).trans (by rw[List.drop_zero]))
theorem listF_fold {α σ R:Type} {b:α→σ→(σ→Option R)→Option R} {f:σ→Option R} (g:σ→α→σ):∀{L:List α} {s:σ},(∀a ∈ L,∀s k,b a s k=k (g s a))→listF b f L s=f (L.foldl g s)
 | [],_,_=>rfl
 | a ::L,s,h=>by
  simp only[listF,List.foldl_cons]
  rw[h a (by simp)]
  exact listF_fold g fun a' ha=>h a' (by simp[ha])
end Dn
end Go.Proofs.Ytnbbackjofgcfaa

namespace Go.Proofs.Ytnbbackjofgcfaa
open Try Dn Dn.Sh
abbrev Rw:=List Int×Int×Int
abbrev Pg:=List Int×List Rw
abbrev rw0:Rw:=([],(0:Int),(0:Int))
def inC (n:Int):Bool:=decide (-1048576≤n∧n≤1048576)
def inR (n:Int):Bool:=decide (-1073741824≤n∧n≤1073741824)
def rowOk (n:Nat) (r:Rw):Bool:=decide (r.1.length=n)&&(decide (1≤r.2.1∧r.2.1≤3)&&(inR r.2.2&&r.1.all inC))
def sizeP (p:Pg):Bool:=decide (1≤p.1.length∧p.1.length≤12∧p.2.length≤6)
def validP (p:Pg):Bool:=sizeP p&&(p.1.all inC&&p.2.all (rowOk p.1.length))
theorem any_idx {α:Type} {p:α→Bool} {l:List α}:decide (idxI p l 0≥0)=l.any p:=by
 have:=idxI_neg (p:=p) (l:=l) (i:=0) (by omega)
 rw[Bool.eq_iff_iff,decide_eq_true_iff,List.any_eq_true]
 constructor
 ·intro h1
  by_cases h2:∃a ∈ l,p a=true
  ·exact h2
  ·have:idxI p l 0<0:=this.2 fun a ha=>by
    cases e:p a with
    | false=>rfl
    | true=>exact (h2 ⟨a,ha,e⟩).elim
   omega
 ·rintro ⟨a,ha,h3⟩
  by_cases h2:idxI p l 0<0
  ·rw[this.1 h2 a ha] at h3;cases h3
  ·omega
theorem any_not {α:Type} {p:α→Bool} {l:List α}:(l.any fun a=>!p a)=!l.all p:=by
 induction l with
 | nil=>rfl
 | cons a l ih=>simp[ih,Bool.not_and]
theorem all_range {α:Type} {p:α→Bool} {l:List α} (d:α):(List.range' 0 l.length).all (fun i=>p (l.getD i d))=l.all p:=by
 rw[Bool.eq_iff_iff,List.all_eq_true,List.all_eq_true]
 constructor
 ·intro h a ha
  obtain ⟨i,hi,rfl⟩:=List.getElem_of_mem ha
  have:=h i (List.mem_range'.2 ⟨i,hi,by omega⟩)
  rwa [getD_nat hi] at this
 ·intro h i hi
  obtain ⟨k,hk,rfl⟩:=List.mem_range'.1 hi
  rw[getD_nat (by omega)]
  exact h _ (List.getElem_mem _)
theorem contains81 {f:(Int×Unit)→Option Bool} {p:Int→Bool} {l:List Int} (hl:l.length≤1000000) (h:∀a,a ∈ l→f (a,())=some (p a)):slices_ContainsFunc_81 l f=some (l.any p):=by
 have h1:slices_IndexFunc_117 l f=some (idxI p l 0):=by
  unfold slices_IndexFunc_117 slices_IndexFunc_117_b
  exact index_loop (f:=f) (d:=(0:Int)) hl h
 simp only[slices_ContainsFunc_81,slices_ContainsFunc_81_b,h1,obind_some',any_idx]
theorem containsR {f:(Rw×Unit)→Option Bool} {p:Rw→Bool} {l:List Rw} (hl:l.length≤1000000) (h:∀a,a ∈ l→f (a,())=some (p a)):slices_ContainsFunc_41 l f=some (l.any p):=by
 have h1:slices_IndexFunc_93 l f=some (idxI p l 0):=by
  unfold slices_IndexFunc_93 slices_IndexFunc_93_b
  exact index_loop (f:=f) (d:=rw0) hl h
 simp only[slices_ContainsFunc_41,slices_ContainsFunc_41_b,h1,obind_some',any_idx]
theorem containsF {f:((Int×Int)×Unit)→Option Bool} {p:(Int×Int)→Bool} {l:List (Int×Int)} (hl:l.length≤1000000) (h:∀a,a ∈ l→f (a,())=some (p a)):slices_ContainsFunc_95 l f=some (l.any p):=by
 have h1:slices_IndexFunc_122 l f=some (idxI p l 0):=by
  unfold slices_IndexFunc_122 slices_IndexFunc_122_b
  exact index_loop (f:=f) (d:=((0:Int),(0:Int))) hl h
 simp only[slices_ContainsFunc_95,slices_ContainsFunc_95_b,h1,obind_some',any_idx]
theorem far_ok (n m:Int) (h0:0≤m) (h1:m≤1099511627776):program_Valid_1_1 n m=some (!decide (-m≤n∧n≤m)):=by
 have hw:IntKind.wrap .i64 (0 - m)= -m:=by rw[wrap_id (by omega) (by omega)];omega
 simp only[program_Valid_1_1,program_Valid_1_1_b,hw,not_or_self',or_self_not,Bool.and_self,cT]
 by_cases g1:n< -m
 ·rw[decide_eq_true g1,decide_eq_false (show ¬ (-m≤n∧n≤m) by omega)];rfl
 ·rw[decide_eq_false g1]
  by_cases g2:n>m
  ·rw[decide_eq_true g2,decide_eq_false (show ¬ (-m≤n∧n≤m) by omega)];rfl
  ·rw[decide_eq_false g2,decide_eq_true (show (-m≤n∧n≤m) by omega)];rfl
theorem farC (n:Int):program_Valid_1_1 n 1048576=some (!inC n):=far_ok n _ (by omega) (by omega)
theorem farR (n:Int):program_Valid_1_1 n 1073741824=some (!inR n):=far_ok n _ (by omega) (by omega)
theorem pValid_ok (p:Pg):program_Valid p=some (validP p):=by
 obtain ⟨c,rs⟩:=p
 simp only[program_Valid,program_Valid_b,program_Valid_1,program_Valid_1_b,not_or_self',or_self_not,Bool.and_self,cT,validP,sizeP]
 by_cases g1:(c.length:Int)<1
 ·rw[decide_eq_true g1,decide_eq_false (show ¬ (1≤c.length∧c.length≤12∧rs.length≤6) by omega)]
  rfl
 ·rw[decide_eq_false g1]
  by_cases g2:(c.length:Int)>12
  ·rw[decide_eq_true g2,decide_eq_false (show ¬ (1≤c.length∧c.length≤12∧rs.length≤6) by omega)]
   rfl
  ·rw[decide_eq_false g2]
   by_cases g3:(rs.length:Int)>6
   ·rw[decide_eq_true g3,decide_eq_false (show ¬ (1≤c.length∧c.length≤12∧rs.length≤6) by omega)]
    rfl
   ·rw[decide_eq_false g3,decide_eq_true (show (1≤c.length∧c.length≤12∧rs.length≤6) by omega)]
    have hc:∀l:List Int,l.length≤1000000→slices_ContainsFunc_81 l (fun x=>program_Valid_1_1 x.1 1048576)=some (!l.all inC):=fun l hl=>by
     rw[←any_not]
     exact contains81 hl fun a _=>farC a
    simp only[cF,cT,Bool.not_false,obind_some',hc c (by omega),Bool.true_and]
    cases hcc:c.all inC with
    | false=>rfl
    | true =>
     simp only[Bool.not_true,cF,Bool.true_and]
     refine (lpK_up (α:=Int×PUnit) rs.length (by omega) (fun i (_:Unit)=>((i:Int),PUnit.unit)) (fun i s k=>bif rowOk c.length (rs.getD i rw0) then k s else some false) (fun _=>some true) ?_ ?_ ()).trans ?_
     ·intro again i _ hi
      have hw:IntKind.wrap .i64 ((i:Int)+1)=((i+1:Nat):Int):=by rw[wrap_id (by omega) (by omega)];rfl
      simp only[inB_nat,decide_eq_true hi,decide_eq_true (show (i:Int)<rs.length by omega),cT,Int.toNat_natCast,hw]
      obtain ⟨a,k,b,e⟩:∃a k b,List.getD rs i rw0=(a,k,b):=⟨_,_,_,rfl⟩
      simp only[e,rowOk,farR,decide_eq_true (show (i:Int)≥0 by omega)]
      by_cases q1:a.length=c.length
      ·have hca:=hc a (by omega)
       simp only[decide_eq_true (show (a.length:Int)=c.length by omega),decide_eq_true q1,Bool.not_true,Bool.not_false,cT,cF,obind_some',hca,Bool.true_and]
       by_cases q2:k<1
       ·simp only[decide_eq_true q2,decide_eq_false (show ¬ (1≤k∧k≤3) by omega)]
        cases a.all inC<;>simp[obind_some']
       ·by_cases q3:k>3
        ·simp only[decide_eq_false q2,decide_eq_true q3,decide_eq_false (show ¬ (1≤k∧k≤3) by omega)]
         cases a.all inC<;>simp[obind_some']
        ·simp only[decide_eq_false q2,decide_eq_false q3,decide_eq_true (show (1≤k∧k≤3) by omega)]
         cases h1:a.all inC<;>cases h2:inR b<;>simp[obind_some',h2]
      ·simp only[decide_eq_false (show ¬ (a.length:Int)=c.length by omega),decide_eq_false q1]
       simp[obind_some']
     ·intro again _
      simp
     ·refine (upF_all (p:=fun i=>rowOk c.length (rs.getD i rw0)) (r:=some false) rs.length (fun _ _ _=>rfl) rs.length 0 (by omega)).trans ?_
      rw[all_range (p:=rowOk c.length) (l:=rs) rw0]
      cases rs.all (rowOk c.length)<;>rfl
end Go.Proofs.Ytnbbackjofgcfaa

namespace Go.Proofs.Ytnbbackjofgcfaa
open Try Dn Dn.Sh
noncomputable def sumR:List Int→List Fq→Rat→Option Rat
 | n ::l,a ::x,s=>if fitsQ ((n:Rat)*qv a)∧fitsQ (s+(n:Rat)*qv a) then sumR l x (s+(n:Rat)*qv a) else none
 | _,_,s=>some s
noncomputable def endR {R:Type} (o:Option Rat) (bad:Option R) (good:Rat→Option R):Option R:=match o with
 | some q=>good q
 | none=>bad
theorem sum_up {σ R:Type} {l:List Int} {x:List Fq} (hl:l.length≤x.length) {b:Nat→σ→(σ→Option R)→Option R} {f:σ→Option R} {cur:σ→Rat} {bad:Option R} {good:Rat→Option R}
  (nx:∀i s,fitsQ (cur s+((l.getD i 0:Int):Rat)*qv (x.getD i (0,0)))→σ) (hnx:∀i s h,cur (nx i s h)=cur s+((l.getD i 0:Int):Rat)*qv (x.getD i (0,0)))
  (hb:∀i s k,i<l.length→b i s k=if h:fitsQ (((l.getD i 0:Int):Rat)*qv (x.getD i (0,0)))∧fitsQ (cur s+((l.getD i 0:Int):Rat)*qv (x.getD i (0,0))) then k (nx i s h.2) else bad)
  (hf:∀s,f s=good (cur s)):∀(k i:Nat) (s:σ),i+k=l.length→upF b f k i s=endR (sumR (l.drop i) (x.drop i) (cur s)) bad good
 | 0,i,s,h=>by
  rw[List.drop_eq_nil_of_le (by omega)]
  exact hf s
 | k+1,i,s,h=>by
  have h1:i<l.length:=by omega
  have h2:i<x.length:=by omega
  have e1:l.getD i 0=l[i]:=getD_nat h1
  have e2:x.getD i (0,0)=x[i]:=getD_nat h2
  simp only[upF]
  rw[hb i s _ h1,List.drop_eq_getElem_cons h1,List.drop_eq_getElem_cons h2,sumR,←e1,←e2]
  split
  ·rw[sum_up hl nx hnx hb hf k (i+1) _ (by omega),hnx]
  ·rfl
theorem obN {T R:Type} {t:T} {k:T→Option R}:obind (some t) k=k t:=id rfl
theorem of_ok {l:List Int} {x:List Fq} {e:Int} (hl:l.length≤x.length) (h0:l.length≤1000000) (hc:∀n ∈ l,-1152921504606846976≤n∧n≤1152921504606846976) (hx:∀a ∈ x,okF a) :
  program_sums_of e l x=endR (sumR l x 0) (some (5,(0,1))) fun q=>some (e,prQ q):=by
 simp only[program_sums_of,program_sums_of_b]
 refine (lpK_up (α:=Int×Int×Fq×Fq×PUnit) l.length (by omega) (fun i (s:Fq×{q:Rat // fitsQ q})=>((i:Int),e,s.1,prQ s.2.1,PUnit.unit))
  (fun i s k=>if h:fitsQ (((l.getD i 0:Int):Rat)*qv (x.getD i (0,0)))∧fitsQ (s.2.1+((l.getD i 0:Int):Rat)*qv (x.getD i (0,0))) then k (s.1,⟨_,h.2⟩) else some (5,(0,1))) (fun s=>some (e,prQ s.2.1)) ?_ ?_ ((0,0),⟨0,by decide⟩)).trans ?_
 ·intro again i s hi
  have hw:IntKind.wrap .i64 ((i:Int)+1)=((i+1:Nat):Int):=by rw[wrap_id (by omega) (by omega)];rfl
  obtain ⟨w,q,hq⟩:=s
  have hn:l.getD i 0 ∈ l:=by rw[getD_nat hi];exact List.getElem_mem _
  have ha:okF (x.getD i (0,0)):=by rw[getD_nat (show i<x.length by omega)];exact hx _ (List.getElem_mem _)
  have hm:=Mul_ok (okF_int (hc _ hn).1 (hc _ hn).2) ha
  rw[qv_int] at hm
  simp only[inB_nat,decide_eq_true hi,decide_eq_true (show i<x.length by omega),decide_eq_true (show (i:Int)<l.length by omega),cT,Int.toNat_natCast,hw,jnK_eq',hm,obind_some']
  generalize l.getD i 0=n at *
  generalize x.getD i (0,0)=a at *
  rcases fitQ_cases ((n:Rat)*qv a) with ⟨f1,e1⟩ | ⟨f1,e1⟩
  ·have hA:=Add_ok (okF_prQ hq) (okF_prQ f1)
   rw[qv_prQ,qv_prQ] at hA
   simp only[e1,decide_true,cT,hA,obind_some']
   rcases fitQ_cases (q+(n:Rat)*qv a) with ⟨f2,e2⟩ | ⟨f2,e2⟩
   ·rw[dif_pos ⟨f1,f2⟩]
    simp only[e2,decide_true,Bool.not_true,cF]
   ·rw[dif_neg fun h=>f2 h.2]
    simp only[e2]
    rfl
  ·rw[dif_neg fun h=>f1 h.1]
   simp only[e1]
   rfl
 ·intro again s
  simp only[decide_eq_false (show ¬ (l.length:Int)<l.length by omega),cF]
 ·exact sum_up (cur:=fun s:Fq×{q:Rat // fitsQ q}=>s.2.1) (bad:=some (5,(0,1))) (good:=fun q=>some (e,prQ q)) hl (fun i s h=>(s.1,⟨_,h⟩)) (fun _ _ _=>rfl) (fun _ _ _ _=>rfl) (fun _=>rfl) l.length 0 ((0,0),⟨0,by decide⟩) (by omega)
theorem sumR_fits:∀{l:List Int} {x:List Fq} {s q:Rat},fitsQ s→sumR l x s=some q→fitsQ q
 | [],_,s,q,hs,h=>by
  unfold sumR at h
  injection h with h
  rw[←h];exact hs
 | _ ::_,[],s,q,hs,h=>by
  unfold sumR at h
  injection h with h
  rw[←h];exact hs
 | n ::l,a ::x,s,q,hs,h=>by
  unfold sumR at h
  split at h
  ·rename_i hh
   exact sumR_fits hh.2 h
  ·cases h
end Go.Proofs.Ytnbbackjofgcfaa

namespace Go.Proofs.Ytnbbackjofgcfaa
open Try Dn Dn.Sh
theorem inC_big {n:Int} (h:inC n=true): -1152921504606846976≤n∧n≤1152921504606846976:=by
 have:=of_decide_eq_true h
 omega
theorem inR_big {n:Int} (h:inR n=true): -1152921504606846976≤n∧n≤1152921504606846976:=by
 have:=of_decide_eq_true h
 omega
structure ValidP (p:Pg):Prop where
 cost:1≤p.1.length∧p.1.length≤12
 rows:p.2.length≤6
 cs:∀n ∈ p.1,inC n=true
 len:∀r ∈ p.2,r.1.length=p.1.length
 kind:∀r ∈ p.2,1≤r.2.1∧r.2.1≤3
 right:∀r ∈ p.2,inR r.2.2=true
 coefs:∀r ∈ p.2,∀n ∈ r.1,inC n=true
theorem validP_iff {p:Pg}:validP p=true↔ValidP p:=by
 unfold validP sizeP
 rw[Bool.and_eq_true,Bool.and_eq_true,decide_eq_true_iff,List.all_eq_true,List.all_eq_true]
 constructor
 ·rintro ⟨⟨h1,h2,h3⟩,h4,h5⟩
  have h6:∀r ∈ p.2,r.1.length=p.1.length∧(1≤r.2.1∧r.2.1≤3)∧inR r.2.2=true∧∀n ∈ r.1,inC n=true:=fun r hr=>by
   have:=h5 r hr
   unfold rowOk at this
   rw[Bool.and_eq_true,Bool.and_eq_true,Bool.and_eq_true,decide_eq_true_iff,decide_eq_true_iff,List.all_eq_true] at this
   exact this
  exact ⟨⟨h1,h2⟩,h3,h4,fun r hr=>(h6 r hr).1,fun r hr=>(h6 r hr).2.1,fun r hr=>(h6 r hr).2.2.1,fun r hr=>(h6 r hr).2.2.2⟩
 ·rintro ⟨h1,h2,h3,h4,h5,h6,h7⟩
  refine ⟨⟨h1.1,h1.2,h2⟩,h3,fun r hr=>?_⟩
  unfold rowOk
  rw[Bool.and_eq_true,Bool.and_eq_true,Bool.and_eq_true,decide_eq_true_iff,decide_eq_true_iff,List.all_eq_true]
  exact ⟨h4 r hr,h5 r hr,h6 r hr,h7 r hr⟩
theorem pcmp_ok {a:Fq} {n:Int} (ha:okF a) (hn: -1152921504606846976≤n∧n≤1152921504606846976):program_cmp a n=some (cmpQ (qv a) (n:Rat)):=by
 have h:=Cmp_ok ha (okF_int hn.1 hn.2)
 rw[qv_int] at h
 simp only[program_cmp,program_cmp_b,h,obind_some']
theorem sumR_ok {l:List Int} {x:List Fq}:fitsQ ((sumR l x 0).getD 0):=by
 cases h:sumR l x 0 with
 | none=>decide
 | some q=>exact sumR_fits (by decide) h
theorem of_ok' {l:List Int} {x:List Fq} {e:Int} (hl:l.length≤x.length) (h0:l.length≤1000000) (hc:∀n ∈ l,inC n=true) (hx:∀a ∈ x,okF a) :
  program_sums_of e l x=some (bif (sumR l x 0).isSome then e else 5,prQ ((sumR l x 0).getD 0)):=by
 rw[of_ok hl h0 (fun n hn=>inC_big (hc n hn)) hx]
 cases sumR l x 0<;>rfl
def holdK (k c:Int):Bool:=(decide (k≠1)||decide (c≤0))&&((decide (k≠2)||decide (c≥0))&&(decide (k≠3)||decide (c=0)))
noncomputable def holdR (x:List Fq) (r:Rw):Bool:=holdK r.2.1 (cmpQ ((sumR r.1 x 0).getD 0) (r.2.2:Rat))
noncomputable def feasB (p:Pg) (x:List Fq):Bool:=x.all (fun a=>decide (0≤a.1))&&p.2.all (holdR x)
noncomputable def fitsX (p:Pg) (x:List Fq):Bool:=p.2.all fun r=>(sumR r.1 x 0).isSome
theorem sfold {x:List Fq}:∀{rs:List Rw} {b:Bool} {e:Int},rs.foldl (fun (s:Bool×Int) (r:Rw)=>(s.1&&holdR x r,bif (sumR r.1 x 0).isSome then s.2 else 5)) (b,e)=(b&&rs.all (holdR x),bif rs.all (fun r=>(sumR r.1 x 0).isSome) then e else 5)
 | [],b,e=>by simp
 | r ::rs,b,e=>by
  rw[List.foldl_cons,sfold]
  simp only[List.all_cons,Bool.and_assoc]
  congr 1
  cases (sumR r.1 x 0).isSome<;>cases rs.all (fun r=>(sumR r.1 x 0).isSome)<;>rfl
theorem sfeas_ok {e:Int} {p:Pg} {x:List Fq} (hv:ValidP p) (hx:∀a ∈ x,okF a) (hl:x.length=p.1.length):program_sums_feasible e p x=some (bif fitsX p x then e else 5,feasB p x):=by
 obtain ⟨c,rs⟩:=p
 unfold program_sums_feasible program_sums_feasible_b
 have hc:slices_ContainsFunc_95 x (fun x=>program_sums_feasible_1 x.1)=some (!x.all fun a=>decide (0≤a.1)):=by
  rw[←any_not]
  refine containsF (p:=fun a:Fq=>!decide (0≤a.1)) (by have:=hv.cost.2;simp only at this hl;omega) fun a _=>?_
  simp only[program_sums_feasible_1,program_sums_feasible_1_b]
  congr 1
  rw[Bool.eq_iff_iff]
  simp
 rw[hc,obN,Bool.not_not]
 have h6:=hv.rows
 simp only at h6
 refine (lpK_int (α:=Rw) (σ:=Bool×Int) rs rw0 (by omega) (fun i s=>(s.1,(i:Int),s.2,PUnit.unit)) (fun r s k=>k (s.1&&holdR x r,bif (sumR r.1 x 0).isSome then s.2 else 5)) (fun s=>some (s.2,s.1)) ?_ ?_ (_,e)).trans ?_
 ·intro again i s hi
  have hw:IntKind.wrap .i64 ((i:Int)+1)=((i+1:Nat):Int):=by rw[wrap_id (by omega) (by omega)];rfl
  have hr:rs.getD i rw0 ∈ rs:=by rw[getD_nat hi];exact List.getElem_mem _
  obtain ⟨is,e0⟩:=s
  have h1:=of_ok' (l:=(rs.getD i rw0).1) (x:=x) (e:=e0) (by rw[hv.len _ hr,hl];exact Nat.le_refl _) (by rw[hv.len _ hr];have:=hv.cost.2;omega) (hv.coefs _ hr) hx
  have h2:=pcmp_ok (okF_prQ (sumR_ok (l:=(rs.getD i rw0).1) (x:=x))) (inR_big (hv.right _ hr))
  rw[qv_prQ] at h2
  simp only[inB_nat,decide_eq_true hi,decide_eq_true (show (i:Int)<rs.length by omega),cT,Int.toNat_natCast,hw,h1,h2,obind_some',holdR]
  obtain ⟨cm,hcm⟩:∃cm,cmpQ ((sumR (rs.getD i rw0).1 x 0).getD 0) ((rs.getD i rw0).2.2:Rat)=cm:=⟨_,rfl⟩
  obtain ⟨kd,hkd⟩:∃kd,(rs.getD i rw0).2.1=kd:=⟨_,rfl⟩
  simp only[hcm,hkd,holdK]
  by_cases k1:kd=1<;>by_cases k2:kd=2<;>by_cases k3:kd=3<;>by_cases c1:cm≤0<;>by_cases c2:cm≥0<;>by_cases c3:cm=0<;>cases is<;>first | (exfalso;omega) | simp[k1,k2,k3,c1,c2,c3]
 ·intro again s
  simp
 ·rw[listF_fold (fun (s:Bool×Int) (r:Rw)=>(s.1&&holdR x r,bif (sumR r.1 x 0).isSome then s.2 else 5)) (fun _ _ _ _=>rfl),sfold]
  rfl
end Go.Proofs.Ytnbbackjofgcfaa

namespace Go.Proofs.Ytnbbackjofgcfaa
open Try Dn Dn.Sh
theorem awakeP_ok:law05_awake=some true:=by kernel_rfl
def fewB (p:Pg):Bool:=decide (p.1.length≤14∧p.2.length≤8)&&p.2.all fun r=>decide (r.1.length≤14)
theorem fewP_ok (p:Pg):law05_few p=some (fewB p):=by
 obtain ⟨c,rs⟩:=p
 simp only[law05_few,law05_few_b,not_or_self',cT,fewB]
 by_cases h1:(c.length:Int)≤14
 ·by_cases h2:(rs.length:Int)≤8
  ·have hc:slices_ContainsFunc_41 rs (fun x=>law05_few_1 x.1)=some (!rs.all fun r=>decide (r.1.length≤14)):=by
    rw[←any_not]
    refine containsR (p:=fun r:Rw=>!decide (r.1.length≤14)) (by omega) fun a _=>?_
    simp only[law05_few_1,law05_few_1_b]
    congr 1
    rw[Bool.eq_iff_iff]
    simp
    omega
   rw[decide_eq_true h1,decide_eq_true h2,decide_eq_true (show c.length≤14∧rs.length≤8 by omega)]
   simp only[cT,hc,obind_some',Bool.not_not,Bool.true_and]
  ·rw[decide_eq_true h1,decide_eq_false h2,decide_eq_false (show ¬ (c.length≤14∧rs.length≤8) by omega)]
   rfl
 ·rw[decide_eq_false h1,decide_eq_false (show ¬ (c.length≤14∧rs.length≤8) by omega)]
  rfl
noncomputable def okL (x:List Fq):Bool:=x.all fun a=>decide (okF a)
theorem right_ok {x:List Fq} (h:x.length≤1000000):program_right x=some (okL x):=by
 have hc:slices_ContainsFunc_95 x (fun x=>program_right_1 x.1)=some (!okL x):=by
  unfold okL
  rw[←any_not]
  refine containsF (p:=fun a:Fq=>!decide (okF a)) h fun a _=>?_
  simp only[program_right_1,program_right_1_b,Valid_ok,obind_some']
 simp only[program_right,program_right_b,hc,obind_some',Bool.not_not]
theorem okL_iff {x:List Fq}:okL x=true↔∀a ∈ x,okF a:=by
 unfold okL
 rw[List.all_eq_true]
 exact ⟨fun h a ha=>of_decide_eq_true (h a ha),fun h a ha=>decide_eq_true (h a ha)⟩
end Go.Proofs.Ytnbbackjofgcfaa

namespace Go.Proofs.Ytnbbackjofgcfaa
namespace Dn
def ab (x:Int):Int:=(x.natAbs:Int)
theorem ab_nonneg (x:Int):0≤ab x:=by unfold ab;omega
theorem ab_add (x y:Int):ab (x+y)≤ab x+ab y:=by unfold ab;omega
theorem ab_le {x b:Int}:ab x≤b↔ -b≤x∧x≤b:=by unfold ab;omega
theorem ab_mul (x y:Int):ab (x*y)=ab x*ab y:=by
 unfold ab
 rw[Int.natAbs_mul]
 rfl
def sz:Nat→(Nat→Int)→Int
 | 0,_=>0
 | n+1,f=>sz n f+f n
theorem sz_congr:∀{n:Nat} {f g:Nat→Int},(∀i,i<n→f i=g i)→sz n f=sz n g
 | 0,_,_,_=>rfl
 | n+1,f,g,h=>by
  simp only[sz]
  rw[sz_congr (n:=n) fun i hi=>h i (by omega),h n (by omega)]
theorem sz_add:∀{n:Nat} {f g:Nat→Int},sz n (fun i=>f i+g i)=sz n f+sz n g
 | 0,_,_=>rfl
 | n+1,f,g=>by
  simp only[sz]
  rw[sz_add]
  omega
theorem sz_mul:∀{n:Nat} {c:Int} {f:Nat→Int},sz n (fun i=>c*f i)=c*sz n f
 | 0,c,_=>by simp[sz]
 | n+1,c,f=>by
  simp only[sz]
  rw[sz_mul,Int.mul_add]
theorem sz_mulr {n:Nat} {c:Int} {f:Nat→Int}:sz n (fun i=>f i*c)=sz n f*c:=by
 rw[Int.mul_comm,←sz_mul]
 exact sz_congr fun i _=>Int.mul_comm _ _
theorem sz_zero:∀{n:Nat} {f:Nat→Int},(∀i,i<n→f i=0)→sz n f=0
 | 0,_,_=>rfl
 | n+1,f,h=>by
  simp only[sz]
  rw[sz_zero fun i hi=>h i (by omega),h n (by omega)]
  rfl
theorem sz_neg {n:Nat} {f:Nat→Int}:sz n (fun i=> - f i)= - sz n f:=by
 have:sz n (fun i=> - f i)=sz n (fun i=>(-1)*f i):=sz_congr fun i _=>by omega
 rw[this,sz_mul]
 omega
theorem sz_sub {n:Nat} {f g:Nat→Int}:sz n (fun i=>f i - g i)=sz n f - sz n g:=by
 have:sz n (fun i=>f i - g i)=sz n (fun i=>f i+ - g i):=sz_congr fun i _=>by omega
 rw[this,sz_add,sz_neg]
 omega
theorem sz_one:∀{n:Nat} {f:Nat→Int} {k:Nat},k<n→(∀i,i<n→i≠k→f i=0)→sz n f=f k
 | n+1,f,k,hk,h=>by
  simp only[sz]
  by_cases e:k=n
  ·subst e
   rw[sz_zero fun i hi=>h i (by omega) (by omega)]
   omega
  ·rw[sz_one (k:=k) (by omega) fun i hi hne=>h i (by omega) hne,h n (by omega) (fun e'=>e e'.symm)]
   omega
theorem sz_two {n:Nat} {f:Nat→Int} {k l:Nat} (hk:k<n) (hl:l<n) (hkl:k≠l) (h:∀i,i<n→i≠k→i≠l→f i=0):sz n f=f k+f l:=by
 have e:sz n f=sz n (fun i=>(if i=k then f k else 0)+(if i=l then f l else 0)):=sz_congr fun i hi=>by
  by_cases h1:i=k
  ·subst h1;rw[if_pos rfl,if_neg hkl];omega
  ·by_cases h2:i=l
   ·subst h2;rw[if_neg h1,if_pos rfl];omega
   ·rw[if_neg h1,if_neg h2,h i hi h1 h2];rfl
 rw[e,sz_add,sz_one hk (f:=fun i=>if i=k then f k else 0) (fun i _ hne=>if_neg hne),sz_one hl (f:=fun i=>if i=l then f l else 0) (fun i _ hne=>if_neg hne)]
 simp
theorem sz_swap:∀{m n:Nat} {f:Nat→Nat→Int},sz m (fun i=>sz n (fun j=>f i j))=sz n (fun j=>sz m (fun i=>f i j))
 | 0,n,f=>by
  simp only[sz]
  exact (sz_zero fun _ _=>rfl).symm
 | m+1,n,f=>by
  simp only[sz]
  rw[sz_swap,sz_add]
theorem sz_le:∀{n:Nat} {f g:Nat→Int},(∀i,i<n→f i≤g i)→sz n f≤sz n g
 | 0,_,_,_=>Int.le_refl _
 | n+1,f,g,h=>by
  simp only[sz]
  have:=sz_le (n:=n) fun i hi=>h i (by omega)
  have:=h n (by omega)
  omega
theorem sz_nonneg {n:Nat} {f:Nat→Int} (h:∀i,i<n→0≤f i):0≤sz n f:=by
 have:=sz_le (n:=n) (f:=fun _=>0) (g:=f) h
 rwa [sz_zero fun _ _=>rfl] at this
theorem sz_abs:∀{n:Nat} {f:Nat→Int},ab (sz n f)≤sz n (fun i=>ab (f i))
 | 0,_=>by simp[sz,ab]
 | n+1,f=>by
  simp only[sz]
  have:=sz_abs (n:=n) (f:=f)
  have:=ab_add (sz n f) (f n)
  omega
def skip (k j:Nat):Nat:=if j<k then j else j+1
def sgd (k:Nat):Int:=if k % 2=0 then 1 else -1
theorem sgd_succ (k:Nat):sgd (k+1)= - sgd k:=by
 unfold sgd
 split<;>split<;>omega
theorem sgd_abs (k:Nat) (x:Int):ab (sgd k*x)=ab x:=by
 unfold sgd ab
 split<;>omega
def minor (A:Nat→Nat→Int) (k:Nat):Nat→Nat→Int:=fun i j=>A (i+1) (skip k j)
def det:Nat→(Nat→Nat→Int)→Int
 | 0,_=>1
 | n+1,A=>sz (n+1) fun k=>sgd k*A 0 k*det n (minor A k)
def setC (A:Nat→Nat→Int) (c:Nat) (v:Nat→Int):Nat→Nat→Int:=fun i j=>if j=c then v i else A i j
theorem det_congr:∀{n:Nat} {A B:Nat→Nat→Int},(∀i j,i<n→j<n→A i j=B i j)→det n A=det n B
 | 0,_,_,_=>rfl
 | n+1,A,B,h=>by
  simp only[det]
  refine sz_congr fun k hk=>?_
  rw[h 0 k (by omega) hk,det_congr (A:=minor A k) (B:=minor B k) fun i j hi hj=>h (i+1) (skip k j) (by omega) (by unfold skip;split<;>omega)]
theorem minor_setC_same {A:Nat→Nat→Int} {k:Nat} {v:Nat→Int}:minor (setC A k v) k=minor A k:=by
 funext i j
 unfold minor setC
 rw[if_neg]
 unfold skip
 split<;>omega
def pos' (k c:Nat):Nat:=if c<k then c else c - 1
theorem minor_setC {A:Nat→Nat→Int} {k c:Nat} {v:Nat→Int} (h:k≠c):minor (setC A c v) k=setC (minor A k) (pos' k c) (fun i=>v (i+1)):=by
 funext i j
 unfold minor setC skip pos'
 by_cases h1:j<k<;>by_cases h2:c<k
 ·simp only[h1,h2,if_true]
 ·simp only[h1,h2,if_true,if_false]
  rw[if_neg (by omega),if_neg (by omega)]
 ·simp only[h1,h2,if_true,if_false]
  rw[if_neg (by omega),if_neg (by omega)]
 ·simp only[h1,h2,if_false]
  by_cases h3:j+1=c
  ·rw[if_pos h3,if_pos (by omega)]
  ·rw[if_neg h3,if_neg (by omega)]
theorem det_add:∀{n:Nat} {A:Nat→Nat→Int} {c:Nat} {u v:Nat→Int},c<n→det n (setC A c fun i=>u i+v i)=det n (setC A c u)+det n (setC A c v)
 | n+1,A,c,u,v,hc=>by
  simp only[det]
  rw[←sz_add]
  refine sz_congr fun k hk=>?_
  by_cases h:k=c
  ·subst h
   simp only[minor_setC_same]
   have e:∀v:Nat→Int,setC A k v 0 k=v 0:=fun v=>by simp[setC]
   rw[e,e,e,Int.mul_add,Int.add_mul]
  ·have e:∀v:Nat→Int,setC A c v 0 k=A 0 k:=fun v=>by simp[setC,h]
   rw[minor_setC h,minor_setC h,minor_setC h,e,e,e,det_add (u:=fun i=>u (i+1)) (v:=fun i=>v (i+1)) (by unfold pos';split<;>omega),Int.mul_add]
theorem det_smul:∀{n:Nat} {A:Nat→Nat→Int} {c:Nat} {x:Int} {u:Nat→Int},c<n→det n (setC A c fun i=>x*u i)=x*det n (setC A c u)
 | n+1,A,c,x,u,hc=>by
  simp only[det]
  rw[←sz_mul]
  refine sz_congr fun k hk=>?_
  by_cases h:k=c
  ·subst h
   simp only[minor_setC_same]
   have e:∀v:Nat→Int,setC A k v 0 k=v 0:=fun v=>by simp[setC]
   rw[e,e]
   simp only[Int.mul_assoc,Int.mul_left_comm]
  ·have e:∀v:Nat→Int,setC A c v 0 k=A 0 k:=fun v=>by simp[setC,h]
   rw[minor_setC h,minor_setC h,e,e,det_smul (u:=fun i=>u (i+1)) (by unfold pos';split<;>omega)]
   simp only[Int.mul_assoc,Int.mul_left_comm]
theorem det_zero {n:Nat} {A:Nat→Nat→Int} {c:Nat} (hc:c<n):det n (setC A c fun _=>0)=0:=by
 have:=det_smul (n:=n) (A:=A) (x:=0) (u:=fun _=>0) hc
 simpa using this
theorem det_sum {n:Nat} {A:Nat→Nat→Int} {c:Nat} (hc:c<n):∀{m:Nat} {x:Nat→Int} {u:Nat→Nat→Int},det n (setC A c fun i=>sz m fun l=>x l*u l i)=sz m fun l=>x l*det n (setC A c (u l))
 | 0,x,u=>by simp only[sz];exact det_zero hc
 | m+1,x,u=>by
  simp only[sz]
  rw[det_add hc,det_smul hc,det_sum hc]
theorem det_adj:∀{n:Nat} {A:Nat→Nat→Int} {c:Nat},c+1<n→(∀i,i<n→A i c=A i (c+1))→det n A=0
 | n+1,A,c,hc,h=>by
  simp only[det]
  rw[sz_two (k:=c) (l:=c+1) (by omega) hc (by omega) fun k hk h1 h2=>?_]
  ·have e:det n (minor A c)=det n (minor A (c+1)):=by
    refine det_congr fun i j hi hj=>?_
    unfold minor skip
    by_cases h1:j<c
    ·rw[if_pos h1,if_pos (by omega)]
    ·by_cases h2:j=c
     ·subst h2
      rw[if_neg h1,if_pos (by omega)]
      exact (h (i+1) (by omega)).symm
     ·rw[if_neg h1,if_neg (by omega)]
   rw[e,sgd_succ,h 0 (by omega)]
   simp only[Int.neg_mul]
   omega
  ·have e:det n (minor A k)=0:=by
    refine det_adj (c:=pos' k c) ?_ fun i hi=>?_
    ·unfold pos';split<;>omega
    ·unfold minor skip pos'
     by_cases h3:c<k
     ·simp only[h3,if_true]
      rw[if_pos (by omega)]
      exact h (i+1) (by omega)
     ·simp only[h3,if_false]
      rw[if_neg (by omega),if_neg (by omega),show c - 1+1=c by omega]
      exact h (i+1) (by omega)
   rw[e,Int.mul_zero]
theorem setC_self (A:Nat→Nat→Int) (c:Nat):setC A c (fun i=>A i c)=A:=by
 funext i j
 unfold setC
 split
 ·rename_i h;rw[h]
 ·rfl
theorem setC_comm {A:Nat→Nat→Int} {c e:Nat} {u v:Nat→Int} (h:c≠e):setC (setC A c u) e v=setC (setC A e v) c u:=by
 funext i j
 unfold setC
 by_cases h1:j=c<;>by_cases h2:j=e
 ·omega
 ·simp[h1,h]
 ·simp[h2,Ne.symm h]
 ·simp[h1,h2]
theorem det_swap_adj {n:Nat} {A:Nat→Nat→Int} {c:Nat} {u v:Nat→Int} (hc:c+1<n):det n (setC (setC A c u) (c+1) v)= - det n (setC (setC A c v) (c+1) u):=by
 have h0:∀w:Nat→Int,det n (setC (setC A c w) (c+1) w)=0:=fun w=>det_adj hc fun i _=>by simp[setC]
 have h1:=h0 fun i=>u i+v i
 rw[det_add hc,setC_comm (by omega),setC_comm (u:=fun i=>u i+v i) (by omega),det_add (by omega),det_add (by omega),setC_comm (c:=c+1) (by omega),setC_comm (c:=c+1) (v:=v) (by omega),setC_comm (c:=c+1) (u:=v) (v:=u) (by omega),setC_comm (c:=c+1) (u:=v) (v:=v) (by omega),h0,h0] at h1
 omega
theorem det_eq:∀{k:Nat} {n:Nat} {A:Nat→Nat→Int} {c:Nat},c+k+1<n→(∀i,i<n→A i c=A i (c+k+1))→det n A=0
 | 0,n,A,c,hc,h=>det_adj hc h
 | k+1,n,A,c,hc,h=>by
  have e:A=setC (setC A (c+k+1) fun i=>A i (c+k+1)) (c+k+1+1) fun i=>A i (c+k+1+1):=by
   rw[setC_self,setC_self]
  rw[e,det_swap_adj (by omega)]
  have:det n (setC (setC A (c+k+1) fun i=>A i (c+k+1+1)) (c+k+1+1) fun i=>A i (c+k+1))=0:=by
   refine det_eq (k:=k) (c:=c) (by omega) fun i hi=>?_
   simp only[setC]
   rw[if_neg (by omega),if_neg (by omega),if_neg (by omega)]
   simp only[if_true]
   exact h i hi
  rw[this]
  rfl
theorem det_alt {n:Nat} {A:Nat→Nat→Int} {a b:Nat} (ha:a<n) (hb:b<n) (hab:a≠b) (h:∀i,i<n→A i a=A i b):det n A=0:=by
 by_cases hlt:a<b
 ·obtain ⟨k,rfl⟩:∃k,b=a+k+1:=⟨b - a - 1,by omega⟩
  exact det_eq hb h
 ·obtain ⟨k,rfl⟩:∃k,a=b+k+1:=⟨a - b - 1,by omega⟩
  exact det_eq ha fun i hi=>(h i hi).symm
theorem det_swap {n:Nat} {A:Nat→Nat→Int} {a b:Nat} {u v:Nat→Int} (ha:a<n) (hb:b<n) (hab:a≠b):det n (setC (setC A a u) b v)= - det n (setC (setC A a v) b u):=by
 have h0:∀w:Nat→Int,det n (setC (setC A a w) b w)=0:=fun w=>det_alt ha hb hab fun i _=>by simp[setC]
 have h1:=h0 fun i=>u i+v i
 rw[det_add hb,setC_comm hab,setC_comm (u:=fun i=>u i+v i) hab,det_add ha,det_add ha,setC_comm (c:=b) (Ne.symm hab),setC_comm (c:=b) (v:=v) (Ne.symm hab),setC_comm (c:=b) (u:=v) (v:=u) (Ne.symm hab),setC_comm (c:=b) (u:=v) (v:=v) (Ne.symm hab),h0,h0] at h1
 omega
def pz:Nat→(Nat→Int)→Int
 | 0,_=>1
 | n+1,f=>f 0*pz n fun i=>f (i+1)
theorem pz_nonneg:∀{n:Nat} {f:Nat→Int},(∀i,i<n→0≤f i)→0≤pz n f
 | 0,_,_=>by simp[pz]
 | n+1,f,h=>Int.mul_nonneg (h 0 (by omega)) (pz_nonneg fun i hi=>h (i+1) (by omega))
theorem pz_le:∀{n:Nat} {f g:Nat→Int},(∀i,i<n→0≤f i∧f i≤g i)→pz n f≤pz n g
 | 0,_,_,_=>Int.le_refl _
 | n+1,f,g,h=>by
  simp only[pz]
  have h1:=pz_le (n:=n) (f:=fun i=>f (i+1)) (g:=fun i=>g (i+1)) fun i hi=>h (i+1) (by omega)
  have h2:=h 0 (by omega)
  have h3:=pz_nonneg (n:=n) (f:=fun i=>f (i+1)) fun i hi=>(h (i+1) (by omega)).1
  exact Int.mul_le_mul h2.2 h1 h3 (Int.le_trans h2.1 h2.2)
theorem sz_skip:∀{n k:Nat} {f:Nat→Int},k≤n→sz n (fun j=>f (skip k j))+f k=sz (n+1) f
 | 0,k,f,hk=>by
  have:k=0:=by omega
  subst this
  simp[sz]
 | n+1,k,f,hk=>by
  by_cases h:k=n+1
  ·subst h
   have e:=sz_congr (n:=n+1) (f:=fun j=>f (skip (n+1) j)) (g:=f) fun j hj=>by simp[skip,hj]
   rw[e]
   rfl
  ·have:=sz_skip (n:=n) (k:=k) (f:=f) (by omega)
   simp only[sz] at this ⊢
   have e:f (skip k n)=f (n+1):=by unfold skip;rw[if_neg (by omega)]
   rw[e]
   omega
theorem det_bound:∀{n:Nat} {A:Nat→Nat→Int},ab (det n A)≤pz n fun i=>sz n fun j=>ab (A i j)
 | 0,A=>by simp[det,pz,ab]
 | n+1,A=>by
  simp only[det,pz]
  refine Int.le_trans sz_abs ?_
  have hP:0≤pz n fun i=>sz (n+1) fun j=>ab (A (i+1) j):=pz_nonneg fun i _=>sz_nonneg fun j _=>ab_nonneg _
  refine Int.le_trans (sz_le (g:=fun k=>ab (A 0 k)*pz n fun i=>sz (n+1) fun j=>ab (A (i+1) j)) fun k hk=>?_) (by rw[sz_mulr];exact Int.le_refl _)
  rw[Int.mul_assoc,sgd_abs,ab_mul]
  refine Int.mul_le_mul_of_nonneg_left (Int.le_trans det_bound (pz_le fun i hi=>⟨sz_nonneg fun j _=>ab_nonneg _,?_⟩)) (ab_nonneg _)
  have:=sz_skip (n:=n) (k:=k) (f:=fun j=>ab (A (i+1) j)) (by omega)
  have h0:=ab_nonneg (A (i+1) k)
  simp only[minor]
  omega
end Dn
end Go.Proofs.Ytnbbackjofgcfaa

namespace Go.Proofs.Ytnbbackjofgcfaa
namespace Dn
def upd (β:Nat→Nat) (r c:Nat):Nat→Nat:=fun k=>if k=r then c else β k
def colsOf (M:Nat→Nat→Int) (γ:Nat→Nat):Nat→Nat→Int:=fun i k=>M i (γ k)
def dc (m:Nat) (M:Nat→Nat→Int) (γ:Nat→Nat):Int:=det m (colsOf M γ)
theorem colsOf_upd (M:Nat→Nat→Int) (β:Nat→Nat) (r c:Nat):colsOf M (upd β r c)=setC (colsOf M β) r (fun i=>M i c):=by
 funext i k
 unfold colsOf upd setC
 split<;>rfl
theorem upd_upd (β:Nat→Nat) (r c e:Nat):upd (upd β r c) r e=upd β r e:=by
 funext k
 unfold upd
 split<;>rfl
theorem upd_self (β:Nat→Nat) (r:Nat):upd β r (β r)=β:=by
 funext k
 unfold upd
 split
 ·rename_i h;rw[h]
 ·rfl
structure Tb (m w:Nat) (M T:Nat→Nat→Int) (d:Int) (β:Nat→Nat):Prop where
 dpos:0<d
 lt:∀i,i<m→β i<w
 co:∀k,k<m→∀j,j<w→d*M k j=sz m fun i=>T i j*M k (β i)
 cr:∃σ:Int,σ*σ=1∧d=σ*dc m M β∧∀i,i<m→∀j,j<w→T i j=σ*dc m M (upd β i j)
section
variable {m w:Nat} {M T:Nat→Nat→Int} {d:Int} {β:Nat→Nat}
theorem dc_upd_other {i k:Nat} (hi:i<m) (hk:k<m) (h:i≠k):dc m M (upd β i (β k))=0:=by
 refine det_alt hi hk h fun l _=>?_
 unfold colsOf upd
 rw[if_pos rfl,if_neg (Ne.symm h)]
theorem Tb.basis (h:Tb m w M T d β) {i:Nat} (hi:i<m):T i (β i)=d:=by
 obtain ⟨σ,_,h2,h3⟩:=h.cr
 rw[h3 i hi _ (h.lt i hi),upd_self,←h2]
theorem Tb.other (h:Tb m w M T d β) {i k:Nat} (hi:i<m) (hk:k<m) (hik:i≠k):T i (β k)=0:=by
 obtain ⟨σ,_,h2,h3⟩:=h.cr
 rw[h3 i hi _ (h.lt k hk),dc_upd_other hi hk hik,Int.mul_zero]
theorem Tb.inj (h:Tb m w M T d β) {i k:Nat} (hi:i<m) (hk:k<m) (hb:β i=β k):i=k:=by
 by_cases e:i=k
 ·exact e
 ·have h1:=h.other hi hk e
  rw[←hb,h.basis hi] at h1
  have:=h.dpos
  omega
theorem dc_two (h:Tb m w M T d β) {r i c j:Nat} (hr:r<m) (hi:i<m) (hri:r≠i) (hc:c<w) (hj:j<w) :
  d*d*dc m M (upd (upd β r c) i j)=(T r c*T i j - T i c*T r j)*dc m M β:=by
 obtain ⟨B,hB⟩:∃B,B=colsOf M β:=⟨_,rfl⟩
 have e1:d*d*dc m M (upd (upd β r c) i j)=det m (setC (setC B r fun q=>d*M q c) i fun q=>d*M q j):=by
  have a1:=det_smul (n:=m) (A:=setC B r fun q=>d*M q c) (c:=i) (x:=d) (u:=fun q=>M q j) hi
  have a2:=det_smul (n:=m) (A:=setC B i fun q=>M q j) (c:=r) (x:=d) (u:=fun q=>M q c) hr
  unfold dc
  rw[colsOf_upd,colsOf_upd,←hB,a1,setC_comm (u:=fun q=>d*M q c) hri,a2,setC_comm (u:=fun q=>M q c) hri,Int.mul_assoc]
 have e2:det m (setC (setC B r fun q=>d*M q c) i fun q=>d*M q j)=det m (setC (setC B r fun q=>sz m fun k=>T k c*B q k) i fun q=>sz m fun l=>T l j*B q l):=by
  refine det_congr fun p q hp hq=>?_
  unfold setC
  rw[hB]
  split
  ·exact h.co p hp j hj
  ·split
   ·exact h.co p hp c hc
   ·rfl
 rw[e1,e2,det_sum hi (x:=fun l=>T l j) (u:=fun l q=>B q l)]
 have e3:∀l,det m (setC (setC B r fun q=>sz m fun k=>T k c*B q k) i fun q=>B q l)=sz m fun k=>T k c*det m (setC (setC B i fun q=>B q l) r fun q=>B q k):=fun l=>by
  rw[setC_comm hri,det_sum hr (x:=fun k=>T k c) (u:=fun k q=>B q k)]
 have z1:∀k l,k<m→k≠r→k≠i→det m (setC (setC B i fun q=>B q l) r fun q=>B q k)=0:=fun k l hk h1 h2 =>
  det_alt hr hk h1.symm fun q _=>by simp[setC,h1,h2]
 have z2:∀k l,l<m→l≠r→l≠i→det m (setC (setC B i fun q=>B q l) r fun q=>B q k)=0:=fun k l hl h1 h2 =>
  det_alt hi hl h2.symm fun q _=>by simp[setC,h1,h2,hri.symm]
 have z3:det m (setC (setC B i fun q=>B q r) r fun q=>B q r)=0:=det_alt hi hr hri.symm fun q _=>by simp[setC,hri.symm]
 have z4:det m (setC (setC B i fun q=>B q i) r fun q=>B q i)=0:=det_alt hi hr hri.symm fun q _=>by simp[setC,hri.symm]
 have z5:det m (setC (setC B i fun q=>B q i) r fun q=>B q r)=det m B:=by
  rw[setC_self,setC_self]
 have z6:det m (setC (setC B i fun q=>B q r) r fun q=>B q i)= - det m B:=by
  rw[det_swap hi hr hri.symm,z5]
 have e4:∀l,l<m→(sz m fun k=>T k c*det m (setC (setC B i fun q=>B q l) r fun q=>B q k))=T r c*det m (setC (setC B i fun q=>B q l) r fun q=>B q r)+T i c*det m (setC (setC B i fun q=>B q l) r fun q=>B q i):=fun l _ =>
  sz_two hr hi hri fun k hk h1 h2=>by rw[z1 k l hk h1 h2,Int.mul_zero]
 rw[sz_congr (g:=fun l=>T l j*(T r c*det m (setC (setC B i fun q=>B q l) r fun q=>B q r)+T i c*det m (setC (setC B i fun q=>B q l) r fun q=>B q i))) fun l hl=>by rw[e3 l,e4 l hl]]
 rw[sz_two hr hi hri fun l hl h1 h2=>by rw[z2 r l hl h1 h2,z2 i l hl h1 h2];simp]
 rw[z3,z4,z5,z6]
 have:dc m M β=det m B:=by rw[hB];rfl
 rw[this]
 grind
def piv (T:Nat→Nat→Int) (d:Int) (r c i j:Nat):Int:=(T r c*T i j - T i c*T r j) / d
theorem piv_exact (h:Tb m w M T d β) {r i c j:Nat} (hr:r<m) (hi:i<m) (hri:r≠i) (hc:c<w) (hj:j<w):d*piv T d r c i j=T r c*T i j - T i c*T r j:=by
 obtain ⟨σ,h1,h2,_⟩:=h.cr
 have h3:=dc_two h hr hi hri hc hj
 have hd:=h.dpos
 have h4:dc m M β=σ*d:=by rw[h2,←Int.mul_assoc,h1,Int.one_mul]
 rw[h4] at h3
 have h5:d*(d*dc m M (upd (upd β r c) i j))=d*((T r c*T i j - T i c*T r j)*σ):=by
  rw[←Int.mul_assoc,h3]
  grind
 have h6:=Int.eq_of_mul_eq_mul_left (by omega) h5
 have h7:T r c*T i j - T i c*T r j=d*(σ*dc m M (upd (upd β r c) i j)):=by
  have:(T r c*T i j - T i c*T r j)*σ*σ=d*dc m M (upd (upd β r c) i j)*σ:=by rw[h6]
  rw[Int.mul_assoc,h1,Int.mul_one] at this
  rw[this]
  grind
 unfold piv
 rw[h7,Int.mul_ediv_cancel_left _ (by omega)]
theorem piv_eq (h:Tb m w M T d β) {σ:Int} (h1:σ*σ=1) (h2:d=σ*dc m M β) {r i c j:Nat} (hr:r<m) (hi:i<m) (hri:r≠i) (hc:c<w) (hj:j<w):piv T d r c i j=σ*dc m M (upd (upd β r c) i j):=by
 have h3:=dc_two h hr hi hri hc hj
 have hd:=h.dpos
 have h4:dc m M β=σ*d:=by rw[h2,←Int.mul_assoc,h1,Int.one_mul]
 have h5:=piv_exact h hr hi hri hc hj
 rw[h4,←h5] at h3
 have h6:(d*d)*dc m M (upd (upd β r c) i j)=(d*d)*(piv T d r c i j*σ):=by rw[h3];grind
 have h7:=Int.eq_of_mul_eq_mul_left (Int.ne_of_gt (Int.mul_pos hd hd)) h6
 rw[h7]
 grind
def sg (x:Int):Int:=if x<0 then -1 else 1
theorem sg_mul (x:Int):sg x*sg x=1:=by unfold sg;split<;>rfl
theorem sg_pos {x:Int} (h:x≠0):0<sg x*x:=by unfold sg;split<;>omega
def pivT (T:Nat→Nat→Int) (d:Int) (r c:Nat):Nat→Nat→Int:=fun i j=>sg (T r c)*(if i=r then T r j else piv T d r c i j)
theorem Tb.step (h:Tb m w M T d β) {r c:Nat} (hr:r<m) (hc:c<w) (he:T r c≠0):Tb m w M (pivT T d r c) (sg (T r c)*T r c) (upd β r c):=by
 have hd:=h.dpos
 refine ⟨sg_pos he,fun i hi=>?_,fun k hk j hj=>?_,?_⟩
 ·unfold upd
  split
  ·exact hc
  ·exact h.lt i hi
 ·have h1:∀i,i<m→d*((if i=r then T r j else piv T d r c i j)*M k (upd β r c i))=(T r c*(T i j*M k (β i)) - T r j*(T i c*M k (β i)))+(if i=r then d*(T r j*M k c) else 0):=fun i hi=>by
   unfold upd
   by_cases e:i=r
   ·subst e
    simp only[if_true]
    grind
   ·simp only[e,if_false,Int.add_zero]
    rw[←Int.mul_assoc,piv_exact h hr hi (Ne.symm e) hc hj]
    grind
  have h2:d*(sz m fun i=>(if i=r then T r j else piv T d r c i j)*M k (upd β r c i))=d*(T r c*M k j):=by
   rw[←sz_mul,sz_congr h1,sz_add,sz_sub,sz_mul,sz_mul,←h.co k hk j hj,←h.co k hk c hc,sz_one hr fun i _ hne=>if_neg hne,if_pos rfl]
   grind
  have h3:=Int.eq_of_mul_eq_mul_left (by omega) h2
  have h4:(sz m fun i=>pivT T d r c i j*M k (upd β r c i))=sg (T r c)*sz m fun i=>(if i=r then T r j else piv T d r c i j)*M k (upd β r c i):=by
   rw[←sz_mul]
   exact sz_congr fun i _=>by unfold pivT;rw[Int.mul_assoc]
  rw[h4,h3,Int.mul_assoc]
 ·obtain ⟨σ,h1,h2,h3⟩:=h.cr
  refine ⟨sg (T r c)*σ,?_,?_,fun i hi j hj=>?_⟩
  ·have:=sg_mul (T r c)
   grind
  ·rw[h3 r hr c hc]
   grind
  ·unfold pivT
   by_cases e:i=r
   ·subst e
    rw[if_pos rfl,h3 i hi j hj,upd_upd]
    grind
   ·rw[if_neg e,piv_eq h h1 h2 hr hi (Ne.symm e) hc hj]
    grind
theorem det_one:∀n:Nat,det n (fun i k=>if i=k then 1 else 0)=1
 | 0=>rfl
 | n+1=>by
  simp only[det]
  rw[sz_one (k:=0) (by omega) fun k _ hk=>by rw[if_neg (Ne.symm hk)];simp]
  have:det n (minor (fun i k=>if i=k then 1 else 0) 0)=det n (fun i k=>if i=k then 1 else 0):=det_congr fun i j _ _=>by
   unfold minor skip
   simp
  rw[this,det_one n]
  simp[sgd]
theorem Tb.first {a:Nat→Nat} (ha:∀i,i<m→a i<w) (hM:∀k,k<m→∀i,i<m→M k (a i)=if k=i then 1 else 0):Tb m w M M 1 a:=by
 have h1:dc m M a=1:=by
  unfold dc
  rw[←det_one m]
  exact det_congr fun i j hi hj=>hM i hi j hj
 refine ⟨by omega,ha,fun k hk j hj=>?_,1,by omega,by rw[h1];rfl,fun i hi j hj=>?_⟩
 ·rw[sz_one hk fun i hi hne=>by rw[hM k hk i hi,if_neg (Ne.symm hne),Int.mul_zero],hM k hk k hk,if_pos rfl]
  omega
 ·unfold dc
  rw[colsOf_upd]
  have e:det m (setC (colsOf M a) i fun q=>M q j)=det m (setC (colsOf M a) i fun q=>sz m fun k=>M k j*colsOf M a q k):=by
   refine det_congr fun p q hp hq=>?_
   unfold setC
   split
   ·show M p j=sz m fun k=>M k j*colsOf M a p k
    rw[sz_one hp fun k hk hne=>by unfold colsOf;rw[hM p hp k hk,if_neg (Ne.symm hne),Int.mul_zero]]
    unfold colsOf
    rw[hM p hp p hp,if_pos rfl]
    omega
   ·rfl
  rw[e,det_sum hi (x:=fun k=>M k j) (u:=fun k q=>colsOf M a q k),sz_one hi fun k hk hne=>by
   rw[det_alt hi hk (Ne.symm hne) fun q _=>by simp[setC,hne],Int.mul_zero],setC_self]
  have:det m (colsOf M a)=1:=h1
  rw[this]
  omega
theorem Tb.rows (h:Tb m w M T d β) {a:Nat→Nat} (ha:∀i,i<m→a i<w) (hM:∀k,k<m→∀i,i<m→M k (a i)=if k=i then 1 else 0) {i j:Nat} (hi:i<m) (hj:j<w):T i j=sz m fun k=>T i (a k)*M k j:=by
 obtain ⟨σ,h1,h2,h3⟩:=h.cr
 rw[h3 i hi j hj]
 have e:dc m M (upd β i j)=sz m fun k=>M k j*dc m M (upd β i (a k)):=by
  unfold dc
  rw[colsOf_upd]
  have e:det m (setC (colsOf M β) i fun q=>M q j)=det m (setC (colsOf M β) i fun q=>sz m fun k=>M k j*M q (a k)):=by
   refine det_congr fun p q hp hq=>?_
   unfold setC
   split
   ·show M p j=sz m fun k=>M k j*M p (a k)
    rw[sz_one hp fun k hk hne=>by rw[hM p hp k hk,if_neg (Ne.symm hne),Int.mul_zero],hM p hp p hp,if_pos rfl]
    omega
   ·rfl
  rw[e,det_sum hi (x:=fun k=>M k j) (u:=fun k q=>M q (a k))]
  exact sz_congr fun k _=>by rw[colsOf_upd]
 rw[e,←sz_mul]
 exact sz_congr fun k hk=>by rw[h3 i hi _ (ha k hk)];grind
theorem Tb.bound (h:Tb m w M T d β) {i j:Nat} (hi:i<m) (hj:j<w):ab (T i j)=ab (dc m M (upd β i j)):=by
 obtain ⟨σ,h1,_,h3⟩:=h.cr
 rw[h3 i hi j hj,ab_mul]
 have h4:ab σ*ab σ=1:=by rw[←ab_mul,h1];rfl
 have h5:ab σ=1:=by
  have h6:=ab_nonneg σ
  by_cases h7:ab σ≤1
  ·have:ab σ≠0:=fun e=>by rw[e] at h4;simp at h4
   omega
  ·exfalso
   have:2*2≤ab σ*ab σ:=Int.mul_le_mul (by omega) (by omega) (by omega) h6
   omega
 rw[h5,Int.one_mul]
end
end Dn
end Go.Proofs.Ytnbbackjofgcfaa
