/- r15: what its functions answer (printed by a program), and that they do; part 3. r15: what its functions answer (printed by a program), and that they do; part 4. Plain lemmas for what functions answer: loops, machine numbers, lists. Names: both programs know the same ones. Fractions: rational numbers, and the pairs of numbers that stand for them. Fractions: what 'Make', 'Valid', 'Mul', 'Floor', 'Ceil' of package ratio answer. Fractions: products of two words, 'Mul', 'Floor', 'Ceil' of package ratio. Fractions of the reference: numbers of two words, their greatest common divisors and quotients. Fractions of the reference: 'Div', 'Made', 'Make', 'Times', 'Floor', 'Ceil'. Numbers of 128 bits: sums, differences, comparisons; the length of a number. The quotient of a number of 128 bits by one of 64. Fractions: 'Add' of package ratio. Loops over lists: searches and tests of all elements. Fractions: 'Add', 'Valid', 'All' of the reference. Fractions: 'Sub' and 'Cmp' of both. Loops over the elements of a list, as recursions over it. Programs: both programs know the same valid ones. Systems: both programs know the same valid ones. Sums of integers, and determinants. Tables of the simplex method: integers with a common denominator, as determinants of columns. Steps of the simplex method by the rule of least indices: they never come back to a basis. Steps of the simplex method come to an end: a measure. -/
import Derived.Laws.StructEq
import Derived.Test.YtfknoaclabfdlaaGreatMgM

namespace Go.Proofs.YtfknoaclabfdlaaGreat
noncomputable section
open Tryz Dn Dn.Sh
set_option maxRecDepth 100000
def pY (lp:Lp) (_:Jn) (x0:(List Int)×List ((List Int)×Int×Int)):Option (List Int) :=
 lp (List Int×Int×PUnit) (List Int) (fun (again:List Int×Int×PUnit->Option (List Int)) (x:List Int×Int×PUnit)=>bif decide (x.2.1<(↑x0.2.length:Int)) then bif inB x.2.1 x0.2.length then bif eh (List.length x.1+1) 8 then again (x.1++[(x0.2.getD x.2.1.toNat ([],0,(0 : Int))).2.2],IntKind.wrap .i64 (x.2.1+1),PUnit.unit) else none else none else some x.1) ([],0,PUnit.unit)
def gw (x0:(List Int)×List ((List Int)×Int×Int)):Option (List Int):=pY lpK jnK x0
abbrev t55:=((List Int)×List ((List Int)×Int×Int))->Option (List Int)
def c55:Ctr:=⟨[T32],[],[],.one (.sl i64),fun x _ _=>gw x.1⟩
theorem e55 (lp:Lp) (jn:Jn):∀(x:TsS c55.as) (F:TsF c55.fs) (y:TsS c55.cs),pY lp jn x.1=bv lp jn (cx [] [(134,a7)]) ak 4 55 f55 c55 x F y:=fun x F y=>by kernel_rfl
theorem U4:c55.ok prog 55:=Ctr.of_den (an (ba)) aJ (hl:=ak) (d:=4) func55 rfl (by decide) (e55 lpK jnK)
def sP (_:Lp) (_:Jn) (bI:t73) (ep:KW) (x0:Int×Int):Option Int :=
 ah (bI 0) fun (t:Int×Int)=>ah (ep x0 t) fun (t:Int)=>some t
def dj (x0:Int×Int):Option Int:=sP lpK jnK bI ep x0
abbrev t56:=(Int×Int)->Option (Int)
def k56 (dj:t56):Ctr:=⟨[T49],[],[],.one i64,fun x _ _=>dj x.1⟩
def c56:Ctr:=k56 dj
theorem e56 (lp:Lp) (jn:Jn) (bI:t73) (ep:KW):∀(x:TsS c56.as) (F:TsF c56.fs) (y:TsS c56.cs),sP lp jn bI ep x.1=bv lp jn (cx [(105,QU ep),(73,k73 bI)] [(134,a7)]) ak 4 56 f56 c56 x F y:=fun x F y=>by kernel_rfl
theorem Tl:c56.ok prog 56:=Ctr.of_den (an (aa (aa (ba) (by kernel_rfl) Lf) (by kernel_rfl) PD)) aJ (hl:=ak) (d:=4) func56 rfl (by decide) (e56 lpK jnK bI ep)
def qi (lp:Lp) (_:Jn) (dj:t56) (x0:(List Int)×List ((List Int)×Int×Int)) (x1:List (Int×Int)):Option Bool :=
 lp (Int×PUnit) Bool (fun (again:Int×PUnit->Option Bool) (x:Int×PUnit) =>
 let v6:Bool:=inB x.1 x1.length;
 let v7:Bool:=inB x.1 x0.2.length;
 let v8:Bool:=decide ((x0.2.getD x.1.toNat ([],0,0)).2.1=1);
 let v9:Bool:=decide ((x0.2.getD x.1.toNat ([],0,0)).2.1=2);
 let v10:Bool:=!v8;
 let v11:Bool:=v10||v8;bif decide (x.1<(↑x1.length:Int)) then bif v7 then bif v11&&(v11&&(v10||v6)) then bif v11 then bif v11 then ah (bif v8 then dj (x1.getD x.1.toNat (0,0)) else some 0) fun (t:Int) =>
 let v13:Bool:=bif v8 then decide (t>0) else false;
 let v14:Bool:=!v13;
 let v15:Bool:=!v14;
 let v16:Bool:=v14&&v9;
 let v17:Bool:=!v16;
 let v18:Bool:=v15||v14;
 let v19:Bool:=v17||v16;bif v11 then bif v11 then bif v18 then bif v18&&(v18&&(v15||v7)) then bif v18 then bif v18 then bif v18 then bif v18 then bif v19&&(v19&&(v17 || v6)) then bif v19 then bif v19 then ah (bif v16 then dj (x1.getD x.1.toNat (0,0)) else some 0) fun (t:Int)=>bif v19 then bif (v15 || v18)&&(v15||(!v9||(v15||v16))) then bif v13||v14 then bif bif v13 then true else bif v9 then decide (t<0) else false then some false else again (IntKind.wrap IntKind.i64 (x.1+1),PUnit.unit) else none else none else none else none else none else none else none else none else none else none else none else none else none else none else none else none else none else none else some true) (0,PUnit.unit)
def gl (x0:(List Int)×List ((List Int)×Int×Int)) (x1:List (Int×Int)):Option Bool:=qi lpK jnK dj x0 x1
abbrev t57:=((List Int)×List ((List Int)×Int×Int))->(List (Int×Int))->Option (Bool)
def c57:Ctr:=⟨[T32,(.sl T49)],[],[],.one .bool,fun x _ _=>gl x.1 x.2.1⟩
theorem e57 (lp:Lp) (jn:Jn) (dj:t56):∀(x:TsS c57.as) (F:TsF c57.fs) (y:TsS c57.cs),qi lp jn dj x.1 x.2.1=bv lp jn (cx [(56,k56 dj)] [(134,a7)]) ak 4 57 f57 c57 x F y:=fun x F y=>by kernel_rfl
theorem T1:c57.ok prog 57:=Ctr.of_den (an (aa (ba) (by kernel_rfl) Tl)) aJ (hl:=ak) (d:=4) func57 rfl (by decide) (e57 lpK jnK dj)
def px (_:Lp) (_:Jn) (eo:t54) (fH:t53) (gw:t55) (dj:t56) (gl:t57) (x0:(List Int)×List ((List Int)×Int×Int)) (x1:List (Int×Int)):Option (Bool×Int×Unit) :=
 bif decide (0<=(↑x0.1.length:Int))&&eh (Int.toNat (↑x0.1.length:Int)) 8 then ah (fH x0 x1 (List.replicate (Int.toNat (↑x0.1.length:Int)) 0)) fun (t:Bool×Int×PUnit) =>
 let v5:Bool:=!t.1||t.1;bif !decide (t.2.1=0) then some (false,t.2.1,PUnit.unit) else ah (gw x0) fun (t_1:List Int)=>ah (eo t_1 x1) fun (t_2:(Int×Int)×Int×PUnit)=>bif !decide (t_2.2.1=0) then some (false,t_2.2.1,PUnit.unit) else bif v5 then ah (bif t.1 then dj t_2.1 else some 0) fun (t_3:Int) =>
 let v9:Bool:=bif t.1 then decide (t_3>0) else false;
 let v10:Bool:=!v9||v9;bif v5 then bif v5 then bif v10&&v10 then ah (bif v9 then gl x0 x1 else some false) fun (t:Bool)=>bif v10 then some (bif v9 then t else false,0,PUnit.unit) else none else none else none else none else none else none
def eE (x0:(List Int)×List ((List Int)×Int×Int)) (x1:List (Int×Int)):Option (Bool×Int×Unit):=px lpK jnK eo fH gw dj gl x0 x1
abbrev t18:=((List Int)×List ((List Int)×Int×Int))->(List (Int×Int))->Option (Bool×Int×Unit)
def k18 (eE:t18):Ctr:=⟨[T32,(.sl T49)],[],[],.tup [.bool,i64],fun x _ _=>eE x.1 x.2.1⟩
def c18:Ctr:=k18 eE
theorem e18 (lp:Lp) (jn:Jn) (eo:t54) (fH:t53) (gw:t55) (dj:t56) (gl:t57):∀(x:TsS c18.as) (F:TsF c18.fs) (y:TsS c18.cs),px lp jn eo fH gw dj gl x.1 x.2.1=bv lp jn (cx [(57,⟨[T32,(.sl T49)],[],[],.one .bool,fun x _ _=>gl x.1 x.2.1⟩),(56,k56 dj),(55,⟨[T32],[],[],.one (.sl i64),fun x _ _=>gw x.1⟩),(53,k53 fH),(54,k54 eo)] [(134,a7)]) ak 4 18 f18 c18 x F y:=fun x F y=>by kernel_rfl
theorem UK:c18.ok prog 18:=Ctr.of_den (an (aa (aa (aa (aa (aa (ba) (by kernel_rfl) RL) (by kernel_rfl) UQ) (by kernel_rfl) U4) (by kernel_rfl) Tl) (by kernel_rfl) T1)) aJ (hl:=ak) (d:=4) func18 rfl (by decide) (e18 lpK jnK eo fH gw dj gl)
def j9 (_:Lp) (_:Jn) (aR:t11) (a9:t12) (aY:t9) (br:t10) (bM:t13) (io:t14) (au:t15) (bo:t16) (jB:t17) (eE:t18) (x0:(List (ByteArray×Int))×List (ByteArray×(List (ByteArray×Int×Int×Int))×Bool)) (x1:List (Int×Int)):Option Bool :=
 ah aY fun (t:Bool)=>bif !t then some false else ah (br x0 x1) fun (t:Bool)=>bif !t then some true else ah (aR x0) fun (t:(List Int×List (List Int×Int×Int))×Int×PUnit)=>ah (a9 x0 x1) fun (t_1:Bool×Int×PUnit) =>
 let v8:Bool:=!t_1.1;
 let v9:Bool:=!v8||v8;
 let v10:Bool:=decide (t_1.2.1=1);ah (bM x0) fun (t_2:Bool)=>bif !t_2 then ah (io t.1 ([],[])) fun (t_3:Bool) =>
 let v13:Bool:=!t_3||t_3;
 let v14:Bool:=bif t_3 then decide (t.2.1=1) else false;
 let v15:Bool:=bif v14 then v8 else false;
 let v16:Bool:=!v14||v14;
 let v17:Bool:=!v15||v15;bif v13 then bif v13 then bif v16 then bif v16 then bif v17 then bif v17 then some (bif v15 then v10 else false) else none else none else none else none else none else none else ah (bo x0) fun (t_3:List Int)=>ah (au x0 t_3) fun (t_4:List Int×List (List Int×Int×Int))=>ah (io t.1 t_4) fun (t_5:Bool) =>
 let v15:Bool:=!t_5;
 let v16:Bool:=!v15;bif !v16||v16 then bif v15||v16 then bif bif v15 then true else !decide (t.2.1=0) then some false else ah (jB x1) fun (t:Bool)=>bif !t then bif v9 then bif v9 then some (bif v8 then v10 else false) else none else none else bif !decide ((↑x1.length:Int)=(↑x0.1.length:Int)) then bif v9 then bif v9 then some (bif v8 then decide (t_1.2.1=3) else false) else none else none else ah (eE t_4 x1) fun (t:Bool×Int×PUnit) =>
 let v19:Bool:=decide (t_1.1=t.1);
 let v20:Bool:=!v19||v19;bif v20&&v20 then bif v20 then some (bif v19 then decide (t_1.2.1=t.2.1) else false) else none else none else none else none
def ry (x0:(List (ByteArray×Int))×List (ByteArray×(List (ByteArray×Int×Int×Int))×Bool)) (x1:List (Int×Int)):Option Bool:=j9 lpK jnK aR a9 aY br bM io au bo jB eE x0 x1
def c3:Ctr:=⟨[T25,(.sl T49)],[],[],.one .bool,fun x _ _=>ry x.1 x.2.1⟩
theorem e3 (lp:Lp) (jn:Jn) (aR:t11) (a9:t12) (aY:t9) (br:t10) (bM:t13) (io:t14) (au:t15) (bo:t16) (jB:t17) (eE:t18):∀(x:TsS c3.as) (F:TsF c3.fs) (y:TsS c3.cs),j9 lp jn aR a9 aY br bM io au bo jB eE x.1 x.2.1=bv lp jn (cx [(18,k18 eE),(17,⟨[(.sl T49)],[],[],.one .bool,fun x _ _=>jB x.1⟩),(16,k16 bo),(15,k15 au),(14,⟨[T32,T32],[],[],.one .bool,fun x _ _=>io x.1 x.2.1⟩),(13,k13 bM),(10,k10 br),(9,k9 aY),(12,k12 a9),(11,k11 aR)] [(134,a7)]) ak 4 3 f3 c3 x F y:=fun x F y=>by kernel_rfl
theorem ok3:c3.ok prog 3:=Ctr.of_den (an (aa (aa (aa (aa (aa (aa (aa (aa (aa (aa (ba) (by kernel_rfl) Qw) (by kernel_rfl) TS) (by kernel_rfl) ok9) (by kernel_rfl) Si) (by kernel_rfl) Sn) (by kernel_rfl) VC) (by kernel_rfl) ED) (by kernel_rfl) Pf) (by kernel_rfl) Vd) (by kernel_rfl) UK)) aJ (hl:=ak) (d:=4) func3 rfl (by decide) (e3 lpK jnK aR a9 aY br bM io au bo jB eE)
def oW (_:Lp) (_:Jn) (x0:Int):Option Int :=
 some (if IntKind.wrap .i64 (0 - x0)>x0 then IntKind.wrap .i64 (0 - x0) else x0)
def eG (x0:Int):Option Int:=oW lpK jnK x0
abbrev Sg:=(Int)->Option (Int)
def LH:Ctr:=⟨[i64],[],[],.one i64,fun x _ _=>eG x.1⟩
theorem Vj (lp:Lp) (jn:Jn):∀(x:TsS LH.as) (F:TsF LH.fs) (y:TsS LH.cs),oW lp jn x.1=bv lp jn (cx [] [(134,a7)]) ak 4 163 f163 LH x F y:=fun x F y=>by kernel_rfl
theorem Rq:LH.ok prog 163:=Ctr.of_den (an (ba)) aJ (hl:=ak) (d:=4) func163 rfl (by decide) (Vj lpK jnK)
def lr (lp:Lp) (_:Jn) (eG:Sg) (x0:(List Int)×List ((List Int)×Int×Int)):Option (List Int) :=
 lp (Int×Int×PUnit) (List Int) (fun (again:Int×Int×PUnit->Option (List Int)) (x:Int×Int×PUnit)=>bif decide (x.2.1<(↑x0.1.length:Int)) then bif inB x.2.1 x0.1.length then ah (eG (x0.1.getD x.2.1.toNat 0)) fun (t:Int)=>again (IntKind.wrap .i64 (x.1+t),IntKind.wrap IntKind.i64 (x.2.1+1),PUnit.unit) else none else lp (List Int×Int×PUnit) (List Int) (fun (again:List Int×Int×PUnit->Option (List Int)) (x:List Int×Int × PUnit) =>
 let v7:Bool:=inB x.2.1 x0.2.length;
 let v8:List Int×Int×Int:=x0.2.getD x.2.1.toNat ([],0,0);bif decide (x.2.1<(↑x0.2.length:Int)) then bif v7 then ah (eG v8.2.2) fun (t:Int)=>lp (Int×Int×PUnit) (List Int) (fun (again_1:Int×Int×PUnit->Option (List Int)) (x_1:Int×Int×PUnit)=>bif decide (x_1.2.1 < (↑x0.1.length:Int)) then bif v7 then bif inB x_1.2.1 v8.1.length then ah (eG (v8.1.getD x_1.2.1.toNat 0)) fun (t:Int) => again_1 (IntKind.wrap .i64 (x_1.1+t),IntKind.wrap .i64 (x_1.2.1+1),PUnit.unit) else none else none else bif eh (List.length x.1+1) (8 : Nat) then again (x.1++[x_1.1],IntKind.wrap .i64 (x.2.1+1),PUnit.unit) else none) (IntKind.wrap .i64 (1+t),0,PUnit.unit) else none else some x.1) ([x.1],0,PUnit.unit)) (1,0,PUnit.unit)
def b7 (x0:(List Int)×List ((List Int)×Int×Int)):Option (List Int):=lr lpK jnK eG x0
abbrev Jp:=((List Int)×List ((List Int)×Int×Int))->Option (List Int)
def Qo (b7:Jp):Ctr:=⟨[T32],[],[],.one (.sl i64),fun x _ _=>b7 x.1⟩
def LK:Ctr:=Qo b7
theorem VU (lp:Lp) (jn:Jn) (eG:Sg):∀(x:TsS LK.as) (F:TsF LK.fs) (y:TsS LK.cs),lr lp jn eG x.1=bv lp jn (cx [(163,⟨[i64],[],[],.one i64,fun x _ _=>eG x.1⟩)] [(134,a7)]) ak 4 118 f118 LK x F y:=fun x F y=>by kernel_rfl
theorem Pn:LK.ok prog 118:=Ctr.of_den (an (aa (ba) (by kernel_rfl) Rq)) aJ (hl:=ak) (d:=4) func118 rfl (by decide) (VU lpK jnK eG)
def li (lp:Lp) (_:Jn) (x0:List Int) (x1:Int):Option (Int×Bool×Unit) :=
 lp (Int×Int×PUnit) (Int×Bool×PUnit) (fun (again:Int×Int×PUnit->Option (Int×Bool×PUnit)) (x:Int×Int×PUnit) =>
 let v6:Bool:=inB x.2.1 x0.length;bif decide (x.2.1<(↑x0.length:Int)) then bif v6 then bif nzB x.1 then bif decide (x0.getD x.2.1.toNat (0 : Int)>IntKind.wrap .i64 (Int.tdiv x1 x.1)) then some (0,false,PUnit.unit) else bif v6 then again (IntKind.wrap .i64 (x.1*x0.getD x.2.1.toNat 0),IntKind.wrap .i64 (x.2.1+1),PUnit.unit) else none else none else none else some (x.1,true,PUnit.unit)) (1,0,PUnit.unit)
def b6 (x0:List Int) (x1:Int):Option (Int×Bool×Unit):=li lpK jnK x0 x1
abbrev Mp:=(List Int)->(Int)->Option (Int×Bool×Unit)
def Qk (b6:Mp):Ctr:=⟨[(.sl i64),i64],[],[],.tup [i64,.bool],fun x _ _=>b6 x.1 x.2.1⟩
def KA:Ctr:=Qk b6
theorem Ub (lp:Lp) (jn:Jn):∀(x:TsS KA.as) (F:TsF KA.fs) (y:TsS KA.cs),li lp jn x.1 x.2.1=bv lp jn (cx [] [(134,a7)]) ak 4 119 f119 KA x F y:=fun x F y=>by kernel_rfl
theorem PC:KA.ok prog 119:=Ctr.of_den (an (ba)) aJ (hl:=ak) (d:=4) func119 rfl (by decide) (Ub lpK jnK)
def oQ (lp:Lp) (_:Jn) (b7:Jp) (b6:Mp) (x0:(List Int)×List ((List Int)×Int×Int)):Option Bool :=
 ah (b7 x0) fun (t:List Int)=>ah (b6 t 17592186044416) fun (t_1:Int×Bool×PUnit) =>
 let v5:Bool:=!t_1.2.1;
 let v6:Int:=IntKind.wrap .i64 (Int.tdiv 144115188075855872 t_1.1);
 let v7:Bool:=v5||t_1.2.1;lp (Int×Int×PUnit) Bool (fun (again:Int×Int×PUnit->Option Bool) (x:Int×Int×PUnit)=>bif decide (x.2.1<(↑t.length:Int)) then bif inB x.2.1 t.length then again (if t.getD x.2.1.toNat 0>x.1 then t.getD x.2.1.toNat 0 else x.1,IntKind.wrap IntKind.i64 (x.2.1+1),PUnit.unit) else none else bif v7&&(v5||nzB t_1.1) then bif v7&&v7 then bif v7 then some (bif t_1.2.1 then decide (x.1<=v6) else false) else none else none else none) (0,0,PUnit.unit)
def cX (x0:(List Int)×List ((List Int)×Int×Int)):Option Bool:=oQ lpK jnK b7 b6 x0
abbrev t63:=((List Int)×List ((List Int)×Int×Int))->Option (Bool)
def k63 (cX:t63):Ctr:=⟨[T32],[],[],.one .bool,fun x _ _=>cX x.1⟩
def c63:Ctr:=k63 cX
theorem e63 (lp:Lp) (jn:Jn) (b7:Jp) (b6:Mp):∀(x:TsS c63.as) (F:TsF c63.fs) (y:TsS c63.cs),oQ lp jn b7 b6 x.1=bv lp jn (cx [(119,Qk b6),(118,Qo b7)] [(134,a7)]) ak 4 63 f63 c63 x F y:=fun x F y=>by kernel_rfl
theorem SE:c63.ok prog 63:=Ctr.of_den (an (aa (aa (ba) (by kernel_rfl) Pn) (by kernel_rfl) PC)) aJ (hl:=ak) (d:=4) func63 rfl (by decide) (e63 lpK jnK b7 b6)
def oU (_:Lp) (_:Jn) (au:t15) (bo:t16) (cX:t63) (x0:(List (ByteArray×Int))×List (ByteArray×(List (ByteArray×Int×Int×Int))×Bool)):Option Bool :=
 ah (bo x0) fun (t:List Int)=>ah (au x0 t) fun (t:List Int×List (List Int×Int×Int))=>ah (cX t) fun (t:Bool)=>some t
def gF (x0:(List (ByteArray×Int))×List (ByteArray×(List (ByteArray×Int×Int×Int))×Bool)):Option Bool:=oU lpK jnK au bo cX x0
abbrev t23:=((List (ByteArray×Int))×List (ByteArray×(List (ByteArray×Int×Int×Int))×Bool))->Option (Bool)
def c23:Ctr:=⟨[T25],[],[],.one .bool,fun x _ _=>gF x.1⟩
theorem e23 (lp:Lp) (jn:Jn) (au:t15) (bo:t16) (cX:t63):∀(x:TsS c23.as) (F:TsF c23.fs) (y:TsS c23.cs),oU lp jn au bo cX x.1=bv lp jn (cx [(63,k63 cX),(16,k16 bo),(15,k15 au)] [(134,a7)]) ak 4 23 f23 c23 x F y:=fun x F y=>by kernel_rfl
theorem Vu:c23.ok prog 23:=Ctr.of_den (an (aa (aa (aa (ba) (by kernel_rfl) ED) (by kernel_rfl) Pf) (by kernel_rfl) SE)) aJ (hl:=ak) (d:=4) func23 rfl (by decide) (e23 lpK jnK au bo cX)
def oI (_:Lp) (_:Jn) (x0:(List (ByteArray×Int))×List (ByteArray×(List (ByteArray×Int×Int×Int))×Bool)) (x1:Int) (x2:Int):Option (List Int) :=
 bif decide (0<=(↑x0.2.length:Int))&&eh (Int.toNat (↑x0.2.length:Int)) 8 then bif inB x1 (Int.toNat (↑x0.2.length:Int)) then bif Nat.ble (Nat.succ x1.toNat) (Int.toNat (↑x0.2.length:Int)) then some (List.set (List.replicate (Int.toNat (↑x0.2.length:Int)) 0) x1.toNat x2) else none else none else none
def bS (x0:(List (ByteArray×Int))×List (ByteArray×(List (ByteArray×Int×Int×Int))×Bool)) (x1:Int) (x2:Int):Option (List Int):=oI lpK jnK x0 x1 x2
abbrev t64:=((List (ByteArray×Int))×List (ByteArray×(List (ByteArray×Int×Int×Int))×Bool))->(Int)->(Int)->Option (List Int)
def k64 (bS:t64):Ctr:=⟨[T25,i64,i64],[],[],.one (.sl i64),fun x _ _=>bS x.1 x.2.1 x.2.2.1⟩
def c64:Ctr:=k64 bS
theorem e64 (lp:Lp) (jn:Jn):∀(x:TsS c64.as) (F:TsF c64.fs) (y:TsS c64.cs),oI lp jn x.1 x.2.1 x.2.2.1=bv lp jn (cx [] [(134,a7)]) ak 4 64 f64 c64 x F y:=fun x F y=>by kernel_rfl
theorem Re:c64.ok prog 64:=Ctr.of_den (an (ba)) aJ (hl:=ak) (d:=4) func64 rfl (by decide) (e64 lpK jnK)
def kZ (_:Lp) (_:Jn) (au:t15) (cX:t63) (bS:t64) (x0:(List (ByteArray×Int))×List (ByteArray×(List (ByteArray×Int×Int×Int))×Bool)):Option Bool :=
 ah (bS x0 0 1) fun (t:List Int)=>ah (au x0 t) fun (t:List Int×List (List Int×Int×Int))=>ah (cX t) fun (t:Bool)=>some t
def eC (x0:(List (ByteArray×Int))×List (ByteArray×(List (ByteArray×Int×Int×Int))×Bool)):Option Bool:=kZ lpK jnK au cX bS x0
abbrev t24:=((List (ByteArray×Int))×List (ByteArray×(List (ByteArray×Int×Int×Int))×Bool))->Option (Bool)
def c24:Ctr:=⟨[T25],[],[],.one .bool,fun x _ _=>eC x.1⟩
theorem e24 (lp:Lp) (jn:Jn) (au:t15) (cX:t63) (bS:t64):∀(x:TsS c24.as) (F:TsF c24.fs) (y:TsS c24.cs),kZ lp jn au cX bS x.1=bv lp jn (cx [(64,k64 bS),(63,k63 cX),(15,k15 au)] [(134,a7)]) ak 4 24 f24 c24 x F y:=fun x F y=>by kernel_rfl
theorem VB:c24.ok prog 24:=Ctr.of_den (an (aa (aa (aa (ba) (by kernel_rfl) ED) (by kernel_rfl) SE) (by kernel_rfl) Re)) aJ (hl:=ak) (d:=4) func24 rfl (by decide) (e24 lpK jnK au cX bS)
def nn (_:Lp) (_:Jn) (b7:Jp) (b6:Mp) (x0:(List Int)×List ((List Int)×Int×Int)):Option Bool :=
 ah (b7 x0) fun (t:List Int)=>ah (b6 t 536870912) fun (t:Int×Bool×PUnit)=>some t.2.1
def fO (x0:(List Int)×List ((List Int)×Int×Int)):Option Bool:=nn lpK jnK b7 b6 x0
abbrev t65:=((List Int)×List ((List Int)×Int×Int))->Option (Bool)
def c65:Ctr:=⟨[T32],[],[],.one .bool,fun x _ _=>fO x.1⟩
theorem e65 (lp:Lp) (jn:Jn) (b7:Jp) (b6:Mp):∀(x:TsS c65.as) (F:TsF c65.fs) (y:TsS c65.cs),nn lp jn b7 b6 x.1=bv lp jn (cx [(119,Qk b6),(118,Qo b7)] [(134,a7)]) ak 4 65 f65 c65 x F y:=fun x F y=>by kernel_rfl
theorem U1:c65.ok prog 65:=Ctr.of_den (an (aa (aa (ba) (by kernel_rfl) Pn) (by kernel_rfl) PC)) aJ (hl:=ak) (d:=4) func65 rfl (by decide) (e65 lpK jnK b7 b6)
def m9 (_:Lp) (_:Jn) (au:t15) (bo:t16) (fO:t65) (x0:(List (ByteArray×Int))×List (ByteArray×(List (ByteArray×Int×Int×Int))×Bool)):Option Bool :=
 ah (bo x0) fun (t:List Int)=>ah (au x0 t) fun (t:List Int×List (List Int×Int×Int))=>ah (fO t) fun (t:Bool)=>some t
def fJ (x0:(List (ByteArray×Int))×List (ByteArray×(List (ByteArray×Int×Int×Int))×Bool)):Option Bool:=m9 lpK jnK au bo fO x0
abbrev t25:=((List (ByteArray×Int))×List (ByteArray×(List (ByteArray×Int×Int×Int))×Bool))->Option (Bool)
def c25:Ctr:=⟨[T25],[],[],.one .bool,fun x _ _=>fJ x.1⟩
theorem e25 (lp:Lp) (jn:Jn) (au:t15) (bo:t16) (fO:t65):∀(x:TsS c25.as) (F:TsF c25.fs) (y:TsS c25.cs),m9 lp jn au bo fO x.1=bv lp jn (cx [(65,⟨[T32],[],[],.one .bool,fun x _ _=>fO x.1⟩),(16,k16 bo),(15,k15 au)] [(134,a7)]) ak 4 25 f25 c25 x F y:=fun x F y=>by kernel_rfl
theorem VT:c25.ok prog 25:=Ctr.of_den (an (aa (aa (aa (ba) (by kernel_rfl) ED) (by kernel_rfl) Pf) (by kernel_rfl) U1)) aJ (hl:=ak) (d:=4) func25 rfl (by decide) (e25 lpK jnK au bo fO)
def np (lp:Lp) (_:Jn) (x0:List Nat×List (Option (List Int))) (x1:List Int) (x2:Int) (x3:Int) (x4:Int) (x5:Int):Option ((List Nat×List (Option (List Int)))×(List Int)×Int×Int×Unit) :=
 bif inB x4 x0.1.length then bif Nat.ble (Nat.succ x4.toNat) x0.1.length then bif inB x5 (List.length (ai x0.2 (x0.1.getD x4.toNat 0))) then bif Nat.ble (Nat.succ x5.toNat) (List.length (ai x0.2 (x0.1.getD x4.toNat 0))) then lp (Int×(List Nat×List (Option (List Int)))×PUnit) ((List Nat × List (Option (List Int)))×List Int×Int×Int×PUnit) (fun (again:Int×(List Nat×List (Option (List Int)))×PUnit->Option ((List Nat×List (Option (List Int)))×List Int × Int×Int×PUnit)) (x:Int×(List Nat×List (Option (List Int)))×PUnit) =>
 let v10:Int:=IntKind.wrap .i64 (x.1+1);
 let v11:(List Nat×List (Option (List Int)))×PUnit:=(x.2.1,PUnit.unit);bif decide (x.1<(↑x.2.1.1.length:Int)) then bif inB x.1 x.2.1.1.length then bif Nat.ble (Nat.succ x.1.toNat) x.2.1.1.length then bif inB x5 (List.length (ai x.2.1.2 (x.2.1.1.getD x.1.toNat (0 : Nat)))) then bif Nat.ble (Nat.succ x5.toNat) (List.length (ai x.2.1.2 (x.2.1.1.getD x.1.toNat 0))) then bif decide (x.1=x4) then again (v10, v11) else lp (Int×(List Nat×List (Option (List Int)))×PUnit) ((List Nat×List (Option (List Int)))×List Int×Int×Int×PUnit) (fun (again_1:Int×(List Nat×List (Option (List Int)))×PUnit->Option ((List Nat×List (Option (List Int)))×List Int×Int×Int×PUnit)) (x_1:Int×(List Nat×List (Option (List Int)))×PUnit) =>
 let v14:Bool:=inB x.1 x_1.2.1.1.length;
 let v15:Bool:=Nat.ble (Nat.succ x.1.toNat) x_1.2.1.1.length;bif v14 then bif v15 then bif fG x_1.2.1.2 (x_1.2.1.1.getD x.1.toNat (0 : Nat)) then bif decide (x_1.1<(↑(List.length (ai x_1.2.1.2 (x_1.2.1.1.getD x.1.toNat 0))):Int)) then bif v14 then bif v15 then bif v14 then bif v15 then bif inB x_1.1 (List.length (ai x_1.2.1.2 (x_1.2.1.1.getD x.1.toNat 0))) then bif Nat.ble (Nat.succ x_1.1.toNat) (List.length (ai x_1.2.1.2 (x_1.2.1.1.getD x.1.toNat 0))) then bif inB x4 x_1.2.1.1.length then bif Nat.ble (Nat.succ x4.toNat) x_1.2.1.1.length then bif inB x_1.1 (List.length (ai x_1.2.1.2 (x_1.2.1.1.getD x4.toNat 0))) then bif Nat.ble (Nat.succ x_1.1.toNat) (List.length (ai x_1.2.1.2 (x_1.2.1.1.getD x4.toNat 0))) then bif nzB x2 then bif inB x_1.1 (List.length (ai x_1.2.1.2 (x_1.2.1.1.getD x.1.toNat 0))) then bif Nat.ble (Nat.succ x_1.1.toNat) (List.length (ai x_1.2.1.2 (x_1.2.1.1.getD x.1.toNat (0 : Nat)))) then again_1 (IntKind.wrap .i64 (x_1.1+1),(x_1.2.1.1,x_1.2.1.2.set (x_1.2.1.1.getD x.1.toNat 0) (some (List.set (ai x_1.2.1.2 (x_1.2.1.1.getD x.1.toNat 0)) x_1.1.toNat (IntKind.wrap .i64 (Int.tdiv (IntKind.wrap .i64 (IntKind.wrap IntKind.i64 (List.getD (ai x_1.2.1.2 (x_1.2.1.1.getD x.1.toNat 0)) x_1.1.toNat 0*List.getD (ai x0.2 (x0.1.getD x4.toNat 0)) x5.toNat 0) - IntKind.wrap .i64 (List.getD (ai x.2.1.2 (x.2.1.1.getD x.1.toNat 0)) x5.toNat 0 * List.getD (ai x_1.2.1.2 (x_1.2.1.1.getD x4.toNat 0)) x_1.1.toNat 0))) x2))))),PUnit.unit) else none else none else none else none else none else none else none else none else none else none else none else none else none else again (v10,x_1.2.1,PUnit.unit) else none else none else none) (0,v11) else none else none else none else none else bif inB x4 x1.length then bif Nat.ble (Nat.succ x4.toNat) x1.length then some (x.2.1,x1.set x4.toNat x5,List.getD (ai x0.2 (x0.1.getD x4.toNat 0)) x5.toNat 0,x3,PUnit.unit) else none else none) (0,x0,PUnit.unit) else none else none else none else none
def cn (x0:List Nat×List (Option (List Int))) (x1:List Int) (x2:Int) (x3:Int) (x4:Int) (x5:Int):Option ((List Nat×List (Option (List Int)))×(List Int)×Int×Int×Unit):=np lpK jnK x0 x1 x2 x3 x4 x5
abbrev KV:=(List Nat×List (Option (List Int)))->(List Int)->(Int)->(Int)->(Int)->(Int)->Option ((List Nat×List (Option (List Int)))×(List Int)×Int×Int×Unit)
def Rb (cn:KV):SCtr:=⟨[.v true [.x (.tab 29 .ref 3 i64),.row 3 i64,.d i64,.d i64],.d i64,.d i64],[(true,[.x (.tab 29 .ref 3 i64),.row 3 i64,.d i64,.d i64])],fun x=>cn x.1 x.2.1 x.2.2.1 x.2.2.2.1 x.2.2.2.2.1 x.2.2.2.2.2.1⟩
def Qb:SCtr:=Rb cn
theorem Vo (lp:Lp) (jn:Jn):∀x:TsR (rhI 0 Qb.ks),np lp jn x.1 x.2.1 x.2.2.1 x.2.2.2.1 x.2.2.2.2.1 x.2.2.2.2.2.1=zJ lp jn (Dn.look []) (cx [] [(134,a7)]) ak 4 120 f120 Qb x:=fun x=>by kernel_rfl
theorem Pq:Qb.ok prog 120:=SCtr.of_den (an (ba)) aJ (jR) (hl:=ak) (d:=4) func120 rfl (by decide) (Vo lpK jnK)
def qy (lp:Lp) (_:Jn) (cn:KV) (x0:List Nat×List (Option (List Int))) (x1:List Int) (x2:Int) (x3:Int):Option ((List Nat×List (Option (List Int)))×(List Int)×Int×Int×Bool×Unit) :=
 
 let v6:Int:=IntKind.wrap .i64 ((↑x0.1.length:Int) - 1);lp ((List Nat×List (Option (List Int)))×List Int×Int×Int×(List Nat×List (Option (List Int)))×List Int×Int×Int×PUnit) ((List Nat×List (Option (List Int)))×List Int×Int×Int×Bool×PUnit) (fun (again:(List Nat×List (Option (List Int)))×List Int×Int × Int×(List Nat×List (Option (List Int)))×List Int×Int×Int×PUnit->Option ((List Nat×List (Option (List Int)))×List Int×Int×Int×Bool×PUnit)) (x:(List Nat × List (Option (List Int)))×List Int×Int×Int×(List Nat×List (Option (List Int)))×List Int×Int×Int×PUnit)=>lp (Int×PUnit) ((List Nat×List (Option (List Int))) × List Int×Int×Int×Bool×PUnit) (fun (again_1:Int×PUnit->Option ((List Nat×List (Option (List Int)))×List Int×Int×Int×Bool×PUnit)) (x_1:Int×PUnit) =>
 let v11:Bool:=decide (x_1.1<x.2.2.2.1);
 let v12:Bool:=!v11;
 let v13:Bool:=v12||v11;bif v13 then bif v13&&(v13&&(v12||inB v6 x.1.1.length)) then bif v13&&(v12||Nat.ble (Nat.succ v6.toNat) x.1.1.length) then bif v13&&(v13&&(v12||inB x_1.1 (List.length (ai x.1.2 (x.1.1.getD v6.toNat 0))))) then bif v13&&(v12||Nat.ble (Nat.succ x_1.1.toNat) (List.length (ai x.1.2 (x.1.1.getD v6.toNat 0)))) then bif v13 then bif v13 then bif bif v11 then decide (List.getD (ai x.1.2 (x.1.1.getD v6.toNat 0)) x_1.1.toNat 0>=0) else false then again_1 (IntKind.wrap .i64 (x_1.1+1),PUnit.unit) else bif decide (x_1.1=x.2.2.2.1) then some (x.1,x.2.1,x.2.2.1,x.2.2.2.1,true,PUnit.unit) else bif inB 0 x.1.1.length then bif Nat.ble 1 x.1.1.length then bif fG x.1.2 (x.1.1.getD 0 0) then lp (Int×Int×PUnit) ((List Nat×List (Option (List Int)))×List Int×Int×Int × Bool×PUnit) (fun (again_2:Int×Int×PUnit->Option ((List Nat×List (Option (List Int)))×List Int×Int×Int×Bool×PUnit)) (x_2:Int×Int×PUnit) =>
 let v16:Int×PUnit:=(IntKind.wrap .i64 (x_2.2.1+1),PUnit.unit);
 let v17:Bool:=decide (x_2.1<0);
 let v18:Bool:=inB x_2.1 x.1.1.length;
 let v19:Bool:=Nat.ble (Nat.succ x_2.1.toNat) x.1.1.length;
 let v20:Bool:=inB x_2.2.1 x.1.1.length;
 let v21:Bool:=Nat.ble (Nat.succ x_2.2.1.toNat) x.1.1.length;bif decide (x_2.2.1<v6) then bif v20 then bif v21 then bif inB x_1.1 (List.length (ai x.1.2 (x.1.1.getD x_2.2.1.toNat 0))) then bif Nat.ble (Nat.succ x_1.1.toNat) (List.length (ai x.1.2 (x.1.1.getD x_2.2.1.toNat 0))) then bif decide (List.getD (ai x.1.2 (x.1.1.getD x_2.2.1.toNat 0)) x_1.1.toNat 0<=0) then again_2 (x_2.1,v16) else bif v17 then again_2 (x_2.2.1,v16) else bif v20 then bif v21 then bif inB (IntKind.wrap .i64 ((↑(List.length (ai x.1.2 (x.1.1.getD (0 : Nat) 0))):Int) - 1)) (List.length (ai x.1.2 (x.1.1.getD x_2.2.1.toNat 0))) then bif Nat.ble (Nat.succ (Int.toNat (IntKind.wrap IntKind.i64 ((↑(List.length (ai x.1.2 (x.1.1.getD 0 0))):Int) - 1)))) (List.length (ai x.1.2 (x.1.1.getD x_2.2.1.toNat 0))) then bif v18 then bif v19 then bif inB x_1.1 (List.length (ai x.1.2 (x.1.1.getD x_2.1.toNat 0))) then bif Nat.ble (Nat.succ x_1.1.toNat) (List.length (ai x.1.2 (x.1.1.getD x_2.1.toNat 0))) then bif v18 then bif v19 then bif inB (IntKind.wrap .i64 ((↑(List.length (ai x.1.2 (x.1.1.getD 0 0))):Int) - 1)) (List.length (ai x.1.2 (x.1.1.getD x_2.1.toNat 0))) then bif Nat.ble (Nat.succ (Int.toNat (IntKind.wrap .i64 ((↑(List.length (ai x.1.2 (x.1.1.getD 0 0))):Int) - 1)))) (List.length (ai x.1.2 (x.1.1.getD x_2.1.toNat 0))) then bif v20 then bif v21 then bif inB x_1.1 (List.length (ai x.1.2 (x.1.1.getD x_2.2.1.toNat 0))) then bif Nat.ble (Nat.succ x_1.1.toNat) (List.length (ai x.1.2 (x.1.1.getD x_2.2.1.toNat 0))) then bif (!!decide (IntKind.wrap .i64 (List.getD (ai x.1.2 (x.1.1.getD x_2.2.1.toNat 0)) (Int.toNat (IntKind.wrap .i64 ((↑(List.length (ai x.1.2 (x.1.1.getD 0 0))) : Int) - 1))) 0*List.getD (ai x.1.2 (x.1.1.getD x_2.1.toNat 0)) x_1.1.toNat 0)<IntKind.wrap .i64 (List.getD (ai x.1.2 (x.1.1.getD x_2.1.toNat 0)) (Int.toNat (IntKind.wrap .i64 ((↑(List.length (ai x.1.2 (x.1.1.getD 0 0))):Int) - 1))) 0*List.getD (ai x.1.2 (x.1.1.getD x_2.2.1.toNat 0)) x_1.1.toNat 0))||!decide (IntKind.wrap .i64 (List.getD (ai x.1.2 (x.1.1.getD x_2.2.1.toNat 0)) (Int.toNat (IntKind.wrap .i64 ((↑(List.length (ai x.1.2 (x.1.1.getD 0 0))):Int) - 1))) 0*List.getD (ai x.1.2 (x.1.1.getD x_2.1.toNat 0)) x_1.1.toNat 0)<IntKind.wrap .i64 (List.getD (ai x.1.2 (x.1.1.getD x_2.1.toNat 0)) (Int.toNat (IntKind.wrap .i64 ((↑(List.length (ai x.1.2 (x.1.1.getD 0 (0 : Nat)))):Int) - 1))) 0*List.getD (ai x.1.2 (x.1.1.getD x_2.2.1.toNat 0)) x_1.1.toNat 0)))&&(!!decide (IntKind.wrap IntKind.i64 (List.getD (ai x.1.2 (x.1.1.getD x_2.2.1.toNat 0)) (Int.toNat (IntKind.wrap .i64 ((↑(List.length (ai x.1.2 (x.1.1.getD 0 0))):Int) - 1))) 0*List.getD (ai x.1.2 (x.1.1.getD x_2.1.toNat 0)) x_1.1.toNat 0)<IntKind.wrap IntKind.i64 (List.getD (ai x.1.2 (x.1.1.getD x_2.1.toNat 0)) (Int.toNat (IntKind.wrap .i64 ((↑(List.length (ai x.1.2 (x.1.1.getD (0 : Nat) 0))):Int) - 1))) 0*List.getD (ai x.1.2 (x.1.1.getD x_2.2.1.toNat 0)) x_1.1.toNat 0))||!decide (IntKind.wrap .i64 (List.getD (ai x.1.2 (x.1.1.getD x_2.2.1.toNat 0)) (Int.toNat (IntKind.wrap .i64 ((↑(List.length (ai x.1.2 (x.1.1.getD 0 0))):Int) - 1))) 0*List.getD (ai x.1.2 (x.1.1.getD x_2.1.toNat 0)) x_1.1.toNat (0 : Int))<IntKind.wrap .i64 (List.getD (ai x.1.2 (x.1.1.getD x_2.1.toNat 0)) (Int.toNat (IntKind.wrap .i64 ((↑(List.length (ai x.1.2 (x.1.1.getD 0 0))):Int) - 1))) 0*List.getD (ai x.1.2 (x.1.1.getD x_2.2.1.toNat 0)) x_1.1.toNat (0 : Int)))) then bif !!decide (IntKind.wrap .i64 (List.getD (ai x.1.2 (x.1.1.getD x_2.2.1.toNat 0)) (Int.toNat (IntKind.wrap .i64 ((↑(List.length (ai x.1.2 (x.1.1.getD 0 0))):Int) - 1))) 0*List.getD (ai x.1.2 (x.1.1.getD x_2.1.toNat (0 : Nat))) x_1.1.toNat 0)<IntKind.wrap .i64 (List.getD (ai x.1.2 (x.1.1.getD x_2.1.toNat 0)) (Int.toNat (IntKind.wrap .i64 ((↑(List.length (ai x.1.2 (x.1.1.getD 0 0))):Int) - 1))) 0*List.getD (ai x.1.2 (x.1.1.getD x_2.2.1.toNat (0 : Nat))) x_1.1.toNat 0))||!decide (IntKind.wrap .i64 (List.getD (ai x.1.2 (x.1.1.getD x_2.2.1.toNat 0)) (Int.toNat (IntKind.wrap IntKind.i64 ((↑(List.length (ai x.1.2 (x.1.1.getD 0 0))):Int) - 1))) 0*List.getD (ai x.1.2 (x.1.1.getD x_2.1.toNat 0)) x_1.1.toNat 0)<IntKind.wrap .i64 (List.getD (ai x.1.2 (x.1.1.getD x_2.1.toNat 0)) (Int.toNat (IntKind.wrap IntKind.i64 ((↑(List.length (ai x.1.2 (x.1.1.getD 0 0))):Int) - 1))) 0*List.getD (ai x.1.2 (x.1.1.getD x_2.2.1.toNat 0)) x_1.1.toNat 0)) then bif !(!decide (IntKind.wrap .i64 (List.getD (ai x.1.2 (x.1.1.getD x_2.2.1.toNat 0)) (Int.toNat (IntKind.wrap .i64 ((↑(List.length (ai x.1.2 (x.1.1.getD 0 0))):Int) - 1))) 0*List.getD (ai x.1.2 (x.1.1.getD x_2.1.toNat 0)) x_1.1.toNat 0)<IntKind.wrap .i64 (List.getD (ai x.1.2 (x.1.1.getD x_2.1.toNat 0)) (Int.toNat (IntKind.wrap .i64 ((↑(List.length (ai x.1.2 (x.1.1.getD 0 0))):Int) - 1))) 0*List.getD (ai x.1.2 (x.1.1.getD x_2.2.1.toNat 0)) x_1.1.toNat 0))&&decide (IntKind.wrap .i64 (List.getD (ai x.1.2 (x.1.1.getD x_2.2.1.toNat 0)) (Int.toNat (IntKind.wrap .i64 ((↑(List.length (ai x.1.2 (x.1.1.getD 0 0))):Int) - 1))) 0*List.getD (ai x.1.2 (x.1.1.getD x_2.1.toNat 0)) x_1.1.toNat 0)=IntKind.wrap .i64 (List.getD (ai x.1.2 (x.1.1.getD x_2.1.toNat (0 : Nat))) (Int.toNat (IntKind.wrap .i64 ((↑(List.length (ai x.1.2 (x.1.1.getD 0 0))):Int) - 1))) 0*List.getD (ai x.1.2 (x.1.1.getD x_2.2.1.toNat 0)) x_1.1.toNat 0)))||!decide (IntKind.wrap .i64 (List.getD (ai x.1.2 (x.1.1.getD x_2.2.1.toNat 0)) (Int.toNat (IntKind.wrap .i64 ((↑(List.length (ai x.1.2 (x.1.1.getD 0 0))):Int) - 1))) 0*List.getD (ai x.1.2 (x.1.1.getD x_2.1.toNat 0)) x_1.1.toNat 0)<IntKind.wrap .i64 (List.getD (ai x.1.2 (x.1.1.getD x_2.1.toNat 0)) (Int.toNat (IntKind.wrap .i64 ((↑(List.length (ai x.1.2 (x.1.1.getD 0 0))):Int) - 1))) 0*List.getD (ai x.1.2 (x.1.1.getD x_2.2.1.toNat 0)) x_1.1.toNat 0))&&decide (IntKind.wrap .i64 (List.getD (ai x.1.2 (x.1.1.getD x_2.2.1.toNat 0)) (Int.toNat (IntKind.wrap .i64 ((↑(List.length (ai x.1.2 (x.1.1.getD 0 0))):Int) - 1))) 0 * List.getD (ai x.1.2 (x.1.1.getD x_2.1.toNat 0)) x_1.1.toNat 0)=IntKind.wrap .i64 (List.getD (ai x.1.2 (x.1.1.getD x_2.1.toNat 0)) (Int.toNat (IntKind.wrap .i64 ((↑(List.length (ai x.1.2 (x.1.1.getD 0 0))):Int) - 1))) 0 * List.getD (ai x.1.2 (x.1.1.getD x_2.2.1.toNat 0)) x_1.1.toNat 0)) then bif (!(!decide (IntKind.wrap .i64 (List.getD (ai x.1.2 (x.1.1.getD x_2.2.1.toNat 0)) (Int.toNat (IntKind.wrap .i64 ((↑(List.length (ai x.1.2 (x.1.1.getD 0 0))) : Int) - 1))) 0*List.getD (ai x.1.2 (x.1.1.getD x_2.1.toNat 0)) x_1.1.toNat 0)<IntKind.wrap .i64 (List.getD (ai x.1.2 (x.1.1.getD x_2.1.toNat 0)) (Int.toNat (IntKind.wrap .i64 ((↑(List.length (ai x.1.2 (x.1.1.getD 0 0))):Int) - 1))) 0*List.getD (ai x.1.2 (x.1.1.getD x_2.2.1.toNat 0)) x_1.1.toNat 0))&&decide (IntKind.wrap .i64 (List.getD (ai x.1.2 (x.1.1.getD x_2.2.1.toNat 0)) (Int.toNat (IntKind.wrap .i64 ((↑(List.length (ai x.1.2 (x.1.1.getD 0 0))):Int) - 1))) 0*List.getD (ai x.1.2 (x.1.1.getD x_2.1.toNat 0)) x_1.1.toNat 0)=IntKind.wrap .i64 (List.getD (ai x.1.2 (x.1.1.getD x_2.1.toNat 0)) (Int.toNat (IntKind.wrap .i64 ((↑(List.length (ai x.1.2 (x.1.1.getD 0 (0 : Nat)))):Int) - 1))) 0*List.getD (ai x.1.2 (x.1.1.getD x_2.2.1.toNat 0)) x_1.1.toNat 0)))||!decide (IntKind.wrap IntKind.i64 (List.getD (ai x.1.2 (x.1.1.getD x_2.2.1.toNat 0)) (Int.toNat (IntKind.wrap .i64 ((↑(List.length (ai x.1.2 (x.1.1.getD 0 0))):Int) - 1))) 0*List.getD (ai x.1.2 (x.1.1.getD x_2.1.toNat 0)) x_1.1.toNat 0)<IntKind.wrap IntKind.i64 (List.getD (ai x.1.2 (x.1.1.getD x_2.1.toNat 0)) (Int.toNat (IntKind.wrap .i64 ((↑(List.length (ai x.1.2 (x.1.1.getD (0 : Nat) 0))):Int) - 1))) 0*List.getD (ai x.1.2 (x.1.1.getD x_2.2.1.toNat 0)) x_1.1.toNat 0))&&decide (IntKind.wrap .i64 (List.getD (ai x.1.2 (x.1.1.getD x_2.2.1.toNat 0)) (Int.toNat (IntKind.wrap .i64 ((↑(List.length (ai x.1.2 (x.1.1.getD 0 0))):Int) - 1))) 0*List.getD (ai x.1.2 (x.1.1.getD x_2.1.toNat 0)) x_1.1.toNat (0 : Int))=IntKind.wrap .i64 (List.getD (ai x.1.2 (x.1.1.getD x_2.1.toNat 0)) (Int.toNat (IntKind.wrap .i64 ((↑(List.length (ai x.1.2 (x.1.1.getD 0 0))):Int) - 1))) 0*List.getD (ai x.1.2 (x.1.1.getD x_2.2.1.toNat 0)) x_1.1.toNat (0 : Int))))&&((!(!decide (IntKind.wrap .i64 (List.getD (ai x.1.2 (x.1.1.getD x_2.2.1.toNat 0)) (Int.toNat (IntKind.wrap .i64 ((↑(List.length (ai x.1.2 (x.1.1.getD 0 0))):Int) - 1))) 0*List.getD (ai x.1.2 (x.1.1.getD x_2.1.toNat 0)) x_1.1.toNat 0)<IntKind.wrap .i64 (List.getD (ai x.1.2 (x.1.1.getD x_2.1.toNat 0)) (Int.toNat (IntKind.wrap .i64 ((↑(List.length (ai x.1.2 (x.1.1.getD 0 0))):Int) - 1))) 0*List.getD (ai x.1.2 (x.1.1.getD x_2.2.1.toNat 0)) x_1.1.toNat 0))&&decide (IntKind.wrap .i64 (List.getD (ai x.1.2 (x.1.1.getD x_2.2.1.toNat 0)) (Int.toNat (IntKind.wrap .i64 ((↑(List.length (ai x.1.2 (x.1.1.getD 0 0))):Int) - 1))) 0*List.getD (ai x.1.2 (x.1.1.getD x_2.1.toNat (0 : Nat))) x_1.1.toNat 0)=IntKind.wrap .i64 (List.getD (ai x.1.2 (x.1.1.getD x_2.1.toNat 0)) (Int.toNat (IntKind.wrap .i64 ((↑(List.length (ai x.1.2 (x.1.1.getD 0 0))):Int) - 1))) 0*List.getD (ai x.1.2 (x.1.1.getD x_2.2.1.toNat (0 : Nat))) x_1.1.toNat 0)))||!decide (IntKind.wrap .i64 (List.getD (ai x.1.2 (x.1.1.getD x_2.2.1.toNat 0)) (Int.toNat (IntKind.wrap IntKind.i64 ((↑(List.length (ai x.1.2 (x.1.1.getD 0 0))):Int) - 1))) 0*List.getD (ai x.1.2 (x.1.1.getD x_2.1.toNat 0)) x_1.1.toNat 0)<IntKind.wrap .i64 (List.getD (ai x.1.2 (x.1.1.getD x_2.1.toNat 0)) (Int.toNat (IntKind.wrap IntKind.i64 ((↑(List.length (ai x.1.2 (x.1.1.getD 0 0))):Int) - 1))) 0*List.getD (ai x.1.2 (x.1.1.getD x_2.2.1.toNat 0)) x_1.1.toNat 0))&&decide (IntKind.wrap .i64 (List.getD (ai x.1.2 (x.1.1.getD x_2.2.1.toNat 0)) (Int.toNat (IntKind.wrap .i64 ((↑(List.length (ai x.1.2 (x.1.1.getD 0 0))):Int) - 1))) 0*List.getD (ai x.1.2 (x.1.1.getD x_2.1.toNat 0)) x_1.1.toNat 0)=IntKind.wrap .i64 (List.getD (ai x.1.2 (x.1.1.getD x_2.1.toNat 0)) (Int.toNat (IntKind.wrap .i64 ((↑(List.length (ai x.1.2 (x.1.1.getD 0 0))):Int) - 1))) 0*List.getD (ai x.1.2 (x.1.1.getD x_2.2.1.toNat 0)) x_1.1.toNat 0)))&&(!(!decide (IntKind.wrap .i64 (List.getD (ai x.1.2 (x.1.1.getD x_2.2.1.toNat 0)) (Int.toNat (IntKind.wrap .i64 ((↑(List.length (ai x.1.2 (x.1.1.getD 0 0))):Int) - 1))) 0*List.getD (ai x.1.2 (x.1.1.getD x_2.1.toNat 0)) x_1.1.toNat 0)<IntKind.wrap .i64 (List.getD (ai x.1.2 (x.1.1.getD x_2.1.toNat 0)) (Int.toNat (IntKind.wrap .i64 ((↑(List.length (ai x.1.2 (x.1.1.getD 0 0))):Int) - 1))) 0*List.getD (ai x.1.2 (x.1.1.getD x_2.2.1.toNat 0)) x_1.1.toNat 0))&&decide (IntKind.wrap .i64 (List.getD (ai x.1.2 (x.1.1.getD x_2.2.1.toNat 0)) (Int.toNat (IntKind.wrap .i64 ((↑(List.length (ai x.1.2 (x.1.1.getD 0 0))):Int) - 1))) 0 * List.getD (ai x.1.2 (x.1.1.getD x_2.1.toNat 0)) x_1.1.toNat 0)=IntKind.wrap .i64 (List.getD (ai x.1.2 (x.1.1.getD x_2.1.toNat 0)) (Int.toNat (IntKind.wrap .i64 ((↑(List.length (ai x.1.2 (x.1.1.getD 0 0))):Int) - 1))) 0 * List.getD (ai x.1.2 (x.1.1.getD x_2.2.1.toNat 0)) x_1.1.toNat 0)))||inB x_2.2.1 x.2.1.length)) then bif (!(!decide (IntKind.wrap .i64 (List.getD (ai x.1.2 (x.1.1.getD x_2.2.1.toNat 0)) (Int.toNat (IntKind.wrap .i64 ((↑(List.length (ai x.1.2 (x.1.1.getD 0 0))):Int) - 1))) 0*List.getD (ai x.1.2 (x.1.1.getD x_2.1.toNat 0)) x_1.1.toNat (0 : Int))<IntKind.wrap .i64 (List.getD (ai x.1.2 (x.1.1.getD x_2.1.toNat 0)) (Int.toNat (IntKind.wrap .i64 ((↑(List.length (ai x.1.2 (x.1.1.getD 0 0))):Int) - 1))) 0*List.getD (ai x.1.2 (x.1.1.getD x_2.2.1.toNat 0)) x_1.1.toNat (0 : Int)))&&decide (IntKind.wrap .i64 (List.getD (ai x.1.2 (x.1.1.getD x_2.2.1.toNat 0)) (Int.toNat (IntKind.wrap .i64 ((↑(List.length (ai x.1.2 (x.1.1.getD 0 0))):Int) - 1))) 0*List.getD (ai x.1.2 (x.1.1.getD x_2.1.toNat 0)) x_1.1.toNat 0)=IntKind.wrap .i64 (List.getD (ai x.1.2 (x.1.1.getD x_2.1.toNat 0)) (Int.toNat (IntKind.wrap .i64 ((↑(List.length (ai x.1.2 (x.1.1.getD 0 0))):Int) - 1))) 0*List.getD (ai x.1.2 (x.1.1.getD x_2.2.1.toNat 0)) x_1.1.toNat 0)))||!decide (IntKind.wrap .i64 (List.getD (ai x.1.2 (x.1.1.getD x_2.2.1.toNat 0)) (Int.toNat (IntKind.wrap .i64 ((↑(List.length (ai x.1.2 (x.1.1.getD 0 0))):Int) - 1))) 0*List.getD (ai x.1.2 (x.1.1.getD x_2.1.toNat (0 : Nat))) x_1.1.toNat 0)<IntKind.wrap .i64 (List.getD (ai x.1.2 (x.1.1.getD x_2.1.toNat 0)) (Int.toNat (IntKind.wrap .i64 ((↑(List.length (ai x.1.2 (x.1.1.getD 0 0))):Int) - 1))) 0*List.getD (ai x.1.2 (x.1.1.getD x_2.2.1.toNat (0 : Nat))) x_1.1.toNat 0))&&decide (IntKind.wrap .i64 (List.getD (ai x.1.2 (x.1.1.getD x_2.2.1.toNat 0)) (Int.toNat (IntKind.wrap IntKind.i64 ((↑(List.length (ai x.1.2 (x.1.1.getD 0 0))):Int) - 1))) 0*List.getD (ai x.1.2 (x.1.1.getD x_2.1.toNat 0)) x_1.1.toNat 0)=IntKind.wrap .i64 (List.getD (ai x.1.2 (x.1.1.getD x_2.1.toNat 0)) (Int.toNat (IntKind.wrap IntKind.i64 ((↑(List.length (ai x.1.2 (x.1.1.getD 0 0))):Int) - 1))) 0*List.getD (ai x.1.2 (x.1.1.getD x_2.2.1.toNat 0)) x_1.1.toNat 0)))&&(!(!decide (IntKind.wrap .i64 (List.getD (ai x.1.2 (x.1.1.getD x_2.2.1.toNat 0)) (Int.toNat (IntKind.wrap .i64 ((↑(List.length (ai x.1.2 (x.1.1.getD 0 0))):Int) - 1))) 0*List.getD (ai x.1.2 (x.1.1.getD x_2.1.toNat 0)) x_1.1.toNat 0)<IntKind.wrap .i64 (List.getD (ai x.1.2 (x.1.1.getD x_2.1.toNat 0)) (Int.toNat (IntKind.wrap .i64 ((↑(List.length (ai x.1.2 (x.1.1.getD 0 0))):Int) - 1))) 0*List.getD (ai x.1.2 (x.1.1.getD x_2.2.1.toNat 0)) x_1.1.toNat 0))&&decide (IntKind.wrap .i64 (List.getD (ai x.1.2 (x.1.1.getD x_2.2.1.toNat 0)) (Int.toNat (IntKind.wrap .i64 ((↑(List.length (ai x.1.2 (x.1.1.getD 0 0))):Int) - 1))) 0*List.getD (ai x.1.2 (x.1.1.getD x_2.1.toNat 0)) x_1.1.toNat 0)=IntKind.wrap .i64 (List.getD (ai x.1.2 (x.1.1.getD x_2.1.toNat (0 : Nat))) (Int.toNat (IntKind.wrap .i64 ((↑(List.length (ai x.1.2 (x.1.1.getD 0 0))):Int) - 1))) 0*List.getD (ai x.1.2 (x.1.1.getD x_2.2.1.toNat 0)) x_1.1.toNat 0)))||Nat.ble (Nat.succ x_2.2.1.toNat) x.2.1.length) then bif !(!decide (IntKind.wrap .i64 (List.getD (ai x.1.2 (x.1.1.getD x_2.2.1.toNat 0)) (Int.toNat (IntKind.wrap .i64 ((↑(List.length (ai x.1.2 (x.1.1.getD 0 0))):Int) - 1))) 0*List.getD (ai x.1.2 (x.1.1.getD x_2.1.toNat 0)) x_1.1.toNat (0 : Int))<IntKind.wrap .i64 (List.getD (ai x.1.2 (x.1.1.getD x_2.1.toNat 0)) (Int.toNat (IntKind.wrap .i64 ((↑(List.length (ai x.1.2 (x.1.1.getD 0 0))):Int) - 1))) 0*List.getD (ai x.1.2 (x.1.1.getD x_2.2.1.toNat 0)) x_1.1.toNat (0 : Int)))&&decide (IntKind.wrap .i64 (List.getD (ai x.1.2 (x.1.1.getD x_2.2.1.toNat 0)) (Int.toNat (IntKind.wrap .i64 ((↑(List.length (ai x.1.2 (x.1.1.getD 0 0))):Int) - 1))) 0*List.getD (ai x.1.2 (x.1.1.getD x_2.1.toNat 0)) x_1.1.toNat 0)=IntKind.wrap .i64 (List.getD (ai x.1.2 (x.1.1.getD x_2.1.toNat 0)) (Int.toNat (IntKind.wrap .i64 ((↑(List.length (ai x.1.2 (x.1.1.getD 0 0))):Int) - 1))) 0*List.getD (ai x.1.2 (x.1.1.getD x_2.2.1.toNat 0)) x_1.1.toNat 0)))||!decide (IntKind.wrap .i64 (List.getD (ai x.1.2 (x.1.1.getD x_2.2.1.toNat 0)) (Int.toNat (IntKind.wrap .i64 ((↑(List.length (ai x.1.2 (x.1.1.getD 0 0))):Int) - 1))) 0*List.getD (ai x.1.2 (x.1.1.getD x_2.1.toNat (0 : Nat))) x_1.1.toNat 0)<IntKind.wrap .i64 (List.getD (ai x.1.2 (x.1.1.getD x_2.1.toNat 0)) (Int.toNat (IntKind.wrap .i64 ((↑(List.length (ai x.1.2 (x.1.1.getD 0 0))):Int) - 1))) 0*List.getD (ai x.1.2 (x.1.1.getD x_2.2.1.toNat (0 : Nat))) x_1.1.toNat 0))&&decide (IntKind.wrap .i64 (List.getD (ai x.1.2 (x.1.1.getD x_2.2.1.toNat 0)) (Int.toNat (IntKind.wrap IntKind.i64 ((↑(List.length (ai x.1.2 (x.1.1.getD 0 0))):Int) - 1))) 0*List.getD (ai x.1.2 (x.1.1.getD x_2.1.toNat 0)) x_1.1.toNat 0)=IntKind.wrap .i64 (List.getD (ai x.1.2 (x.1.1.getD x_2.1.toNat 0)) (Int.toNat (IntKind.wrap IntKind.i64 ((↑(List.length (ai x.1.2 (x.1.1.getD 0 0))):Int) - 1))) 0*List.getD (ai x.1.2 (x.1.1.getD x_2.2.1.toNat 0)) x_1.1.toNat 0)) then bif (!(!decide (IntKind.wrap .i64 (List.getD (ai x.1.2 (x.1.1.getD x_2.2.1.toNat (0 : Nat))) (Int.toNat (IntKind.wrap .i64 ((↑(List.length (ai x.1.2 (x.1.1.getD 0 0))):Int) - 1))) 0*List.getD (ai x.1.2 (x.1.1.getD x_2.1.toNat 0)) x_1.1.toNat 0)<IntKind.wrap .i64 (List.getD (ai x.1.2 (x.1.1.getD x_2.1.toNat (0 : Nat))) (Int.toNat (IntKind.wrap .i64 ((↑(List.length (ai x.1.2 (x.1.1.getD 0 0))):Int) - 1))) 0*List.getD (ai x.1.2 (x.1.1.getD x_2.2.1.toNat 0)) x_1.1.toNat 0))&&decide (IntKind.wrap .i64 (List.getD (ai x.1.2 (x.1.1.getD x_2.2.1.toNat 0)) (Int.toNat (IntKind.wrap .i64 ((↑(List.length (ai x.1.2 (x.1.1.getD 0 0))):Int) - 1))) 0*List.getD (ai x.1.2 (x.1.1.getD x_2.1.toNat 0)) x_1.1.toNat 0)=IntKind.wrap .i64 (List.getD (ai x.1.2 (x.1.1.getD x_2.1.toNat 0)) (Int.toNat (IntKind.wrap .i64 ((↑(List.length (ai x.1.2 (x.1.1.getD 0 0))):Int) - 1))) 0*List.getD (ai x.1.2 (x.1.1.getD x_2.2.1.toNat 0)) x_1.1.toNat 0)))||!decide (IntKind.wrap .i64 (List.getD (ai x.1.2 (x.1.1.getD x_2.2.1.toNat 0)) (Int.toNat (IntKind.wrap .i64 ((↑(List.length (ai x.1.2 (x.1.1.getD 0 0))):Int) - 1))) 0 * List.getD (ai x.1.2 (x.1.1.getD x_2.1.toNat 0)) x_1.1.toNat 0)<IntKind.wrap .i64 (List.getD (ai x.1.2 (x.1.1.getD x_2.1.toNat 0)) (Int.toNat (IntKind.wrap .i64 ((↑(List.length (ai x.1.2 (x.1.1.getD 0 0))):Int) - 1))) 0 * List.getD (ai x.1.2 (x.1.1.getD x_2.2.1.toNat 0)) x_1.1.toNat 0))&&decide (IntKind.wrap .i64 (List.getD (ai x.1.2 (x.1.1.getD x_2.2.1.toNat 0)) (Int.toNat (IntKind.wrap .i64 ((↑(List.length (ai x.1.2 (x.1.1.getD 0 0))):Int) - (1 : Int)))) 0*List.getD (ai x.1.2 (x.1.1.getD x_2.1.toNat 0)) x_1.1.toNat 0)=IntKind.wrap .i64 (List.getD (ai x.1.2 (x.1.1.getD x_2.1.toNat 0)) (Int.toNat (IntKind.wrap .i64 ((↑(List.length (ai x.1.2 (x.1.1.getD 0 0))):Int) - (1 : Int)))) 0*List.getD (ai x.1.2 (x.1.1.getD x_2.2.1.toNat 0)) x_1.1.toNat 0)))&&((!(!decide (IntKind.wrap .i64 (List.getD (ai x.1.2 (x.1.1.getD x_2.2.1.toNat 0)) (Int.toNat (IntKind.wrap .i64 ((↑(List.length (ai x.1.2 (x.1.1.getD 0 0))):Int) - 1))) 0*List.getD (ai x.1.2 (x.1.1.getD x_2.1.toNat 0)) x_1.1.toNat 0)<IntKind.wrap .i64 (List.getD (ai x.1.2 (x.1.1.getD x_2.1.toNat 0)) (Int.toNat (IntKind.wrap .i64 ((↑(List.length (ai x.1.2 (x.1.1.getD 0 (0 : Nat)))):Int) - 1))) 0*List.getD (ai x.1.2 (x.1.1.getD x_2.2.1.toNat 0)) x_1.1.toNat 0))&&decide (IntKind.wrap IntKind.i64 (List.getD (ai x.1.2 (x.1.1.getD x_2.2.1.toNat 0)) (Int.toNat (IntKind.wrap .i64 ((↑(List.length (ai x.1.2 (x.1.1.getD 0 0))):Int) - 1))) 0*List.getD (ai x.1.2 (x.1.1.getD x_2.1.toNat 0)) x_1.1.toNat 0)=IntKind.wrap IntKind.i64 (List.getD (ai x.1.2 (x.1.1.getD x_2.1.toNat 0)) (Int.toNat (IntKind.wrap .i64 ((↑(List.length (ai x.1.2 (x.1.1.getD (0 : Nat) 0))):Int) - 1))) 0*List.getD (ai x.1.2 (x.1.1.getD x_2.2.1.toNat 0)) x_1.1.toNat 0)))||!decide (IntKind.wrap .i64 (List.getD (ai x.1.2 (x.1.1.getD x_2.2.1.toNat 0)) (Int.toNat (IntKind.wrap .i64 ((↑(List.length (ai x.1.2 (x.1.1.getD 0 0))):Int) - 1))) 0*List.getD (ai x.1.2 (x.1.1.getD x_2.1.toNat 0)) x_1.1.toNat (0 : Int))<IntKind.wrap .i64 (List.getD (ai x.1.2 (x.1.1.getD x_2.1.toNat 0)) (Int.toNat (IntKind.wrap .i64 ((↑(List.length (ai x.1.2 (x.1.1.getD 0 0))):Int) - 1))) 0*List.getD (ai x.1.2 (x.1.1.getD x_2.2.1.toNat 0)) x_1.1.toNat (0 : Int)))&&decide (IntKind.wrap .i64 (List.getD (ai x.1.2 (x.1.1.getD x_2.2.1.toNat 0)) (Int.toNat (IntKind.wrap .i64 ((↑(List.length (ai x.1.2 (x.1.1.getD 0 0))):Int) - 1))) 0*List.getD (ai x.1.2 (x.1.1.getD x_2.1.toNat 0)) x_1.1.toNat 0)=IntKind.wrap .i64 (List.getD (ai x.1.2 (x.1.1.getD x_2.1.toNat 0)) (Int.toNat (IntKind.wrap .i64 ((↑(List.length (ai x.1.2 (x.1.1.getD 0 0))):Int) - 1))) 0*List.getD (ai x.1.2 (x.1.1.getD x_2.2.1.toNat 0)) x_1.1.toNat 0)))&&(!(!decide (IntKind.wrap .i64 (List.getD (ai x.1.2 (x.1.1.getD x_2.2.1.toNat 0)) (Int.toNat (IntKind.wrap .i64 ((↑(List.length (ai x.1.2 (x.1.1.getD 0 0))):Int) - 1))) 0*List.getD (ai x.1.2 (x.1.1.getD x_2.1.toNat (0 : Nat))) x_1.1.toNat 0)<IntKind.wrap .i64 (List.getD (ai x.1.2 (x.1.1.getD x_2.1.toNat 0)) (Int.toNat (IntKind.wrap .i64 ((↑(List.length (ai x.1.2 (x.1.1.getD 0 0))):Int) - 1))) 0*List.getD (ai x.1.2 (x.1.1.getD x_2.2.1.toNat (0 : Nat))) x_1.1.toNat 0))&&decide (IntKind.wrap .i64 (List.getD (ai x.1.2 (x.1.1.getD x_2.2.1.toNat 0)) (Int.toNat (IntKind.wrap IntKind.i64 ((↑(List.length (ai x.1.2 (x.1.1.getD 0 0))):Int) - 1))) 0*List.getD (ai x.1.2 (x.1.1.getD x_2.1.toNat 0)) x_1.1.toNat 0)=IntKind.wrap .i64 (List.getD (ai x.1.2 (x.1.1.getD x_2.1.toNat 0)) (Int.toNat (IntKind.wrap IntKind.i64 ((↑(List.length (ai x.1.2 (x.1.1.getD 0 0))):Int) - 1))) 0*List.getD (ai x.1.2 (x.1.1.getD x_2.2.1.toNat 0)) x_1.1.toNat 0)))||inB x_2.1 x.2.1.length)) then bif (!(!decide (IntKind.wrap .i64 (List.getD (ai x.1.2 (x.1.1.getD x_2.2.1.toNat 0)) (Int.toNat (IntKind.wrap .i64 ((↑(List.length (ai x.1.2 (x.1.1.getD 0 0))):Int) - 1))) (0 : Int)*List.getD (ai x.1.2 (x.1.1.getD x_2.1.toNat 0)) x_1.1.toNat 0)<IntKind.wrap .i64 (List.getD (ai x.1.2 (x.1.1.getD x_2.1.toNat 0)) (Int.toNat (IntKind.wrap .i64 ((↑(List.length (ai x.1.2 (x.1.1.getD 0 0))):Int) - 1))) (0 : Int)*List.getD (ai x.1.2 (x.1.1.getD x_2.2.1.toNat 0)) x_1.1.toNat 0))&&decide (IntKind.wrap .i64 (List.getD (ai x.1.2 (x.1.1.getD x_2.2.1.toNat 0)) (Int.toNat (IntKind.wrap .i64 ((↑(List.length (ai x.1.2 (x.1.1.getD 0 0))):Int) - (1 : Int)))) 0*List.getD (ai x.1.2 (x.1.1.getD x_2.1.toNat 0)) x_1.1.toNat 0)=IntKind.wrap .i64 (List.getD (ai x.1.2 (x.1.1.getD x_2.1.toNat 0)) (Int.toNat (IntKind.wrap .i64 ((↑(List.length (ai x.1.2 (x.1.1.getD 0 0))):Int) - (1 : Int)))) 0*List.getD (ai x.1.2 (x.1.1.getD x_2.2.1.toNat 0)) x_1.1.toNat 0)))||!decide (IntKind.wrap .i64 (List.getD (ai x.1.2 (x.1.1.getD x_2.2.1.toNat 0)) (Int.toNat (IntKind.wrap .i64 ((↑(List.length (ai x.1.2 (x.1.1.getD 0 0))) : Int) - 1))) 0*List.getD (ai x.1.2 (x.1.1.getD x_2.1.toNat 0)) x_1.1.toNat 0)<IntKind.wrap .i64 (List.getD (ai x.1.2 (x.1.1.getD x_2.1.toNat 0)) (Int.toNat (IntKind.wrap .i64 ((↑(List.length (ai x.1.2 (x.1.1.getD 0 0))) : Int) - 1))) 0*List.getD (ai x.1.2 (x.1.1.getD x_2.2.1.toNat 0)) x_1.1.toNat 0))&&decide (IntKind.wrap .i64 (List.getD (ai x.1.2 (x.1.1.getD x_2.2.1.toNat 0)) (Int.toNat (IntKind.wrap .i64 ((↑(List.length (ai x.1.2 (x.1.1.getD 0 0))):Int) - 1))) 0*List.getD (ai x.1.2 (x.1.1.getD x_2.1.toNat 0)) x_1.1.toNat 0)=IntKind.wrap .i64 (List.getD (ai x.1.2 (x.1.1.getD x_2.1.toNat 0)) (Int.toNat (IntKind.wrap .i64 ((↑(List.length (ai x.1.2 (x.1.1.getD 0 (0 : Nat)))):Int) - 1))) 0*List.getD (ai x.1.2 (x.1.1.getD x_2.2.1.toNat 0)) x_1.1.toNat 0)))&&(!(!decide (IntKind.wrap IntKind.i64 (List.getD (ai x.1.2 (x.1.1.getD x_2.2.1.toNat 0)) (Int.toNat (IntKind.wrap .i64 ((↑(List.length (ai x.1.2 (x.1.1.getD 0 0))):Int) - 1))) 0*List.getD (ai x.1.2 (x.1.1.getD x_2.1.toNat 0)) x_1.1.toNat 0)<IntKind.wrap IntKind.i64 (List.getD (ai x.1.2 (x.1.1.getD x_2.1.toNat 0)) (Int.toNat (IntKind.wrap .i64 ((↑(List.length (ai x.1.2 (x.1.1.getD (0 : Nat) 0))):Int) - 1))) 0*List.getD (ai x.1.2 (x.1.1.getD x_2.2.1.toNat 0)) x_1.1.toNat 0))&&decide (IntKind.wrap .i64 (List.getD (ai x.1.2 (x.1.1.getD x_2.2.1.toNat 0)) (Int.toNat (IntKind.wrap .i64 ((↑(List.length (ai x.1.2 (x.1.1.getD 0 0))):Int) - 1))) 0*List.getD (ai x.1.2 (x.1.1.getD x_2.1.toNat 0)) x_1.1.toNat (0 : Int))=IntKind.wrap .i64 (List.getD (ai x.1.2 (x.1.1.getD x_2.1.toNat 0)) (Int.toNat (IntKind.wrap .i64 ((↑(List.length (ai x.1.2 (x.1.1.getD 0 0))):Int) - 1))) 0*List.getD (ai x.1.2 (x.1.1.getD x_2.2.1.toNat 0)) x_1.1.toNat (0 : Int))))||Nat.ble (Nat.succ x_2.1.toNat) x.2.1.length) then bif (!(!decide (IntKind.wrap .i64 (List.getD (ai x.1.2 (x.1.1.getD x_2.2.1.toNat 0)) (Int.toNat (IntKind.wrap .i64 ((↑(List.length (ai x.1.2 (x.1.1.getD 0 0))):Int) - 1))) 0*List.getD (ai x.1.2 (x.1.1.getD x_2.1.toNat 0)) x_1.1.toNat 0)<IntKind.wrap .i64 (List.getD (ai x.1.2 (x.1.1.getD x_2.1.toNat 0)) (Int.toNat (IntKind.wrap .i64 ((↑(List.length (ai x.1.2 (x.1.1.getD 0 0))):Int) - 1))) 0*List.getD (ai x.1.2 (x.1.1.getD x_2.2.1.toNat 0)) x_1.1.toNat 0))&&decide (IntKind.wrap .i64 (List.getD (ai x.1.2 (x.1.1.getD x_2.2.1.toNat 0)) (Int.toNat (IntKind.wrap .i64 ((↑(List.length (ai x.1.2 (x.1.1.getD 0 0))):Int) - 1))) 0 * List.getD (ai x.1.2 (x.1.1.getD x_2.1.toNat 0)) x_1.1.toNat 0)=IntKind.wrap .i64 (List.getD (ai x.1.2 (x.1.1.getD x_2.1.toNat 0)) (Int.toNat (IntKind.wrap .i64 ((↑(List.length (ai x.1.2 (x.1.1.getD 0 0))):Int) - 1))) 0 * List.getD (ai x.1.2 (x.1.1.getD x_2.2.1.toNat 0)) x_1.1.toNat 0)))||!decide (IntKind.wrap .i64 (List.getD (ai x.1.2 (x.1.1.getD x_2.2.1.toNat 0)) (Int.toNat (IntKind.wrap .i64 ((↑(List.length (ai x.1.2 (x.1.1.getD 0 0))):Int) - (1 : Int)))) 0*List.getD (ai x.1.2 (x.1.1.getD x_2.1.toNat 0)) x_1.1.toNat 0)<IntKind.wrap .i64 (List.getD (ai x.1.2 (x.1.1.getD x_2.1.toNat 0)) (Int.toNat (IntKind.wrap .i64 ((↑(List.length (ai x.1.2 (x.1.1.getD 0 0))):Int) - (1 : Int)))) 0*List.getD (ai x.1.2 (x.1.1.getD x_2.2.1.toNat 0)) x_1.1.toNat 0))&&decide (IntKind.wrap .i64 (List.getD (ai x.1.2 (x.1.1.getD x_2.2.1.toNat 0)) (Int.toNat (IntKind.wrap .i64 ((↑(List.length (ai x.1.2 (x.1.1.getD 0 0))) : Int) - 1))) 0*List.getD (ai x.1.2 (x.1.1.getD x_2.1.toNat 0)) x_1.1.toNat 0)=IntKind.wrap .i64 (List.getD (ai x.1.2 (x.1.1.getD x_2.1.toNat 0)) (Int.toNat (IntKind.wrap .i64 ((↑(List.length (ai x.1.2 (x.1.1.getD 0 0))) : Int) - 1))) 0*List.getD (ai x.1.2 (x.1.1.getD x_2.2.1.toNat 0)) x_1.1.toNat 0)))&&(!(!decide (IntKind.wrap IntKind.i64 (List.getD (ai x.1.2 (x.1.1.getD x_2.2.1.toNat 0)) (Int.toNat (IntKind.wrap .i64 ((↑(List.length (ai x.1.2 (x.1.1.getD 0 0))):Int) - 1))) 0*List.getD (ai x.1.2 (x.1.1.getD x_2.1.toNat 0)) x_1.1.toNat 0)<IntKind.wrap IntKind.i64 (List.getD (ai x.1.2 (x.1.1.getD x_2.1.toNat 0)) (Int.toNat (IntKind.wrap .i64 ((↑(List.length (ai x.1.2 (x.1.1.getD (0 : Nat) 0))):Int) - 1))) 0*List.getD (ai x.1.2 (x.1.1.getD x_2.2.1.toNat 0)) x_1.1.toNat 0))&&decide (IntKind.wrap .i64 (List.getD (ai x.1.2 (x.1.1.getD x_2.2.1.toNat 0)) (Int.toNat (IntKind.wrap .i64 ((↑(List.length (ai x.1.2 (x.1.1.getD 0 0))):Int) - 1))) 0*List.getD (ai x.1.2 (x.1.1.getD x_2.1.toNat 0)) x_1.1.toNat (0 : Int))=IntKind.wrap .i64 (List.getD (ai x.1.2 (x.1.1.getD x_2.1.toNat 0)) (Int.toNat (IntKind.wrap .i64 ((↑(List.length (ai x.1.2 (x.1.1.getD 0 0))):Int) - 1))) 0*List.getD (ai x.1.2 (x.1.1.getD x_2.2.1.toNat 0)) x_1.1.toNat (0 : Int))))||!decide (IntKind.wrap .i64 (List.getD (ai x.1.2 (x.1.1.getD x_2.2.1.toNat 0)) (Int.toNat (IntKind.wrap .i64 ((↑(List.length (ai x.1.2 (x.1.1.getD 0 0))):Int) - 1))) 0*List.getD (ai x.1.2 (x.1.1.getD x_2.1.toNat 0)) x_1.1.toNat 0)<IntKind.wrap .i64 (List.getD (ai x.1.2 (x.1.1.getD x_2.1.toNat 0)) (Int.toNat (IntKind.wrap .i64 ((↑(List.length (ai x.1.2 (x.1.1.getD 0 0))):Int) - 1))) 0*List.getD (ai x.1.2 (x.1.1.getD x_2.2.1.toNat 0)) x_1.1.toNat 0))&&decide (IntKind.wrap .i64 (List.getD (ai x.1.2 (x.1.1.getD x_2.2.1.toNat 0)) (Int.toNat (IntKind.wrap .i64 ((↑(List.length (ai x.1.2 (x.1.1.getD 0 0))):Int) - 1))) 0*List.getD (ai x.1.2 (x.1.1.getD x_2.1.toNat (0 : Nat))) x_1.1.toNat 0)=IntKind.wrap .i64 (List.getD (ai x.1.2 (x.1.1.getD x_2.1.toNat 0)) (Int.toNat (IntKind.wrap .i64 ((↑(List.length (ai x.1.2 (x.1.1.getD 0 0))):Int) - 1))) 0*List.getD (ai x.1.2 (x.1.1.getD x_2.2.1.toNat (0 : Nat))) x_1.1.toNat 0))) then bif (!!decide (IntKind.wrap .i64 (List.getD (ai x.1.2 (x.1.1.getD x_2.2.1.toNat 0)) (Int.toNat (IntKind.wrap .i64 ((↑(List.length (ai x.1.2 (x.1.1.getD 0 0))):Int) - 1))) 0*List.getD (ai x.1.2 (x.1.1.getD x_2.1.toNat 0)) x_1.1.toNat 0)<IntKind.wrap .i64 (List.getD (ai x.1.2 (x.1.1.getD x_2.1.toNat 0)) (Int.toNat (IntKind.wrap .i64 ((↑(List.length (ai x.1.2 (x.1.1.getD 0 0))):Int) - 1))) 0*List.getD (ai x.1.2 (x.1.1.getD x_2.2.1.toNat 0)) x_1.1.toNat 0))||(!!decide (IntKind.wrap .i64 (List.getD (ai x.1.2 (x.1.1.getD x_2.2.1.toNat (0 : Nat))) (Int.toNat (IntKind.wrap .i64 ((↑(List.length (ai x.1.2 (x.1.1.getD 0 0))):Int) - 1))) 0*List.getD (ai x.1.2 (x.1.1.getD x_2.1.toNat 0)) x_1.1.toNat 0)<IntKind.wrap .i64 (List.getD (ai x.1.2 (x.1.1.getD x_2.1.toNat (0 : Nat))) (Int.toNat (IntKind.wrap .i64 ((↑(List.length (ai x.1.2 (x.1.1.getD 0 0))):Int) - 1))) 0*List.getD (ai x.1.2 (x.1.1.getD x_2.2.1.toNat 0)) x_1.1.toNat 0))||!decide (IntKind.wrap .i64 (List.getD (ai x.1.2 (x.1.1.getD x_2.2.1.toNat 0)) (Int.toNat (IntKind.wrap .i64 ((↑(List.length (ai x.1.2 (x.1.1.getD 0 0))):Int) - 1))) 0*List.getD (ai x.1.2 (x.1.1.getD x_2.1.toNat 0)) x_1.1.toNat 0)<IntKind.wrap .i64 (List.getD (ai x.1.2 (x.1.1.getD x_2.1.toNat 0)) (Int.toNat (IntKind.wrap .i64 ((↑(List.length (ai x.1.2 (x.1.1.getD 0 0))):Int) - 1))) 0*List.getD (ai x.1.2 (x.1.1.getD x_2.2.1.toNat 0)) x_1.1.toNat 0))))&&(!!decide (IntKind.wrap .i64 (List.getD (ai x.1.2 (x.1.1.getD x_2.2.1.toNat 0)) (Int.toNat (IntKind.wrap .i64 ((↑(List.length (ai x.1.2 (x.1.1.getD 0 0))):Int) - 1))) (0 : Int)*List.getD (ai x.1.2 (x.1.1.getD x_2.1.toNat 0)) x_1.1.toNat 0)<IntKind.wrap .i64 (List.getD (ai x.1.2 (x.1.1.getD x_2.1.toNat 0)) (Int.toNat (IntKind.wrap .i64 ((↑(List.length (ai x.1.2 (x.1.1.getD 0 0))):Int) - 1))) (0 : Int)*List.getD (ai x.1.2 (x.1.1.getD x_2.2.1.toNat 0)) x_1.1.toNat 0))||(!decide (IntKind.wrap .i64 (List.getD (ai x.1.2 (x.1.1.getD x_2.2.1.toNat 0)) (Int.toNat (IntKind.wrap .i64 ((↑(List.length (ai x.1.2 (x.1.1.getD 0 0))) : Int) - 1))) 0*List.getD (ai x.1.2 (x.1.1.getD x_2.1.toNat 0)) x_1.1.toNat 0)=IntKind.wrap .i64 (List.getD (ai x.1.2 (x.1.1.getD x_2.1.toNat 0)) (Int.toNat (IntKind.wrap .i64 ((↑(List.length (ai x.1.2 (x.1.1.getD 0 0))):Int) - 1))) 0*List.getD (ai x.1.2 (x.1.1.getD x_2.2.1.toNat 0)) x_1.1.toNat 0))||(!!decide (IntKind.wrap .i64 (List.getD (ai x.1.2 (x.1.1.getD x_2.2.1.toNat 0)) (Int.toNat (IntKind.wrap .i64 ((↑(List.length (ai x.1.2 (x.1.1.getD 0 0))):Int) - 1))) 0*List.getD (ai x.1.2 (x.1.1.getD x_2.1.toNat 0)) x_1.1.toNat 0)<IntKind.wrap .i64 (List.getD (ai x.1.2 (x.1.1.getD x_2.1.toNat 0)) (Int.toNat (IntKind.wrap .i64 ((↑(List.length (ai x.1.2 (x.1.1.getD 0 (0 : Nat)))):Int) - 1))) 0*List.getD (ai x.1.2 (x.1.1.getD x_2.2.1.toNat 0)) x_1.1.toNat 0))||!decide (IntKind.wrap IntKind.i64 (List.getD (ai x.1.2 (x.1.1.getD x_2.2.1.toNat 0)) (Int.toNat (IntKind.wrap .i64 ((↑(List.length (ai x.1.2 (x.1.1.getD 0 0))):Int) - 1))) 0*List.getD (ai x.1.2 (x.1.1.getD x_2.1.toNat 0)) x_1.1.toNat 0)<IntKind.wrap IntKind.i64 (List.getD (ai x.1.2 (x.1.1.getD x_2.1.toNat 0)) (Int.toNat (IntKind.wrap .i64 ((↑(List.length (ai x.1.2 (x.1.1.getD (0 : Nat) 0))):Int) - 1))) 0*List.getD (ai x.1.2 (x.1.1.getD x_2.2.1.toNat 0)) x_1.1.toNat 0))&&decide (IntKind.wrap .i64 (List.getD (ai x.1.2 (x.1.1.getD x_2.2.1.toNat 0)) (Int.toNat (IntKind.wrap .i64 ((↑(List.length (ai x.1.2 (x.1.1.getD 0 0))):Int) - 1))) 0*List.getD (ai x.1.2 (x.1.1.getD x_2.1.toNat 0)) x_1.1.toNat (0 : Int))=IntKind.wrap .i64 (List.getD (ai x.1.2 (x.1.1.getD x_2.1.toNat 0)) (Int.toNat (IntKind.wrap .i64 ((↑(List.length (ai x.1.2 (x.1.1.getD 0 0))):Int) - 1))) 0*List.getD (ai x.1.2 (x.1.1.getD x_2.2.1.toNat 0)) x_1.1.toNat (0 : Int)))))) then bif decide (IntKind.wrap .i64 (List.getD (ai x.1.2 (x.1.1.getD x_2.2.1.toNat 0)) (Int.toNat (IntKind.wrap .i64 ((↑(List.length (ai x.1.2 (x.1.1.getD 0 0))):Int) - 1))) 0*List.getD (ai x.1.2 (x.1.1.getD x_2.1.toNat (0 : Nat))) x_1.1.toNat 0)<IntKind.wrap .i64 (List.getD (ai x.1.2 (x.1.1.getD x_2.1.toNat 0)) (Int.toNat (IntKind.wrap .i64 ((↑(List.length (ai x.1.2 (x.1.1.getD 0 0))):Int) - 1))) 0*List.getD (ai x.1.2 (x.1.1.getD x_2.2.1.toNat (0 : Nat))) x_1.1.toNat 0))||!decide (IntKind.wrap .i64 (List.getD (ai x.1.2 (x.1.1.getD x_2.2.1.toNat 0)) (Int.toNat (IntKind.wrap IntKind.i64 ((↑(List.length (ai x.1.2 (x.1.1.getD 0 0))):Int) - 1))) 0*List.getD (ai x.1.2 (x.1.1.getD x_2.1.toNat 0)) x_1.1.toNat 0)<IntKind.wrap .i64 (List.getD (ai x.1.2 (x.1.1.getD x_2.1.toNat 0)) (Int.toNat (IntKind.wrap IntKind.i64 ((↑(List.length (ai x.1.2 (x.1.1.getD 0 0))):Int) - 1))) 0*List.getD (ai x.1.2 (x.1.1.getD x_2.2.1.toNat 0)) x_1.1.toNat 0)) then bif bif decide (IntKind.wrap .i64 (List.getD (ai x.1.2 (x.1.1.getD x_2.2.1.toNat (0 : Nat))) (Int.toNat (IntKind.wrap .i64 ((↑(List.length (ai x.1.2 (x.1.1.getD 0 0))):Int) - 1))) 0*List.getD (ai x.1.2 (x.1.1.getD x_2.1.toNat 0)) x_1.1.toNat 0)<IntKind.wrap .i64 (List.getD (ai x.1.2 (x.1.1.getD x_2.1.toNat (0 : Nat))) (Int.toNat (IntKind.wrap .i64 ((↑(List.length (ai x.1.2 (x.1.1.getD 0 0))):Int) - 1))) 0*List.getD (ai x.1.2 (x.1.1.getD x_2.2.1.toNat 0)) x_1.1.toNat 0)) then true else bif decide (IntKind.wrap .i64 (List.getD (ai x.1.2 (x.1.1.getD x_2.2.1.toNat 0)) (Int.toNat (IntKind.wrap .i64 ((↑(List.length (ai x.1.2 (x.1.1.getD 0 0))):Int) - 1))) (0 : Int)*List.getD (ai x.1.2 (x.1.1.getD x_2.1.toNat 0)) x_1.1.toNat 0)=IntKind.wrap .i64 (List.getD (ai x.1.2 (x.1.1.getD x_2.1.toNat 0)) (Int.toNat (IntKind.wrap .i64 ((↑(List.length (ai x.1.2 (x.1.1.getD 0 0))):Int) - 1))) (0 : Int)*List.getD (ai x.1.2 (x.1.1.getD x_2.2.1.toNat 0)) x_1.1.toNat 0)) then decide (x.2.1.getD x_2.2.1.toNat (0 : Int)<x.2.1.getD x_2.1.toNat 0) else false then again_2 (x_2.2.1,v16) else again_2 (x_2.1,v16) else none else none else none else none else none else none else none else none else none else none else none else none else none else none else none else none else none else none else none else none else none else none else none else none else none else none else none else none else none else none else none else bif v17 then some (x.1,x.2.1,x.2.2.1,x.2.2.2.1,false,PUnit.unit) else ah (cn x.1 x.2.1 x.2.2.1 x.2.2.2.1 x_2.1 x_1.1) fun (y:(List Nat×List (Option (List Int)))×List Int×Int×Int×PUnit)=>again (y.1,y.2.1, y.2.2.1,y.2.2.2.1,x.2.2.2.2.1,x.2.2.2.2.2.1,x.2.2.2.2.2.2.1,x.2.2.2.2.2.2.2.1,PUnit.unit)) ((-1),(0 : Int),PUnit.unit) else none else none else none else none else none else none else none else none else none else none) (0,PUnit.unit)) (x0,x1,x2,x3,([],[]),[],0, 0,PUnit.unit)
def fQ (x0:List Nat×List (Option (List Int))) (x1:List Int) (x2:Int) (x3:Int):Option ((List Nat×List (Option (List Int)))×(List Int)×Int×Int×Bool×Unit):=qy lpK jnK cn x0 x1 x2 x3
abbrev t66:=(List Nat×List (Option (List Int)))->(List Int)->(Int)->(Int)->Option ((List Nat×List (Option (List Int)))×(List Int)×Int×Int×Bool×Unit)
def k66 (fQ:t66):SCtr:=⟨[.v true [.x (.tab 29 .ref 3 i64),.row 3 i64,.d i64,.d i64]],[(true,[.x (.tab 29 .ref 3 i64),.row 3 i64,.d i64,.d i64]),(false,[.d .bool])],fun x=>fQ x.1 x.2.1 x.2.2.1 x.2.2.2.1⟩
def s66:SCtr:=k66 fQ
theorem e66 (lp:Lp) (jn:Jn) (cn:KV):∀x:TsR (rhI 0 s66.ks),qy lp jn cn x.1 x.2.1 x.2.2.1 x.2.2.2.1=zJ lp jn (Dn.look [(120,Rb cn)]) (cx [] [(134,a7)]) ak 4 66 f66 s66 x:=fun x=>by kernel_rfl
theorem U2:s66.ok prog 66:=SCtr.of_den (an (ba)) aJ (iY Pq (jR)) (hl:=ak) (d:=4) func66 rfl (by decide) (e66 lpK jnK cn)
def nh (lp:Lp) (jn:Jn) (x0:(List Int)×List ((List Int)×Int×Int)):Option ((List Nat×List (Option (List Int)))×(List Int)×Int×Int×Unit) :=
 
 let v3:Int:=IntKind.wrap .i64 ((↑x0.1.length:Int)+(↑x0.2.length:Int));
 let v4:Int:=IntKind.wrap .i64 ((↑x0.1.length:Int)+IntKind.wrap .i64 (2*(↑x0.2.length:Int)));
 let v5:List Int×PUnit:=(List.replicate (Int.toNat (IntKind.wrap .i64 (v4+1))) 0,PUnit.unit);
 let v6:Bool:=decide (0<=IntKind.wrap .i64 (v4+1))&&eh (Int.toNat (IntKind.wrap .i64 (v4+1))) 8;bif v6 then lp (Int×(List Nat × List (Option (List Int)))×List Int×Int×Int×List Int×PUnit) ((List Nat×List (Option (List Int)))×List Int×Int×Int×PUnit) (fun (again:Int×(List Nat×List (Option (List Int)))×List Int×Int×Int×List Int×PUnit->Option ((List Nat×List (Option (List Int)))×List Int×Int×Int×PUnit)) (x:Int×(List Nat×List (Option (List Int)))×List Int×Int×Int×List Int×PUnit) =>
 let v9:Int:=IntKind.wrap .i64 (v3+x.1);
 let v10:Bool:=inB x.1 x0.2.length;
 let v11:Int:=IntKind.wrap .i64 ((↑x0.1.length:Int)+x.1);
 let v12:List Int×Int×Int:=x0.2.getD x.1.toNat ([],0,0);
 let v13:Bool:=eh (List.length x.2.1.1+1) 24;
 let v14:List Nat:=x.2.1.1++[List.length x.2.1.2+0];bif decide (x.1<(↑x0.2.length:Int)) then bif v6 then bif v10 then lp (Int×List Int × PUnit) ((List Nat×List (Option (List Int)))×List Int×Int×Int×PUnit) (fun (again_1:Int×List Int×PUnit->Option ((List Nat×List (Option (List Int)))×List Int×Int × Int×PUnit)) (x_1:Int×List Int×PUnit)=>bif decide (x_1.1<(↑v12.1.length:Int)) then bif inB x_1.1 v12.1.length then bif inB x_1.1 x_1.2.1.length then bif Nat.ble (Nat.succ x_1.1.toNat) x_1.2.1.length then again_1 (IntKind.wrap .i64 (x_1.1+1),x_1.2.1.set x_1.1.toNat (v12.1.getD x_1.1.toNat 0),PUnit.unit) else none else none else none else bif v10 then jn (List Int×PUnit) ((List Nat×List (Option (List Int))) × List Int×Int×Int×PUnit) (fun (x_2:List Int×PUnit)=>bif v10 then jn (List Int×PUnit) ((List Nat×List (Option (List Int)))×List Int×Int×Int×PUnit) (fun (x_3:List Int×PUnit) =>
 let v19:List Int×PUnit:=(x_3.1.set v4.toNat v12.2.2,PUnit.unit);bif v10 then bif inB v4 x_3.1.length then bif Nat.ble (Nat.succ v4.toNat) x_3.1.length then bif v10 then jn (List Int×PUnit) ((List Nat×List (Option (List Int)))×List Int×Int×Int×PUnit) (fun (x_4:List Int×PUnit)=>lp (Int×List Int × PUnit) ((List Nat×List (Option (List Int)))×List Int×Int×Int×PUnit) (fun (again_2:Int×List Int×PUnit->Option ((List Nat×List (Option (List Int)))×List Int×Int × Int×PUnit)) (x_5:Int×List Int×PUnit) =>
 let v23:Bool:=inB x_5.1 x_5.2.1.length;
 let v24:Bool:=Nat.ble (Nat.succ x_5.1.toNat) x_5.2.1.length;bif decide (x_5.1<(↑x_4.1.length:Int)) then bif v23 then bif v24 then bif inB x_5.1 x_4.1.length then bif Nat.ble (Nat.succ x_5.1.toNat) x_4.1.length then bif v23 then bif v24 then again_2 (IntKind.wrap .i64 (x_5.1+1), x_5.2.1.set x_5.1.toNat (IntKind.wrap .i64 (x_5.2.1.getD x_5.1.toNat 0 - x_4.1.getD x_5.1.toNat 0)),PUnit.unit) else none else none else none else none else none else none else bif inB v9 x_4.1.length then bif Nat.ble (Nat.succ v9.toNat) x_4.1.length then bif v13 then bif eh (List.length x.2.2.1+1) 8 then again (IntKind.wrap .i64 (x.1+1),(v14,x.2.1.2++[some (x_4.1.set v9.toNat (1 : Int))]),x.2.2.1++[v9],x.2.2.2.1,x.2.2.2.2.1,x_5.2.1,PUnit.unit) else none else none else none else none) (0,x.2.2.2.2.2.1, PUnit.unit)) fun (j:List Int×PUnit->Option ((List Nat×List (Option (List Int)))×List Int×Int×Int×PUnit))=>bif decide (v12.2.2<0) then lp (Int×List Int × PUnit) ((List Nat×List (Option (List Int)))×List Int×Int×Int×PUnit) (fun (again:Int×List Int×PUnit->Option ((List Nat×List (Option (List Int)))×List Int×Int×Int × PUnit)) (x:Int×List Int×PUnit) =>
 let v23:Bool:=inB x.1 x.2.1.length;
 let v24:Bool:=Nat.ble (Nat.succ x.1.toNat) x.2.1.length;bif decide (x.1<(↑x.2.1.length:Int)) then bif v23 then bif v24 then bif v23 then bif v24 then again (IntKind.wrap .i64 (x.1+1),x.2.1.set x.1.toNat (IntKind.wrap .i64 (0 - x.2.1.getD x.1.toNat 0)), PUnit.unit) else none else none else none else none else j (x.2.1,PUnit.unit)) (0,v19) else j v19 else none else none else none else none) fun (j:List Int×PUnit -> Option ((List Nat×List (Option (List Int)))×List Int×Int×Int×PUnit))=>bif decide (v12.2.1=2) then bif inB v11 x_2.1.length then bif Nat.ble (Nat.succ v11.toNat) x_2.1.length then j (x_2.1.set v11.toNat (-1),PUnit.unit) else none else none else j (x_2.1,PUnit.unit) else none) fun (j:List Int × PUnit->Option ((List Nat×List (Option (List Int)))×List Int×Int×Int×PUnit))=>bif decide (v12.2.1=1) then bif inB v11 x_1.2.1.length then bif Nat.ble (Nat.succ v11.toNat) x_1.2.1.length then j (x_1.2.1.set v11.toNat 1,PUnit.unit) else none else none else j (x_1.2.1,PUnit.unit) else none) (0,v5) else none else none else bif v13 then some ((v14,x.2.1.2++[some x.2.2.2.2.2.1]),x.2.2.1,x.2.2.2.1,x.2.2.2.2.1, PUnit.unit) else none) (0,([],[]),[],1,v3,v5) else none
def eM (x0:(List Int)×List ((List Int)×Int×Int)):Option ((List Nat×List (Option (List Int)))×(List Int)×Int×Int×Unit):=nh lpK jnK x0
abbrev t67:=((List Int)×List ((List Int)×Int×Int))->Option ((List Nat×List (Option (List Int)))×(List Int)×Int×Int×Unit)
def k67 (eM:t67):SCtr:=⟨[.d T32],[(true,[.x (.tab 29 .ref 3 i64),.row 3 i64,.d i64,.d i64])],fun x=>eM x.1⟩
def s67:SCtr:=k67 eM
theorem e67 (lp:Lp) (jn:Jn):∀x:TsR (rhI 0 s67.ks),nh lp jn x.1=zJ lp jn (Dn.look []) (cx [] [(134,a7)]) ak 4 67 f67 s67 x:=fun x=>by kernel_rfl
theorem TW:s67.ok prog 67:=SCtr.of_den (an (ba)) aJ (jR) (hl:=ak) (d:=4) func67 rfl (by decide) (e67 lpK jnK)
def qH (lp:Lp) (_:Jn) (cn:KV) (x0:List Nat×List (Option (List Int))) (x1:List Int) (x2:Int) (x3:Int):Option ((List Nat×List (Option (List Int)))×(List Int)×Int×Int×Unit) :=
 lp (Int×(List Nat×List (Option (List Int)))×List Int×Int×Int×PUnit) ((List Nat×List (Option (List Int)))×List Int×Int×Int×PUnit) (fun (again:Int×(List Nat×List (Option (List Int)))×List Int×Int×Int×PUnit->Option ((List Nat×List (Option (List Int)))×List Int×Int×Int×PUnit)) (x:Int×(List Nat×List (Option (List Int))) × List Int×Int×Int×PUnit) =>
 let v8:Int:=IntKind.wrap .i64 (x.1+1);
 let v9:Bool:=inB x.1 x.2.1.1.length;
 let v10:Bool:=Nat.ble (Nat.succ x.1.toNat) x.2.1.1.length;
 let v11:(List Nat×List (Option (List Int)))×List Int×Int×Int×PUnit:=(x.2.1,x.2.2.1,x.2.2.2.1,x.2.2.2.2.1,PUnit.unit);bif decide (x.1 < (↑x.2.2.1.length:Int)) then bif inB x.1 x.2.2.1.length then bif Nat.ble (Nat.succ x.1.toNat) x.2.2.1.length then bif decide (x.2.2.1.getD x.1.toNat 0<x.2.2.2.2.1) then again (v8,v11) else lp (Int×PUnit) ((List Nat×List (Option (List Int)))×List Int×Int×Int×PUnit) (fun (again_1:Int×PUnit->Option ((List Nat×List (Option (List Int)))×List Int×Int×Int×PUnit)) (x_1:Int×PUnit) =>
 let v14:Bool:=decide (x_1.1<x.2.2.2.2.1);
 let v15:Bool:=!v14;
 let v16:Bool:=v15||v14;bif v16 then bif v16&&(v16&&(v15||v9)) then bif v16&&(v15||v10) then bif v16&&(v16&&(v15||inB x_1.1 (List.length (ai x.2.1.2 (x.2.1.1.getD x.1.toNat 0))))) then bif v16&&(v15||Nat.ble (Nat.succ x_1.1.toNat) (List.length (ai x.2.1.2 (x.2.1.1.getD x.1.toNat 0)))) then bif v16 then bif v16 then bif bif v14 then decide (List.getD (ai x.2.1.2 (x.2.1.1.getD x.1.toNat 0)) x_1.1.toNat 0=0) else false then again_1 (IntKind.wrap .i64 (x_1.1+1),PUnit.unit) else bif decide (x_1.1=x.2.2.2.2.1) then again (v8, v11) else bif v9 then bif v10 then bif inB x_1.1 (List.length (ai x.2.1.2 (x.2.1.1.getD x.1.toNat 0))) then bif Nat.ble (Nat.succ x_1.1.toNat) (List.length (ai x.2.1.2 (x.2.1.1.getD x.1.toNat 0))) then bif decide (List.getD (ai x.2.1.2 (x.2.1.1.getD x.1.toNat 0)) x_1.1.toNat 0<0) then lp (Int×(List Nat×List (Option (List Int)))×PUnit) ((List Nat×List (Option (List Int)))×List Int×Int×Int × PUnit) (fun (again_2:Int×(List Nat×List (Option (List Int)))×PUnit->Option ((List Nat×List (Option (List Int)))×List Int×Int×Int×PUnit)) (x_2:Int×(List Nat × List (Option (List Int)))×PUnit) =>
 let v19:Bool:=inB x.1 x_2.2.1.1.length;
 let v20:Bool:=Nat.ble (Nat.succ x.1.toNat) x_2.2.1.1.length;bif v19 then bif v20 then bif fG x_2.2.1.2 (x_2.2.1.1.getD x.1.toNat (0 : Nat)) then bif decide (x_2.1<(↑(List.length (ai x_2.2.1.2 (x_2.2.1.1.getD x.1.toNat 0))):Int)) then bif v19 then bif v20 then bif v19 then bif v20 then bif inB x_2.1 (List.length (ai x_2.2.1.2 (x_2.2.1.1.getD x.1.toNat 0))) then bif Nat.ble (Nat.succ x_2.1.toNat) (List.length (ai x_2.2.1.2 (x_2.2.1.1.getD x.1.toNat 0))) then bif inB x_2.1 (List.length (ai x_2.2.1.2 (x_2.2.1.1.getD x.1.toNat (0 : Nat)))) then bif Nat.ble (Nat.succ x_2.1.toNat) (List.length (ai x_2.2.1.2 (x_2.2.1.1.getD x.1.toNat 0))) then again_2 (IntKind.wrap IntKind.i64 (x_2.1+1),(x_2.2.1.1,x_2.2.1.2.set (x_2.2.1.1.getD x.1.toNat 0) (some (List.set (ai x_2.2.1.2 (x_2.2.1.1.getD x.1.toNat 0)) x_2.1.toNat (IntKind.wrap .i64 (0 - List.getD (ai x_2.2.1.2 (x_2.2.1.1.getD x.1.toNat (0 : Nat))) x_2.1.toNat 0))))),PUnit.unit) else none else none else none else none else none else none else none else none else ah (cn x_2.2.1 x.2.2.1 x.2.2.2.1 x.2.2.2.2.1 x.1 x_1.1) fun (y:(List Nat×List (Option (List Int)))×List Int×Int×Int×PUnit)=>again (v8,y.1,y.2.1, y.2.2.1,y.2.2.2.1,PUnit.unit) else none else none else none) (0,x.2.1,PUnit.unit) else ah (cn x.2.1 x.2.2.1 x.2.2.2.1 x.2.2.2.2.1 x.1 x_1.1) fun (y:(List Nat×List (Option (List Int)))×List Int×Int×Int×PUnit)=>again (v8,y.1,y.2.1,y.2.2.1,y.2.2.2.1, PUnit.unit) else none else none else none else none else none else none else none else none else none else none else none) (0,PUnit.unit) else none else none else some v11) ((0 : Int),x0,x1,x2,x3,PUnit.unit)
def gg (x0:List Nat×List (Option (List Int))) (x1:List Int) (x2:Int) (x3:Int):Option ((List Nat×List (Option (List Int)))×(List Int)×Int×Int×Unit):=qH lpK jnK cn x0 x1 x2 x3
abbrev t68:=(List Nat×List (Option (List Int)))->(List Int)->(Int)->(Int)->Option ((List Nat×List (Option (List Int)))×(List Int)×Int×Int×Unit)
def k68 (gg:t68):SCtr:=⟨[.v true [.x (.tab 29 .ref 3 i64),.row 3 i64,.d i64,.d i64]],[(true,[.x (.tab 29 .ref 3 i64),.row 3 i64,.d i64,.d i64])],fun x=>gg x.1 x.2.1 x.2.2.1 x.2.2.2.1⟩
def s68:SCtr:=k68 gg
theorem e68 (lp:Lp) (jn:Jn) (cn:KV):∀x:TsR (rhI 0 s68.ks),qH lp jn cn x.1 x.2.1 x.2.2.1 x.2.2.2.1=zJ lp jn (Dn.look [(120,Rb cn)]) (cx [] [(134,a7)]) ak 4 68 f68 s68 x:=fun x=>by kernel_rfl
theorem UL:s68.ok prog 68:=SCtr.of_den (an (ba)) aJ (iY Pq (jR)) (hl:=ak) (d:=4) func68 rfl (by decide) (e68 lpK jnK cn)
def oS (_:Lp) (_:Jn) (aF:wG) (bE:Du) (x0:Int) (x1:Int):Option ((Int×Int)×Int×Unit) :=
 ah (aF x0) fun (t:Int)=>ah (aF x1) fun (t_1:Int)=>ah (bE (0,t) (!decide (decide (x0<0)=decide (x1<0))) (0, t_1)) fun (t:(Int×Int)×Int×PUnit)=>some (t.1,t.2.1,PUnit.unit)
def gz (x0:Int) (x1:Int):Option ((Int×Int)×Int×Unit):=oS lpK jnK aF bE x0 x1
abbrev t70:=(Int)->(Int)->Option ((Int×Int)×Int×Unit)
def c70:Ctr:=⟨[i64,i64],[],[],.tup [T49,i64],fun x _ _=>gz x.1 x.2.1⟩
theorem e70 (lp:Lp) (jn:Jn) (aF:wG) (bE:Du):∀(x:TsS c70.as) (F:TsF c70.fs) (y:TsS c70.cs),oS lp jn aF bE x.1 x.2.1=bv lp jn (cx [(121,Nr bE),(103,Hz aF)] [(134,a7)]) ak 4 70 f70 c70 x F y:=fun x F y=>by kernel_rfl
theorem Vm:c70.ok prog 70:=Ctr.of_den (an (aa (aa (ba) (by kernel_rfl) BF) (by kernel_rfl) Ks)) aJ (hl:=ak) (d:=4) func70 rfl (by decide) (e70 lpK jnK aF bE)
def m8 (lp:Lp) (_:Jn) (gz:t70) (fQ:t66) (eM:t67) (gg:t68) (x0:(List Int)×List ((List Int)×Int×Int)):Option ((Int×Int)×Int×Unit) :=
 ah (eM x0) fun (y:(List Nat×List (Option (List Int)))×List Int×Int×Int×PUnit)=>ah (fQ y.1 y.2.1 y.2.2.1 y.2.2.2.1) fun (y:(List Nat × List (Option (List Int)))×List Int×Int×Int×Bool×PUnit) =>
 let v5:Int:=IntKind.wrap .i64 ((↑y.1.1.length:Int) - 1);bif inB 0 y.1.1.length then bif Nat.ble 1 y.1.1.length then bif fG y.1.2 (y.1.1.getD 0 0) then bif inB v5 y.1.1.length then bif Nat.ble (Nat.succ v5.toNat) y.1.1.length then bif inB (IntKind.wrap .i64 ((↑(List.length (ai y.1.2 (y.1.1.getD 0 0))):Int) - 1)) (List.length (ai y.1.2 (y.1.1.getD v5.toNat 0))) then bif Nat.ble (Nat.succ (Int.toNat (IntKind.wrap .i64 ((↑(List.length (ai y.1.2 (y.1.1.getD 0 0))):Int) - 1)))) (List.length (ai y.1.2 (y.1.1.getD v5.toNat 0))) then bif decide (List.getD (ai y.1.2 (y.1.1.getD v5.toNat 0)) (Int.toNat (IntKind.wrap .i64 ((↑(List.length (ai y.1.2 (y.1.1.getD 0 0))):Int) - 1))) 0<0) then some ((0,0),(22 : Int),PUnit.unit) else ah (gg y.1 y.2.1 y.2.2.1 y.2.2.2.1) fun (y_1:(List Nat×List (Option (List Int)))×List Int×Int×Int×PUnit)=>bif decide (0<=IntKind.wrap .i64 (IntKind.wrap .i64 ((↑(List.length (ai y.1.2 (y.1.1.getD 0 0))):Int) - 1)+1))&&eh (Int.toNat (IntKind.wrap .i64 (IntKind.wrap .i64 ((↑(List.length (ai y.1.2 (y.1.1.getD 0 0))):Int) - 1)+1))) 8 then lp (Int×List Int×PUnit) ((Int×Int)×Int×PUnit) (fun (again:Int×List Int×PUnit->Option ((Int×Int)×Int×PUnit)) (x:Int×List Int×PUnit)=>bif decide (x.1 < (↑x0.1.length:Int)) then bif inB x.1 x0.1.length then bif inB x.1 x.2.1.length then bif Nat.ble (Nat.succ x.1.toNat) x.2.1.length then again (IntKind.wrap .i64 (x.1+1),x.2.1.set x.1.toNat (x0.1.getD x.1.toNat 0),PUnit.unit) else none else none else none else lp (Int×(List Nat×List (Option (List Int)))×PUnit) ((Int×Int)×Int×PUnit) (fun (again:Int×(List Nat×List (Option (List Int)))×PUnit->Option ((Int×Int)×Int × PUnit)) (x_1:Int×(List Nat×List (Option (List Int)))×PUnit)=>bif decide (x_1.1<=IntKind.wrap .i64 ((↑(List.length (ai y.1.2 (y.1.1.getD 0 (0 : Nat)))):Int) - 1)) then bif inB x_1.1 x.2.1.length then bif Nat.ble (Nat.succ x_1.1.toNat) x.2.1.length then lp (Int×Int×PUnit) ((Int × Int)×Int×PUnit) (fun (again_1:Int×Int×PUnit->Option ((Int×Int)×Int×PUnit)) (x_2:Int×Int×PUnit) =>
 let v13:Int:=y_1.2.1.getD x_2.2.1.toNat 0;bif decide (x_2.2.1<v5) then bif inB x_2.2.1 y_1.2.1.length then bif Nat.ble (Nat.succ x_2.2.1.toNat) y_1.2.1.length then bif inB v13 x.2.1.length then bif Nat.ble (Nat.succ v13.toNat) x.2.1.length then bif inB x_2.2.1 x_1.2.1.1.length then bif Nat.ble (Nat.succ x_2.2.1.toNat) x_1.2.1.1.length then bif inB x_1.1 (List.length (ai x_1.2.1.2 (x_1.2.1.1.getD x_2.2.1.toNat 0))) then bif Nat.ble (Nat.succ x_1.1.toNat) (List.length (ai x_1.2.1.2 (x_1.2.1.1.getD x_2.2.1.toNat 0))) then again_1 (IntKind.wrap .i64 (x_2.1 - IntKind.wrap .i64 (x.2.1.getD v13.toNat 0*List.getD (ai x_1.2.1.2 (x_1.2.1.1.getD x_2.2.1.toNat 0)) x_1.1.toNat 0)),IntKind.wrap .i64 (x_2.2.1+1),PUnit.unit) else none else none else none else none else none else none else none else none else bif inB v5 x_1.2.1.1.length then bif Nat.ble (Nat.succ v5.toNat) x_1.2.1.1.length then bif inB x_1.1 (List.length (ai x_1.2.1.2 (x_1.2.1.1.getD v5.toNat 0))) then bif Nat.ble (Nat.succ x_1.1.toNat) (List.length (ai x_1.2.1.2 (x_1.2.1.1.getD v5.toNat 0))) then again (IntKind.wrap .i64 (x_1.1+1),(x_1.2.1.1,x_1.2.1.2.set (x_1.2.1.1.getD v5.toNat 0) (some (List.set (ai x_1.2.1.2 (x_1.2.1.1.getD v5.toNat 0)) x_1.1.toNat x_2.1))),PUnit.unit) else none else none else none else none) (IntKind.wrap .i64 (x.2.1.getD x_1.1.toNat 0*y_1.2.2.1),0,PUnit.unit) else none else none else ah (fQ x_1.2.1 y_1.2.1 y_1.2.2.1 y_1.2.2.2.1) fun (y_2:(List Nat×List (Option (List Int)))×List Int×Int×Int×Bool×PUnit)=>bif !y_2.2.2.2.2.1 then some ((0,0),21,PUnit.unit) else bif inB v5 y_2.1.1.length then bif Nat.ble (Nat.succ v5.toNat) y_2.1.1.length then bif inB (IntKind.wrap .i64 ((↑(List.length (ai y.1.2 (y.1.1.getD 0 0))):Int) - 1)) (List.length (ai y_2.1.2 (y_2.1.1.getD v5.toNat 0))) then bif Nat.ble (Nat.succ (Int.toNat (IntKind.wrap .i64 ((↑(List.length (ai y.1.2 (y.1.1.getD 0 0))):Int) - (1 : Int))))) (List.length (ai y_2.1.2 (y_2.1.1.getD v5.toNat 0))) then ah (gz (IntKind.wrap .i64 (0 - List.getD (ai y_2.1.2 (y_2.1.1.getD v5.toNat 0)) (Int.toNat (IntKind.wrap .i64 ((↑(List.length (ai y.1.2 (y.1.1.getD 0 0))):Int) - 1))) 0)) y_2.2.2.1) fun (t:(Int×Int)×Int×PUnit)=>some (t.1,t.2.1,PUnit.unit) else none else none else none else none) (0,y_1.1,PUnit.unit)) ((0 : Int),List.replicate (Int.toNat (IntKind.wrap .i64 (IntKind.wrap .i64 ((↑(List.length (ai y.1.2 (y.1.1.getD 0 0))):Int) - 1)+(1 : Int)))) 0,PUnit.unit) else none else none else none else none else none else none else none else none
def bz (x0:(List Int)×List ((List Int)×Int×Int)):Option ((Int×Int)×Int×Unit):=m8 lpK jnK gz fQ eM gg x0
abbrev t26:=((List Int)×List ((List Int)×Int×Int))->Option ((Int×Int)×Int×Unit)
def k26 (bz:t26):Ctr:=⟨[T32],[],[],.tup [T49,i64],fun x _ _=>bz x.1⟩
def c26:Ctr:=k26 bz
theorem e26 (lp:Lp) (jn:Jn) (gz:t70) (fQ:t66) (eM:t67) (gg:t68):∀(x:TsS c26.as) (F:TsF c26.fs) (y:TsS c26.cs),m8 lp jn gz fQ eM gg x.1=Jk lp jn (Dn.look [(68,k68 gg),(67,k67 eM),(66,k66 fQ)]) (cx [(70,⟨[i64,i64],[],[],.tup [T49,i64],fun x _ _=>gz x.1 x.2.1⟩)] [(134,a7)]) ak 4 26 f26 c26 x F y:=fun x F y=>by kernel_rfl
theorem QY:c26.ok prog 26:=Ctr.of_denS (an (aa (ba) (by kernel_rfl) Vm)) aJ (iY UL (iY TW (iY U2 (jR)))) (hl:=ak) (d:=4) func26 rfl (by decide) (e26 lpK jnK gz fQ eM gg)
def m0 (_:Lp) (_:Jn) (aw:t72) (x0:Int×Int):Option Bool :=
 ah (aw x0) fun (t:Bool)=>some !t
def fI (x0:Int×Int):Option Bool:=m0 lpK jnK aw x0
abbrev t71:=(Int×Int)->Option (Bool)
def c71:Ctr:=⟨[T49],[],[],.one .bool,fun x _ _=>fI x.1⟩
theorem e71 (lp:Lp) (jn:Jn) (aw:t72):∀(x:TsS c71.as) (F:TsF c71.fs) (y:TsS c71.cs),m0 lp jn aw x.1=bv lp jn (cx [(72,k72 aw)] [(134,a7)]) ak 4 71 f71 c71 x F y:=fun x F y=>by kernel_rfl
theorem TX:c71.ok prog 71:=Ctr.of_den (an (aa (ba) (by kernel_rfl) GB)) aJ (hl:=ak) (d:=4) func71 rfl (by decide) (e71 lpK jnK aw)
def pP (lp:Lp) (_:Jn) (ap:t32) (bU:t35) (fI:t71) (x0:List (Int×Int)):Option ((Int×Int)×Int×Unit) :=
 ah (ap x0 fun (x:(Int×Int)×PUnit)=>fI x.1) fun (t:Bool)=>bif t then some ((0,0),1,PUnit.unit) else bif decide ((↑x0.length:Int)>1000) then some ((0,0),4,PUnit.unit) else lp (Int×(Int×Int)×(Int×Int)×PUnit) ((Int×Int)×Int×PUnit) (fun (again:Int×(Int×Int)×(Int×Int)×PUnit->Option ((Int×Int)×Int×PUnit)) (x:Int×(Int×Int)×(Int×Int)×PUnit)=>bif decide (x.1<(↑x0.length:Int)) then bif inB x.1 x0.length then ah (bU x.2.2.1 (x0.getD x.1.toNat (0,0))) fun (t:(Int×Int)×Int×PUnit)=>bif !decide (t.2.1=0) then some ((0,0),t.2.1,PUnit.unit) else again (IntKind.wrap .i64 (x.1+1),x.2.1,t.1,PUnit.unit) else none else some (x.2.2.1,0,PUnit.unit)) (0,(0,0),(0,1),PUnit.unit)
def cD (x0:List (Int×Int)):Option ((Int×Int)×Int×Unit):=pP lpK jnK ap bU fI x0
abbrev t27:=(List (Int×Int))->Option ((Int×Int)×Int×Unit)
def k27 (cD:t27):Ctr:=⟨[(.sl T49)],[],[],.tup [T49,i64],fun x _ _=>cD x.1⟩
def c27:Ctr:=k27 cD
theorem e27 (lp:Lp) (jn:Jn) (ap:t32) (bU:t35) (fI:t71):∀(x:TsS c27.as) (F:TsF c27.fs) (y:TsS c27.cs),pP lp jn ap bU fI x.1=bv lp jn (cx [(71,⟨[T49],[],[],.one .bool,fun x _ _=>fI x.1⟩),(35,k35 bU),(32,k32 ap)] [(134,a7)]) ak 4 27 f27 c27 x F y:=fun x F y=>by kernel_rfl
theorem U7:c27.ok prog 27:=Ctr.of_den (an (aa (aa (aa (ba) (by kernel_rfl) Sk) (by kernel_rfl) Te) (by kernel_rfl) TX)) aJ (hl:=ak) (d:=4) func27 rfl (by decide) (e27 lpK jnK ap bU fI)
def kG (lp:Lp) (_:Jn) (bI:t73) (au:t15) (bS:t64) (bz:t26) (x0:(List (ByteArray×Int))×List (ByteArray×(List (ByteArray×Int×Int×Int))×Bool)):Option ((List ByteArray)×Int×Unit) :=
 lp (List ByteArray×Int×PUnit) (List ByteArray×Int×PUnit) (fun (again:List ByteArray×Int×PUnit->Option (List ByteArray×Int×PUnit)) (x:List ByteArray×Int×PUnit) =>
 let v5:Int×PUnit:=(IntKind.wrap .i64 (x.2.1+1),PUnit.unit);bif decide (x.2.1<(↑x0.2.length:Int)) then ah (bS x0 x.2.1 (-1 : Int)) fun (t:List Int)=>ah (au x0 t) fun (t:List Int×List (List Int×Int×Int))=>ah (bz t) fun (t:(Int×Int)×Int×PUnit) =>
 let v9:Bool:=decide (t.2.1=0);
 let v10:Bool:=!v9||v9;bif decide (t.2.1=22) then some ([],t.2.1,PUnit.unit) else ah (bif v9 then bI 0 else some (0,0)) fun (t_1:Int×Int)=>bif v10&&v10 then bif v10 then bif bif v9 then decide (t.1.1=t_1.1)&&(decide (t.1.2=t_1.2)&&true) else false then bif inB x.2.1 x0.2.length then bif eh (List.length x.1+1) 16 then again (x.1++[(x0.2.getD x.2.1.toNat ({ data:={ toList:=[] } },[], false)).1],v5) else none else none else again (x.1,v5) else none else none else some (x.1,0,PUnit.unit)) ([],0,PUnit.unit)
def eq (x0:(List (ByteArray×Int))×List (ByteArray×(List (ByteArray×Int×Int×Int))×Bool)):Option ((List ByteArray)×Int×Unit):=kG lpK jnK bI au bS bz x0
abbrev t28:=((List (ByteArray×Int))×List (ByteArray×(List (ByteArray×Int×Int×Int))×Bool))->Option ((List ByteArray)×Int×Unit)
def c28:Ctr:=⟨[T25],[],[],.tup [(.sl .str),i64],fun x _ _=>eq x.1⟩
theorem e28 (lp:Lp) (jn:Jn) (bI:t73) (au:t15) (bS:t64) (bz:t26):∀(x:TsS c28.as) (F:TsF c28.fs) (y:TsS c28.cs),kG lp jn bI au bS bz x.1=bv lp jn (cx [(26,k26 bz),(64,k64 bS),(15,k15 au),(73,k73 bI)] [(134,a7)]) ak 4 28 f28 c28 x F y:=fun x F y=>by kernel_rfl
theorem VF:c28.ok prog 28:=Ctr.of_den (an (aa (aa (aa (aa (ba) (by kernel_rfl) Lf) (by kernel_rfl) ED) (by kernel_rfl) Re) (by kernel_rfl) QY)) aJ (hl:=ak) (d:=4) func28 rfl (by decide) (e28 lpK jnK bI au bS bz)
def j5 (lp:Lp) (_:Jn) (x0:List ByteArray) (x1:List ByteArray):Option Bool :=
 bif !decide ((↑x0.length:Int)=(↑x1.length:Int)) then some false else lp (Int×PUnit) Bool (fun (again:Int×PUnit->Option Bool) (x:Int×PUnit)=>bif decide (x.1<(↑x0.length:Int)) then bif inB x.1 x0.length then bif inB x.1 x1.length then bif !List.beq (ByteArray.toList (x0.getD x.1.toNat { data :={ toList:=[] } })) (ByteArray.toList (x1.getD x.1.toNat { data:={ toList:=[] } })) then some false else again (IntKind.wrap .i64 (x.1+1), PUnit.unit) else none else none else some true) (0,PUnit.unit)
def bG (x0:List ByteArray) (x1:List ByteArray):Option Bool:=j5 lpK jnK x0 x1
abbrev t29:=(List ByteArray)->(List ByteArray)->Option (Bool)
def k29 (bG:t29):Ctr:=⟨[(.sl .str),(.sl .str)],[],[],.one .bool,fun x _ _=>bG x.1 x.2.1⟩
def c29:Ctr:=k29 bG
theorem e29 (lp:Lp) (jn:Jn):∀(x:TsS c29.as) (F:TsF c29.fs) (y:TsS c29.cs),j5 lp jn x.1 x.2.1=bv lp jn (cx [] [(134,a7)]) ak 4 29 f29 c29 x F y:=fun x F y=>by kernel_rfl
theorem Vn:c29.ok prog 29:=Ctr.of_den (an (ba)) aJ (hl:=ak) (d:=4) func29 rfl (by decide) (e29 lpK jnK)
def ni (_:Lp) (_:Jn) (au:t15) (bS:t64) (bz:t26) (x0:(List (ByteArray×Int))×List (ByteArray×(List (ByteArray×Int×Int×Int))×Bool)) (x1:Int):Option ((Int×Int)×Int×Unit) :=
 ah (bS x0 x1 1) fun (t:List Int)=>ah (au x0 t) fun (t:List Int×List (List Int×Int×Int))=>ah (bz t) fun (t:(Int×Int)×Int × PUnit)=>some (t.1,t.2.1,PUnit.unit)
def fK (x0:(List (ByteArray×Int))×List (ByteArray×(List (ByteArray×Int×Int×Int))×Bool)) (x1:Int):Option ((Int×Int)×Int×Unit):=ni lpK jnK au bS bz x0 x1
abbrev t30:=((List (ByteArray×Int))×List (ByteArray×(List (ByteArray×Int×Int×Int))×Bool))->(Int)->Option ((Int×Int)×Int×Unit)
def c30:Ctr:=⟨[T25,i64],[],[],.tup [T49,i64],fun x _ _=>fK x.1 x.2.1⟩
theorem e30 (lp:Lp) (jn:Jn) (au:t15) (bS:t64) (bz:t26):∀(x:TsS c30.as) (F:TsF c30.fs) (y:TsS c30.cs),ni lp jn au bS bz x.1 x.2.1=bv lp jn (cx [(26,k26 bz),(64,k64 bS),(15,k15 au)] [(134,a7)]) ak 4 30 f30 c30 x F y:=fun x F y=>by kernel_rfl
theorem Uz:c30.ok prog 30:=Ctr.of_den (an (aa (aa (aa (ba) (by kernel_rfl) ED) (by kernel_rfl) Re) (by kernel_rfl) QY)) aJ (hl:=ak) (d:=4) func30 rfl (by decide) (e30 lpK jnK au bS bz)
def ju (_:Lp) (jn:Jn) (aW:t19) (bi:t20) (aV:t21) (aY:t9) (br:t10) (bK:t22) (bM:t13) (au:t15) (bo:t16) (gF:t23) (eC:t24) (fJ:t25) (bz:t26) (cD:t27) (eq:t28) (bG:t29) (fK:t30) (x0:(List (ByteArray×Int))×List (ByteArray×(List (ByteArray×Int×Int×Int))×Bool)) (x1:ByteArray):Option Bool :=
 ah aY fun (t:Bool)=>bif !t then some false else ah (br x0 []) fun (t:Bool) =>
 let v6:Bool:=!t;
 let v7:Bool:=!v6;
 let v8:Bool:=!v7||v7;bif v8 then bif v8 then bif v6||v7 then bif bif v6 then true else decide ((↑(ByteArray.size x1):Int)>60) then some true else ah (aW x0) fun (t:List (Int×Int)×Int×PUnit) =>
 let v10:Bool:=decide (t.2.1=0);
 let v11:Bool:=!v10;
 let v12:Bool:=decide ((↑t.1.length:Int)=0);
 let v13:Bool:=!v12;
 let v14:Bool:=bif v12 then decide (t.2.1=1) else false;
 let v15:Bool:=v13||v12;
 let v16:Bool:=!v14||v14;ah (bi x0 x1) fun (t_1:(Int×Int)×Int×PUnit) =>
 let v18:Bool:=decide (t_1.1.1=0)&&(decide (t_1.1.2=0)&&true);
 let v19:Bool:=!v18;
 let v20:Bool:=bif v14 then v18 else false;
 let v21:Bool:=bif v20 then decide (t_1.2.1=1) else false;
 let v22:Bool:=!v20||v20;
 let v23:Bool:=!v21||v21;ah (aV x0) fun (t_2:List ByteArray×Int×PUnit) =>
 let v25:Bool:=decide ((↑t_2.1.length:Int)=0);
 let v26:Bool:=bif v21 then v25 else false;
 let v27:Bool:=bif v25 then decide (t_2.2.1=5) else false;
 let v28:Bool:=!v27;
 let v29:Bool:=!v25||v25;
 let v30:Bool:=!v26||v26;
 let v31:Bool:=v28||v27;ah (bM x0) fun (t_3:Bool)=>bif !t_3 then bif v15 then bif v15 then bif v16&&v16 then bif v16 then bif v22 then bif v22 then bif v23 then bif v23 then bif v23 then bif v30 then bif v30 then some (bif v26 then decide (t_2.2.1=1) else false) else none else none else none else none else none else none else none else none else none else none else none else ah (bK x0 x1) fun (t_4:Int) =>
 let v34:Bool:=decide (t_4<0);
 let v35:Bool:=!v34;
 let v36:Bool:=v34&&!v19;
 let v37:Bool:=v27&&v35;
 let v38:Bool:=!v37;
 let v39:Bool:=v37&&v18;
 let v40:Bool:=v35||v34;
 let v41:Bool:=v38||v37;bif v40&&v40 then bif v40 then bif !v36||v36 then bif (v35||v40)&&(v35||(v19||(v35||v36))) then bif v40 then bif bif v34 then bif v19 then true else !decide (t_1.2.1=9) else false then some false else ah (gF x0) fun (t_5:Bool) =>
 let v43:Bool:=!t_5;
 let v44:Bool:=!v43;
 let v45:Bool:=v43&&!v13;
 let v46:Bool:=v44||v43;bif v46 then bif v46 then bif v46 then bif !v45||v45 then bif (v44||v46)&&(v44||(v13||(v44||v45))) then bif v46 then bif bif v43 then bif v13 then true else !decide (t.2.1=5) else false then some false else ah (eC x0) fun (t_6:Bool)=>bif !t_6 then bif v29 then bif v29 then bif v31 then bif v31 then bif v41&&v41 then bif v41 then bif !v39||v39 then bif (v38||v41)&&(v38||(v19||(v38||v39))) then bif (v28||v31)&&(v28||(v34||(v28||v37))) then bif v31 then some (bif v27 then bif v34 then true else bif v18 then decide (t_1.2.1=5) else false else false) else none else none else none else none else none else none else none else none else none else none else ah (fJ x0) fun (t_7:Bool)=>bif !t_7 then some true else ah (bo x0) fun (t_8:List Int)=>ah (au x0 t_8) fun (t_9 : List Int×List (List Int×Int×Int))=>ah (bz t_9) fun (t_10:(Int×Int)×Int×PUnit) =>
 let v52:Bool:=!decide (t.2.1=t_10.2.1);
 let v53:Bool:=!v52;
 let v54:Bool:=!v53;
 let v55:Bool:=v53&&v11;
 let v56:Bool:=v54||v53;
 let v57:Bool:=!v55||v55;bif v56 then bif v56 then bif v57 then bif v57 then bif (v54||v56)&&(v54||(!v11||(v54||v55))) then bif v52||v53 then bif bif v52 then true else bif v11 then v13 else false then some false else jn PUnit Bool (fun (_:PUnit)=>ah (eq x0) fun (t:List ByteArray×Int×PUnit)=>ah (bG t_2.1 t.1) fun (t_11:Bool) =>
 let v61:Bool:=!t_11;
 let v62:Bool:=!v61;
 let v63:Bool:=!v62||v62;bif v63&&v63 then bif v61||v62 then bif bif v61 then true else !decide (t_2.2.1=t.2.1) then some false else bif v34 then some true else ah (fK x0 t_4) fun (t:(Int×Int)×Int×PUnit) =>
 let v65:Bool:=decide (t_1.1.1=t.1.1)&&(decide (t_1.1.2=t.1.2)&&true);
 let v66:Bool:=!v65||v65;bif v66&&v66 then bif v66 then some (bif v65 then decide (t_1.2.1=t.2.1) else false) else none else none else none else none) fun (j:PUnit -> Option Bool)=>bif v10 then ah (cD t.1) fun (t_11:(Int×Int)×Int×PUnit) =>
 let v60:Bool:=!decide (t_11.2.1=0);
 let v61:Bool:=!v60;
 let v62:Bool:=!v61||v61;
 let v63:Bool:=bif v60 then true else !(decide (t_11.1.1=t_10.1.1)&&(decide (t_11.1.2=t_10.1.2)&&true));
 let v64:Bool:=!v63;
 let v65:Bool:=!v64||v64;bif v62&&v62 then bif v60||v61 then bif v65 then bif v65 then bif v65 then bif v65&&v65 then bif v63||v64 then bif bif v63 then true else !decide ((↑t.1.length:Int)=(↑x0.2.length:Int)) then some false else j PUnit.unit else none else none else none else none else none else none else none else j PUnit.unit else none else none else none else none else none else none else none else none else none else none else none else none else none else none else none else none else none else none else none else none
def kE (x0:(List (ByteArray×Int))×List (ByteArray×(List (ByteArray×Int×Int×Int))×Bool)) (x1:ByteArray):Option Bool:=ju lpK jnK aW bi aV aY br bK bM au bo gF eC fJ bz cD eq bG fK x0 x1
def c4:Ctr:=⟨[T25,.str],[],[],.one .bool,fun x _ _=>kE x.1 x.2.1⟩
theorem e4 (lp:Lp) (jn:Jn) (aW:t19) (bi:t20) (aV:t21) (aY:t9) (br:t10) (bK:t22) (bM:t13) (au:t15) (bo:t16) (gF:t23) (eC:t24) (fJ:t25) (bz:t26) (cD:t27) (eq:t28) (bG:t29) (fK:t30):∀(x:TsS c4.as) (F:TsF c4.fs) (y:TsS c4.cs),ju lp jn aW bi aV aY br bK bM au bo gF eC fJ bz cD eq bG fK x.1 x.2.1=bv lp jn (cx [(30,⟨[T25,i64],[],[],.tup [T49,i64],fun x _ _=>fK x.1 x.2.1⟩),(29,k29 bG),(28,⟨[T25],[],[],.tup [(.sl .str),i64],fun x _ _=>eq x.1⟩),(27,k27 cD),(26,k26 bz),(25,⟨[T25],[],[],.one .bool,fun x _ _=>fJ x.1⟩),(24,⟨[T25],[],[],.one .bool,fun x _ _=>eC x.1⟩),(23,⟨[T25],[],[],.one .bool,fun x _ _=>gF x.1⟩),(16,k16 bo),(15,k15 au),(13,k13 bM),(22,k22 bK),(10,k10 br),(9,k9 aY),(21,k21 aV),(20,k20 bi),(19,k19 aW)] [(134,a7)]) ak 4 4 f4 c4 x F y:=fun x F y=>by kernel_rfl
theorem ok4:c4.ok prog 4:=Ctr.of_den (an (aa (aa (aa (aa (aa (aa (aa (aa (aa (aa (aa (aa (aa (aa (aa (aa (aa (ba) (by kernel_rfl) TK) (by kernel_rfl) So) (by kernel_rfl) R5) (by kernel_rfl) ok9) (by kernel_rfl) Si) (by kernel_rfl) TI) (by kernel_rfl) Sn) (by kernel_rfl) ED) (by kernel_rfl) Pf) (by kernel_rfl) Vu) (by kernel_rfl) VB) (by kernel_rfl) VT) (by kernel_rfl) QY) (by kernel_rfl) U7) (by kernel_rfl) VF) (by kernel_rfl) Vn) (by kernel_rfl) Uz)) aJ (hl:=ak) (d:=4) func4 rfl (by decide) (e4 lpK jnK aW bi aV aY br bK bM au bo gF eC fJ bz cD eq bG fK)
def Aw (lp:Lp) (_:Jn) (x0:(List (ByteArray×Int))×List (ByteArray×(List (ByteArray×Int×Int×Int))×Bool)):Option ((List (ByteArray×Int))×List (ByteArray×(List (ByteArray×Int×Int×Int))×Bool)) :=
 
 let v3:List (ByteArray×List (ByteArray×Int×Int×Int)×Bool):=[];bif eh (0+List.length x0.1) 24 then lp (Int×List (ByteArray×Int)×List (ByteArray × List (ByteArray×Int×Int×Int)×Bool)×PUnit) (List (ByteArray×Int)×List (ByteArray×List (ByteArray×Int×Int×Int)×Bool)) (fun (again:Int×List (ByteArray×Int) × List (ByteArray×List (ByteArray×Int×Int×Int)×Bool)×PUnit->Option (List (ByteArray×Int)×List (ByteArray×List (ByteArray×Int×Int×Int)×Bool))) (x:Int×List (ByteArray×Int)×List (ByteArray×List (ByteArray×Int×Int×Int)×Bool)×PUnit) =>
 let v6:ByteArray×List (ByteArray×Int×Int×Int)×Bool:=x0.2.getD x.1.toNat ({ data:={ toList:=[] } },[],false);bif decide (x.1<(↑x0.2.length : Int)) then bif inB x.1 x0.2.length then bif eh (0+List.length v6.2.1) 40 then bif eh (List.length x.2.2.1+1) 48 then again (IntKind.wrap .i64 (x.1+1),x.2.1,x.2.2.1++v6 ::v3,PUnit.unit) else none else none else none else some (x.2.1,x.2.2.1)) (0,x0.1, v3,PUnit.unit) else none
def jv (x0:(List (ByteArray×Int))×List (ByteArray×(List (ByteArray×Int×Int×Int))×Bool)):Option ((List (ByteArray×Int))×List (ByteArray×(List (ByteArray×Int×Int×Int))×Bool)):=Aw lpK jnK x0
abbrev t31:=((List (ByteArray×Int))×List (ByteArray×(List (ByteArray×Int×Int×Int))×Bool))->Option ((List (ByteArray×Int))×List (ByteArray×(List (ByteArray×Int×Int×Int))×Bool))
set_option maxRecDepth 100000
def qf (_:Lp) (_:Jn) (cm:t34) (x0:Int×Int):Option Bool :=
 ah (cm 0) fun (t:Int×Int)=>some !(decide (x0.1=t.1)&&(decide (x0.2=t.2)&&true))
def eU (x0:Int×Int):Option Bool:=qf lpK jnK cm x0
abbrev t33:=(Int×Int)->Option (Bool)
def mB (lp:Lp) (jn:Jn) (ap:t32) (bU:t35) (aW:t19) (aV:t21) (aY:t9) (br:t10) (bM:t13) (cD:t27) (bG:t29) (jv:t31) (eU:t33) (x0:(List (ByteArray×Int))×List (ByteArray×(List (ByteArray×Int×Int×Int))×Bool)):Option Bool :=
 ah aY fun (t:Bool)=>bif !t then some false else ah (br x0 []) fun (t:Bool) =>
 let v5:Bool:=!t;
 let v6:Bool:=!v5;
 let v7:Bool:=!v6||v6;bif v7 then ah (bif v6 then bM x0 else some false) fun (t:Bool)=>bif v7 then bif v5||v6 then bif bif v5 then true else !t then some true else ah (jv x0) fun (t:List (ByteArray×Int)×List (ByteArray×List (ByteArray×Int×Int×Int)×Bool))=>ah (jv x0) fun (t_1:List (ByteArray×Int)×List (ByteArray×List (ByteArray×Int×Int×Int)×Bool))=>lp (Int×PUnit) Bool (fun (again:Int×PUnit->Option Bool) (x:Int×PUnit)=>bif decide (x.1<(↑x0.1.length:Int)) then bif inB x.1 t.1.length then none else none else ah (aW t) fun (t:List (Int×Int)×Int×PUnit) =>
 let v14:Bool:=!decide (t.2.1=0);
 let v15:Bool:=!v14;
 let v16:Bool:=!v15||v15;
 let v17:Bool:=bif v14 then true else !decide ((↑t.1.length:Int)=(↑x0.2.length:Int));
 let v18:Bool:=!v17;jn PUnit Bool (fun (_:PUnit)=>ah (aW x0) fun (t:List (Int×Int)×Int×PUnit) =>
 let v21:Bool:=decide (t.2.1=5);
 let v22:Bool:=!v21;
 let v23:Bool:=!decide (t.2.1=0);
 let v24:Bool:=!v23;ah (aW t_1) fun (t_2:List (Int×Int)×Int×PUnit) =>
 let v26:Bool:=bif v21 then true else decide (t_2.2.1=5);
 let v27:Bool:=!v26;
 let v28:Bool:=decide (t.2.1=t_2.2.1);
 let v29:Bool:=!v28||v28;bif !v22||v22 then bif v21||v22 then bif !v27||v27 then bif v26||v27 then bif bif v26 then true else decide (t_2.2.1=1) then some true else bif !v24||v24 then bif v23||v24 then bif bif v23 then true else !decide (t_2.2.1=0) then bif v29 then bif v29 then some (bif v28 then decide (t.2.1=(22 : Int)) else false) else none else none else ah (cD t.1) fun (t:(Int×Int)×Int×PUnit) =>
 let v31:Bool:=!decide (t.2.1=0);
 let v32:Bool:=!v31;ah (cD t_2.1) fun (t_3:(Int×Int)×Int×PUnit) =>
 let v34:Bool:=bif v31 then true else !decide (t_3.2.1=0);
 let v35:Bool:=!v34;ah (bU t.1 t.1) fun (t:(Int×Int)×Int×PUnit) =>
 let v37:Bool:=bif v34 then true else !decide (t.2.1=0);
 let v38:Bool:=!v37;
 let v39:Bool:=!v38||v38;bif !v32||v32 then bif v31||v32 then bif !v35||v35 then bif v34||v35 then bif v39&&v39 then bif v37||v38 then bif bif v37 then true else !(decide (t_3.1.1=t.1.1)&&(decide (t_3.1.2=t.1.2)&&true)) then some false else ah (aV x0) fun (t:List ByteArray×Int×PUnit) =>
 let v41:Bool:=!decide (t.2.1=0);
 let v42:Bool:=!v41;ah (aV t_1) fun (t_4:List ByteArray×Int×PUnit) =>
 let v44:Bool:=bif v41 then true else !decide (t_4.2.1=0);
 let v45:Bool:=!v44;
 let v46:Bool:=!v45||v45;bif !v42||v42 then bif v41||v42 then bif v46&&v46 then ah (bif v45 then bG t.1 t_4.1 else some false) fun (t:Bool)=>bif v44 || v45 then some (bif v44 then true else t) else none else none else none else none else none else none else none else none else none else none else none else none else none else none else none else none) fun (j:PUnit->Option Bool)=>bif !decide (t.2.1=5) then bif v16 then bif v16 then bif v16 then bif v16&&v16 then bif v14||v15 then bif !v18||v18 then ah (bif v18 then ap t.1 fun (x:(Int×Int)×PUnit)=>eU x.1 else some false) fun (t:Bool)=>bif v17||v18 then bif bif v17 then true else t then some false else j PUnit.unit else none else none else none else none else none else none else none else j PUnit.unit) (0,PUnit.unit) else none else none else none
def uw (x0:(List (ByteArray×Int))×List (ByteArray×(List (ByteArray×Int×Int×Int))×Bool)):Option Bool:=mB lpK jnK ap bU aW aV aY br bM cD bG jv eU x0
def c5:Ctr:=⟨[T25],[],[],.one .bool,fun x _ _=>uw x.1⟩
theorem e5 (lp:Lp) (jn:Jn) (ap:t32) (bU:t35) (aW:t19) (aV:t21) (aY:t9) (br:t10) (bM:t13) (cD:t27) (bG:t29) (jv:t31) (eU:t33):∀(x:TsS c5.as) (F:TsF c5.fs) (y:TsS c5.cs),mB lp jn ap bU aW aV aY br bM cD bG jv eU x.1=bv lp jn (cx [(33,⟨[T49],[],[],.one .bool,fun x _ _=>eU x.1⟩),(31,⟨[T25],[],[],.one T25,fun x _ _=>jv x.1⟩),(29,k29 bG),(27,k27 cD),(13,k13 bM),(10,k10 br),(9,k9 aY),(21,k21 aV),(19,k19 aW),(35,k35 bU),(32,k32 ap)] [(134,a7)]) ak 4 5 f5 c5 x F y:=fun x F y=>by kernel_rfl
def uD (lp:Lp) (jn:Jn) (bC:t91) (cY:M8) (cf:MJ) (bq:NW) (aI:O6) (be:Ox) (x0:(List Int)×List ((List Int)×Int×Int)):Option ((List (Int×Int))×Int×Unit) :=
 ah (bC x0) fun (t:Bool)=>bif !t then some ([],1,PUnit.unit) else ah (cY x0) fun (t:Bool)=>bif !t then some ([],5,PUnit.unit) else lp (Int×Int×PUnit) (List (Int×Int)×Int×PUnit) (fun (again:Int×Int×PUnit->Option (List (Int×Int)×Int×PUnit)) (x:Int×Int×PUnit) =>
 let v7:Int×PUnit:=(IntKind.wrap .i64 (x.2.1+1),PUnit.unit);
 let v8:Int:=IntKind.wrap .i64 ((↑x0.1.length:Int)+x.1);bif decide (x.2.1<(↑x0.2.length:Int)) then bif inB x.2.1 x0.2.length then bif !decide ((x0.2.getD x.2.1.toNat ([],0,0)).2.1=3) then again (IntKind.wrap .i64 (x.1+1),v7) else again (x.1, v7) else none else ah (cf x0.1) fun (t:List Int)=>lp (Int×Int×(List Nat×List (Option (List Int)))×Int×List Int×List Int×List Int×Int×Int × PUnit) (List (Int×Int)×Int×PUnit) (fun (again:Int×Int×(List Nat×List (Option (List Int)))×Int×List Int×List Int×List Int×Int×Int×PUnit->Option (List (Int × Int)×Int×PUnit)) (x:Int×Int×(List Nat×List (Option (List Int)))×Int×List Int×List Int×List Int×Int×Int×PUnit) =>
 let v12:Int:=IntKind.wrap .i64 (x.1+1);
 let v13:List Int×Int×Int:=x0.2.getD x.2.1.toNat ([],0,0);
 let v14:List Int:=List.replicate (Int.toNat (IntKind.wrap .i64 (x.2.2.2.2.2.2.2.2.1+1))) 0;
 let v15:Bool:=inB x.1 (Int.toNat (IntKind.wrap .i64 (x.2.2.2.2.2.2.2.2.1+1)));
 let v16:Bool:=Nat.ble (Nat.succ x.1.toNat) (Int.toNat (IntKind.wrap .i64 (x.2.2.2.2.2.2.2.2.1+1)));
 let v17:Int:=IntKind.wrap .i64 (x.2.2.2.2.2.2.2.1+x.2.1);
 let v18:List Int:=List.take (Int.toNat (IntKind.wrap .i64 (x.2.2.2.2.2.2.2.2.1+1))) v13.1;
 let v19:List Int:=List.set (List.take 0 v14++v18++List.drop (0+List.length v18) v14) x.2.2.2.2.2.2.2.2.1.toNat v13.2.2;bif decide (x.2.1<(↑x0.2.length:Int)) then bif inB x.2.1 x0.2.length then bif decide (0<=IntKind.wrap .i64 (x.2.2.2.2.2.2.2.2.1+(1 : Int)))&&eh (Int.toNat (IntKind.wrap .i64 (x.2.2.2.2.2.2.2.2.1+1))) 8 then bif inB x.2.2.2.2.2.2.2.2.1 (Int.toNat (IntKind.wrap .i64 (x.2.2.2.2.2.2.2.2.1+1))) then bif Nat.ble (Nat.succ x.2.2.2.2.2.2.2.2.1.toNat) (Int.toNat (IntKind.wrap IntKind.i64 (x.2.2.2.2.2.2.2.2.1+1))) then jn (Int×List Int×PUnit) (List (Int×Int)×Int×PUnit) (fun (x_1:Int×List Int×PUnit) =>
 let v21:List Int×PUnit:=(x_1.2.1,PUnit.unit);jn (Int×List Int×PUnit) (List (Int×Int)×Int×PUnit) (fun (x_2:Int×List Int×PUnit)=>bif inB v17 x_2.2.1.length then bif Nat.ble (Nat.succ v17.toNat) x_2.2.1.length then bif eh (List.length x.2.2.1.1+1) 24 then bif eh (List.length x.2.2.2.2.2.1+1) 8 then bif eh (List.length x.2.2.2.2.1+1) 8 then again (x_1.1,IntKind.wrap .i64 (x.2.1+(1 : Int)),(x.2.2.1.1++[List.length x.2.2.1.2+0],x.2.2.1.2++[some (x_2.2.1.set v17.toNat 1)]),x.2.2.2.1, x.2.2.2.2.1++[v17],x.2.2.2.2.2.1++[x_2.1],x.2.2.2.2.2.2.1,x.2.2.2.2.2.2.2.1,x.2.2.2.2.2.2.2.2.1, PUnit.unit) else none else none else none else none else none) fun (j:Int×List Int×PUnit->Option (List (Int×Int)×Int×PUnit))=>bif decide (v13.2.2<0) then lp (Int×List Int×PUnit) (List (Int×Int)×Int×PUnit) (fun (again:Int×List Int×PUnit->Option (List (Int×Int)×Int×PUnit)) (x:Int×List Int×PUnit) =>
 let v25:Bool:=inB x.1 x.2.1.length;
 let v26:Bool:=Nat.ble (Nat.succ x.1.toNat) x.2.1.length;bif decide (x.1<(↑x_1.2.1.length:Int)) then bif v25 then bif v26 then bif v25 then bif v26 then again (IntKind.wrap .i64 (x.1+1),x.2.1.set x.1.toNat (IntKind.wrap .i64 (0 - x.2.1.getD x.1.toNat 0)), PUnit.unit) else none else none else none else none else j ((-1),x.2.1,PUnit.unit)) (0,v21) else j (1,v21)) fun (j:Int×List Int×PUnit->Option (List (Int×Int)×Int×PUnit))=>bif decide (v13.2.1=1) then bif v15 then bif v16 then j (v12,v19.set x.1.toNat 1,PUnit.unit) else none else none else jn (Int×List Int×PUnit) (List (Int×Int)×Int×PUnit) (fun (x:Int×List Int×PUnit)=>j (x.1,x.2.1,PUnit.unit)) fun (j:Int×List Int×PUnit->Option (List (Int × Int)×Int×PUnit))=>bif decide (v13.2.1=2) then bif v15 then bif v16 then j (v12,v19.set x.1.toNat (-1),PUnit.unit) else none else none else j (x.1,v19,PUnit.unit) else none else none else none else none else ah (bq x.2.2.1 x.2.2.2.1 x.2.2.2.2.1 x.2.2.2.2.2.1 x.2.2.2.2.2.2.1 x.2.2.2.2.2.2.2.1 x.2.2.2.2.2.2.2.2.1) fun (y:(List Nat×List (Option (List Int)))×Int×List Int×List Int×List Int×Int×Int×Bool×PUnit)=>bif y.2.2.2.2.2.2.2.1 then some ([],12,PUnit.unit) else lp (List (Int×Int)×Int×PUnit) (List (Int×Int)×Int×PUnit) (fun (again:List (Int×Int)×Int×PUnit->Option (List (Int×Int)×Int×PUnit)) (x:List (Int×Int)×Int×PUnit)=>bif decide (x.2.1<(↑x0.2.length:Int)) then bif inB x.2.1 y.2.2.2.1.length then bif Nat.ble (Nat.succ x.2.1.toNat) y.2.2.2.1.length then ah (bif List.all y.1.1 fun (x:Nat) =>fG y.1.2 x then aI (List.map (fun (x:Nat)=>ai y.1.2 x) y.1.1,y.2.1,y.2.2.1,y.2.2.2.1,y.2.2.2.2.1, y.2.2.2.2.2.1,y.2.2.2.2.2.2.1) (IntKind.wrap .i64 (y.2.2.2.2.2.1+x.2.1)) else none) fun (t:Int)=>ah (bif List.all y.1.1 fun (x:Nat)=>fG y.1.2 x then be (List.map (fun (x:Nat)=>ai y.1.2 x) y.1.1,y.2.1,y.2.2.1,y.2.2.2.1,y.2.2.2.2.1, y.2.2.2.2.2.1,y.2.2.2.2.2.2.1) (IntKind.wrap .i64 (y.2.2.2.1.getD x.2.1.toNat 0*t)) else none) fun (t:Int×Int) => bif eh (List.length x.1+1) 16 then again (x.1++[t],IntKind.wrap .i64 (x.2.1+1),PUnit.unit) else none else none else none else some (x.1,0,PUnit.unit)) ([],0,PUnit.unit)) ((↑x0.1.length:Int),0,([],[]),1,[],[],t,v8,IntKind.wrap .i64 (v8+(↑x0.2.length:Int)),PUnit.unit)) (0,0,PUnit.unit)
def mm (x0:(List Int)×List ((List Int)×Int×Int)):Option ((List (Int×Int))×Int×Unit):=uD lpK jnK bC cY cf bq aI be x0
abbrev t83:=((List Int)×List ((List Int)×Int×Int))->Option ((List (Int×Int))×Int×Unit)
def xu (_:Lp) (_:Jn) (aR:t11) (mm:t83) (x0:(List (ByteArray×Int))×List (ByteArray×(List (ByteArray×Int×Int×Int))×Bool)):Option ((List (Int×Int))×Int×Unit) :=
 ah (aR x0) fun (t:(List Int×List (List Int×Int×Int))×Int×PUnit)=>bif !decide (t.2.1=0) then some ([],t.2.1,PUnit.unit) else ah (mm t.1) fun (t:List (Int×Int)×Int×PUnit)=>some (t.1,t.2.1,PUnit.unit)
def dk (x0:(List (ByteArray×Int))×List (ByteArray×(List (ByteArray×Int×Int×Int))×Bool)):Option ((List (Int×Int))×Int×Unit):=xu lpK jnK aR mm x0
abbrev t36:=((List (ByteArray×Int))×List (ByteArray×(List (ByteArray×Int×Int×Int))×Bool))->Option ((List (Int×Int))×Int×Unit)
def k36 (dk:t36):Ctr:=⟨[T25],[],[],.tup [(.sl T49),i64],fun x _ _=>dk x.1⟩
def tX (_:Lp) (_:Jn) (aw:t72) (x0:Int×Int):Option Bool :=
 ah (aw x0) fun (t:Bool)=>some !t
def ln (x0:Int×Int):Option Bool:=tX lpK jnK aw x0
abbrev Un:=(Int×Int)->Option (Bool)
def vK (_:Lp) (_:Jn) (ct:t87) (ap:t32) (ln:Un) (x0:(List (ByteArray×Int))×List (ByteArray×(List (ByteArray×Int×Int×Int))×Bool)) (x1:List (Int×Int)):Option ((List (List Int))×Int×Unit) :=
 ah (ct x0) fun (t:List (List Int)×Int×PUnit)=>bif !decide (t.2.1=0) then some ([],t.2.1,PUnit.unit) else ah (ap x1 fun (x : (Int×Int)×PUnit)=>ln x.1) fun (t_1:Bool)=>bif t_1 then some ([],1,PUnit.unit) else bif !decide ((↑x1.length:Int)=(↑x0.2.length : Int)) then some ([],3,PUnit.unit) else some (t.1,0,PUnit.unit)
def m7 (x0:(List (ByteArray×Int))×List (ByteArray×(List (ByteArray×Int×Int×Int))×Bool)) (x1:List (Int×Int)):Option ((List (List Int))×Int×Unit):=vK lpK jnK ct ap ln x0 x1
abbrev VO:=((List (ByteArray×Int))×List (ByteArray×(List (ByteArray×Int×Int×Int))×Bool))->(List (Int×Int))->Option ((List (List Int))×Int×Unit)
def zS (_:Lp) (_:Jn) (x0:Int):Option (Int×Int) :=
 some (x0,1)
def jy (x0:Int):Option (Int×Int):=zS lpK jnK x0
abbrev TC:=(Int)->Option (Int×Int)
def wx (_:Lp) (_:Jn) (bU:t35) (fP:Oe) (jy:TC) (x0:Int×Int) (x1:Int) (x2:Int×Int):Option ((Int×Int)×Int×Unit) :=
 ah (jy x1) fun (t:Int×Int)=>ah (fP t x2) fun (t:(Int×Int)×Int×PUnit)=>bif !decide (t.2.1=0) then some ((0,0),t.2.1, PUnit.unit) else ah (bU x0 t.1) fun (t:(Int×Int)×Int×PUnit)=>some (t.1,t.2.1,PUnit.unit)
def o9 (x0:Int×Int) (x1:Int) (x2:Int×Int):Option ((Int×Int)×Int×Unit):=wx lpK jnK bU fP jy x0 x1 x2
abbrev Vp:=(Int×Int)->(Int)->(Int×Int)->Option ((Int×Int)×Int×Unit)
def Bz (_:Lp) (_:Jn) (aw:t72) (bU:t35) (x0:Int×Int) (x1:Int×Int):Option ((Int×Int)×Int×Unit) :=
 ah (aw x0) fun (t:Bool) =>
 let v5:Bool:=!t;
 let v6:Bool:=!v5;
 let v7:Bool:=!v6||v6;bif v7 then ah (bif v6 then aw x1 else some false) fun (t:Bool)=>bif v7 then bif v5||v6 then bif bif v5 then true else !t then some (((0 : Int),0),1,PUnit.unit) else ah (bU x0 (IntKind.wrap .i64 (0 - x1.1),x1.2)) fun (t:(Int×Int)×Int×PUnit)=>some (t.1,t.2.1, PUnit.unit) else none else none else none
def ut (x0:Int×Int) (x1:Int×Int):Option ((Int×Int)×Int×Unit):=Bz lpK jnK aw bU x0 x1
abbrev VE:=(Int×Int)->(Int×Int)->Option ((Int×Int)×Int×Unit)
def rE (lp:Lp) (_:Jn) (m7:VO) (jy:TC) (o9:Vp) (ut:VE) (x0:(List (ByteArray×Int))×List (ByteArray×(List (ByteArray×Int×Int×Int))×Bool)) (x1:List (Int×Int)):Option ((List (Int×Int))×Int×Unit) :=
 ah (m7 x0 x1) fun (t:List (List Int)×Int×PUnit)=>bif !decide (t.2.1=0) then some ([],t.2.1,PUnit.unit) else lp (List (Int×Int)×Int×Int × PUnit) (List (Int×Int)×Int×PUnit) (fun (again:List (Int×Int)×Int×Int×PUnit->Option (List (Int×Int)×Int×PUnit)) (x:List (Int×Int)×Int×Int×PUnit) =>
 let v7:List Int:=t.1.getD x.2.2.1.toNat [];bif decide (x.2.2.1<(↑t.1.length:Int)) then ah (jy 0) fun (t_1:Int×Int)=>lp (Int×(Int×Int)×PUnit) (List (Int×Int)×Int×PUnit) (fun (again_1:Int×(Int×Int)×PUnit->Option (List (Int×Int)×Int×PUnit)) (x_1:Int×(Int×Int)×PUnit) => bif decide (x_1.1<(↑x1.length:Int)) then bif inB x.2.2.1 t.1.length then bif inB x_1.1 v7.length then bif inB x_1.1 x1.length then ah (o9 x_1.2.1 (v7.getD x_1.1.toNat 0) (x1.getD x_1.1.toNat (0,0))) fun (t:(Int×Int)×Int×PUnit) =>
 let v12:Bool:=!decide (t.2.1=0);bif v12 then bif v12 then some ([],t.2.1,PUnit.unit) else some (x.1,0,PUnit.unit) else again_1 (IntKind.wrap IntKind.i64 (x_1.1+1),t.1,PUnit.unit) else none else none else none else bif inB x.2.2.1 x0.1.length then ah (jy (x0.1.getD x.2.2.1.toNat ({ data:={ toList:=[] } },0)).2) fun (t:Int×Int)=>ah (ut t x_1.2.1) fun (t:(Int×Int)×Int×PUnit) =>
 let v13:Bool:=!decide (t.2.1=0);bif v13 then bif v13 then some ([],t.2.1,PUnit.unit) else some (x.1,0,PUnit.unit) else bif eh (List.length x.1 + 1) 16 then again (x.1++[t.1],t.2.1,IntKind.wrap .i64 (x.2.2.1+1),PUnit.unit) else none else none) (0,t_1,PUnit.unit) else bif !decide (x.2.1=0) then some ([],x.2.1,PUnit.unit) else some (x.1,0,PUnit.unit)) ([],0,0,PUnit.unit)
def jN (x0:(List (ByteArray×Int))×List (ByteArray×(List (ByteArray×Int×Int×Int))×Bool)) (x1:List (Int×Int)):Option ((List (Int×Int))×Int×Unit):=rE lpK jnK m7 jy o9 ut x0 x1
abbrev t84:=((List (ByteArray×Int))×List (ByteArray×(List (ByteArray×Int×Int×Int))×Bool))->(List (Int×Int))->Option ((List (Int×Int))×Int×Unit)
def td (_:Lp) (_:Jn) (x0:Int×Int):Option Bool :=
 some !decide (x0.1=0)
def ll (x0:Int×Int):Option Bool:=td lpK jnK x0
abbrev t85:=(Int×Int)->Option (Bool)
def vI (_:Lp) (_:Jn) (ap:t32) (jN:t84) (ll:t85) (x0:(List (ByteArray×Int))×List (ByteArray×(List (ByteArray×Int×Int×Int))×Bool)) (x1:List (Int×Int)):Option (Bool×Int×Unit) :=
 ah (jN x0 x1) fun (t:List (Int×Int)×Int×PUnit)=>bif !decide (t.2.1=0) then some (false,t.2.1,PUnit.unit) else ah (ap t.1 fun (x:(Int×Int)×PUnit)=>ll x.1) fun (t:Bool)=>some (!t,0,PUnit.unit)
def cV (x0:(List (ByteArray×Int))×List (ByteArray×(List (ByteArray×Int×Int×Int))×Bool)) (x1:List (Int×Int)):Option (Bool×Int×Unit):=vI lpK jnK ap jN ll x0 x1
abbrev t37:=((List (ByteArray×Int))×List (ByteArray×(List (ByteArray×Int×Int×Int))×Bool))->(List (Int×Int))->Option (Bool×Int×Unit)
def k37 (cV:t37):Ctr:=⟨[T25,(.sl T49)],[],[],.tup [.bool,i64],fun x _ _=>cV x.1 x.2.1⟩
def uz (lp:Lp) (_:Jn) (x0:List (Int×Int)):Option Bool :=
 lp (Int×PUnit) Bool (fun (again:Int×PUnit->Option Bool) (x:Int×PUnit)=>bif decide (x.1<(↑x0.length:Int)) then bif inB x.1 x0.length then bif decide ((x0.getD x.1.toNat (0,0)).1<0) then some false else again (IntKind.wrap .i64 (x.1+1),PUnit.unit) else none else some true) (0,PUnit.unit)
def cN (x0:List (Int×Int)):Option Bool:=uz lpK jnK x0
abbrev t38:=(List (Int×Int))->Option (Bool)
def k38 (cN:t38):Ctr:=⟨[(.sl T49)],[],[],.one .bool,fun x _ _=>cN x.1⟩
def mi (_:Lp) (_:Jn) (a9:t12) (aW:t19) (aY:t9) (br:t10) (dk:t36) (cV:t37) (cN:t38) (x0:(List (ByteArray×Int))×List (ByteArray×(List (ByteArray×Int×Int×Int))×Bool)):Option Bool :=
 ah aY fun (t:Bool)=>bif !t then some false else ah (br x0 []) fun (t:Bool)=>bif !t then some true else ah (aW x0) fun (t:List (Int×Int)×Int × PUnit) =>
 let v6:Bool:=decide (t.2.1=1);
 let v7:Bool:=decide ((↑t.1.length:Int)=0);
 let v8:Bool:=!v7||v7;ah (dk x0) fun (t_1:List (Int×Int)×Int×PUnit) =>
 let v10:Bool:=bif v7 then decide (t_1.2.1=0) else false;
 let v11:Bool:=decide ((↑t_1.1.length:Int)=0);
 let v12:Bool:=bif v7 then decide (t_1.2.1=t.2.1) else false;
 let v13:Bool:=!v10||v10;
 let v14:Bool:=bif v12 then v11 else false;
 let v15:Bool:=!v14;
 let v16:Bool:=v14&&!v6;
 let v17:Bool:=!v12||v12;
 let v18:Bool:=v15||v14;bif decide (t.2.1=0) then ah (cV x0 t.1) fun (t_2:Bool×Int×PUnit)=>ah (cN t.1) fun (t:Bool) =>
 let v21:Bool:=!t||t;
 let v22:Bool:=bif t then decide (t_2.2.1=0) else false;
 let v23:Bool:=bif v22 then t_2.1 else false;
 let v24:Bool:=bif v23 then decide (t_1.2.1=12) else false;
 let v25:Bool:=!v23||v23;
 let v26:Bool:=!v24||v24;bif v21 then bif v21 then bif !v22||v22 then bif v25 then bif v25 then bif v26 then bif v26 then bif v26 then some (bif v24 then v11 else false) else none else none else none else none else none else none else none else none else bif decide (t.2.1=22) then ah (a9 x0 t_1.1) fun (t:Bool×Int×PUnit) =>
 let v20:Bool:=bif v10 then decide (t.2.1=0) else false;bif v8 then bif v8 then bif v13 then bif v13 then bif !v20||v20 then some (bif v20 then t.1 else false) else none else none else none else none else none else bif v8&&v8 then bif v8 then bif v17 then bif v17 then bif v17 then bif v18 then bif v18 then bif !v16||v16 then bif (v15||v18) && (v15||(v6||(v15||v16))) then bif v18 then some (bif v14 then bif v6 then true else decide (t.2.1=5) else false) else none else none else none else none else none else none else none else none else none else none
def uN (x0:(List (ByteArray×Int))×List (ByteArray×(List (ByteArray×Int×Int×Int))×Bool)):Option Bool:=mi lpK jnK a9 aW aY br dk cV cN x0
def c6:Ctr:=⟨[T25],[],[],.one .bool,fun x _ _=>uN x.1⟩
theorem e6 (lp:Lp) (jn:Jn) (a9:t12) (aW:t19) (aY:t9) (br:t10) (dk:t36) (cV:t37) (cN:t38):∀(x:TsS c6.as) (F:TsF c6.fs) (y:TsS c6.cs),mi lp jn a9 aW aY br dk cV cN x.1=bv lp jn (cx [(38,k38 cN),(37,k37 cV),(36,k36 dk),(10,k10 br),(9,k9 aY),(19,k19 aW),(12,k12 a9)] [(134,a7)]) ak 4 6 f6 c6 x F y:=fun x F y=>by kernel_rfl
def sY (lp:Lp) (_:Jn) (x0:List ByteArray) (x1:ByteArray):Option Int :=
 lp (Int×PUnit) Int (fun (again:Int×PUnit->Option Int) (x:Int×PUnit)=>bif decide (x.1<(↑x0.length:Int)) then bif inB x.1 x0.length then bif List.beq (ByteArray.toList x1) (ByteArray.toList (x0.getD x.1.toNat { data:={ toList:=[] } })) then some x.1 else again (IntKind.wrap .i64 (x.1+1), PUnit.unit) else none else some (-1)) (0,PUnit.unit)
def lj (x0:List ByteArray) (x1:ByteArray):Option Int:=sY lpK jnK x0 x1
abbrev t86:=(List ByteArray)->(ByteArray)->Option (Int)
def pJ (_:Lp) (_:Jn) (lj:t86) (x0:List ByteArray) (x1:ByteArray):Option Bool :=
 ah (lj x0 x1) fun (t:Int)=>some (decide (t>=0))
def dx (x0:List ByteArray) (x1:ByteArray):Option Bool:=pJ lpK jnK lj x0 x1
abbrev t40:=(List ByteArray)->(ByteArray)->Option (Bool)
def k40 (dx:t40):Ctr:=⟨[(.sl .str),.str],[],[],.one .bool,fun x _ _=>dx x.1 x.2.1⟩
def lw (lp:Lp) (jn:Jn) (eu:t39) (a9:t12) (aW:t19) (bi:t20) (aV:t21) (aY:t9) (br:t10) (cD:t27) (dk:t36) (cV:t37) (cN:t38) (dx:t40) (x0:(List (ByteArray×Int))×List (ByteArray×(List (ByteArray×Int×Int×Int))×Bool)) (x1:List (Int×Int)) (x2:List (Int×Int)):Option Bool :=
 ah aY fun (t:Bool)=>bif !t then some false else ah (br x0 x1) fun (t:Bool) =>
 let v7:Bool:=!t;
 let v8:Bool:=!v7;
 let v9:Bool:=!v8||v8;bif v9 then bif v9 then bif v7||v8 then bif bif v7 then true else decide ((↑x2.length:Int)>10) then some true else ah (cV x0 x1) fun (t:Bool×Int×PUnit) =>
 let v11:Bool:=!decide (t.2.1=0);
 let v12:Bool:=!v11;
 let v13:Bool:=bif v11 then true else !t.1;
 let v14:Bool:=!v13;
 let v15:Bool:=!v14||v14;bif !v12||v12 then bif v11||v12 then bif v15 then ah (bif v14 then cN x1 else some false) fun (t:Bool)=>bif v15 then bif v13||v14 then bif bif v13 then true else !t then some true else ah (a9 x0 x2) fun (t:Bool×Int×PUnit) =>
 let v18:Bool:=decide (t.2.1=0);bif !v18||v18 then bif bif v18 then t.1 else false then some false else ah (dk x0) fun (t:List (Int×Int)×Int × PUnit) =>
 let v20:Bool:=!decide (t.2.1=12);
 let v21:Bool:=!v20||v20;bif v21 then bif v21 then bif bif v20 then !decide (t.2.1=5) else false then some false else ah (aW x0) fun (t:List (Int×Int) × Int×PUnit)=>bif !decide (t.2.1=0) then some (decide (t.2.1=5)) else ah (cD x1) fun (t_1:(Int×Int)×Int×PUnit) =>
 let v24:Bool:=decide (t_1.2.1=0);
 let v25:Bool:=!v24||v24;ah (cD t.1) fun (t:(Int×Int)×Int×PUnit)=>bif v25 then bif v25 then jn PUnit Bool (fun (_:PUnit)=>ah (aV x0) fun (t : List ByteArray×Int×PUnit) =>
 let v29:Bool:=decide (t.2.1=0);
 let v30:Bool:=!v29||v29;lp (Int×PUnit) Bool (fun (again:Int×PUnit->Option Bool) (x:Int×PUnit) =>
 let v33:Bool:=inB x.1 x1.length;bif decide (x.1<(↑x0.2.length:Int)) then bif inB x.1 x0.2.length then ah (bi x0 (x0.2.getD x.1.toNat ({ data:={ toList:=[] } },[],false)).1) fun (t_2:(Int×Int)×Int×PUnit) =>
 let v35:Bool:=!decide (t_2.2.1=0);
 let v36:Bool:=!v35;bif decide (t_2.2.1=5) then again (IntKind.wrap .i64 (x.1+1),PUnit.unit) else bif v33 then ah (eu t_2.1 (x1.getD x.1.toNat (0,0))) fun (t_3:Int×Int×PUnit) =>
 let v38:Bool:=bif v35 then true else !decide (t_3.2.1=0);
 let v39:Bool:=!v38;bif !v36||v36 then bif v35||v36 then bif !v39||v39 then bif v38||v39 then bif bif v38 then true else decide (t_3.1>0) then some false else bif v30 then bif v30&&v30 then ah (bif v29 then dx t.1 (x0.2.getD x.1.toNat ({ data:={ toList:=[] } },[],false)).1 else some false) fun (t : Bool) =>
 let v41:Bool:=bif v29 then t else false;
 let v42:Bool:=!v41;
 let v43:Bool:=v42||v41;bif v30 then bif v43&&(v43&&(v42||v33)) then bif v43 then bif v43 then bif v43 then bif v43 then bif bif v41 then !decide ((x1.getD x.1.toNat (0,0)).1=0) else false then some false else again (IntKind.wrap .i64 (x.1+1),PUnit.unit) else none else none else none else none else none else none else none else none else none else none else none else none else none else none else some true) (0,PUnit.unit)) fun (j:PUnit->Option Bool)=>bif bif v24 then decide (t.2.1=0) else false then ah (eu t.1 t_1.1) fun (t:Int×Int×PUnit) =>
 let v29:Bool:=!decide (t.2.1=0);
 let v30:Bool:=!v29;bif !v30||v30 then bif v29||v30 then bif bif v29 then true else decide (t.1>0) then some false else j PUnit.unit else none else none else j PUnit.unit else none else none else none else none else none else none else none else none else none else none else none else none else none
def s7 (x0:(List (ByteArray×Int))×List (ByteArray×(List (ByteArray×Int×Int×Int))×Bool)) (x1:List (Int×Int)) (x2:List (Int×Int)):Option Bool:=lw lpK jnK eu a9 aW bi aV aY br cD dk cV cN dx x0 x1 x2
def c7:Ctr:=⟨[T25,(.sl T49),(.sl T49)],[],[],.one .bool,fun x _ _=>s7 x.1 x.2.1 x.2.2.1⟩
theorem e7 (lp:Lp) (jn:Jn) (eu:t39) (a9:t12) (aW:t19) (bi:t20) (aV:t21) (aY:t9) (br:t10) (cD:t27) (dk:t36) (cV:t37) (cN:t38) (dx:t40):∀(x:TsS c7.as) (F:TsF c7.fs) (y:TsS c7.cs),lw lp jn eu a9 aW bi aV aY br cD dk cV cN dx x.1 x.2.1 x.2.2.1=bv lp jn (cx [(40,k40 dx),(38,k38 cN),(37,k37 cV),(36,k36 dk),(27,k27 cD),(10,k10 br),(9,k9 aY),(21,k21 aV),(20,k20 bi),(19,k19 aW),(12,k12 a9),(39,k39 eu)] [(134,a7)]) ak 4 7 f7 c7 x F y:=fun x F y=>by kernel_rfl
end
end Go.Proofs.YtfknoaclabfdlaaGreat

namespace Go.Proofs.YtfknoaclabfdlaaGreat
namespace Dn
section
variable {T R α σ:Type}
theorem af {t:T} {k:T->Option R}:ah (some t) k=k t:=rfl
theorem Cw {F:(α->Option R)->α->Option R} {g:α->Option R} (I:α->Prop) (μ:α->Nat)
  (h:∀x rec,I x->(∀y,I y->μ y<μ x->rec y=g y)->F rec x=g x):∀{n:Nat} {x:α},I x->μ x<n->jC F n x=g x
 | 0,x,_,hn=>by omega
 | n+1,x,hx,hn=>by
  rw[ij]
  exact h x _ hx fun y hy hlt=>Cw I μ h hy (by omega)
theorem jh {F:(α->Option R)->α->Option R} {g:α->Option R} (I:α->Prop) (μ:α->Nat)
  (h:∀x rec,I x->(∀y,I y->μ y<μ x->rec y=g y)->F rec x=g x) {x:α} (hx:I x) (hn:μ x<1180591620717411303424):lpK α R F x=g x:=Cw I μ h hx hn
theorem qS {j:α->Option R} {f:(α->Option R)->Option R}:jnK α R j f=f j:=rfl
theorem aB {x:Int} (h1: -9223372036854775808<=x) (h2:x<9223372036854775808):IntKind.wrap .i64 x=x:=by
 rw[IntKind.wrap_i64];omega
def upF (b:Nat->σ->(σ->Option R)->Option R) (f:σ->Option R):Nat->Nat->σ->Option R
 | 0,_,s=>f s
 | k+1,i,s=>b i s (upF b f k (i+1))
theorem KJ {F:(α->Option R)->α->Option R} (n:Nat) (hn:n<=1180591620717411303423) (enc:Nat->σ->α) (b:Nat->σ->(σ->Option R)->Option R) (f:σ->Option R)
  (hb:∀again (i:Nat) s,i<n->F again (enc i s)=b i s (fun s'=>again (enc (i+1) s'))) (hf:∀again s,F again (enc n s)=f s) (s:σ) :
  jC F K0 (enc 0 s)=upF b f n 0 s:=by
 have key:∀(k:Nat) (i:Nat) (m:Nat) (s:σ),i+k=n->k<m->jC F m (enc i s)=upF b f k i s:=by
  intro k
  induction k with
  | zero =>
   intro i m s h1 h2
   obtain ⟨m,rfl⟩:∃m',m=m'+1:=⟨m - 1,by omega⟩
   have:i=n:=by omega
   subst this
   simp only[ij,hf,upF]
  | succ k ih =>
   intro i m s h1 h2
   obtain ⟨m,rfl⟩:∃m',m=m'+1:=⟨m - 1,by omega⟩
   simp only[ij,upF]
   rw[hb _ _ _ (by omega)]
   congr 1
   funext s'
   exact ih (i+1) m s' (by omega) (by omega)
 exact key n 0 K0 s (by omega) (by unfold K0;omega)
theorem ay {i n:Nat}:inB (i:Int) n=decide (i<n):=by
 rw[Bool.eq_iff_iff,jQ,decide_eq_true_iff];omega
theorem po {i:Int} {n:Nat} (h1:0<=i) (h2:i<n):inB i n=true:=jQ.2 ⟨h1,h2⟩
theorem kD {n:Int} (h:n≠0):nzB n=true:=AA.2 h
theorem JK {lo hi:Int} {n:Nat} (h1:0<=lo) (h2:lo<=hi) (h3:hi<=n):slB lo hi n=true:=qT.2 ⟨h1,h2,h3⟩
theorem dQ {n k:Nat} (h:n*k<=140737488355328):eh n k=true:=kV.2 h
theorem aH {n m:Nat} (h:n<=m):Nat.ble n m=true:=by rw[Nat.ble_eq];exact h
theorem cT0 {α:Sort _} {c:Bool} (h:c=true) (a b:α):cond c a b=a:=by subst h;rfl
theorem cT {α:Sort _} (a b:α):cond true a b=a:=cT0 (Eq.trans rfl rfl) a b
theorem cF0 {α:Sort _} {c:Bool} (h:c=false) (a b:α):cond c a b=b:=by subst h;rfl
theorem cF {α:Sort _} (a b:α):cond false a b=b:=cF0 (Eq.trans rfl rfl) a b
theorem ff {b:Bool}:(b||!b)=true:=by cases b<;>rfl
theorem aX {b:Bool}:(!b||b)=true:=by cases b<;>rfl
theorem jt {b:Bool} {c:Bool}:(bif b then c else false)=(b&&c):=by cases b<;>rfl
theorem Gq {b:Bool} {c:Bool}:(bif b then true else c)=(b||c):=by cases b<;>rfl
theorem Fw {a b:Int}:(if b>a then b else a)=max a b:=by omega
theorem bR {l:List α} {d:α} {i:Nat} (h:i<l.length):l.getD i d=l[i]:=by simp[List.getD,h]
end
end Dn
end Go.Proofs.YtfknoaclabfdlaaGreat

namespace Go.Proofs.YtfknoaclabfdlaaGreat
noncomputable section
open Tryz Dn Dn.Sh
theorem jH (a b:ByteArray):List.beq (ByteArray.toList a) (ByteArray.toList b)=decide (a=b):=by
 show (a.toList ==b.toList)=_
 rw[ByteArray.toList_eq,ByteArray.toList_eq,Bool.eq_iff_iff,decide_eq_true_iff,beq_iff_eq]
 exact ⟨fun h=>ByteArray.ext (Array.toList_inj.mp h),fun h=>by rw[h]⟩
theorem Lj {α R:Type} {F:(α->Option R)->α->Option R} (I:α->Prop) (μ:α->Nat) (h:∀x rec,I x->(∀y,I y->μ y<μ x->(rec y).isSome=true)->(F rec x).isSome=true) {x:α} (hx:I x) (hn:μ x<1180591620717411303424):(lpK α R F x).isSome=true:=by
 have key:∀n x,I x->μ x<n->(jC F n x).isSome=true:=by
  intro n
  induction n with
  | zero=>intro x _ h;omega
  | succ n ih =>
   intro x hx hn
   rw[ij]
   exact h x _ hx fun y hy hlt=>ih y hy (by omega)
 exact key _ x hx hn
theorem vo:bw=cE:=by
 funext c
 rfl
theorem DR:dR=gi:=by
 funext c
 rfl
theorem qm (c:Int):∃b,bw c=some b:=by
 simp only[bw,kc,aX,ff,cond_true]
 cases decide (c>=97)<;>cases decide (c<=122)<;>cases decide (c>=65)<;>exact ⟨_,rfl⟩
theorem Ef (c:Int):∃b,dR c=some b:=by
 simp only[dR,lc,aX,cond_true]
 exact ⟨_,rfl⟩
theorem yi {s:ByteArray} (h:s.size<=1000000):∃n,dH s=some n:=by
 rw[<-Option.isSome_iff_exists]
 simp only[dH,jL]
 refine Lj (I:=fun (x:Int×PUnit)=>0<=x.1/\x.1<=s.size) (μ:=fun (x:Int×PUnit)=>((s.size:Int) - x.1).toNat) (x:=((0:Int),PUnit.unit)) ?_ ⟨Int.le_refl _,by simp only;omega⟩ (by simp only;omega)
 rintro ⟨i,_⟩ rec ⟨h0,h1⟩ hrec
 simp only at h0 h1 ⊢
 by_cases hi:i<s.size
 ·rw[po h0 hi,z7 hi]
  obtain ⟨b,hb⟩:=qm (fA s i.toNat)
  obtain ⟨c,hc⟩:=Ef (fA s i.toNat)
  have hw:IntKind.wrap .i64 (i+1)=i+1:=aB (by omega) (by omega)
  have hr:=hrec (i+1,PUnit.unit) ⟨by simp only;omega,by simp only;omega⟩ (by simp only;omega)
  simp only[hb,hc,hw]
  cases b<;>cases c<;>cases decide (fA s i.toNat=95)<;>simp[af,hr]
 ·rw[z8 hi]
  simp[af]
theorem Hq (s:ByteArray):gA s 0=dH s:=by
 simp only[gA,pj,dH,jL,vo,DR]
def rX (s:ByteArray):Bool:=decide (0<s.size)&&(decide (s.size<=20)&&((bw (fA s 0)).getD false&&decide ((dH s).getD 0=(s.size:Int))))
theorem zk (s:ByteArray):s={ data:=#[] }↔s.size=0:=by
 constructor
 ·intro h;rw[h];rfl
 ·intro h
  apply ByteArray.ext
  exact Array.eq_empty_of_size_eq_zero h
theorem Hi (s:ByteArray):du s=some (rX s):=by
 simp only[du,kl,jH,aX,Bool.and_self,cond_true]
 unfold rX
 by_cases h0:s.size=0
 ·have e:decide (s={ data:=#[] })=true:=z7 ((zk s).2 h0)
  simp[e,h0,af]
 ·have e:decide (s={ data:=#[] })=false:=z8 fun h=>h0 ((zk s).1 h)
  by_cases h1:s.size<=20
  ·obtain ⟨b,hb⟩:=qm (fA s 0)
   obtain ⟨n,hn⟩:=yi (s:=s) (by omega)
   have h2:decide ((s.size:Int)<=20)=true:=z7 (by omega)
   rw[po (show (0:Int)<=0 by omega) (show (0:Int)<s.size by omega)]
   simp only[e,h2,hb,hn]
   cases b<;>simp[af,h1,show 0<s.size by omega]
  ·have h2:decide ((s.size:Int)<=20)=false:=z8 (by omega)
   simp[e,h2,h1,af]
theorem AN (s:ByteArray):eK s=some (rX s):=by
 simp only[eK,mr,aX,ff,cond_true]
 unfold rX
 by_cases h0:s.size=0
 ·simp[h0,af]
 ·have e:decide ((s.size:Int)=0)=false:=z8 (by omega)
  by_cases h1:s.size<=20
  ·obtain ⟨b,hb⟩:=qm (fA s 0)
   obtain ⟨n,hn⟩:=yi (s:=s) (by omega)
   have h2:decide ((s.size:Int)>20)=false:=z8 (by omega)
   rw[po (show (0:Int)<=0 by omega) (show (0:Int)<s.size by omega),Hq]
   simp only[e,h2,<-vo,hb,hn]
   cases b<;>simp[af,h1,show 0<s.size by omega]
  ·have h2:decide ((s.size:Int)>20)=true:=z7 (by omega)
   simp[h2,h1,af]
end
end Go.Proofs.YtfknoaclabfdlaaGreat

namespace Go.Proofs.YtfknoaclabfdlaaGreat
namespace Dn
abbrev Fq:=Int×Int
def okF (a:Fq):Prop:=(1<=a.2/\a.2<=1152921504606846976)/\(-1152921504606846976<=a.1/\a.1<=1152921504606846976)/\Nat.gcd a.1.natAbs a.2.natAbs=1
instance (a:Fq):Decidable (okF a):=by unfold okF;infer_instance
def qv (a:Fq):Rat:=mkRat a.1 a.2.toNat
def fZ (q:Rat):Prop:=q.num.natAbs<=1152921504606846976/\q.den<=1152921504606846976
instance (q:Rat):Decidable (fZ q):=by unfold fZ;infer_instance
def prQ (q:Rat):Fq:=(q.num,(q.den:Int))
def te (q:Rat):Fq×Int×Unit:=if fZ q then (prQ q,0,()) else ((0,0),5,())
theorem Pa {a:Fq} (h:okF a):(qv a).num=a.1:=by
 obtain ⟨⟨h1,h2⟩,_,h3⟩:=h
 have h0:a.2.toNat≠0:=by omega
 have h4:Nat.gcd a.2.toNat a.1.natAbs=1:=by rw[Nat.gcd_comm,show a.2.toNat=a.2.natAbs by omega];exact h3
 rw[qv,Rat.num_mkRat,if_neg h0,h4]
 simp
theorem NM {a:Fq} (h:okF a):((qv a).den:Int)=a.2:=by
 obtain ⟨⟨h1,h2⟩,_,h3⟩:=h
 have h0:a.2.toNat≠0:=by omega
 have h4:Nat.gcd a.2.toNat a.1.natAbs=1:=by rw[Nat.gcd_comm,show a.2.toNat=a.2.natAbs by omega];exact h3
 rw[qv,Rat.den_mkRat,if_neg h0,h4]
 simp;omega
theorem Eh (q:Rat):qv (prQ q)=q:=by
 unfold qv prQ
 simp only[z9]
 exact Rat.mkRat_self q
theorem Ga {q:Rat} (h:fZ q):okF (prQ q):=by
 obtain ⟨h1,h2⟩:=h
 have:=q.den_pos
 refine ⟨⟨?_,?_⟩,⟨?_,?_⟩,?_⟩
 ·simp only[prQ];omega
 ·simp only[prQ];omega
 ·simp only[prQ];omega
 ·simp only[prQ];omega
 ·simp only[prQ]
  rw[Int.natAbs_natCast]
  exact q.reduced
theorem Kf {a:Fq} (h:okF a):fZ (qv a):=by
 unfold fZ
 have h1:=Pa h
 have h2:=NM h
 obtain ⟨⟨_,_⟩,⟨_,_⟩,_⟩:=h
 rw[h1]
 omega
theorem wV (q:Rat):(fZ q/\te q=(prQ q,0,()))\/(¬ fZ q/\te q=((0,0),5,())):=by
 unfold te
 by_cases h:fZ q
 ·exact .inl ⟨h,by rw[if_pos h]⟩
 ·exact .inr ⟨h,by rw[if_neg h]⟩
theorem Om {n:Int} (h1: -1152921504606846976<=n) (h2:n<=1152921504606846976):okF (n,1):=⟨⟨by simp,by simp⟩,⟨h1,h2⟩,by simp⟩
def sgn (s:Bool) (n:Nat):Int:=if s then -(n:Int) else n
theorem FE {s:Bool} {n d:Nat} (hd:0<d) (hc:Nat.gcd n d=1):(mkRat (sgn s n) d).num=sgn s n/\(mkRat (sgn s n) d).den=d:=by
 have h0:d≠0:=by omega
 have ha:(sgn s n).natAbs=n:=by unfold sgn;split<;>simp
 have hg:Nat.gcd d (sgn s n).natAbs=1:=by rw[ha,Nat.gcd_comm];exact hc
 rw[Rat.num_mkRat,Rat.den_mkRat,if_neg h0,if_neg h0,hg]
 simp
theorem Ak {s:Bool} {n d:Nat} (hd:0<d):mkRat (sgn s n) d=mkRat (sgn s (n / Nat.gcd n d)) (d / Nat.gcd n d)/\0<d / Nat.gcd n d/\Nat.gcd (n / Nat.gcd n d) (d / Nat.gcd n d)=1:=by
 have hg:0<Nat.gcd n d:=Nat.gcd_pos_of_pos_right _ hd
 have h1:n / Nat.gcd n d*Nat.gcd n d=n:=Nat.div_mul_cancel (Nat.gcd_dvd_left n d)
 have h2:d / Nat.gcd n d*Nat.gcd n d=d:=Nat.div_mul_cancel (Nat.gcd_dvd_right n d)
 refine ⟨?_,Nat.div_pos (Nat.le_of_dvd hd (Nat.gcd_dvd_right n d)) hg,Nat.gcd_div_gcd_div_gcd_of_pos_right hd⟩
 have h3:sgn s n=sgn s (n / Nat.gcd n d)*(Nat.gcd n d:Int):=by
  unfold sgn
  split
  ·rw[Int.neg_mul,<-Int.natCast_mul,h1]
  ·rw[<-Int.natCast_mul,h1]
 have h4:mkRat (sgn s n) d=mkRat (sgn s (n / Nat.gcd n d)*(Nat.gcd n d:Int)) (d / Nat.gcd n d*Nat.gcd n d):=by rw[<-h3,h2]
 rw[h4]
 exact Rat.mkRat_mul_right (by omega)
theorem GI {s:Bool} {n d m e:Nat} (hd:0<d) (he:0<e) (h:n*e=m*d):mkRat (sgn s n) d=mkRat (sgn s m) e:=by
 rw[Rat.mkRat_eq_iff (by omega) (by omega)]
 unfold sgn
 split
 ·rw[Int.neg_mul,Int.neg_mul,<-Int.natCast_mul,<-Int.natCast_mul,h]
 ·rw[<-Int.natCast_mul,<-Int.natCast_mul,h]
theorem A8 {s:Bool} {n d:Nat} (hd:0<d) (hc:Nat.gcd n d=1):te (mkRat (sgn s n) d)=if n<=1152921504606846976/\d<=1152921504606846976 then ((sgn s n,(d:Int)),0,()) else ((0,0),5,()):=by
 obtain ⟨h1,h2⟩:=FE (s:=s) hd hc
 have ha:(sgn s n).natAbs=n:=by unfold sgn;split<;>simp
 unfold te
 have e:fZ (mkRat (sgn s n) d)↔n<=1152921504606846976/\d<=1152921504606846976:=by unfold fZ;rw[h1,h2,ha]
 have e2:prQ (mkRat (sgn s n) d)=(sgn s n,(d:Int)):=by unfold prQ;rw[h1,h2]
 rw[e2]
 by_cases h:n<=1152921504606846976/\d<=1152921504606846976
 ·rw[if_pos h,if_pos (e.2 h)]
 ·rw[if_neg h,if_neg (fun hh=>h (e.1 hh))]
theorem pS (n:Int):n=sgn (decide (n<0)) n.natAbs:=by
 unfold sgn
 by_cases h:n<0
 ·simp[h];omega
 ·simp[h];omega
theorem Ik (s t:Bool):sgn s 0=sgn t 0:=by unfold sgn;cases s<;>cases t<;>rfl
end Dn
end Go.Proofs.YtfknoaclabfdlaaGreat

namespace Go.Proofs.YtfknoaclabfdlaaGreat
open Tryz Dn Dn.Sh
theorem bN {x:Int} (h1:0<=x) (h2:x<18446744073709551616):IntKind.wrap .u64 x=x:=by
 rw[IntKind.wrap_u64];omega
theorem rp {x:Int} (h1: -9223372036854775808<=x) (h2:x<9223372036854775808):aM x=some (x.natAbs:Int):=by
 simp only[aM,oG]
 by_cases h:x<0
 ·simp only[h,decide_true,cond_true]
  rw[IntKind.wrap_u64,IntKind.wrap_u64]
  congr 1;omega
 ·simp only[h,decide_false,cond_false]
  rw[bN (by omega) (by omega)]
  congr 1;omega
theorem A3 (m n:Nat) (hn:n<18446744073709551616):bA (m:Int) (n:Int)=some ((Nat.gcd m n:Nat):Int):=by
 simp only[bA,qu]
 refine jh (g:=fun x=>some ((Nat.gcd x.1.toNat x.2.1.toNat:Nat):Int)) (I:=fun (x:Int×Int×PUnit)=>0<=x.1/\0<=x.2.1) (μ:=fun (x:Int×Int×PUnit)=>x.2.1.toNat) (x:=((m:Int),(n:Int),PUnit.unit)) ?_ ⟨Int.natCast_nonneg _,Int.natCast_nonneg _⟩ (by simp only;omega)
 rintro ⟨a,b,_⟩ rec ⟨h1,h2⟩ hrec
 simp only at h1 h2 ⊢
 by_cases hb:b=0
 ·subst hb
  simp only[decide_true,Bool.not_true,cond_false,Int.toNat_zero,Nat.gcd_zero_right]
  congr 1;omega
 ·rw[z8 hb,kD hb,Int.tmod_eq_emod_of_nonneg h1]
  simp only[Bool.not_false,cT]
  have h3:0<=a % b:=Int.emod_nonneg _ hb
  have h4:a % b<b:=Int.emod_lt_of_pos _ (by omega)
  rw[hrec _ ⟨by simp only;omega,by simp only;omega⟩ (by simp only;omega)]
  simp only
  congr 2
  rw[Int.toNat_emod h1 h2,Nat.gcd_comm a.toNat,Nat.gcd_rec b.toNat a.toNat,Nat.gcd_comm]
theorem yT (s:Bool) (n d:Nat) (h1:n<18446744073709551616) (h2:d<18446744073709551616) :
  bh s (n:Int) (d:Int)=some (if n<=1152921504606846976/\d<=1152921504606846976 then ((sgn s n,(d:Int)),0,()) else ((0,0),5,())):=by
 simp only[bh,mf,aX,ff,cond_true]
 by_cases hn:n<=1152921504606846976
 ·by_cases hd:d<=1152921504606846976
  ·have e1:decide ((n:Int)>1152921504606846976)=false:=z8 (by omega)
   have e2:decide ((d:Int)>1152921504606846976)=false:=z8 (by omega)
   rw[aB (x:=(n:Int)) (by omega) (by omega),aB (x:=(d:Int)) (by omega) (by omega),aB (x:=0 - (n:Int)) (by omega) (by omega)]
   simp only[e1,e2,cond_false,hn,hd,and_self,if_true]
   cases s<;>simp[sgn]
  ·have e2:decide ((d:Int)>1152921504606846976)=true:=z7 (by omega)
   simp only[e2,Gq,Bool.or_true,cond_true,hd,and_false,if_false]
 ·have e1:decide ((n:Int)>1152921504606846976)=true:=z7 (by omega)
  simp only[e1,cond_true,hn,false_and,if_false]
def BH (n d:Int):Rat:=mkRat (sgn (decide (n<0) !=decide (d<0)) n.natAbs) d.natAbs
theorem wg {n d:Int} (hd:d≠0):BH n d=(n:Rat) / d:=by
 unfold BH
 rw[<-Rat.divInt_eq_div,show mkRat (sgn (decide (n<0) !=decide (d<0)) n.natAbs) d.natAbs=Rat.divInt (sgn (decide (n<0) !=decide (d<0)) n.natAbs) (d.natAbs:Int) from (Rat.divInt_ofNat _ _).symm]
 rw[Rat.divInt_eq_divInt_iff (by omega) hd]
 unfold sgn
 by_cases h1:n<0<;>by_cases h2:d<0
 ·rw[show ((n.natAbs:Nat):Int)= -n by omega,show ((d.natAbs:Nat):Int)= -d by omega]
  simp[h1,h2,Int.neg_mul,Int.mul_neg]
 ·rw[show ((n.natAbs:Nat):Int)= -n by omega,show ((d.natAbs:Nat):Int)=d by omega]
  simp[h1,h2]
 ·rw[show ((n.natAbs:Nat):Int)=n by omega,show ((d.natAbs:Nat):Int)= -d by omega]
  simp[h1,h2,Int.neg_mul,Int.mul_neg]
 ·rw[show ((n.natAbs:Nat):Int)=n by omega,show ((d.natAbs:Nat):Int)=d by omega]
  simp[h1,h2]
theorem kO (m n:Nat):Int.tdiv (m:Int) (n:Int)=((m / n:Nat):Int):=by
 rw[Int.tdiv_eq_ediv_of_nonneg (by omega)]
 rfl
theorem OI {n d:Int} (h1: -9223372036854775808<=n) (h2:n<9223372036854775808) (h3: -9223372036854775808<=d) (h4:d<9223372036854775808) :
  fC n d=some (if d=0 then ((0,0),16,()) else te (BH n d)):=by
 simp only[fC,od,aX,Bool.and_self,cond_true]
 by_cases hd:d=0
 ·simp only[hd,decide_true,cond_true,if_true]
 ·simp only[hd,decide_false,cond_false,if_false]
  rw[rp h1 h2,af,rp h3 h4,af,A3 _ _ (by omega),af]
  have hg:0<Nat.gcd n.natAbs d.natAbs:=Nat.gcd_pos_of_pos_right _ (by omega)
  have a1:n.natAbs / Nat.gcd n.natAbs d.natAbs<=n.natAbs:=Nat.div_le_self _ _
  have a2:d.natAbs / Nat.gcd n.natAbs d.natAbs<=d.natAbs:=Nat.div_le_self _ _
  have hz:nzB ((Nat.gcd n.natAbs d.natAbs:Nat):Int)=true:=kD (by omega)
  obtain ⟨m1,m2,m3⟩:=Ak (s:=decide (n<0) !=decide (d<0)) (n:=n.natAbs) (d:=d.natAbs) (by omega)
  have hs:n=0->n.natAbs / Nat.gcd n.natAbs d.natAbs=0:=fun h=>by subst h;simp
  rw[hz,cond_true,cond_true,kO,kO]
  unfold BH
  rw[m1]
  generalize n.natAbs / Nat.gcd n.natAbs d.natAbs=p at *
  generalize d.natAbs / Nat.gcd n.natAbs d.natAbs=q at *
  rw[bN (by omega) (by omega),bN (by omega) (by omega),yT _ _ _ (by omega) (by omega),af,A8 m2 m3]
  have hs:sgn (bif !decide (n=0) then !decide (decide (n<0)=decide (d<0)) else false) p=sgn (decide (n<0) !=decide (d<0)) p:=by
   by_cases h0:n=0
   ·rw[hs h0]
    exact Ik _ _
   ·simp only[h0,decide_false,Bool.not_false,cond_true]
    cases decide (n<0)<;>cases decide (d<0)<;>rfl
  rw[hs]
theorem wN {a:Fq}:aw a=some (decide (okF a)):=by
 simp only[aw,nc,aX,Bool.and_self,cond_true,jt]
 unfold okF
 by_cases h1:1<=a.2
 ·by_cases h2:a.2<=1152921504606846976
  ·by_cases h3: -1152921504606846976<=a.1
   ·by_cases h4:a.1<=1152921504606846976
    ·have e:IntKind.wrap .u64 a.2=((a.2.natAbs:Nat):Int):=by rw[bN (by omega) (by omega)];omega
     simp only[ge_iff_le,h1,h2,h3,h4,decide_true,Bool.and_self,cond_true]
     rw[rp (by omega) (by omega),af,e,A3 _ _ (by omega),af]
     congr 1
     rw[Bool.eq_iff_iff]
     simp only[Bool.true_and,decide_eq_true_eq,true_and]
     generalize Nat.gcd a.1.natAbs a.2.natAbs=g
     omega
    ·simp[af,h4]
   ·simp[af,h3]
  ·simp[af,h2]
 ·simp[af,h1]
theorem Am {x:Int} (h1:0<=x) (h2:x<18446744073709551616):((Nat.land (Int.toNat (x % Int.ofNat 18446744073709551616)) (Int.toNat ((4294967295:Int) % Int.ofNat 18446744073709551616)):Nat):Int)=x % 4294967296:=by
 have e1:x % Int.ofNat 18446744073709551616=x:=Int.emod_eq_of_lt h1 h2
 have e2:Int.toNat ((4294967295:Int) % Int.ofNat 18446744073709551616)=2 ^ 32 - 1:=by decide
 rw[e1,e2]
 have:Nat.land x.toNat (2 ^ 32 - 1)=x.toNat % 2 ^ 32:=Nat.and_two_pow_sub_one_eq_mod x.toNat 32
 rw[this]
 omega
def hl (n:Nat):Int×Int:=(((n / 18446744073709551616:Nat):Int),((n % 18446744073709551616:Nat):Int))
theorem Qx {x y:Int} (x0:0<=x) (x1:x<18446744073709551616) (y0:0<=y) (y1:y<18446744073709551616):b9 x y=some (x*y / 18446744073709551616,x*y % 18446744073709551616,()):=by
 have p32:(2:Int) ^ (32:Nat)=4294967296:=by decide
 simp only[b9,oE,p32,show decide ((0:Int)<=32)=true from rfl,cond_true]
 obtain ⟨a,b,ha,hb,hx⟩:∃a b,a=x / 4294967296/\b=x % 4294967296/\x=a*4294967296+b:=⟨_,_,rfl,rfl,by omega⟩
 obtain ⟨c,d,hc,hd,hy⟩:∃c d,c=y / 4294967296/\d=y % 4294967296/\y=c*4294967296+d:=⟨_,_,rfl,rfl,by omega⟩
 have fd:∀n:Int,Int.fdiv n 4294967296=n / 4294967296:=fun n=>Int.fdiv_eq_ediv_of_nonneg n (by omega)
 rw[Am x0 x1,Am y0 y1,<-hb,<-hd]
 simp only[fd,<-ha,<-hc]
 have a0:0<=a/\a<=4294967295:=by omega
 have b0:0<=b/\b<=4294967295:=by omega
 have c0:0<=c/\c<=4294967295:=by omega
 have d0:0<=d/\d<=4294967295:=by omega
 have mb:∀{m n:Int},0<=m/\m<=4294967295->0<=n/\n<=4294967295->0<=m*n/\m*n<=18446744065119617025:=fun {m n} hm hn=>⟨Int.mul_nonneg hm.1 hn.1,Int.le_trans (Int.mul_le_mul hm.2 hn.2 hn.1 (by omega)) (by decide)⟩
 have e1:=mb a0 c0
 have e2:=mb a0 d0
 have e3:=mb b0 c0
 have e4:=mb b0 d0
 have hxy:x*y=a*c*18446744073709551616+(a*d+b*c)*4294967296+b*d:=by rw[hx,hy];grind
 rw[IntKind.wrap_u64 (x*y)]
 rw[hxy]
 rw[bN (x:=b) (by omega) (by omega),bN (x:=d) (by omega) (by omega)]
 rw[bN (x:=b*d) (by omega) (by omega),bN (x:=a*d) (by omega) (by omega),bN (x:=b*c) (by omega) (by omega),bN (x:=a*c) (by omega) (by omega)]
 generalize b*d=bd at *
 generalize a*d=ad at *
 generalize b*c=bc at *
 generalize a*c=ac at *
 rw[bN (x:=ad+bd / 4294967296) (by omega) (by omega)]
 generalize ht:ad+bd / 4294967296=t
 rw[Am (by omega) (by omega)]
 rw[bN (x:=t % 4294967296) (by omega) (by omega)]
 rw[bN (x:=t % 4294967296+bc) (by omega) (by omega),bN (x:=ac+t / 4294967296) (by omega) (by omega)]
 rw[bN (x:=ac+t / 4294967296+(t % 4294967296+bc) / 4294967296) (by omega) (by omega)]
 congr 1
 ext
 ·simp only;omega
 ·rfl
theorem sN {m n:Nat} (hm:m<18446744073709551616) (hn:n<18446744073709551616):aU (m:Int) (n:Int)=some (hl (m*n)):=by
 simp only[aU,k0]
 rw[Qx (by omega) (by omega) (by omega) (by omega),af,<-Int.natCast_mul]
 rfl
theorem gv {n:Nat} (h:n<18446744073709551616):hl n=(0,(n:Int)):=by
 unfold hl
 rw[Nat.div_eq_of_lt h,Nat.mod_eq_of_lt h]
 rfl
theorem KY {n:Nat} (h:¬ n<18446744073709551616):(hl n).1>0:=by
 unfold hl
 simp only
 omega
theorem mG {n d:Int} (h:0<=d):Int.fdiv n d=n / d:=Int.fdiv_eq_ediv_of_nonneg n h
theorem vR {n:Nat} (_:n<340282366920938463463374607431768211456):eV (hl n)=some (hl (n / 2)):=by
 simp only[eV,oc,show decide ((0:Int)<=1)=true from rfl,show decide ((0:Int)<=63)=true from rfl,cond_true,show (2:Int) ^ (1:Nat)=2 from rfl,show (2:Int) ^ (63:Nat)=9223372036854775808 from rfl,IntKind.wrap_u64,mG (show (0:Int)<=2 by omega),hl]
 congr 1
 ext<;>simp only<;>omega
theorem Gi {a b:Nat}:bp (hl a) (hl b)=some (decide (a<b)):=by
 simp only[bp,ot]
 have e:decide (a<b)=(bif decide ((hl a).1<(hl b).1) then true else bif decide ((hl a).1=(hl b).1) then decide ((hl a).2<(hl b).2) else false):=by
  by_cases c1:(hl a).1<(hl b).1
  ·simp only[c1,decide_true,cond_true]
   simp only[hl] at c1
   exact z7 (by omega)
  ·by_cases c2:(hl a).1=(hl b).1
   ·rw[z8 c1,z7 c2,cond_true,cond_false]
    have e2:a<b↔(hl a).2<(hl b).2:=by
     simp only[hl] at c1 c2 ⊢
     omega
    rw[Bool.eq_iff_iff,decide_eq_true_iff,decide_eq_true_iff]
    exact e2
   ·simp only[c1,c2,decide_false,cond_false]
    simp only[hl] at c1 c2
    exact z8 (by omega)
 rw[e]
 cases decide ((hl a).1<(hl b).1)<;>cases decide ((hl a).1=(hl b).1)<;>rfl
theorem xR {a b:Nat} (h:b<=a) (ha:a<340282366920938463463374607431768211456):bj (hl a) (hl b)=some (hl (a - b)):=by
 simp only[bj,kI]
 by_cases hc:(hl a).2<(hl b).2
 ·rw[z7 hc,cond_true]
  simp only[IntKind.wrap_u64,hl] at hc ⊢
  congr 1
  ext<;>simp only<;>omega
 ·rw[z8 hc,cond_false]
  simp only[IntKind.wrap_u64,hl] at hc ⊢
  congr 1
  ext<;>simp only<;>omega
theorem Er {a b:Nat} (h:b<=a) (hb:a - b<340282366920938463463374607431768211456) (_:b<340282366920938463463374607431768211456):bj (hl (a % 340282366920938463463374607431768211456)) (hl b)=some (hl (a - b)):=by
 simp only[bj,kI]
 by_cases hc:(hl (a % 340282366920938463463374607431768211456)).2<(hl b).2
 ·rw[z7 hc,cond_true]
  simp only[IntKind.wrap_u64,hl] at hc ⊢
  congr 1
  ext<;>simp only<;>omega
 ·rw[z8 hc,cond_false]
  simp only[IntKind.wrap_u64,hl] at hc ⊢
  congr 1
  ext<;>simp only<;>omega
theorem Pe {m n:Nat} (h:m+n<340282366920938463463374607431768211456):cZ (hl m) (hl n)=some (hl (m+n)):=by
 simp only[cZ,pn]
 by_cases hc:IntKind.wrap .u64 ((hl m).2+(hl n).2)<(hl m).2
 ·rw[z7 hc,cond_true]
  simp only[IntKind.wrap_u64,hl] at hc ⊢
  congr 1
  ext<;>simp only<;>omega
 ·rw[z8 hc,cond_false]
  simp only[IntKind.wrap_u64,hl] at hc ⊢
  congr 1
  ext<;>simp only<;>omega
theorem Vr {x:Int} (h1:0<=x) (h2:x<18446744073709551616):IntKind.wrap .u64 ((Nat.land (Int.toNat (x % Int.ofNat 18446744073709551616)) (Int.toNat ((1:Int) % Int.ofNat 18446744073709551616)):Nat):Int)=x % 2:=by
 have e1:x % Int.ofNat 18446744073709551616=x:=Int.emod_eq_of_lt h1 h2
 have e2:Int.toNat ((1:Int) % Int.ofNat 18446744073709551616)=2 ^ 1 - 1:=by decide
 rw[e1,e2]
 have:Nat.land x.toNat (2 ^ 1 - 1)=x.toNat % 2 ^ 1:=Nat.and_two_pow_sub_one_eq_mod x.toNat 1
 rw[this,IntKind.wrap_u64]
 omega
theorem zP {n:Nat}:decide (IntKind.wrap .u64 ((Nat.land (Int.toNat ((hl n).2 % Int.ofNat 18446744073709551616)) (Int.toNat ((1:Int) % Int.ofNat 18446744073709551616)):Nat):Int)=0)=decide (n % 2=0):=by
 rw[Vr (by simp only[hl];omega) (by simp only[hl];omega)]
 rw[Bool.eq_iff_iff,decide_eq_true_iff,decide_eq_true_iff]
 simp only[hl]
 omega
theorem vO {n:Nat} (_:n<340282366920938463463374607431768211456):(decide ((hl n).1=0)&&(decide ((hl n).2=0)&&true))=decide (n=0):=by
 rw[Bool.and_true,Bool.eq_iff_iff,z10,decide_eq_true_iff,decide_eq_true_iff,decide_eq_true_iff]
 simp only[hl]
 omega
def B7 (p:Int×Int):Nat:=p.1.toNat*18446744073709551616+p.2.toNat
theorem lP {n:Nat}:B7 (hl n)=n:=by
 simp only[B7,hl];omega
theorem CZ {a b:Nat} (ha:a % 2=0) (h:Nat.gcd a b % 2=1):Nat.gcd (a / 2) b=Nat.gcd a b:=by
 have h2:a / 2∣a:=Nat.div_dvd_of_dvd (Nat.dvd_of_mod_eq_zero ha)
 refine Nat.dvd_antisymm (Nat.dvd_gcd (Nat.dvd_trans (Nat.gcd_dvd_left _ _) h2) (Nat.gcd_dvd_right _ _)) (Nat.dvd_gcd ?_ (Nat.gcd_dvd_right _ _))
 have h3:Nat.gcd a b∣2*(a / 2):=by rw[show 2*(a / 2)=a by omega];exact Nat.gcd_dvd_left _ _
 refine Nat.Coprime.dvd_of_dvd_mul_left ?_ h3
 show Nat.gcd (Nat.gcd a b) 2=1
 rw[Nat.gcd_comm,Nat.gcd_rec,h]
 rfl
theorem rm {a:Nat} (h:2<=a):Nat.log2 (a / 2)+1=Nat.log2 a:=by
 conv=>rhs;rw[Nat.log2_def]
 rw[if_pos h]
theorem q8 {a b:Nat} (h:a<=b):Nat.log2 a<=Nat.log2 b:=by
 by_cases ha:a=0
 ·subst ha;simp
 ·have hb:b≠0:=by omega
  rw[Nat.le_log2 hb]
  exact Nat.le_trans ((Nat.le_log2 ha).1 (Nat.le_refl _)) h
theorem KG {a b:Nat} (ha:0<a) (h:2*a<=b):Nat.log2 a+1<=Nat.log2 b:=by
 have h1:=rm (a:=b) (by omega)
 have:=q8 (show a<=b / 2 by omega)
 omega
theorem nM {a:Nat} (h:a<340282366920938463463374607431768211456):Nat.log2 a<=127:=by
 by_cases ha:a=0
 ·subst ha;simp
 ·have:Nat.log2 a<128:=(Nat.log2_lt ha).2 h
  omega
theorem IV {A B:Nat} (hA:A<340282366920938463463374607431768211456) (hB0:0<B) (hB:B<340282366920938463463374607431768211456):dF (hl A) (hl B)=some (hl (Nat.gcd A B)):=by
 simp only[dF,pQ]
 rw[vO hA]
 by_cases hA0:A=0
 ·rw[z7 hA0,cond_true,hA0,Nat.gcd_zero_left]
 rw[z8 hA0,cond_false]
 have hG:Nat.gcd A B<=B:=Nat.le_of_dvd hB0 (Nat.gcd_dvd_right A B)
 have hGdef:∃G,G=Nat.gcd A B:=⟨_,rfl⟩
 obtain ⟨G,hGd⟩:=hGdef
 rw[<-hGd]
 refine jh (g:=fun _=>some (hl G)) (I:=fun (x:Int×(Int×Int)×(Int×Int)×PUnit)=>∃t a b:Nat,x=((t:Int),hl a,hl b,⟨⟩)/\0<a/\a<340282366920938463463374607431768211456/\0<b/\b<340282366920938463463374607431768211456/\2 ^ t*Nat.gcd a b=G/\t+Nat.log2 a<=127)
  (μ:=fun (x:Int×(Int×Int)×(Int×Int)×PUnit)=>Nat.log2 (B7 x.2.1)) (x:=((0:Int),hl A,hl B,PUnit.unit)) ?_ ⟨0,A,B,rfl,by omega,hA,hB0,hB,by rw[hGd];simp,by have:=nM hA;omega⟩ (by simp only[lP];have:=nM hA;omega)
 rintro _ rec ⟨t,a,b,rfl,a0,a1,b0,b1,hg,ht⟩ hrec
 simp only[zP,aX,cond_true]
 by_cases hev:a % 2=0/\b % 2=0
 ·rw[z7 hev.1,cond_true,z7 hev.2,cond_true,vR a1,af,vR b1,af,aB (by omega) (by omega)]
  have hl2:=rm (a:=a) (by omega)
  refine hrec _ ⟨t+1,a / 2,b / 2,by rfl,by omega,by omega,by omega,by omega,?_,by omega⟩ (by simp only[lP];omega)
  rw[<-hg,Nat.pow_succ,Nat.mul_assoc,<-Nat.gcd_mul_left,show 2*(a / 2)=a by omega,show 2*(b / 2)=b by omega]
 have hodd:Nat.gcd a b % 2=1:=by
  rcases Nat.mod_two_eq_zero_or_one (Nat.gcd a b) with h | h
  ·exfalso
   have h2:=Nat.dvd_of_mod_eq_zero h
   exact hev ⟨Nat.mod_eq_zero_of_dvd (Nat.dvd_trans h2 (Nat.gcd_dvd_left a b)),Nat.mod_eq_zero_of_dvd (Nat.dvd_trans h2 (Nat.gcd_dvd_right a b))⟩
  ·exact h
 have hcond:(bif decide (a % 2=0) then decide (b % 2=0) else false)=false:=by
  rw[Bool.eq_false_iff]
  intro h
  by_cases h2:a % 2=0
  ·rw[z7 h2,cond_true,decide_eq_true_iff] at h
   exact hev ⟨h2,h⟩
  ·rw[z8 h2,cond_false] at h
   cases h
 rw[hcond,cond_false]
 clear hcond hrec
 generalize hgd:Nat.gcd a b=g at *
 refine jh (g:=fun _=>some (hl G)) (I:=fun (x:(Int×Int)×(Int×Int)×PUnit)=>∃a b:Nat,x=(hl a,hl b,⟨⟩)/\a<340282366920938463463374607431768211456/\0<b/\b<340282366920938463463374607431768211456/\Nat.gcd a b=g)
  (μ:=fun (x:(Int×Int)×(Int×Int)×PUnit)=>Nat.log2 (B7 x.1)+Nat.log2 (B7 x.2.1)+B7 x.1 % 2) (x:=(hl a,hl b,PUnit.unit)) ?_ ⟨a,b,rfl,a1,b0,b1,hgd⟩ (by simp only[lP];have:=nM a1;have:=nM b1;omega)
 clear hgd hev a0 a1 b0 b1
 rintro _ rec ⟨a,b,rfl,a1,b0,b1,hgd⟩ hrec
 simp only[vO a1]
 by_cases ha0:a=0
 ·rw[z7 ha0,Bool.not_true,cond_false]
  have hbg:b=g:=by rw[<-hgd,ha0,Nat.gcd_zero_left]
  refine jh (g:=fun _=>some (hl G)) (I:=fun (x:Int×(Int×Int)×PUnit)=>∃t b:Nat,x=((t:Int),hl b,⟨⟩)/\0<b/\2 ^ t*b=G/\t<=127)
   (μ:=fun (x:Int×(Int×Int)×PUnit)=>x.1.toNat) (x:=((t:Int),hl b,PUnit.unit)) ?_ ⟨t,b,rfl,b0,by rw[hbg];exact hg,by omega⟩ (by simp only;omega)
  rintro _ rec ⟨t,b,rfl,b0,hg,ht⟩ hrec
  simp only
  by_cases ht0:t=0
  ·rw[z8 (by omega),cond_false,<-hg,ht0];simp
  ·rw[z7 (by omega),cond_true]
   obtain ⟨s,rfl⟩:∃s,t=s+1:=⟨t - 1,by omega⟩
   have h2:2 ^ s*(b+b)=G:=by rw[<-hg,Nat.pow_succ,Nat.mul_assoc];congr 1;omega
   have h3:b+b<=G:=by
    rw[<-h2]
    exact Nat.le_mul_of_pos_left _ (Nat.pow_pos (by omega))
   rw[Pe (by omega),af,aB (by omega) (by omega)]
   exact hrec _ ⟨s,b+b,by simp only[Prod.mk.injEq,and_true];omega,by omega,h2,by omega⟩ (by simp only;omega)
 rw[z8 ha0,Bool.not_false,cond_true]
 refine jh (g:=fun _=>some (hl G)) (I:=fun (x:(Int×Int)×PUnit)=>∃c:Nat,x=(hl c,⟨⟩)/\0<c/\c<340282366920938463463374607431768211456/\Nat.gcd c b=g/\(c=a\/2*c<=a))
  (μ:=fun (x:(Int×Int)×PUnit)=>Nat.log2 (B7 x.1)) (x:=(hl a,PUnit.unit)) ?_ ⟨a,rfl,by omega,a1,hgd,.inl rfl⟩ (by simp only[lP];have:=nM a1;omega)
 rintro _ rec3 ⟨c,rfl,c0,c1,hgc,hca⟩ hrec3
 simp only[zP]
 by_cases hce:c % 2=0
 ·rw[z7 hce,cond_true,vR c1,af]
  have hl2:=rm (a:=c) (by omega)
  exact hrec3 _ ⟨c / 2,rfl,by omega,by omega,by rw[CZ hce (by rw[hgc];exact hodd),hgc],.inr (by omega)⟩ (by simp only[lP];omega)
 rw[z8 hce,cond_false]
 clear hrec3
 refine jh (g:=fun _=>some (hl G)) (I:=fun (x:(Int×Int)×PUnit)=>∃d:Nat,x=(hl d,⟨⟩)/\0<d/\d<=b/\Nat.gcd c d=g)
  (μ:=fun (x:(Int×Int)×PUnit)=>Nat.log2 (B7 x.1)) (x:=(hl b,PUnit.unit)) ?_ ⟨b,rfl,b0,Nat.le_refl _,hgc⟩ (by simp only[lP];have:=nM b1;omega)
 rintro _ rec4 ⟨d,rfl,d0,d1,hgd'⟩ hrec4
 simp only[zP]
 by_cases hde:d % 2=0
 ·rw[z7 hde,cond_true,vR (by omega),af]
  have hl2:=rm (a:=d) (by omega)
  exact hrec4 _ ⟨d / 2,rfl,by omega,by omega,by rw[Nat.gcd_comm,CZ hde (by rw[Nat.gcd_comm,hgd'];exact hodd),Nat.gcd_comm,hgd']⟩ (by simp only[lP];omega)
 rw[z8 hde,cond_false,Gi,af]
 clear hrec4
 have lb:=q8 d1
 have la:Nat.log2 c+1<=Nat.log2 a+a % 2:=by
  rcases hca with rfl | h
  ·omega
  ·have:=KG c0 h;omega
 by_cases hlt:c<d
 ·rw[z7 hlt,cond_true,xR (by omega) (by omega),af]
  have l1:=q8 (show d - c<=d by omega)
  exact hrec _ ⟨d - c,c,rfl,by omega,c0,c1,by rw[Nat.gcd_sub_self_left (by omega),Nat.gcd_comm,hgd']⟩ (by simp only[lP];omega)
 ·rw[z8 hlt,cond_false,xR (by omega) (by omega),af]
  have l1:=q8 (show c - d<=c by omega)
  exact hrec _ ⟨c - d,d,rfl,by omega,d0,by omega,by rw[Nat.gcd_sub_self_left (by omega),hgd']⟩ (by simp only[lP];omega)
theorem Jj {n:Nat}:(IntKind.wrap .u64 (IntKind.wrap .u64 ((hl n).1*2)+(hl n).2 / 9223372036854775808),IntKind.wrap .u64 ((hl n).2*2))=hl (2*n % 340282366920938463463374607431768211456):=by
 simp only[IntKind.wrap_u64,hl]
 ext<;>simp only<;>omega
theorem MQ {r a:Nat} (_:r<340282366920938463463374607431768211456) (ha:a<340282366920938463463374607431768211456):(IntKind.wrap .u64 (IntKind.wrap .u64 ((hl r).1*2)+(hl r).2 / 9223372036854775808),IntKind.wrap .u64 (IntKind.wrap .u64 ((hl r).2*2)+(hl a).1 / 9223372036854775808))=hl ((2*r+2*a / 340282366920938463463374607431768211456) % 340282366920938463463374607431768211456):=by
 simp only[IntKind.wrap_u64,hl]
 ext<;>simp only<;>omega
theorem F9 {q:Nat} (hq:2*q+1<340282366920938463463374607431768211456):(IntKind.wrap .u64 (IntKind.wrap .u64 ((hl q).1*2)+(hl q).2 / 9223372036854775808),IntKind.wrap .u64 (IntKind.wrap .u64 ((hl q).2*2)+1))=hl (2*q+1):=by
 simp only[IntKind.wrap_u64,hl]
 ext<;>simp only<;>omega
theorem M4 {r a:Nat} (hr:r<340282366920938463463374607431768211456) (ha:a<340282366920938463463374607431768211456):decide ((hl r).1 / 9223372036854775808>0)=decide (340282366920938463463374607431768211456<=2*r+2*a / 340282366920938463463374607431768211456):=by
 rw[Bool.eq_iff_iff,decide_eq_true_iff,decide_eq_true_iff]
 simp only[hl]
 omega
theorem uI {t b q r:Nat} (hr:r<b) (h:t=q*b+r):t / b=q/\t % b=r:=by
 subst h
 constructor
 ·rw[Nat.mul_comm,Nat.mul_add_div (by omega),Nat.div_eq_of_lt hr,Nat.add_zero]
 ·rw[Nat.mul_comm,Nat.mul_add_mod,Nat.mod_eq_of_lt hr]
theorem FSs {A B:Nat} (hA:A<340282366920938463463374607431768211456) (hB0:0<B) (hB:B<340282366920938463463374607431768211456):gS (hl A) (hl B)=some (hl (A / B),hl (A % B),()):=by
 simp only[gS,qc,show decide ((0:Int)<=1)=true from rfl,show decide ((0:Int)<=63)=true from rfl,cond_true,aX,show (2:Int) ^ (1:Nat)=2 from rfl,show (2:Int) ^ (63:Nat)=9223372036854775808 from rfl,mG (show (0:Int)<=9223372036854775808 by omega),Bool.and_self]
 by_cases hs:A<18446744073709551616/\B<18446744073709551616
 ·rw[gv hs.1,gv hs.2]
  have q1:A / B<=A:=Nat.div_le_self _ _
  have q2:A % B<=A:=Nat.mod_le _ _
  simp only[decide_true,cond_true,kD (show (B:Int)≠0 by omega),kO]
  have hq:((A / B:Nat):Int)<18446744073709551616:=by
   generalize A / B=z at *
   omega
  rw[gv (show A / B<18446744073709551616 by omega),gv (show A % B<18446744073709551616 by omega),bN (Int.natCast_nonneg _) hq,Int.tmod_eq_emod_of_nonneg (by omega),Int.natCast_emod]
 ·have hc:(bif decide ((hl A).1=0) then decide ((hl B).1=0) else false)=false:=by
   rw[Bool.eq_false_iff]
   intro h
   by_cases h1:(hl A).1=0
   ·rw[z7 h1,cond_true,decide_eq_true_iff] at h
    simp only[hl] at h1 h
    omega
   ·rw[z8 h1,cond_false] at h
    cases h
  rw[hc,cond_false]
  refine jh (g:=fun _=>some (hl (A / B),hl (A % B),())) (I:=fun (x:Int×(Int×Int)×(Int×Int)×(Int×Int)×PUnit)=>∃i X:Nat,i<=128/\X=A*2 ^ i/\x=((i:Int),hl (X % 340282366920938463463374607431768211456),hl (X / 340282366920938463463374607431768211456 / B),hl (X / 340282366920938463463374607431768211456 % B),⟨⟩))
   (μ:=fun (x:Int×(Int×Int)×(Int×Int)×(Int×Int)×PUnit)=>(128 - x.1).toNat) (x:=((0:Int),hl A,((0:Int),(0:Int)),((0:Int),(0:Int)),PUnit.unit)) ?_ ⟨0,A,by omega,by simp,by
    rw[Nat.mod_eq_of_lt hA,Nat.div_eq_of_lt hA,Nat.zero_div,Nat.zero_mod];rfl⟩ (by simp only;omega)
  rintro _ rec ⟨i,X,hi,hX,rfl⟩ hrec
  simp only
  by_cases hlt:i<128
  ·rw[z7 (show (i:Int)<128 by omega),cond_true]
   have hX2:2*X=A*2 ^ (i+1):=by rw[hX,Nat.pow_succ];grind
   have hT:2*X / 340282366920938463463374607431768211456<=A:=by
    have:A*2 ^ (i+1)<=A*2 ^ 128:=Nat.mul_le_mul_left _ (Nat.pow_le_pow_right (by omega) (by omega))
    rw[hX2]
    refine Nat.div_le_of_le_mul ?_
    rw[show (2:Nat) ^ 128=340282366920938463463374607431768211456 from rfl,Nat.mul_comm A 340282366920938463463374607431768211456] at this
    exact this
   have ha:=Nat.mod_lt X (show 340282366920938463463374607431768211456>0 by omega)
   have hr:=Nat.mod_lt (X / 340282366920938463463374607431768211456) hB0
   have e1:2*X % 340282366920938463463374607431768211456=2*(X % 340282366920938463463374607431768211456) % 340282366920938463463374607431768211456:=by omega
   have e2:2*X / 340282366920938463463374607431768211456=2*(X / 340282366920938463463374607431768211456)+2*(X % 340282366920938463463374607431768211456) / 340282366920938463463374607431768211456:=by omega
   have e3:X / 340282366920938463463374607431768211456=X / 340282366920938463463374607431768211456 / B*B+X / 340282366920938463463374607431768211456 % B:=by rw[Nat.mul_comm];exact (Nat.div_add_mod _ _).symm
   have hq:X / 340282366920938463463374607431768211456 / B<=X / 340282366920938463463374607431768211456:=Nat.div_le_self _ _
   rw[aB (x:=(i:Int)+1) (by omega) (by omega)]
   have bit:2*(X % 340282366920938463463374607431768211456) / 340282366920938463463374607431768211456<=1:=by omega
   have step:∀q r,r<B->2*X / 340282366920938463463374607431768211456=q*B+r->rec ((i:Int)+1,hl (2*(X % 340282366920938463463374607431768211456) % 340282366920938463463374607431768211456),hl q,hl r,PUnit.unit)=some (hl (A / B),hl (A % B),()):=fun q r h1 h2=>by
    obtain ⟨h3,h4⟩:=uI h1 h2
    exact hrec _ ⟨i+1,2*X,by omega,hX2,by rw[h3,h4,e1];rfl⟩ (by simp only;omega)
   generalize hTd:X / 340282366920938463463374607431768211456=T at *
   generalize hαd:X % 340282366920938463463374607431768211456=α at *
   generalize hqd:T / B=q at *
   generalize hrd:T % B=r at *
   have hq2:2*q+1<340282366920938463463374607431768211456:=by
    by_cases hq0:q=0
    ·omega
    ·have h1:q*1<=q*B:=Nat.mul_le_mul_left _ hB0
     have h2:A<=340282366920938463463374607431768211455:=by omega
     omega
   rw[M4 (r:=r) (a:=α) (by omega) ha,Jj (n:=α),MQ (r:=r) (a:=α) (by omega) ha]
   have hmul2:2*(q*B)=2*q*B:=by rw[Nat.mul_assoc]
   have hmul3:(2*q+1)*B=2*q*B+B:=by rw[Nat.add_mul,Nat.one_mul]
   by_cases ho:340282366920938463463374607431768211456<=2*r+2*α / 340282366920938463463374607431768211456
   ·simp only[z7 ho,Bool.not_true,cond_true,cond_false,af]
    rw[Er (a:=2*r+2*α / 340282366920938463463374607431768211456) (b:=B) (by omega) (by omega) hB,af,F9 hq2]
    exact step _ _ (by omega) (by rw[hmul3];omega)
   ·have hR:(2*r+2*α / 340282366920938463463374607431768211456) % 340282366920938463463374607431768211456=2*r+2*α / 340282366920938463463374607431768211456:=Nat.mod_eq_of_lt (by omega)
    simp only[z8 ho,hR,Bool.not_false,cond_true,cond_false,af,Bool.or_true,Gi]
    by_cases hl2:2*r+2*α / 340282366920938463463374607431768211456<B
    ·simp only[z7 hl2,Bool.not_true,cond_false]
     have e:=Jj (n:=q)
     rw[Nat.mod_eq_of_lt (show 2*q<340282366920938463463374607431768211456 by omega)] at e
     rw[e]
     exact step _ _ (by omega) (by omega)
    ·simp only[z8 hl2,Bool.not_false,cond_true]
     rw[xR (by omega) (by omega),af,F9 hq2]
     exact step _ _ (by omega) (by rw[hmul3];omega)
  ·have:i=128:=by omega
   subst this
   have hx:X / 340282366920938463463374607431768211456=A:=by
    rw[hX]
    exact Nat.mul_div_cancel A (by decide)
   rw[z8 (by omega),cond_false,hx]
theorem LL {s:Bool} {n d:Nat} (hn:n<340282366920938463463374607431768211456) (hd0:0<d) (hd:d<340282366920938463463374607431768211456):bE (hl n) s (hl d)=some (te (mkRat (sgn s n) d)):=by
 have hG0:0<Nat.gcd n d:=Nat.gcd_pos_of_pos_right _ hd0
 have hG:Nat.gcd n d<=d:=Nat.le_of_dvd hd0 (Nat.gcd_dvd_right n d)
 simp only[bE,lB,aX,ff,cond_true]
 rw[vO hd,z8 (show ¬ d=0 by omega),cond_false,IV hn hd0 hd,af,FSs hn hG0 (by omega),af,FSs hd hG0 (by omega),af]
 obtain ⟨m1,m2,m3⟩:=Ak (s:=s) (n:=n) (d:=d) hd0
 rw[m1,A8 m2 m3]
 have q1:n / Nat.gcd n d<=n:=Nat.div_le_self _ _
 have q2:d / Nat.gcd n d<=d:=Nat.div_le_self _ _
 generalize n / Nat.gcd n d=p at *
 generalize d / Nat.gcd n d=q at *
 simp only
 have big:∀{x:Nat},x<340282366920938463463374607431768211456->(bif decide ((hl x).1>0) then true else decide ((hl x).2>1152921504606846976))=decide (¬ x<=1152921504606846976):=fun {x} hx=>by
  by_cases h1:(hl x).1>0
  ·rw[z7 h1,cond_true]
   simp only[hl] at h1
   exact (z7 (by omega)).symm
  ·rw[z8 h1,cond_false,Bool.eq_iff_iff,decide_eq_true_iff,decide_eq_true_iff]
   simp only[hl] at h1 ⊢
   omega
 rw[big (show p<340282366920938463463374607431768211456 by omega)]
 by_cases hp:p<=1152921504606846976
 ·simp only[hp,not_true_eq_false,decide_false,cond_false,true_and]
  rw[big (show q<340282366920938463463374607431768211456 by omega)]
  by_cases hq:q<=1152921504606846976
  ·simp only[hq,not_true_eq_false,decide_false,cond_false,if_true]
   rw[gv (show p<18446744073709551616 by omega),gv (show q<18446744073709551616 by omega)]
   simp only
   rw[aB (x:=(p:Int)) (by omega) (by omega),aB (x:=(q:Int)) (by omega) (by omega),aB (x:=0 - (p:Int)) (by omega) (by omega)]
   cases s<;>simp[sgn]
  ·simp only[hq,not_false_eq_true,decide_true,cond_true,if_false]
 ·simp only[hp,not_false_eq_true,decide_true,cond_true,false_and,if_false]
theorem EG {s:Bool} {n:Int×Int}:bE n s (0,0)=some ((0,0),16,()):=by
 simp only[bE,lB]
 rfl
theorem tO {x:Int} (h1: -9223372036854775808<=x) (h2:x<9223372036854775808):aF x=some (x.natAbs:Int):=by
 simp only[aF,ou]
 by_cases h:x<0
 ·simp only[h,decide_true,cond_true]
  rw[IntKind.wrap_u64,IntKind.wrap_u64]
  congr 1;omega
 ·simp only[h,decide_false,cond_false]
  rw[bN (by omega) (by omega)]
  congr 1;omega
theorem Em {a b:Prop} [Decidable a] [Decidable b]:(!decide (decide a=decide b))=(decide a !=decide b):=by
 cases decide a<;>cases decide b<;>rfl
theorem LS {n d:Int} (h1: -9223372036854775808<=n) (h2:n<9223372036854775808) (h3: -9223372036854775808<=d) (h4:d<9223372036854775808) :
  gz n d=some (if d=0 then ((0,0),16,()) else te (BH n d)):=by
 simp only[gz,oS]
 rw[tO h1 h2,af,tO h3 h4,af,Em]
 by_cases hd:d=0
 ·subst hd
  rw[if_pos rfl,show ((0:Int),(((0:Int).natAbs:Nat):Int))=(0,0) from rfl,EG,af]
 ·rw[if_neg hd,<-gv (show n.natAbs<18446744073709551616 by omega),<-gv (show d.natAbs<18446744073709551616 by omega),LL (by omega) (by omega) (by omega),af]
  rfl
end Go.Proofs.YtfknoaclabfdlaaGreat

namespace Go.Proofs.YtfknoaclabfdlaaGreat
noncomputable section
open Tryz Dn Dn.Sh
theorem Jr {a b:Nat}:cU (hl a) (hl b)=some (decide (a<b)):=by
 simp only[cU,oD]
 have e:decide (a<b)=(bif decide ((hl a).1<(hl b).1) then true else bif decide ((hl a).1=(hl b).1) then decide ((hl a).2<(hl b).2) else false):=by
  by_cases c1:(hl a).1<(hl b).1
  ·simp only[c1,decide_true,cond_true]
   simp only[hl] at c1
   exact z7 (by omega)
  ·by_cases c2:(hl a).1=(hl b).1
   ·rw[z8 c1,z7 c2,cond_true,cond_false]
    have e2:a<b↔(hl a).2<(hl b).2:=by
     simp only[hl] at c1 c2 ⊢
     omega
    rw[Bool.eq_iff_iff,decide_eq_true_iff,decide_eq_true_iff]
    exact e2
   ·simp only[c1,c2,decide_false,cond_false]
    simp only[hl] at c1 c2
    exact z8 (by omega)
 rw[e]
 cases decide ((hl a).1<(hl b).1)<;>cases decide ((hl a).1=(hl b).1)<;>rfl
theorem uc {m n:Nat}:pF (hl m).2 (hl n).2 0=(((m % 18446744073709551616+n % 18446744073709551616) / 18446744073709551616:Nat):Int):=by
 simp only[pF,hl,z9,Int.toNat_zero,Nat.add_zero]
 rfl
theorem s9 {m n:Nat}:nL (hl m).2 (hl n).2 0=(((if m % 18446744073709551616<n % 18446744073709551616 then 1 else 0:Nat):Nat):Int):=by
 simp only[nL,hl,z9,Int.toNat_zero,Nat.add_zero]
 cases h:Nat.blt (m % 18446744073709551616) (n % 18446744073709551616) with
 | true =>
  have h':m % 18446744073709551616<n % 18446744073709551616:=by simpa [Nat.blt_eq] using h
  rw[if_pos h'];rfl
 | false =>
  have h':¬ m % 18446744073709551616<n % 18446744073709551616:=by
   intro h2
   have:Nat.blt (m % 18446744073709551616) (n % 18446744073709551616)=true:=by simpa [Nat.blt_eq] using h2
   rw[this] at h;cases h
  rw[if_neg h'];rfl
theorem Cm {m n:Nat} (h:m+n<340282366920938463463374607431768211456):fT (hl m) (hl n)=some (hl (m+n)):=by
 simp only[fT,lJ,uc]
 have c1:decide ((0:Int)<=(0:Int))=true:=rfl
 have c2:decide ((0:Int)<=(1:Int))=true:=rfl
 rw[c1,c2,z7 (show (0:Int)<=(((m % 18446744073709551616+n % 18446744073709551616) / 18446744073709551616:Nat):Int) by omega),z7 (show (((m % 18446744073709551616+n % 18446744073709551616) / 18446744073709551616:Nat):Int)<=1 by omega)]
 simp only[Bool.and_self,cT,Option.some.injEq,xY,hl,z9,Int.toNat_zero,Nat.add_zero,Prod.mk.injEq]
 constructor
 ·show ((_:Nat):Int)=((_:Nat):Int)
  omega
 ·show ((_:Nat):Int)=((_:Nat):Int)
  omega
theorem uE {m n:Nat} (h:n<=m) (hm:m<340282366920938463463374607431768211456):eO (hl m) (hl n)=some (hl (m - n)):=by
 simp only[eO,kH,s9]
 have c1:decide ((0:Int)<=(0:Int))=true:=rfl
 have c2:decide ((0:Int)<=(1:Int))=true:=rfl
 have hb:(if m % 18446744073709551616<n % 18446744073709551616 then 1 else 0:Nat)<=1:=by split<;>omega
 have hc:(if m % 18446744073709551616<n % 18446744073709551616 then 1 else 0:Nat)=1/\m % 18446744073709551616<n % 18446744073709551616\/(if m % 18446744073709551616<n % 18446744073709551616 then 1 else 0:Nat)=0/\¬ m % 18446744073709551616<n % 18446744073709551616:=by split<;>simp_all
 generalize (if m % 18446744073709551616<n % 18446744073709551616 then 1 else 0:Nat)=c at *
 rw[c1,c2,z7 (show (0:Int)<=(c:Int) by omega),z7 (show (c:Int)<=1 by omega)]
 simp only[Bool.and_self,cT,Option.some.injEq,ud,hl,z9,Int.toNat_zero,Nat.sub_zero,Prod.mk.injEq]
 constructor
 ·show ((_:Nat):Int)=((_:Nat):Int)
  omega
 ·show ((_:Nat):Int)=((_:Nat):Int)
  omega
def NI (T:ByteArray) (a b:Int):Option Int :=
 bif decide (a>=(256:Int)) then bif decide ((0:Int)<=(8:Int)) then bif inB (IntKind.wrap .u8 (Int.fdiv a ((2:Int) ^ (8:Nat)))) (256:Nat) then
  some (IntKind.wrap .i64 (IntKind.wrap .i64 (b+(8:Int))+IntKind.wrap .i64 (fA T (Int.toNat (IntKind.wrap .u8 (Int.fdiv a ((2:Int) ^ (8:Nat)))))))) else none else none
 else bif inB (IntKind.wrap .u8 a) (256:Nat) then some (IntKind.wrap .i64 (b+IntKind.wrap .i64 (fA T (Int.toNat (IntKind.wrap .u8 a))))) else none
def NA (T:ByteArray) (a b:Int):Option Int:=bif decide (a>=(65536:Int)) then bif decide ((0:Int)<=(16:Int)) then NI T (Int.fdiv a ((2:Int) ^ (16:Nat))) (IntKind.wrap .i64 (b+(16:Int))) else none else NI T a b
theorem G4:∃T:ByteArray,(∀i,i<256->0<=fA T i/\fA T i<=8/\(0<i->i<2 ^ (fA T i).toNat/\2 ^ (fA T i).toNat<=2*i)) /\
  ∀x,gB x=bif decide (x>=(4294967296:Int)) then bif decide ((0:Int)<=(32:Int)) then NA T (Int.fdiv x ((2:Int) ^ (32:Nat))) 32 else none else NA T x 0 :=
 ⟨_,by decide +kernel,fun _=>rfl⟩
def wv (n L:Nat):Prop:=n<2 ^ L/\2 ^ L<=2*n
theorem pK {n k L:Nat} (h:wv (n / 2 ^ k) L):wv n (L+k):=by
 obtain ⟨h1,h2⟩:=h
 have hk:0<2 ^ k:=Nat.two_pow_pos k
 unfold wv
 rw[Nat.pow_add]
 constructor
 ·exact (Nat.div_lt_iff_lt_mul hk).1 h1
 ·have h3:n / 2 ^ k*2 ^ k<=n:=Nat.div_mul_le_self n _
  have h4:=Nat.mul_le_mul_right (2 ^ k) h2
  rw[Nat.mul_assoc] at h4
  omega
theorem FQ {x:Int} (h1:0<=x) (h2:x<256):IntKind.wrap .u8 x=x:=by
 rw[IntKind.wrap_u8];omega
theorem KU {n:Nat} (h0:0<n) (h1:n<18446744073709551616):∃L:Nat,gB (n:Int)=some (L:Int)/\wv n L/\L<=64:=by
 obtain ⟨T,hT,hx⟩:=G4
 have tab:∀i:Nat,0<i->i<256->∃L:Nat,fA T i=L/\L<=8/\wv i L:=fun i h2 h3=>by
  obtain ⟨a1,a2,a3⟩:=hT i h3
  exact ⟨(fA T i).toNat,by omega,by omega,a3 h2⟩
 have p8:(2:Int) ^ (8:Nat)=256:=by decide
 have p16:(2:Int) ^ (16:Nat)=65536:=by decide
 have p32:(2:Int) ^ (32:Nat)=4294967296:=by decide
 have stepT:∀a b:Nat,0<a->a<65536->b<=48->∃L:Nat,NI T (a:Int) (b:Int)=some ((L+b:Nat):Int)/\wv a L/\L<=16:=fun a b ha hb hb2=>by
  unfold NI
  by_cases h:a<256
  ·obtain ⟨L,e1,e2,e3⟩:=tab a ha h
   rw[z8 (show ¬ (a:Int)>=256 by omega),cond_false,FQ (by omega) (by omega),po (by omega) (by omega),cond_true,z9,e1,aB (x:=(L:Int)) (by omega) (by omega),aB (by omega) (by omega)]
   exact ⟨L,by congr 1;omega,e3,by omega⟩
  ·obtain ⟨L,e1,e2,e3⟩:=tab (a / 256) (by omega) (by omega)
   rw[z7 (show (a:Int)>=256 by omega),cond_true,show decide ((0:Int)<=8)=true from rfl,cond_true,p8,mG (by omega),FQ (by omega) (by omega),po (by omega) (by omega),cond_true,show ((a:Int) / 256).toNat=a / 256 by omega,e1,aB (x:=(L:Int)) (by omega) (by omega),aB (x:=(b:Int)+8) (by omega) (by omega),aB (by omega) (by omega)]
   exact ⟨L+8,by congr 1;omega,pK (k:=8) e3,by omega⟩
 have stepU:∀a b:Nat,0<a->a<4294967296->b<=32->∃L:Nat,NA T (a:Int) (b:Int)=some ((L+b:Nat):Int)/\wv a L/\L<=32:=fun a b ha hb hb2=>by
  unfold NA
  by_cases h:a<65536
  ·obtain ⟨L,e1,e2,e3⟩:=stepT a b ha h (by omega)
   rw[z8 (show ¬ (a:Int)>=65536 by omega),cond_false,e1]
   exact ⟨L,rfl,e2,by omega⟩
  ·obtain ⟨L,e1,e2,e3⟩:=stepT (a / 65536) (b+16) (by omega) (by omega) (by omega)
   rw[z7 (show (a:Int)>=65536 by omega),cond_true,show decide ((0:Int)<=16)=true from rfl,cond_true,p16,mG (by omega),aB (by omega) (by omega),show (a:Int) / 65536=((a / 65536:Nat):Int) by omega,show (b:Int)+16=((b+16:Nat):Int) by omega,e1]
   exact ⟨L+16,by congr 1;omega,pK (k:=16) e2,by omega⟩
 rw[hx]
 by_cases h:n<4294967296
 ·obtain ⟨L,e1,e2,e3⟩:=stepU n 0 h0 h (by omega)
  rw[z8 (show ¬ (n:Int)>=4294967296 by omega),cond_false]
  exact ⟨L,e1,e2,by omega⟩
 ·obtain ⟨L,e1,e2,e3⟩:=stepU (n / 4294967296) 32 (by omega) (by omega) (by omega)
  rw[z7 (show (n:Int)>=4294967296 by omega),cond_true,show decide ((0:Int)<=32)=true from rfl,cond_true,p32,mG (by omega),show (n:Int) / 4294967296=((n / 4294967296:Nat):Int) by omega]
  exact ⟨L+32,e1,pK (k:=32) e2,by omega⟩
theorem Ey {q r U u y1 y0:Int} (hq:q*y1+r=U) (_:0<=u) (hy:0<y1*4294967296+y0) (hge:(U*4294967296+u) / (y1*4294967296+y0)<=q) (ht:q*y0<=4294967296*r+u):q=(U*4294967296+u) / (y1*4294967296+y0):=by
 refine Int.le_antisymm (Int.le_ediv_of_mul_le hy ?_) hge
 rw[Int.mul_add,<-Int.mul_assoc]
 omega
theorem D7 {q r U u y1 y0:Int} (hq:q*y1+r=U) (hy:0<y1*4294967296+y0) (hU:U*4294967296+u<(y1*4294967296+y0)*4294967296) (ht:q>=4294967296\/q*y0>4294967296*r+u):(U*4294967296+u) / (y1*4294967296+y0)<=q - 1:=by
 have:(U*4294967296+u) / (y1*4294967296+y0)<q:=by
  refine Int.ediv_lt_of_lt_mul hy ?_
  rcases ht with ht | ht
  ·exact Int.lt_of_lt_of_le hU (by rw[Int.mul_comm q];exact Int.mul_le_mul_of_nonneg_left ht (by omega))
  ·rw[Int.mul_add,<-Int.mul_assoc]
   omega
 omega
theorem G6 {q r U u y1 y0:Int} (hq:q*y1+r=U) (hu:0<=u) (hy:0<y1*4294967296+y0) (h0:0<=y0/\y0<4294967296) (hge:(U*4294967296+u) / (y1*4294967296+y0)<=q - 1) (hr:r+y1>=4294967296) (hq2:1<=q/\q<=4294967297):q - 1=(U*4294967296+u) / (y1*4294967296+y0):=by
 refine Int.le_antisymm (Int.le_ediv_of_mul_le hy ?_) hge
 have e1:(q - 1)*y0<=4294967296*4294967295:=Int.mul_le_mul (by omega) (by omega) h0.1 (by omega)
 rw[Int.mul_add,<-Int.mul_assoc,Int.sub_mul q 1 y1,Int.one_mul]
 omega
theorem OV {s:Nat} {a b:Nat} (h:b<2 ^ s):Nat.lor (a*2 ^ s) b=a*2 ^ s+b:=by
 have:=Nat.two_pow_add_eq_or_of_lt h a
 rw[Nat.mul_comm a]
 exact this.symm
theorem wA {α R:Type} {F:(α->Option R)->α->Option R} {J:Int->Option R} {U u y1 y0:Int} (enc:Int->Int->α) (dec:α->Int) (hdec:∀q r,dec (enc q r)=q)
  (hu:0<=u) (h0:0<=y0/\y0<4294967296) (h1:2147483648<=y1/\y1<4294967296) (hU0:0<=U) (hU:U*4294967296+u<(y1*4294967296+y0)*4294967296)
  (hF1:∀again q r,1<=q->q<=4294967297->0<=r->r<4294967296->(q>=4294967296\/q*y0>4294967296*r+u)->F again (enc q r)=bif decide (r+y1>=4294967296) then J (q - 1) else again (enc (q - 1) (r+y1)))
  (hF2:∀again q r,0<=q->q<4294967296->0<=r->r<4294967296->¬ q*y0>4294967296*r+u->F again (enc q r)=J q)
  {q r:Int} (hq:q*y1+r=U) (hq0:0<=q) (hq2:q<=4294967297) (hr0:0<=r) (hr1:r<4294967296) (hge:(U*4294967296+u) / (y1*4294967296+y0)<=q) :
  lpK α R F (enc q r)=J ((U*4294967296+u) / (y1*4294967296+y0)):=by
 have hD:0<=(U*4294967296+u) / (y1*4294967296+y0):=Int.ediv_nonneg (by omega) (by omega)
 refine jh (g:=fun _=>J ((U*4294967296+u) / (y1*4294967296+y0))) (I:=fun x=>∃q r,x=enc q r/\q*y1+r=U/\0<=q/\q<=4294967297/\0<=r/\r<4294967296/\(U*4294967296+u) / (y1*4294967296+y0)<=q) (μ:=fun x=>(dec x).toNat) ?_ ⟨q,r,rfl,hq,hq0,hq2,hr0,hr1,hge⟩ (by rw[hdec];omega)
 rintro _ rec ⟨q,r,rfl,hq,hq0,hq2,hr0,hr1,hge⟩ hrec
 have hy:0<y1*4294967296+y0:=by omega
 by_cases ht:q>=4294967296\/q*y0>4294967296*r+u
 ·have hl:=D7 hq hy hU ht
  rw[hF1 _ _ _ (by omega) hq2 hr0 hr1 ht]
  by_cases hr:r+y1>=4294967296
  ·rw[z7 hr,cond_true,G6 hq hu hy h0 hl hr ⟨by omega,hq2⟩]
  ·rw[z8 hr,cond_false]
   refine hrec _ ⟨q - 1,r+y1,rfl,?_,by omega,by omega,by omega,by omega,hl⟩ (by rw[hdec,hdec];omega)
   rw[Int.sub_mul,Int.one_mul];omega
 ·rw[not_or] at ht
  rw[hF2 _ _ _ hq0 (by omega) hr0 hr1 ht.2,<-Ey hq hu hy hge (by omega)]
theorem wq {U u y1 y0:Int} (hu:0<=u/\u<4294967296) (h0:0<=y0/\y0<4294967296) (h1:2147483648<=y1/\y1<4294967296) (hU0:0<=U) (hU:U<y1*4294967296+y0) :
  (U / y1)*y1+(U - U / y1*y1)=U/\0<=U / y1/\U / y1<=4294967297/\0<=U - U / y1*y1/\U - U / y1*y1<4294967296/\(U*4294967296+u) / (y1*4294967296+y0)<=U / y1:=by
 have e1:=Int.mul_ediv_add_emod U y1
 have e2:=Int.emod_nonneg U (show y1≠0 by omega)
 have e3:=Int.emod_lt_of_pos U (show 0<y1 by omega)
 rw[Int.mul_comm] at e1
 refine ⟨by omega,Int.ediv_nonneg hU0 (by omega),?_,by omega,by omega,?_⟩
 ·have:U / y1<4294967298:=Int.ediv_lt_of_lt_mul (by omega) (by omega)
  omega
 ·have:(U*4294967296+u) / (y1*4294967296+y0)<U / y1+1:=by
   refine Int.ediv_lt_of_lt_mul (by omega) ?_
   have hq:0<=U / y1:=Int.ediv_nonneg hU0 (by omega)
   have e4:0<=(U / y1+1)*y0:=Int.mul_nonneg (by omega) h0.1
   rw[Int.mul_add,<-Int.mul_assoc,Int.add_mul (U / y1) 1 y1,Int.one_mul]
   omega
  omega
def Pj (_ _ Y u0 P q1 un:Int) (q:Int):Option (Int×Int×Unit):=some (IntKind.wrap .u64 (IntKind.wrap .u64 (q1*4294967296)+q),Int.fdiv (IntKind.wrap .u64 (IntKind.wrap .u64 (IntKind.wrap .u64 (un*4294967296)+u0) - IntKind.wrap .u64 (q*Y))) P,())
def dv2 (y1 y0 Y u0 P q1 un:Int):Option (Int×Int×Unit):=lpK (Int×Int×PUnit) (Int×Int×PUnit) (fun again x=>bif (bif decide (x.2.1>=4294967296) then true else decide (IntKind.wrap .u64 (x.2.1*y0)>IntKind.wrap .u64 (IntKind.wrap .u64 (4294967296*x.1)+u0))) then
 (bif decide (IntKind.wrap .u64 (x.1+y1)>=4294967296) then Pj y1 y0 Y u0 P q1 un (IntKind.wrap .u64 (x.2.1 - 1)) else again (IntKind.wrap .u64 (x.1+y1),IntKind.wrap .u64 (x.2.1 - 1),PUnit.unit)) else Pj y1 y0 Y u0 P q1 un x.2.1)
 (IntKind.wrap .u64 (un - IntKind.wrap .u64 (IntKind.wrap .u64 (Int.tdiv un y1)*y1)),IntKind.wrap .u64 (Int.tdiv un y1),PUnit.unit)
theorem Rh {y1 y0 u0 P q1 un:Int} (hu:0<=u0/\u0<4294967296) (h0:0<=y0/\y0<4294967296) (h1:2147483648<=y1/\y1<4294967296) (hU0:0<=un) (hU:un<y1*4294967296+y0) :
  dv2 y1 y0 (y1*4294967296+y0) u0 P q1 un=Pj y1 y0 (y1*4294967296+y0) u0 P q1 un ((un*4294967296+u0) / (y1*4294967296+y0)):=by
 obtain ⟨i1,i2,i3,i4,i5,i6⟩:=wq (U:=un) hu h0 h1 hU0 hU
 unfold dv2
 rw[Int.tdiv_eq_ediv_of_nonneg hU0]
 have hm:un / y1*y1<=un:=by omega
 have hm0:0<=un / y1*y1:=Int.mul_nonneg i2 (by omega)
 rw[bN (x:=un / y1) i2 (by omega),bN (x:=un / y1*y1) hm0 (by omega),bN (x:=un - un / y1*y1) (by omega) (by omega)]
 refine wA (α:=Int×Int×PUnit) (enc:=fun q r=>(r,q,PUnit.unit)) (dec:=fun x=>x.2.1) (fun _ _=>rfl) hu.1 h0 h1 hU0 (by omega) ?_ ?_ i1 i2 i3 i4 i5 i6
 ·intro again q r g1 g2 g3 g4 g5
  have e1:0<=q*y0:=Int.mul_nonneg (by omega) h0.1
  have e2:q*y0<=4294967297*4294967295:=Int.mul_le_mul g2 (by omega) h0.1 (by omega)
  simp only
  rw[bN (x:=q*y0) e1 (by omega),bN (x:=4294967296*r) (by omega) (by omega),bN (x:=4294967296*r+u0) (by omega) (by omega),bN (x:=r+y1) (by omega) (by omega),bN (x:=q - 1) (by omega) (by omega)]
  have e:(bif decide (q>=4294967296) then true else decide (q*y0>4294967296*r+u0))=true:=by
   rcases g5 with ht | ht
   ·rw[z7 ht];rfl
   ·rw[z7 ht];cases decide (q>=4294967296)<;>rfl
  rw[e,cT]
 ·intro again q r g1 g2 g3 g4 g5
  have e1:0<=q*y0:=Int.mul_nonneg (by omega) h0.1
  have e2:q*y0<=4294967297*4294967295:=Int.mul_le_mul (by omega) (by omega) h0.1 (by omega)
  simp only
  rw[bN (x:=q*y0) e1 (by omega),bN (x:=4294967296*r) (by omega) (by omega),bN (x:=4294967296*r+u0) (by omega) (by omega)]
  rw[z8 (show ¬ q>=4294967296 by omega),z8 g5,cF,cF]
def OJ (y1 y0 Y u1 u0 P U:Int) (q1:Int):Option (Int×Int×Unit):=dv2 y1 y0 Y u0 P q1 (IntKind.wrap .u64 (IntKind.wrap .u64 (IntKind.wrap .u64 (U*4294967296)+u1) - IntKind.wrap .u64 (q1*Y)))
def dv1 (y1 y0 Y u1 u0 P U:Int):Option (Int×Int×Unit):=lpK (Int×Int×PUnit) (Int×Int×PUnit) (fun again x=>bif (bif decide (x.1>=4294967296) then true else decide (IntKind.wrap .u64 (x.1*y0)>IntKind.wrap .u64 (IntKind.wrap .u64 (4294967296*x.2.1)+u1))) then
 (bif decide (IntKind.wrap .u64 (x.2.1+y1)>=4294967296) then OJ y1 y0 Y u1 u0 P U (IntKind.wrap .u64 (x.1 - 1)) else again (IntKind.wrap .u64 (x.1 - 1),IntKind.wrap .u64 (x.2.1+y1),PUnit.unit)) else OJ y1 y0 Y u1 u0 P U x.1)
 (IntKind.wrap .u64 (Int.tdiv U y1),IntKind.wrap .u64 (U - IntKind.wrap .u64 (IntKind.wrap .u64 (Int.tdiv U y1)*y1)),PUnit.unit)
theorem Ri {y1 y0 u1 u0 P U:Int} (hu:0<=u1/\u1<4294967296) (h0:0<=y0/\y0<4294967296) (h1:2147483648<=y1/\y1<4294967296) (hU0:0<=U) (hU:U<y1*4294967296+y0) :
  dv1 y1 y0 (y1*4294967296+y0) u1 u0 P U=OJ y1 y0 (y1*4294967296+y0) u1 u0 P U ((U*4294967296+u1) / (y1*4294967296+y0)):=by
 obtain ⟨i1,i2,i3,i4,i5,i6⟩:=wq (U:=U) hu h0 h1 hU0 hU
 unfold dv1
 rw[Int.tdiv_eq_ediv_of_nonneg hU0]
 have hm:U / y1*y1<=U:=by omega
 have hm0:0<=U / y1*y1:=Int.mul_nonneg i2 (by omega)
 rw[bN (x:=U / y1) i2 (by omega),bN (x:=U / y1*y1) hm0 (by omega),bN (x:=U - U / y1*y1) (by omega) (by omega)]
 refine wA (α:=Int×Int×PUnit) (enc:=fun q r=>(q,r,PUnit.unit)) (dec:=fun x=>x.1) (fun _ _=>rfl) hu.1 h0 h1 hU0 (by omega) ?_ ?_ i1 i2 i3 i4 i5 i6
 ·intro again q r g1 g2 g3 g4 g5
  have e1:0<=q*y0:=Int.mul_nonneg (by omega) h0.1
  have e2:q*y0<=4294967297*4294967295:=Int.mul_le_mul g2 (by omega) h0.1 (by omega)
  simp only
  rw[bN (x:=q*y0) e1 (by omega),bN (x:=4294967296*r) (by omega) (by omega),bN (x:=4294967296*r+u1) (by omega) (by omega),bN (x:=r+y1) (by omega) (by omega),bN (x:=q - 1) (by omega) (by omega)]
  have e:(bif decide (q>=4294967296) then true else decide (q*y0>4294967296*r+u1))=true:=by
   rcases g5 with ht | ht
   ·rw[z7 ht];rfl
   ·rw[z7 ht];cases decide (q>=4294967296)<;>rfl
  rw[e,cT]
 ·intro again q r g1 g2 g3 g4 g5
  have e1:0<=q*y0:=Int.mul_nonneg (by omega) h0.1
  have e2:q*y0<=4294967297*4294967295:=Int.mul_le_mul (by omega) (by omega) h0.1 (by omega)
  simp only
  rw[bN (x:=q*y0) e1 (by omega),bN (x:=4294967296*r) (by omega) (by omega),bN (x:=4294967296*r+u1) (by omega) (by omega)]
  rw[z8 (show ¬ q>=4294967296 by omega),z8 g5,cF,cF]
theorem Ty {U W Y P:Nat} (hY:9223372036854775808<=Y) (hY2:Y<18446744073709551616) (hW:W<18446744073709551616) (hU:U<Y) :
  dv1 ((Y:Int) / 4294967296) ((Y:Int) % 4294967296) (Y:Int) ((W:Int) / 4294967296) ((W:Int) % 4294967296) (P:Int) (U:Int)=some ((((U*18446744073709551616+W) / Y:Nat):Int),(((U*18446744073709551616+W) % Y / P:Nat):Int),()):=by
 have eY:(Y:Int) / 4294967296*4294967296+(Y:Int) % 4294967296=Y:=by omega
 have h1:=Ri (y1:=(Y:Int) / 4294967296) (y0:=(Y:Int) % 4294967296) (u1:=(W:Int) / 4294967296) (u0:=(W:Int) % 4294967296) (P:=(P:Int)) (U:=(U:Int)) (by omega) (by omega) (by omega) (by omega) (by omega)
 rw[eY] at h1
 rw[h1]
 unfold OJ
 obtain ⟨A,hA⟩:∃A:Nat,A=U*4294967296+W / 4294967296:=⟨_,rfl⟩
 have hAi:(U:Int)*4294967296+(W:Int) / 4294967296=(A:Int):=by omega
 rw[hAi]
 have hq1:A / Y<4294967296:=(Nat.div_lt_iff_lt_mul (by omega)).2 (by omega)
 have d1:=Nat.div_add_mod A Y
 have d2:=Nat.mod_lt A (show Y>0 by omega)
 rw[show (A:Int) / (Y:Int)=((A / Y:Nat):Int) from rfl]
 have hun:IntKind.wrap .u64 (IntKind.wrap .u64 (IntKind.wrap .u64 ((U:Int)*4294967296)+(W:Int) / 4294967296) - IntKind.wrap .u64 (((A / Y:Nat):Int)*(Y:Int)))=((A % Y:Nat):Int):=by
  rw[<-Int.natCast_mul,Nat.mul_comm (A / Y)]
  generalize A / Y=q1 at *
  generalize Y*q1=m at *
  rw[IntKind.wrap_u64,IntKind.wrap_u64,IntKind.wrap_u64,IntKind.wrap_u64]
  omega
 rw[hun]
 have h2:=Rh (y1:=(Y:Int) / 4294967296) (y0:=(Y:Int) % 4294967296) (u0:=(W:Int) % 4294967296) (P:=(P:Int)) (q1:=((A / Y:Nat):Int)) (un:=((A % Y:Nat):Int)) (by omega) (by omega) (by omega) (by omega) (by omega)
 rw[eY] at h2
 rw[h2]
 unfold Pj
 obtain ⟨B,hB⟩:∃B:Nat,B=A % Y*4294967296+W % 4294967296:=⟨_,rfl⟩
 have hBi:((A % Y:Nat):Int)*4294967296+(W:Int) % 4294967296=(B:Int):=by omega
 rw[hBi,show (B:Int) / (Y:Int)=((B / Y:Nat):Int) from rfl]
 have hq0:B / Y<4294967296:=(Nat.div_lt_iff_lt_mul (by omega)).2 (by omega)
 have d3:=Nat.div_add_mod B Y
 have d4:=Nat.mod_lt B (show Y>0 by omega)
 have hN:U*18446744073709551616+W=(A / Y*4294967296+B / Y)*Y+B % Y:=by
  rw[Nat.add_mul,Nat.mul_right_comm,Nat.mul_comm (A / Y),Nat.mul_comm (B / Y)]
  omega
 obtain ⟨n1,n2⟩:=uI d4 hN
 rw[n1,n2]
 have hrest:IntKind.wrap .u64 (IntKind.wrap .u64 (IntKind.wrap .u64 (((A % Y:Nat):Int)*4294967296)+(W:Int) % 4294967296) - IntKind.wrap .u64 (((B / Y:Nat):Int)*(Y:Int)))=((B % Y:Nat):Int):=by
  rw[<-Int.natCast_mul,Nat.mul_comm (B / Y)]
  generalize B / Y=q0 at *
  generalize Y*q0=m at *
  generalize A % Y=r1 at *
  rw[IntKind.wrap_u64,IntKind.wrap_u64,IntKind.wrap_u64,IntKind.wrap_u64]
  omega
 rw[hrest,mG (by omega)]
 generalize A / Y=q1 at *
 generalize B / Y=q0 at *
 rw[bN (x:=(q1:Int)*4294967296) (by omega) (by omega),bN (by omega) (by omega)]
 rfl
theorem CU (m n:Nat):Int.tmod (m:Int) (n:Int)=((m % n:Nat):Int):=by
 rw[Int.tmod_eq_emod_of_nonneg (by omega)]
 rfl
theorem jnT {α R:Type} (j:α->Option R) (f:(α->Option R)->Option R):jnK α R j f=f j:=Eq.trans rfl rfl
theorem BN {h l y:Nat} (hy:h<y) (hy2:y<18446744073709551616) (hl0:l<18446744073709551616):de (h:Int) (l:Int) (y:Int)=some ((((h*18446744073709551616+l) / y:Nat):Int),(((h*18446744073709551616+l) % y:Nat):Int),()):=by
 simp only[de,pb,jnT]
 rw[z8 (show ¬ (y:Int)=0 by omega),cF,z8 (show ¬ (y:Int)<=(h:Int) by omega),cF]
 have hz:nzB (y:Int)=true:=kD (by omega)
 by_cases h0:h=0
 ·subst h0
  rw[z7 (show ((0:Nat):Int)=0 from rfl),cT,hz,cT,cT,kO,CU,Nat.zero_mul,Nat.zero_add]
  have:=Nat.div_le_self l y
  generalize l / y=d at *
  rw[bN (by omega) (by omega)]
 ·rw[z8 (show ¬ (h:Int)=0 by omega),cF]
  obtain ⟨L,e1,⟨e2,e3⟩,e4⟩:=KU (n:=y) (by omega) hy2
  simp only[cQ,iG,e1,af]
  rw[aB (x:=64 - (L:Int)) (by omega) (by omega)]
  obtain ⟨s,hs⟩:∃s:Nat,L+s=64:=⟨64 - L,by omega⟩
  have w1:IntKind.wrap .u64 (64 - (L:Int))=(s:Int):=by rw[bN (by omega) (by omega)];omega
  have w2:IntKind.wrap .u64 (64 - (s:Int))=(L:Int):=by rw[bN (by omega) (by omega)];omega
  have p2:∀k:Nat,(2:Int) ^ k=((2 ^ k:Nat):Int):=fun k=>by rw[Int.natCast_pow];rfl
  have p32:(2:Int) ^ (32:Nat)=4294967296:=by decide
  simp only[w1,w2,z9,Nat.min_eq_left (show s<=64 by omega),Nat.min_eq_left (show L<=64 by omega),p32]
  simp only[p2]
  have hPQ:2 ^ s*2 ^ L=18446744073709551616:=by rw[<-Nat.pow_add,show s+L=64 by omega]
  have hP:0<2 ^ s:=Nat.two_pow_pos s
  have hQ:0<2 ^ L:=Nat.two_pow_pos L
  have hYlt:y*2 ^ s<18446744073709551616:=by rw[<-hPQ,Nat.mul_comm (2 ^ s)];exact Nat.mul_lt_mul_of_pos_right e2 hP
  have hYge:9223372036854775808<=y*2 ^ s:=by
   have:=Nat.mul_le_mul_right (2 ^ s) e3
   rw[Nat.mul_comm (2 ^ L),hPQ,Nat.mul_assoc] at this
   omega
  have hhP:h*2 ^ s+2 ^ s<=y*2 ^ s:=by rw[<-Nat.succ_mul];exact Nat.mul_le_mul_right _ hy
  have hlQ:l / 2 ^ L<2 ^ s:=by rw[Nat.div_lt_iff_lt_mul hQ,hPQ];exact hl0
  have hlor:IntKind.wrap .u64 ((Nat.lor (Int.toNat (IntKind.wrap .u64 ((h:Int)*((2 ^ s:Nat):Int)) % Int.ofNat 18446744073709551616)) (Int.toNat (Int.fdiv (l:Int) ((2 ^ L:Nat):Int) % Int.ofNat 18446744073709551616)):Nat):Int)=((h*2 ^ s+l / 2 ^ L:Nat):Int):=by
   have a1:IntKind.wrap .u64 ((h:Int)*((2 ^ s:Nat):Int))=((h*2 ^ s:Nat):Int):=by rw[<-Int.natCast_mul,bN (by omega) (by omega)]
   have a2:Int.fdiv (l:Int) ((2 ^ L:Nat):Int)=((l / 2 ^ L:Nat):Int):=by rw[mG (by omega)];rfl
   have a3:∀n:Nat,n<18446744073709551616->Int.toNat ((n:Int) % Int.ofNat 18446744073709551616)=n:=fun n hn=>by
    rw[show Int.ofNat 18446744073709551616=(18446744073709551616:Int) from rfl];omega
   rw[a1,a2,a3 (h*2 ^ s) (by omega),a3 (l / 2 ^ L) (by omega),OV hlQ]
   exact bN (Int.natCast_nonneg _) (by
    have h5:h*2 ^ s+l / 2 ^ L<18446744073709551616:=by omega
    exact Int.ofNat_lt.2 h5)
  have hlo:IntKind.wrap .u64 ((l:Int)*((2 ^ s:Nat):Int))=((l % 2 ^ L*2 ^ s:Nat):Int):=by
   rw[<-Int.natCast_mul,IntKind.wrap_u64]
   have a1:l*2 ^ s=(l / 2 ^ L)*18446744073709551616+l % 2 ^ L*2 ^ s:=by
    rw[<-hPQ,Nat.mul_comm (2 ^ s),<-Nat.mul_assoc,<-Nat.add_mul,Nat.mul_comm (l / 2 ^ L),Nat.div_add_mod]
   have a2:l % 2 ^ L*2 ^ s<18446744073709551616:=by rw[<-hPQ,Nat.mul_comm (2 ^ s)];exact Nat.mul_lt_mul_of_pos_right (Nat.mod_lt _ hQ) hP
   rw[a1]
   generalize l / 2 ^ L=A at *
   generalize l % 2 ^ L*2 ^ s=B at *
   omega
  have hlolt:l % 2 ^ L*2 ^ s<18446744073709551616:=by rw[<-hPQ,Nat.mul_comm (2 ^ s)];exact Nat.mul_lt_mul_of_pos_right (Nat.mod_lt _ hQ) hP
  have hN:(h*18446744073709551616+l)*2 ^ s=(h*2 ^ s+l / 2 ^ L)*18446744073709551616+l % 2 ^ L*2 ^ s:=by
   have a1:l*2 ^ s=(l / 2 ^ L)*18446744073709551616+l % 2 ^ L*2 ^ s:=by
    rw[<-hPQ,Nat.mul_comm (2 ^ s),<-Nat.mul_assoc,<-Nat.add_mul,Nat.mul_comm (l / 2 ^ L),Nat.div_add_mod]
   rw[Nat.add_mul,a1,Nat.add_mul,Nat.mul_right_comm]
   omega
  have hY:IntKind.wrap .u64 ((y:Int)*((2 ^ s:Nat):Int))=((y*2 ^ s:Nat):Int):=by rw[<-Int.natCast_mul,bN (by omega) (by omega)]
  have hdiv:(h*18446744073709551616+l) / y=((h*2 ^ s+l / 2 ^ L)*18446744073709551616+l % 2 ^ L*2 ^ s) / (y*2 ^ s):=by rw[<-hN,Nat.mul_div_mul_right _ _ hP]
  have hmod:((h*18446744073709551616+l) % y)*2 ^ s=((h*2 ^ s+l / 2 ^ L)*18446744073709551616+l % 2 ^ L*2 ^ s) % (y*2 ^ s):=by rw[<-hN,Nat.mul_mod_mul_right]
  rw[hlor,hlo,hY]
  have hU:h*2 ^ s+l / 2 ^ L<y*2 ^ s:=by omega
  have hm:(h*18446744073709551616+l) % y=((h*2 ^ s+l / 2 ^ L)*18446744073709551616+l % 2 ^ L*2 ^ s) % (y*2 ^ s) / 2 ^ s:=by rw[<-hmod,Nat.mul_div_cancel _ hP]
  rw[hdiv,hm]
  generalize h*2 ^ s+l / 2 ^ L=U at *
  generalize l % 2 ^ L*2 ^ s=W at *
  generalize y*2 ^ s=Y at *
  generalize 2 ^ s=P at *
  clear e2 e3 e1 hlor hlo hN hdiv hmod hm hlQ hPQ hhP hY
  have hdv:=Ty (P:=P) hYge hYlt hlolt hU
  rw[<-hdv]
  have c1:decide ((0:Int)<=(s:Int))=true:=z7 (by omega)
  have c2:decide ((0:Int)<=(L:Int))=true:=z7 (by omega)
  have c3:decide ((0:Int)<=(32:Int))=true:=rfl
  have c4:nzB ((Y:Int) / 4294967296)=true:=kD (by omega)
  have m1:∀n:Nat,n<18446744073709551616->IntKind.wrap .u64 ((Nat.land (Int.toNat ((n:Int) % Int.ofNat 18446744073709551616)) (Int.toNat ((4294967295:Int) % Int.ofNat 18446744073709551616)):Nat):Int)=(n:Int) % 4294967296:=fun n hn=>by
   rw[Am (by omega) (by omega),bN (by omega) (by omega)]
  simp only[mG (show (0:Int)<=4294967296 by omega),c1,c2,c3,c4,m1 Y hYlt,m1 W hlolt,ff,Bool.not_not,Bool.and_self,cT]
  rfl
end
end Go.Proofs.YtfknoaclabfdlaaGreat

namespace Go.Proofs.YtfknoaclabfdlaaGreat
open Tryz Dn Dn.Sh
theorem Fg {n b:Nat} (hb0:0<b) (hb:b<18446744073709551616) (hn:n<340282366920938463463374607431768211456):eg (hl n) (b:Int)=some (hl (n / b),((n % b:Nat):Int),()):=by
 have hz:nzB (b:Int)=true:=kD (by omega)
 obtain ⟨h,l,hh,hl',hnn⟩:∃h l:Nat,h=n / 18446744073709551616/\l=n % 18446744073709551616/\n=h*18446744073709551616+l:=⟨_,_,rfl,rfl,by omega⟩
 have e:hl n=((h:Int),(l:Int)):=by unfold hl;rw[hh,hl']
 rw[e]
 simp only[eg,oO]
 rw[hz,CU,BN (Nat.mod_lt h hb0) hb (by omega),af]
 have d1:=Nat.div_add_mod h b
 have d2:=Nat.mod_lt h hb0
 obtain ⟨A,hA⟩:∃A,A=h % b*18446744073709551616+l:=⟨_,rfl⟩
 rw[<-hA]
 have d3:=Nat.div_add_mod A b
 have d4:=Nat.mod_lt A hb0
 have d5:A / b<18446744073709551616:=(Nat.div_lt_iff_lt_mul hb0).2 (by
  have:(h % b+1)*18446744073709551616<=b*18446744073709551616:=Nat.mul_le_mul_right _ d2
  rw[Nat.mul_comm 18446744073709551616 b]
  omega)
 have hN:n=(h / b*18446744073709551616+A / b)*b+A % b:=by
  have e1:(h / b*18446744073709551616+A / b)*b=b*(h / b)*18446744073709551616+b*(A / b):=by grind
  rw[e1,hnn]
  generalize b*(h / b)=x at *
  generalize b*(A / b)=y at *
  generalize A % b=r at *
  generalize h % b=r1 at *
  clear e hz hb0 hb hn hh hl' hnn d5 e1
  omega
 obtain ⟨n1,n2⟩:=uI d4 hN
 rw[n1,n2,kO]
 have d6:h / b<18446744073709551616:=Nat.lt_of_le_of_lt (Nat.div_le_self h b) (by omega)
 generalize h / b=x at *
 generalize A / b=y at *
 rw[bN (x:=(x:Int)) (by omega) (by omega)]
 unfold hl
 rw[show (x*18446744073709551616+y) / 18446744073709551616=x by omega,show (x*18446744073709551616+y) % 18446744073709551616=y by omega]
 rfl
theorem FC {na nb:Int} {da A B:Nat} (ha:Nat.gcd na.natAbs da=1) (hA:A∣da) (hAB:Nat.gcd A B=1):Nat.gcd (na*B+nb*A).natAbs A=1:=by
 have d1:=Nat.gcd_dvd_left (na*B+nb*A).natAbs A
 have d2:=Nat.gcd_dvd_right (na*B+nb*A).natAbs A
 generalize Nat.gcd (na*B+nb*A).natAbs A=d at *
 have e1:(d:Int)∣na*B+nb*A:=Int.ofNat_dvd_left.2 d1
 have e2:(d:Int)∣nb*A:=Int.dvd_mul_of_dvd_right (Int.ofNat_dvd.2 d2)
 have e3:(d:Int)∣na*B:=(Int.dvd_iff_dvd_of_dvd_add e1).2 e2
 have e4:d∣na.natAbs*B:=by
  have:=Int.ofNat_dvd_left.1 e3
  rwa [Int.natAbs_mul,Int.natAbs_natCast] at this
 have e5:Nat.Coprime d na.natAbs:=(Nat.Coprime.coprime_dvd_right (Nat.dvd_trans d2 hA) ha).symm
 have e6:d∣B:=Nat.Coprime.dvd_of_dvd_mul_left e5 e4
 have e7:=Nat.dvd_gcd d2 e6
 rw[hAB] at e7
 exact Nat.dvd_one.1 e7
theorem G9 {na nb:Int} {da db g A B:Nat} (ha:Nat.gcd na.natAbs da=1) (hb:Nat.gcd nb.natAbs db=1) (h1:da=A*g) (h2:db=B*g) (hAB:Nat.gcd A B=1) (hg:0<g) (hA:0<A) (hB:0<B) {c:Nat} (hc:c=Nat.gcd g (na*B+nb*A).natAbs) :
  mkRat na da+mkRat nb db=mkRat (na*B+nb*A) (A*db)/\Nat.gcd ((na*B+nb*A).natAbs / c) (A*(db / c))=1/\0<c/\c∣(na*B+nb*A).natAbs/\c∣db:=by
 have hc0:0<c:=by rw[hc];exact Nat.gcd_pos_of_pos_left _ hg
 have k1:Nat.gcd (na*B+nb*A).natAbs A=1:=FC ha ⟨g,h1⟩ hAB
 have k2:Nat.gcd (na*B+nb*A).natAbs B=1:=by
  rw[Int.add_comm]
  exact FC hb ⟨g,h2⟩ (by rw[Nat.gcd_comm];exact hAB)
 have c1:c∣(na*B+nb*A).natAbs:=by rw[hc];exact Nat.gcd_dvd_right _ _
 have c2:c∣g:=by rw[hc];exact Nat.gcd_dvd_left _ _
 refine ⟨?_,?_,hc0,c1,by rw[h2];exact Nat.dvd_trans c2 (Nat.dvd_mul_left g B)⟩
 ·have p1:0<A*g:=Nat.mul_pos hA hg
  have p2:0<B*g:=Nat.mul_pos hB hg
  have p3:0<A*(B*g):=Nat.mul_pos hA p2
  rw[Rat.mkRat_add_mkRat _ _ (by omega) (by omega),h1,h2,Rat.mkRat_eq_iff (Nat.ne_of_gt (Nat.mul_pos p1 p2)) (by omega)]
  simp only[Int.natCast_mul]
  grind
 ·have c3:Nat.gcd ((na*B+nb*A).natAbs / c) (g / c)=1:=by
   rw[hc,Nat.gcd_comm]
   exact Nat.gcd_div_gcd_div_gcd_of_pos_left hg
  have hdb:db / c=B*(g / c):=by rw[h2,Nat.mul_div_assoc _ c2]
  have dv:(na*B+nb*A).natAbs / c∣(na*B+nb*A).natAbs:=Nat.div_dvd_of_dvd c1
  rw[hdb]
  exact Nat.Coprime.mul_right (Nat.Coprime.coprime_dvd_left dv k1) (Nat.Coprime.mul_right (Nat.Coprime.coprime_dvd_left dv k2) c3)
theorem Qp {a b:Fq} (ha:okF a) (hb:okF b):bU a b=some (te (qv a+qv b)):=by
 obtain ⟨na,da'⟩:=a
 obtain ⟨nb,db'⟩:=b
 have ha':=ha
 have hb':=hb
 unfold okF at ha' hb'
 simp only at ha' hb'
 obtain ⟨⟨a1,a2⟩,⟨a3,a4⟩,a5⟩:=ha'
 obtain ⟨⟨b1,b2⟩,⟨b3,b4⟩,b5⟩:=hb'
 obtain ⟨da,rfl⟩:∃da:Nat,da'=da:=⟨da'.toNat,by omega⟩
 obtain ⟨db,rfl⟩:∃db:Nat,db'=db:=⟨db'.toNat,by omega⟩
 rw[Int.natAbs_natCast] at a5 b5
 simp only[bU,pU,wN,z7 ha,z7 hb,af,Bool.not_true,Bool.not_false,Bool.or_true,cT,cF,jnT]
 rw[bN (x:=(da:Int)) (by omega) (by omega),bN (x:=(db:Int)) (by omega) (by omega),A3 _ _ (by omega),af,rp (by omega) (by omega),af,rp (by omega) (by omega)]
 have hg:0<Nat.gcd da db:=Nat.gcd_pos_of_pos_left _ (by omega)
 have hgl:Nat.gcd da db<=da:=Nat.gcd_le_left _ (by omega)
 obtain ⟨A,hA⟩:∃A,A=da / Nat.gcd da db:=⟨_,rfl⟩
 obtain ⟨B,hB⟩:∃B,B=db / Nat.gcd da db:=⟨_,rfl⟩
 have hAg:da=A*Nat.gcd da db:=by rw[hA,Nat.div_mul_cancel (Nat.gcd_dvd_left _ _)]
 have hBg:db=B*Nat.gcd da db:=by rw[hB,Nat.div_mul_cancel (Nat.gcd_dvd_right _ _)]
 have hAB:Nat.gcd A B=1:=by rw[hA,hB];exact Nat.gcd_div_gcd_div_gcd_of_pos_left (by omega)
 have hA0:0<A:=by rw[hA];exact Nat.div_pos (Nat.gcd_le_left _ (by omega)) hg
 have hB0:0<B:=by rw[hB];exact Nat.div_pos (Nat.gcd_le_right _ (by omega)) hg
 have hAl:A<=da:=by rw[hA];exact Nat.div_le_self _ _
 have hBl:B<=db:=by rw[hB];exact Nat.div_le_self _ _
 have hz:nzB ((Nat.gcd da db:Nat):Int)=true:=kD (by omega)
 rw[hz,cT,kO,kO,<-hA,<-hB,bN (x:=(A:Int)) (by omega) (by omega),bN (x:=(B:Int)) (by omega) (by omega)]
 have x1:na.natAbs*B<=1152921504606846976*1152921504606846976:=Nat.mul_le_mul (by omega) (by omega)
 have y1:nb.natAbs*A<=1152921504606846976*1152921504606846976:=Nat.mul_le_mul (by omega) (by omega)
 rw[sN (by omega) (by omega),af,af,cT,sN (by omega) (by omega),af]
 have hsum:=G9 (na:=na) (nb:=nb) a5 b5 hAg hBg hAB hg hA0 hB0 rfl
 generalize Nat.gcd da db=g at *
 have hv:qv (na,(da:Int))+qv (nb,(db:Int))=mkRat na da+mkRat nb db:=rfl
 rw[hv,hsum.1]
 simp only[ff,Bool.not_not,cT]
 have tail:∀(s:Bool) (N:Nat),N<=2658455991569831745807614120560689152->sgn s N=na*B+nb*A->(bif decide ((hl N).1=0)&&(decide ((hl N).2=0)&&true) then some (((0:Int),(1:Int)),(0:Int),PUnit.unit) else
   ah (eg (hl N) (g:Int)) fun t_5=>ah (bA (g:Int) t_5.2.1) fun t_1=>ah (eg (hl N) t_1) fun t_6=>bif nzB t_1 then ah (aU (A:Int) (IntKind.wrap .u64 (Int.tdiv (db:Int) t_1))) fun t =>
    bif bif decide (t_6.1.1>0) then true else decide (t.1>0) then some (((0:Int),(0:Int)),(5:Int),PUnit.unit) else ah (bh s t_6.1.2 t.2) fun t=>some (t.1,t.2.1,PUnit.unit) else none)=some (te (mkRat (na*B+nb*A) (A*db))):=by
  intro s N hN hs
  have hNT:(na*B+nb*A).natAbs=N:=by rw[<-hs];unfold sgn;split<;>simp
  rw[hNT] at hsum
  rw[vO (by omega)]
  by_cases h0:N=0
  ·rw[z7 h0,cT,<-hs,h0,show sgn s 0=0 by unfold sgn;cases s<;>rfl,Rat.zero_mkRat]
   rfl
  ·obtain ⟨c,hc⟩:∃c,c=Nat.gcd g N:=⟨_,rfl⟩
   rw[<-hc] at hsum
   obtain ⟨_,s2,s3,s4,s5⟩:=hsum
   have hcg:c<=g:=by rw[hc];exact Nat.gcd_le_left _ hg
   rw[z8 h0,cF,Fg hg (by omega) (by omega),af,A3 _ _ (by have:=Nat.mod_lt N hg;generalize N % g=w at *;omega),af,Nat.gcd_comm,<-Nat.gcd_rec,<-hc,Fg s3 (by omega) (by omega),af,kD (by omega),cT,kO]
   have hdc:db / c<=db:=Nat.div_le_self _ _
   have hdc0:0<db / c:=Nat.div_pos (Nat.le_of_dvd (by omega) s5) s3
   rw[bN (by omega) (by generalize db / c=w at *;omega),sN (by omega) (by generalize db / c=w at *;omega),af]
   have hNc:N / c<=N:=Nat.div_le_self _ _
   have hval:mkRat (na*B+nb*A) (A*db)=mkRat (sgn s (N / c)) (A*(db / c)):=by
    rw[<-hs]
    refine GI (Nat.mul_pos hA0 (by omega)) (Nat.mul_pos hA0 hdc0) ?_
    obtain ⟨x,rfl⟩:=s4
    obtain ⟨y,rfl⟩:=s5
    rw[Nat.mul_div_cancel_left _ s3,Nat.mul_div_cancel_left _ s3]
    grind
   rw[hval,A8 (Nat.mul_pos hA0 hdc0) s2]
   have hden:A*(db / c)<=1152921504606846976*1152921504606846976:=Nat.mul_le_mul (by omega) (by omega)
   generalize N / c=n at *
   generalize A*(db / c)=d at *
   by_cases hn:n<18446744073709551616
   ·by_cases hd:d<18446744073709551616
    ·rw[gv hn,gv hd]
     simp only
     rw[show decide ((0:Int)>0)=false from rfl,cF,cF,yT _ _ _ hn hd,af]
    ·rw[gv hn]
     simp only
     rw[show decide ((0:Int)>0)=false from rfl,z7 (KY hd),cF,cT,if_neg (by omega)]
   ·rw[z7 (KY hn),cT,cT,if_neg (by omega)]
 have sx:∀{n:Int} {s:Bool},s=decide (n<0)->n=sgn s n.natAbs:=fun {n s} h=>by rw[h];exact pS n
 by_cases hsg:decide (na<0)=decide (nb<0)
 ·rw[z7 hsg,cT,Cm (by omega),af]
  refine tail _ _ (by omega) ?_
  have e1:na=sgn (decide (na<0)) na.natAbs:=pS na
  have e2:nb=sgn (decide (na<0)) nb.natAbs:=by rw[hsg];exact pS nb
  generalize na.natAbs=m at *
  generalize nb.natAbs=n at *
  generalize decide (na<0)=s at *
  rw[e1,e2]
  unfold sgn
  cases s
  ·simp only[Bool.false_eq_true,if_false]
   rw[Int.natCast_add,Int.natCast_mul,Int.natCast_mul]
  ·simp only[if_true]
   rw[Int.natCast_add,Int.natCast_mul,Int.natCast_mul]
   grind
 ·have e1:na=sgn (decide (na<0)) na.natAbs:=pS na
  have e2:nb=sgn (!decide (na<0)) nb.natAbs:=by
   have:(!decide (na<0))=decide (nb<0):=by
    clear tail sx hsum hv ha hb
    revert hsg
    cases decide (na<0)<;>cases decide (nb<0)<;>simp
   rw[this];exact pS nb
  rw[z8 hsg,cF,Jr,af]
  by_cases hlt:na.natAbs*B<nb.natAbs*A
  ·rw[z7 hlt,cT,uE (by omega) (by omega),af]
   refine tail _ _ (by omega) ?_
   generalize na.natAbs=m at *
   generalize nb.natAbs=n at *
   generalize decide (na<0)=s at *
   rw[e1,e2]
   have e3:(((n*A - m*B:Nat)):Int)=(n:Int)*A - (m:Int)*B:=by rw[Int.ofNat_sub (Nat.le_of_lt hlt),Int.natCast_mul,Int.natCast_mul]
   unfold sgn
   cases s
   ·simp only[Bool.false_eq_true,if_false,Bool.not_false,if_true]
    grind
   ·simp only[if_true,Bool.not_true,Bool.false_eq_true,if_false]
    grind
  ·rw[z8 hlt,cF,uE (by omega) (by omega),af]
   refine tail _ _ (by omega) ?_
   generalize na.natAbs=m at *
   generalize nb.natAbs=n at *
   generalize decide (na<0)=s at *
   rw[e1,e2]
   have e3:(((m*B - n*A:Nat)):Int)=(m:Int)*B - (n:Int)*A:=by rw[Int.ofNat_sub (Nat.not_lt.1 hlt),Int.natCast_mul,Int.natCast_mul]
   unfold sgn
   cases s
   ·simp only[Bool.false_eq_true,if_false,Bool.not_false,if_true]
    grind
   ·simp only[if_true,Bool.not_true,Bool.false_eq_true,if_false]
    grind
end Go.Proofs.YtfknoaclabfdlaaGreat

namespace Go.Proofs.YtfknoaclabfdlaaGreat
namespace Dn
theorem nt {σ α R:Type} {F:(α->Option R)->α->Option R} (n:Nat) (hn:n<=1180591620717411303423) (enc:Nat->σ->α) (b:Nat->σ->(σ->Option R)->Option R) (f:σ->Option R)
  (hb:∀again (i:Nat) s,i<n->F again (enc i s)=b i s (fun s'=>again (enc (i+1) s'))) (hf:∀again s,F again (enc n s)=f s) (s:σ) :
  lpK α R F (enc 0 s)=upF b f n 0 s:=KJ n hn enc b f hb hf s
def j4 {α:Type} (p:α->Bool):List α->Int->Int
 | [],_=> -1
 | a ::l,i=>bif p a then i else j4 p l (i+1)
theorem tj {α:Type} {p:α->Bool}:∀{l:List α} {i:Int},0<=i->(j4 p l i<0↔∀a ∈ l,p a=false)
 | [],i,h=>by simp[j4]
 | a ::l,i,h=>by
  unfold j4
  cases hp:p a with
  | true=>simp only[cond_true,List.mem_cons,forall_eq_or_imp,hp];simp;omega
  | false=>simp only[cond_false,List.mem_cons,forall_eq_or_imp,hp,true_and];exact tj (by omega)
theorem Hf {α:Type} {p:α->Bool} {l:List α} {d:α} {i:Nat} (h:i<l.length):j4 p (l.drop i) i=bif p (l.getD i d) then (i:Int) else j4 p (l.drop (i+1)) ((i:Int)+1):=by
 rw[List.drop_eq_getElem_cons h,bR h]
 rfl
theorem zO {α:Type} {p:α->Bool} {d:α}:∀{l:List α} {i:Int},0<=i->0<=j4 p l i->i<=j4 p l i/\j4 p l i<i+l.length/\p (l.getD (j4 p l i - i).toNat d)=true
 | [],i,_,h=>by simp[j4] at h
 | a ::l,i,hi,h=>by
  unfold j4 at h ⊢
  cases hp:p a with
  | true=>simp[hp];omega
  | false =>
   rw[hp,cond_false] at h
   obtain ⟨h1,h2,h3⟩:=zO (d:=d) (show 0<=i+1 by omega) h
   rw[cond_false]
   refine ⟨by omega,by simp only[List.length_cons];omega,?_⟩
   have e:(j4 p l (i+1) - i).toNat=(j4 p l (i+1) - (i+1)).toNat+1:=by omega
   rw[e,List.getD_cons_succ]
   exact h3
theorem mn {α:Type} {f:(α×Unit)->Option Bool} {d:α} {p:α->Bool} {l:List α} (hl:l.length<=1000000) (h:∀a,a ∈ l->f (a,())=some (p a)) :
  lpK (Int×PUnit) Int (fun (again:Int×PUnit->Option Int) (x:Int×PUnit)=>bif decide (x.1<(↑(List.length l):Int)) then bif inB x.1 (List.length l) then ah (f
   (List.getD l (Int.toNat x.1) d,PUnit.unit)) fun (t:Bool)=>bif t then some x.1 else again
   (IntKind.wrap .i64 (x.1+(1:Int)),PUnit.unit) else none else some (-1:Int)) ((0:Int),PUnit.unit)=some (j4 p l 0):=by
 refine jh (g:=fun _=>some (j4 p l 0)) (I:=fun (x:Int×PUnit)=>0<=x.1/\x.1<=l.length/\j4 p (l.drop x.1.toNat) x.1=j4 p l 0) (μ:=fun (x:Int×PUnit)=>((l.length:Int) - x.1).toNat) ?_ ⟨by simp,by simp only;omega,rfl⟩ (by simp only;omega)
 rintro ⟨i,_⟩ rec ⟨h0,h1,h2⟩ hrec
 simp only at h0 h1 h2 ⊢
 by_cases hi:i<l.length
 ·obtain ⟨n,rfl⟩:∃n:Nat,i=n:=⟨i.toNat,by omega⟩
  rw[z7 hi,cond_true,po h0 hi,cond_true,z9,h _ (by rw[bR (by omega)];exact List.getElem_mem (by omega)),af,aB (by omega) (by omega)]
  rw[z9,Hf (d:=d) (by omega)] at h2
  cases hp:p (l.getD n d) with
  | true=>rw[hp,cond_true] at h2;rw[cond_true,h2]
  | false=>rw[hp,cond_false] at h2;rw[cond_false];exact hrec _ ⟨by simp only;omega,by simp only;omega,h2⟩ (by simp only;omega)
 ·rw[z8 hi,cond_false]
  have e:i.toNat=l.length:=by omega
  rw[e,List.drop_length] at h2
  rw[<-h2]
  rfl
theorem zy {α:Type} {p:α->Bool} {d:α} {l:List α} (hl:l.length<=1000000) :
  lpK (Int×PUnit) Int (fun (again:Int×PUnit->Option Int) (x:Int×PUnit)=>bif decide (x.1<(↑(List.length l):Int)) then bif inB x.1 (List.length l) then bif p
   (List.getD l (Int.toNat x.1) d) then some x.1 else again
   (IntKind.wrap .i64 (x.1+(1:Int)),PUnit.unit) else none else some (-1:Int)) ((0:Int),PUnit.unit)=some (j4 p l 0) :=
 mn (f:=fun a=>some (p a.1)) hl fun _ _=>rfl
theorem mU {R σ:Type} {b:Nat->σ->(σ->Option R)->Option R} {f:σ->Option R} {p:Nat->Bool} {r:Option R} {s:σ} (n:Nat) (hb:∀i (k:σ->Option R),i<n->b i s k=bif p i then k s else r) :
  ∀(k i:Nat),i+k<=n->upF b f k i s=bif (List.range' i k).all p then f s else r
 | 0,i,_=>rfl
 | k+1,i,h=>by
  simp only[upF,hb i _ (by omega),List.range'_succ,List.all_cons]
  cases hp:p i with
  | true=>exact mU n hb k (i+1) (by omega)
  | false=>rfl
end Dn
end Go.Proofs.YtfknoaclabfdlaaGreat

namespace Go.Proofs.YtfknoaclabfdlaaGreat
open Tryz Dn Dn.Sh
theorem Rj {n:Nat} (h:n<18446744073709551616):(decide ((hl n).1=0)&&(decide ((hl n).2=1)&&true))=decide (n=1):=by
 rw[gv h]
 simp only[decide_true,Bool.true_and,Bool.and_true]
 rw[Bool.eq_iff_iff,decide_eq_true_eq,decide_eq_true_eq]
 omega
theorem Ht {a:Fq}:cM a=some (decide (okF a)):=by
 simp only[cM,nl,aX,ff,cT]
 by_cases h1:a.2<1
 ·rw[z7 h1]
  simp only[cT]
  rw[z8 (by unfold okF;omega)]
 ·rw[z8 h1]
  by_cases h2:a.2>1152921504606846976
  ·rw[z7 h2]
   simp only[cT,cF]
   rw[z8 (by unfold okF;omega)]
  ·rw[z8 h2]
   by_cases h3:a.1< -1152921504606846976
   ·rw[z7 h3]
    simp only[cT,cF]
    rw[z8 (by unfold okF;omega)]
   ·rw[z8 h3]
    by_cases h4:a.1>1152921504606846976
    ·rw[z7 h4]
     simp only[cT,cF]
     rw[z8 (by unfold okF;omega)]
    ·rw[z8 h4]
     simp only[cF]
     have hg:Nat.gcd a.1.natAbs a.2.natAbs<=a.2.natAbs:=Nat.gcd_le_right _ (by omega)
     rw[tO (by omega) (by omega),af,tO (by omega) (by omega),af,<-gv (show a.1.natAbs<18446744073709551616 by omega),<-gv (show a.2.natAbs<18446744073709551616 by omega),IV (by omega) (by omega) (by omega),af,Rj (by generalize Nat.gcd a.1.natAbs a.2.natAbs=g at *;omega)]
     congr 1
     rw[Bool.eq_iff_iff,decide_eq_true_eq,decide_eq_true_eq]
     unfold okF
     generalize Nat.gcd a.1.natAbs a.2.natAbs=g at *
     omega
end Go.Proofs.YtfknoaclabfdlaaGreat

namespace Go.Proofs.YtfknoaclabfdlaaGreat
namespace Dn
end Dn
end Go.Proofs.YtfknoaclabfdlaaGreat

namespace Go.Proofs.YtfknoaclabfdlaaGreat
open Tryz Dn Dn.Sh
abbrev Rw:=List Int×Int×Int
abbrev Pg:=List Int×List Rw
abbrev rw0:Rw:=([],(0:Int),(0:Int))
def inC (n:Int):Bool:=decide (-1048576<=n/\n<=1048576)
def inR (n:Int):Bool:=decide (-1073741824<=n/\n<=1073741824)
def uU (n:Nat) (r:Rw):Bool:=decide (r.1.length=n)&&(decide (1<=r.2.1/\r.2.1<=3)&&(inR r.2.2&&r.1.all inC))
def II (p:Pg):Bool:=decide (1<=p.1.length/\p.1.length<=12/\p.2.length<=6)
def zU (p:Pg):Bool:=II p&&(p.1.all inC&&p.2.all (uU p.1.length))
theorem Af {α:Type} {p:α->Bool} {l:List α}:decide (j4 p l 0>=0)=l.any p:=by
 have:=tj (p:=p) (l:=l) (i:=0) (by omega)
 rw[Bool.eq_iff_iff,decide_eq_true_iff,List.any_eq_true]
 constructor
 ·intro h1
  by_cases h2:∃a ∈ l,p a=true
  ·exact h2
  ·have:j4 p l 0<0:=this.2 fun a ha=>by
    cases e:p a with
    | false=>rfl
    | true=>exact (h2 ⟨a,ha,e⟩).elim
   omega
 ·rintro ⟨a,ha,h3⟩
  by_cases h2:j4 p l 0<0
  ·rw[this.1 h2 a ha] at h3;cases h3
  ·omega
theorem Nu {α:Type} {p:α->Bool} {l:List α}:(l.any fun a=>!p a)=!l.all p:=by
 induction l with
 | nil=>rfl
 | cons a l ih=>simp[ih,Bool.not_and]
theorem uQ {α:Type} {p:α->Bool} {l:List α} (d:α):(List.range' 0 l.length).all (fun i=>p (l.getD i d))=l.all p:=by
 rw[Bool.eq_iff_iff,List.all_eq_true,List.all_eq_true]
 constructor
 ·intro h a ha
  obtain ⟨i,hi,rfl⟩:=List.getElem_of_mem ha
  have:=h i (List.mem_range'.2 ⟨i,hi,by omega⟩)
  rwa [bR hi] at this
 ·intro h i hi
  obtain ⟨k,hk,rfl⟩:=List.mem_range'.1 hi
  rw[bR (by omega)]
  exact h _ (List.getElem_mem _)
theorem EE {f:(Int×Unit)->Option Bool} {p:Int->Bool} {l:List Int} (hl:l.length<=1000000) (h:∀a,a ∈ l->f (a,())=some (p a)):a6 l f=some (l.any p):=by
 have h1:bL l f=some (j4 p l 0):=by
  unfold bL ib
  exact mn (f:=f) (d:=(0:Int)) hl h
 simp only[a6,gb,h1,af,Af]
theorem Jy (n m:Int) (h0:0<=m) (h1:m<=1099511627776):cj n m=some (!decide (-m<=n/\n<=m)):=by
 have hw:IntKind.wrap .i64 (0 - m)= -m:=by rw[aB (by omega) (by omega)];omega
 simp only[cj,je,hw,aX,ff,Bool.and_self,cT]
 by_cases g1:n< -m
 ·rw[z7 g1,z8 (show ¬ (-m<=n/\n<=m) by omega)];rfl
 ·rw[z8 g1]
  by_cases g2:n>m
  ·rw[z7 g2,z8 (show ¬ (-m<=n/\n<=m) by omega)];rfl
  ·rw[z8 g2,z7 (show (-m<=n/\n<=m) by omega)];rfl
theorem UE (n:Int):cj n 1048576=some (!inC n):=Jy n _ (by omega) (by omega)
theorem UX (n:Int):cj n 1073741824=some (!inR n):=Jy n _ (by omega) (by omega)
theorem zb (p:Pg):bC p=some (zU p):=by
 obtain ⟨c,rs⟩:=p
 simp only[bC,lm,df,jP,aX,ff,Bool.and_self,cT,zU,II]
 by_cases g1:(c.length:Int)<1
 ·rw[z7 g1,z8 (show ¬ (1<=c.length/\c.length<=12/\rs.length<=6) by omega)]
  rfl
 ·rw[z8 g1]
  by_cases g2:(c.length:Int)>12
  ·rw[z7 g2,z8 (show ¬ (1<=c.length/\c.length<=12/\rs.length<=6) by omega)]
   rfl
  ·rw[z8 g2]
   by_cases g3:(rs.length:Int)>6
   ·rw[z7 g3,z8 (show ¬ (1<=c.length/\c.length<=12/\rs.length<=6) by omega)]
    rfl
   ·rw[z8 g3,z7 (show (1<=c.length/\c.length<=12/\rs.length<=6) by omega)]
    have hc:∀l:List Int,l.length<=1000000->a6 l (fun x=>cj x.1 1048576)=some (!l.all inC):=fun l hl=>by
     rw[<-Nu]
     exact EE hl fun a _=>UE a
    simp only[cF,cT,Bool.not_false,af,hc c (by omega),Bool.true_and]
    cases hcc:c.all inC with
    | false=>rfl
    | true =>
     simp only[Bool.not_true,cF,Bool.true_and]
     refine (nt (α:=Int×PUnit) rs.length (by omega) (fun i (_:Unit)=>((i:Int),PUnit.unit)) (fun i s k=>bif uU c.length (rs.getD i rw0) then k s else some false) (fun _=>some true) ?_ ?_ ()).trans ?_
     ·intro again i _ hi
      have hw:IntKind.wrap .i64 ((i:Int)+1)=((i+1:Nat):Int):=by rw[aB (by omega) (by omega)];rfl
      simp only[ay,z7 hi,z7 (show (i:Int)<rs.length by omega),cT,z9,hw]
      obtain ⟨a,k,b,e⟩:∃a k b,List.getD rs i rw0=(a,k,b):=⟨_,_,_,rfl⟩
      simp only[e,uU,UX,z7 (show (i:Int)>=0 by omega)]
      by_cases q1:a.length=c.length
      ·have hca:=hc a (by omega)
       simp only[z7 (show (a.length:Int)=c.length by omega),z7 q1,Bool.not_true,Bool.not_false,cT,cF,af,hca,Bool.true_and]
       by_cases q2:k<1
       ·simp only[z7 q2,z8 (show ¬ (1<=k/\k<=3) by omega)]
        cases a.all inC<;>simp[af]
       ·by_cases q3:k>3
        ·simp only[z8 q2,z7 q3,z8 (show ¬ (1<=k/\k<=3) by omega)]
         cases a.all inC<;>simp[af]
        ·simp only[z8 q2,z8 q3,z7 (show (1<=k/\k<=3) by omega)]
         cases h1:a.all inC<;>cases h2:inR b<;>simp[af,h2]
      ·simp only[z8 (show ¬ (a.length:Int)=c.length by omega),z8 q1]
       simp[af]
     ·intro again _
      simp
     ·refine (mU (p:=fun i=>uU c.length (rs.getD i rw0)) (r:=some false) rs.length (fun _ _ _=>rfl) rs.length 0 (by omega)).trans ?_
      rw[uQ (p:=uU c.length) (l:=rs) rw0]
      cases rs.all (uU c.length)<;>rfl
end Go.Proofs.YtfknoaclabfdlaaGreat

namespace Go.Proofs.YtfknoaclabfdlaaGreat
noncomputable section
open Tryz Dn Dn.Sh
abbrev Bk:=ByteArray×Int
abbrev Hd:=ByteArray×Int×Int×Int
abbrev Rp:=ByteArray×List Hd×Bool
abbrev Sy:=List Bk×List Rp
abbrev bk0:Bk:=({ data:={ toList:=[] } },(0:Int))
abbrev hd0:Hd:=({ data:={ toList:=[] } },(0:Int),(0:Int),(0:Int))
abbrev rp0:Rp:=({ data:={ toList:=[] } },[],false)
theorem A9 {σ R:Type} {b:Nat->σ->(σ->Option R)->Option R} {f:σ->Option R} {q:Nat->Bool} {g:Nat->σ->σ} {r:Option R} (n:Nat) (hb:∀i s (k:σ->Option R),i<n->b i s k=bif q i then k (g i s) else r) :
  ∀(k i:Nat) (s:σ),i+k<=n->upF b f k i s=bif (List.range' i k).all q then f ((List.range' i k).foldl (fun s i=>g i s) s) else r
 | 0,i,s,_=>rfl
 | k+1,i,s,h=>by
  simp only[upF,hb i s _ (by omega),List.range'_succ,List.all_cons,List.foldl_cons]
  cases hp:q i with
  | true=>exact A9 n hb k (i+1) _ (by omega)
  | false=>rfl
theorem uo {α R:Type} {p:α->Bool} {d:α} {l:List α} {yes no:Option R} {F:(Int×PUnit->Option R)->Int×PUnit->Option R} (hl:l.length<=1000000)
  (hb:∀again (i:Nat),i<l.length->F again ((i:Int),PUnit.unit)=bif p (l.getD i d) then again (((i+1:Nat):Int),PUnit.unit) else no) (hf:∀again,F again ((l.length:Int),PUnit.unit)=yes) :
  lpK (Int×PUnit) R F ((0:Int),PUnit.unit)=bif l.all p then yes else no:=by
 refine (nt (α:=Int×PUnit) l.length (by omega) (fun i (_:Unit)=>((i:Int),PUnit.unit)) (fun i s k=>bif p (l.getD i d) then k s else no) (fun _=>yes) ?_ ?_ ()).trans ?_
 ·intro again i _ hi
  exact hb again i hi
 ·intro again _
  exact hf again
 ·rw[mU l.length (fun i k _=>rfl) l.length 0 (by omega),uQ]
theorem yA (x y:ByteArray):∀m:List (ByteArray×Bool),i8 str Sh.bool x false (pG str Sh.bool y true m)=(decide (x=y)||i8 str Sh.bool x false m)
 | []=>by
  simp only[pG,i8,lv]
  cases decide (x=y)<;>rfl
 | z ::m=>by
  cases h1:decide (y=z.1) with
  | true =>
   have e:=z12 h1
   simp only[pG,lv,h1,cT,i8]
   rw[e]
   cases decide (x=z.1)<;>rfl
  | false =>
   simp only[pG,lv,h1,cF,i8,yA x y m]
   cases h2:decide (x=z.1) with
   | false=>rfl
   | true =>
    have h3:decide (x=y)=false:=z8 fun e=>of_decide_eq_false h1 (by rw[<-e];exact z12 h2)
    rw[h3]
    rfl
def n3 (x:ByteArray) (l:List ByteArray):Bool:=l.any fun y=>decide (x=y)
theorem Di {x:ByteArray} {l:List ByteArray}:n3 x l=true↔x ∈ l:=by
 unfold n3
 rw[List.any_eq_true]
 constructor
 ·rintro ⟨y,h1,h2⟩;rw[z12 h2];exact h1
 ·intro h;exact ⟨x,h,z7 rfl⟩
theorem s8 {x:ByteArray} {l:List ByteArray}:n3 x l=false↔x ∉ l:=by rw[<-Di,Bool.not_eq_true]
def xa (l:List ByteArray):List (ByteArray×Bool):=l.foldl (fun m x=>pG str Sh.bool x true m) []
theorem xS (x:ByteArray):∀(l:List ByteArray) (m:List (ByteArray×Bool)),i8 str Sh.bool x false (l.foldl (fun m x=>pG str Sh.bool x true m) m)=(n3 x l||i8 str Sh.bool x false m)
 | [],m=>rfl
 | y ::l,m=>by
  rw[List.foldl_cons,xS x l,yA,<-Bool.or_assoc]
  congr 1
  unfold n3
  rw[List.any_cons,Bool.or_comm]
theorem yu (x:ByteArray) (l:List ByteArray):i8 str Sh.bool x false (xa l)=n3 x l:=by
 unfold xa
 rw[xS]
 exact Bool.or_false _
theorem xe (x:ByteArray) (l:List ByteArray):pG str Sh.bool x true (xa l)=xa (l++[x]):=by
 unfold xa
 rw[List.foldl_append]
 rfl
theorem yO {α:Type} {l:List α} {i:Nat} (d:α) (h:i<l.length):l.take i++[l.getD i d]=l.take (i+1):=by
 rw[bR h,List.take_succ_eq_append_getElem h]
theorem qW {α β:Type} {f:α->β} {l:List α} {d:α} {i:Nat} (h:i<l.length) (e:β):(l.map f).getD i e=f (l.getD i d):=by
 rw[bR (by rw[List.length_map];exact h),bR h,List.getElem_map]
theorem sa {α:Type} {p:α->Bool} (d:α):∀{l:List α} {i:Nat} {k:Int},i<l.length->p (l.getD i d)=true->(j4 p l k=k+i↔∀a ∈ l.take i,p a=false)
 | a ::l,0,k,_,hp=>by
  rw[List.getD_cons_zero] at hp
  unfold j4
  rw[hp,cT]
  simp
 | a ::l,i+1,k,h,hp=>by
  rw[List.getD_cons_succ] at hp
  unfold j4
  rw[List.take_succ_cons]
  cases ha:p a with
  | true =>
   rw[cT]
   constructor
   ·intro e;omega
   ·intro e;have:=e a (by simp);rw[ha] at this;cases this
  | false =>
   rw[cF]
   have:=sa d (l:=l) (i:=i) (k:=k+1) (by simpa using h) hp
   rw[show k+((i+1:Nat):Int)=k+1+i by omega,this]
   simp[ha]
def fbI (s:Sy) (n:ByteArray):Int:=j4 (fun b:Bk=>decide (b.1=n)) s.1 0
def frI (s:Sy) (n:ByteArray):Int:=j4 (fun r:Rp=>decide (r.1=n)) s.2 0
theorem CJ (s:Sy) (n:ByteArray) (hl:s.1.length<=1000000):ci s n=some (fbI s n):=by
 simp only[ci,l9,eF,ke,jH]
 unfold ca ic
 exact congrArg (fun m:Option Int=>ah m fun t=>some t) (mn (f:=fun x:Bk×Unit=>some (decide (x.1.1=n))) (p:=fun b:Bk=>decide (b.1=n)) (d:=bk0) hl (fun a _=>rfl))
theorem yC (s:Sy) (n:ByteArray) (hl:s.1.length<=1000000):bn s n=some (fbI s n):=by
 simp only[bn,jS,jH]
 exact zy (p:=fun b:Bk=>decide (b.1=n)) (d:=bk0) hl
theorem yR (s:Sy) (n:ByteArray) (hl:s.2.length<=1000000):bK s n=some (frI s n):=by
 simp only[bK,kF,jH]
 exact zy (p:=fun r:Rp=>decide (r.1=n)) (d:=rp0) hl
def pE (n a b:Int):Bool:=decide (n>=a)&&decide (n<=b)
theorem ww (n a b:Int):bu n a b=some (pE n a b):=by
 simp only[bu,ki,aX,Bool.and_self,cT,jt,pE]
def oB (f:Int×Int):Bool:=decide (okF f)&&(decide (f.1>=f.2)&&decide (f.1<=100))
theorem I4 (f:Int×Int):eB f=some (oB f):=by
 simp only[eB,lf,wN,af,aX,Bool.and_self,cT,jt,oB,Bool.and_assoc]
theorem GV (f:Int×Int):dC f=some (oB f):=by
 simp only[dC,jJ,Ht,af,aX,Bool.and_self,cT,jt,oB,Bool.and_assoc]
def ov (s:ByteArray):Bool:=decide (s={ data:=#[] })
def mL (s:Sy) (h:Hd) (e:Bool):Bool:=(bif e then decide (h.2.2.1=1)&&decide (h.2.2.2=1) else oB h.2.2) &&
 (bif ov h.1 then decide (h.2.1=0) else !decide (fbI s h.1<0)&&(bif e then decide (h.2.1=1)||decide (h.2.1= -1) else decide (h.2.1=2)||(decide (h.2.1=0)||decide (h.2.1= -2))))
theorem J9 (s:Sy) (h:Hd) (e:Bool) (hl:s.1.length<=1000000):dY s h e=some (mL s h e):=by
 obtain ⟨b,p,n,d⟩:=h
 simp only[dY,mo,I4,CJ s _ hl,jH,mL,ov,af]
 generalize decide (fbI s b<0)=g1
 generalize decide (b={ data:=#[] })=g2
 generalize oB (n,d)=g3
 generalize decide (p=0)=p0
 generalize decide (p=1)=p1
 generalize decide (p= -1)=p2
 generalize decide (p=2)=p3
 generalize decide (p= -2)=p4
 generalize decide (n=1)=g4
 generalize decide (d=1)=g5
 cases e with
 | false =>
  cases g3;· rfl
  cases g2;case true=>rfl
  cases g1;case true=>rfl
  cases p3<;>cases p0<;>cases p4<;>rfl
 | true =>
  cases g4;· rfl
  cases g5;· rfl
  cases g2;case true=>rfl
  cases g1;case true=>rfl
  cases p1<;>cases p2<;>rfl
theorem Ab (n:Int):bI n=some (n,1):=id rfl
theorem Gy (s:Sy) (h:Hd) (e:Bool) (hl:s.1.length<=1000000):fB s h e=some (mL s h e):=by
 obtain ⟨b,p,n,d⟩:=h
 have hL:decide (n=1)=true->decide (d=1)=true->oB (n,d)=true:=fun h1 h2=>by
  have e1:=z12 h1
  have e2:=z12 h2
  subst e1;subst e2
  unfold oB
  rw[z7 (Om (by omega) (by omega))]
  rfl
 simp only[fB,o4,GV,yC s _ hl,jH,mL,ov,af,Ab]
 generalize decide (fbI s b<0)=g1
 generalize decide (b={ data:=#[] })=g2
 generalize oB (n,d)=g3 at hL
 generalize decide (p=0)=p0
 generalize decide (p=1)=p1
 generalize decide (p= -1)=p2
 generalize decide (p=2)=p3
 generalize decide (p= -2)=p4
 cases e with
 | false =>
  cases g3;· rfl
  cases g2;case true=>rfl
  cases g1;case true=>rfl
  cases p3<;>cases p0<;>cases p4<;>rfl
 | true =>
  simp only[cT,af]
  generalize decide (n=1)=g4 at hL
  generalize decide (d=1)=g5 at hL
  cases g4;· rfl
  cases g5;· rfl
  rw[hL rfl rfl]
  cases g2;case true=>rfl
  cases g1;case true=>rfl
  cases p1<;>cases p2<;>rfl
def sU (s:Sy) (r:Rp):Bool:=decide (2<=r.2.1.length/\r.2.1.length<=10)&&((List.range' 0 r.2.1.length).all (fun i=>mL s (r.2.1.getD i hd0) (decide (i=0)||decide (i=r.2.1.length - 1))) &&
 (!r.2.2||ov (r.2.1.getD (r.2.1.length - 1) hd0).1))
theorem Jv (s:Sy) (r:Rp) (hl:s.1.length<=1000000):fa s r=some (sU s r):=by
 obtain ⟨nm,hs,ha⟩:=r
 have hh:=fun h e=>J9 s h e hl
 simp only[fa,me,ww,hh,af,sU,jH]
 by_cases h2:2<=hs.length/\hs.length<=10
 ·have e:pE (hs.length:Int) 2 10=true:=by
   unfold pE
   rw[z7 (show (hs.length:Int)>=2 by omega),z7 (show (hs.length:Int)<=10 by omega)];rfl
  have hw0:IntKind.wrap .i64 ((hs.length:Int) - 1)=((hs.length - 1:Nat):Int):=by rw[aB (by omega) (by omega)];omega
  rw[e,z7 h2]
  simp only[Bool.not_true,cF,Bool.true_and,hw0]
  refine (nt (α:=Int×PUnit) hs.length (by omega) (fun i (_:Unit)=>((i:Int),PUnit.unit)) (fun i t k=>bif mL s (hs.getD i hd0) (decide (i=0)||decide (i=hs.length - 1)) then k t else some false) (fun _=>some (!ha||ov (hs.getD (hs.length - 1) hd0).1)) ?_ ?_ ()).trans ?_
  ·intro again i _ hi
   have hw:IntKind.wrap .i64 ((i:Int)+1)=((i+1:Nat):Int):=by rw[aB (by omega) (by omega)];rfl
   have e0:decide ((i:Int)=0)=decide (i=0):=decide_eq_decide.2 (by omega)
   have e1:decide ((i:Int)=((hs.length - 1:Nat):Int))=decide (i=hs.length - 1):=decide_eq_decide.2 (by omega)
   simp only[ay,z7 hi,z7 (show (i:Int)<hs.length by omega),cT,z9,hw,e0,e1,aX,ff,Bool.and_self]
   have e3:(bif decide (i=0) then true else decide (i=hs.length - 1))=(decide (i=0)||decide (i=hs.length - 1)):=by cases decide (i=0)<;>rfl
   rw[e3]
   cases mL s (hs.getD i hd0) (decide (i=0)||decide (i=hs.length - 1))<;>rfl
  ·intro again _
   simp only[z8 (show ¬ (hs.length:Int)<hs.length by omega),cF,ay,z7 (show hs.length - 1<hs.length by omega),z9,ov]
   generalize decide ((List.getD hs (hs.length - 1) hd0).1={ data:=#[] })=g
   cases ha<;>rfl
  ·rw[mU hs.length (fun i k _=>rfl) hs.length 0 (by omega)]
   cases (List.range' 0 hs.length).all fun i=>mL s (hs.getD i hd0) (decide (i=0)||decide (i=hs.length - 1))<;>rfl
 ·have e:pE (hs.length:Int) 2 10=false:=by
   unfold pE
   by_cases g:(hs.length:Int)>=2
   ·rw[z7 g,z8 (show ¬ (hs.length:Int)<=10 by omega)];rfl
   ·rw[z8 g];rfl
  rw[e,z8 h2]
  rfl
theorem Hj (s:Sy) (r:Rp) (hl:s.1.length<=1000000):gH s r=some (sU s r):=by
 obtain ⟨nm,hs,ha⟩:=r
 have hh:=fun h e=>Gy s h e hl
 simp only[gH,og,hh,af,sU,jH]
 by_cases h2:2<=hs.length/\hs.length<=10
 ·have hw0:IntKind.wrap .i64 ((hs.length:Int) - 1)=((hs.length - 1:Nat):Int):=by rw[aB (by omega) (by omega)];omega
  rw[z7 h2,z8 (show ¬ (hs.length:Int)<2 by omega),z8 (show ¬ (hs.length:Int)>10 by omega)]
  simp only[Bool.not_true,Bool.not_false,Bool.or_true,cT,cF,Bool.true_and,hw0]
  refine (nt (α:=Int×PUnit) hs.length (by omega) (fun i (_:Unit)=>((i:Int),PUnit.unit)) (fun i t k=>bif mL s (hs.getD i hd0) (decide (i=0)||decide (i=hs.length - 1)) then k t else some false) (fun _=>some (!ha||ov (hs.getD (hs.length - 1) hd0).1)) ?_ ?_ ()).trans ?_
  ·intro again i _ hi
   have hw:IntKind.wrap .i64 ((i:Int)+1)=((i+1:Nat):Int):=by rw[aB (by omega) (by omega)];rfl
   have e0:decide ((i:Int)=0)=decide (i=0):=decide_eq_decide.2 (by omega)
   have e1:decide ((i:Int)=((hs.length - 1:Nat):Int))=decide (i=hs.length - 1):=decide_eq_decide.2 (by omega)
   simp only[ay,z7 hi,z7 (show (i:Int)<hs.length by omega),cT,z9,hw,e0,e1,aX,ff,Bool.and_self]
   have e3:(bif decide (i=0) then true else decide (i=hs.length - 1))=(decide (i=0)||decide (i=hs.length - 1)):=by cases decide (i=0)<;>rfl
   rw[e3]
   cases mL s (hs.getD i hd0) (decide (i=0)||decide (i=hs.length - 1))<;>rfl
  ·intro again _
   simp only[z8 (show ¬ (hs.length:Int)<hs.length by omega),cF,ay,z7 (show hs.length - 1<hs.length by omega),z9,ov]
   generalize decide ((List.getD hs (hs.length - 1) hd0).1={ data:=#[] })=g
   cases ha<;>rfl
  ·rw[mU hs.length (fun i k _=>rfl) hs.length 0 (by omega)]
   cases (List.range' 0 hs.length).all fun i=>mL s (hs.getD i hd0) (decide (i=0)||decide (i=hs.length - 1))<;>rfl
 ·rw[z8 h2]
  by_cases g:(hs.length:Int)<2
  ·rw[z7 g];rfl
  ·rw[z8 g,z7 (show (hs.length:Int)>10 by omega)];rfl
def pT (s:Sy) (i:Nat):Bool:=rX (s.1.getD i bk0).1&&(!n3 (s.1.getD i bk0).1 ((s.1.map (·.fst)).take i)&&pE (s.1.getD i bk0).2 0 16777216)
def jp (s:Sy) (i:Nat):Bool:=rX (s.2.getD i rp0).1&&(!n3 (s.2.getD i rp0).1 (s.1.map (·.fst)++(s.2.map (·.fst)).take i)&&sU s (s.2.getD i rp0))
def tq (rs:List Rp):Int:=(List.range' 0 rs.length).foldl (fun h i=>bif (rs.getD i rp0).2.2 then IntKind.wrap .i64 (h+1) else h) 0
def fc (s:Sy):Bool:=decide (1<=s.1.length/\s.1.length<=6/\1<=s.2.length/\s.2.length<=6)&&((List.range' 0 s.1.length).all (pT s)&&((List.range' 0 s.2.length).all (jp s)&&decide (tq s.2<=1)))
theorem lQ (s:Sy):aK s=some (fc s):=by
 obtain ⟨bs,rs⟩:=s
 simp only[aK,lq,ww,Hi,af,fc]
 by_cases h1:1<=bs.length/\bs.length<=6
 ·have e1:pE (bs.length:Int) 1 6=true:=by
   unfold pE
   rw[z7 (show (bs.length:Int)>=1 by omega),z7 (show (bs.length:Int)<=6 by omega)];rfl
  by_cases h2:1<=rs.length/\rs.length<=6
  ·have e2:pE (rs.length:Int) 1 6=true:=by
    unfold pE
    rw[z7 (show (rs.length:Int)>=1 by omega),z7 (show (rs.length:Int)<=6 by omega)];rfl
   have hr:=fun r=>Jv (bs,rs) r (show bs.length<=1000000 by omega)
   simp only[e1,e2,hr,af,Bool.not_true,Bool.not_false,Bool.or_true,cT,cF,z7 (show 1<=bs.length/\bs.length<=6/\1<=rs.length/\rs.length<=6 by omega),Bool.true_and]
   refine (nt (α:=Int×List (ByteArray×Bool)×PUnit) bs.length (by omega) (fun i (_:Unit)=>((i:Int),xa ((bs.map (·.fst)).take i),PUnit.unit)) (fun i t k=>bif pT (bs,rs) i then k t else some false)
    (fun _=>some ((List.range' 0 rs.length).all (jp (bs,rs))&&decide (tq rs<=1))) ?_ ?_ ()).trans ?_
   ·intro again i _ hi
    have hw:IntKind.wrap .i64 ((i:Int)+1)=((i+1:Nat):Int):=by rw[aB (by omega) (by omega)];rfl
    have hn:(bs.map (·.fst)).take (i+1)=(bs.map (·.fst)).take i++[(bs.getD i bk0).1]:=by
     rw[<-yO (d:=bk0.1) (by rw[List.length_map];exact hi),qW (d:=bk0) hi]
    simp only[ay,z7 hi,z7 (show (i:Int)<bs.length by omega),cT,z9,hw,yu,xe,<-hn,pT,aX,Bool.and_self]
    generalize n3 (List.getD bs i bk0).1 ((bs.map (·.fst)).take i)=g1
    generalize pE (List.getD bs i bk0).2 0 16777216=g2
    cases rX (List.getD bs i bk0).1<;>cases g1<;>cases g2<;>rfl
   ·intro again _
    simp only[z8 (show ¬ (bs.length:Int)<bs.length by omega),cF]
    refine (nt (α:=Int×Int×List (ByteArray×Bool)×PUnit) rs.length (by omega) (fun i (h:Int)=>(h,(i:Int),xa (bs.map (·.fst)++(rs.map (·.fst)).take i),PUnit.unit)) (fun i t k=>bif jp (bs,rs) i then k (bif (rs.getD i rp0).2.2 then IntKind.wrap .i64 (t+1) else t) else some false)
     (fun h=>some (decide (h<=1))) ?_ ?_ 0 |>Eq.trans (by rw[List.take_zero,List.append_nil,List.take_of_length_le (by rw[List.length_map];omega)];rfl)).trans ?_
    ·intro again i t hi
     have hw:IntKind.wrap .i64 ((i:Int)+1)=((i+1:Nat):Int):=by rw[aB (by omega) (by omega)];rfl
     have hn:bs.map (·.fst)++(rs.map (·.fst)).take (i+1)=bs.map (·.fst)++(rs.map (·.fst)).take i++[(rs.getD i rp0).1]:=by
      rw[<-yO (d:=rp0.1) (by rw[List.length_map];exact hi),qW (d:=rp0) hi,List.append_assoc]
     simp only[ay,z7 hi,z7 (show (i:Int)<rs.length by omega),cT,z9,hw,yu,xe,<-hn,jp,aX,Bool.and_self]
     generalize n3 (List.getD rs i rp0).1 (bs.map (·.fst)++(rs.map (·.fst)).take i)=g1
     generalize sU (bs,rs) (List.getD rs i rp0)=g2
     cases rX (List.getD rs i rp0).1<;>cases g1<;>cases g2<;>cases (List.getD rs i rp0).2.2<;>rfl
    ·intro again t
     simp only[z8 (show ¬ (rs.length:Int)<rs.length by omega),cF]
    ·rw[A9 (q:=jp (bs,rs)) (g:=fun i t=>bif (rs.getD i rp0).2.2 then IntKind.wrap .i64 (t+1) else t) rs.length (fun i s k _=>rfl) rs.length 0 _ (by omega)]
     unfold tq
     cases (List.range' 0 rs.length).all (jp (bs,rs))<;>rfl
   ·rw[mU bs.length (fun i k _=>rfl) bs.length 0 (by omega)]
    cases (List.range' 0 bs.length).all (pT (bs,rs))<;>rfl
  ·have e2:pE (rs.length:Int) 1 6=false:=by
    unfold pE
    by_cases g:(rs.length:Int)>=1
    ·rw[z7 g,z8 (show ¬ (rs.length:Int)<=6 by omega)];rfl
    ·rw[z8 g];rfl
   rw[e1,e2,z8 (show ¬ (1<=bs.length/\bs.length<=6/\1<=rs.length/\rs.length<=6) by omega)]
   rfl
 ·have e1:pE (bs.length:Int) 1 6=false:=by
   unfold pE
   by_cases g:(bs.length:Int)>=1
   ·rw[z7 g,z8 (show ¬ (bs.length:Int)<=6 by omega)];rfl
   ·rw[z8 g];rfl
  rw[e1,z8 (show ¬ (1<=bs.length/\bs.length<=6/\1<=rs.length/\rs.length<=6) by omega)]
  rfl
theorem KZ (s:Sy):bM s=some (fc s):=by
 obtain ⟨bs,rs⟩:=s
 simp only[bM,mZ,AN,af,fc]
 by_cases h0:1<=bs.length/\bs.length<=6/\1<=rs.length/\rs.length<=6
 ·have hr:=fun r=>Hj (bs,rs) r (show bs.length<=1000000 by omega)
  have hfb:=fun n=>yC (bs,rs) n (show bs.length<=1000000 by omega)
  have hfr:=fun n=>yR (bs,rs) n (show rs.length<=1000000 by omega)
  rw[z7 h0,z8 (show ¬ (bs.length:Int)<1 by omega),z8 (show ¬ (bs.length:Int)>6 by omega),z8 (show ¬ (rs.length:Int)<1 by omega),z8 (show ¬ (rs.length:Int)>6 by omega)]
  simp only[hr,hfb,hfr,Bool.not_true,Bool.not_false,Bool.or_true,cT,cF,Bool.true_and]
  refine (nt (α:=Int×PUnit) bs.length (by omega) (fun i (_:Unit)=>((i:Int),PUnit.unit)) (fun i t k=>bif pT (bs,rs) i then k t else some false)
   (fun _=>some ((List.range' 0 rs.length).all (jp (bs,rs))&&decide (tq rs<=1))) ?_ ?_ ()).trans ?_
  ·intro again i _ hi
   have hw:IntKind.wrap .i64 ((i:Int)+1)=((i+1:Nat):Int):=by rw[aB (by omega) (by omega)];rfl
   have hi1:decide (fbI (bs,rs) (bs.getD i bk0).1=(i:Int))=!n3 (bs.getD i bk0).1 ((bs.map (·.fst)).take i):=by
    have:=sa (p:=fun b:Bk=>decide (b.1=(bs.getD i bk0).1)) bk0 (l:=bs) (i:=i) (k:=0) hi (z7 rfl)
    rw[Bool.eq_iff_iff,Bool.not_eq_true',decide_eq_true_iff,s8,<-List.map_take]
    unfold fbI
    rw[Int.zero_add] at this
    rw[this,List.mem_map]
    constructor
    ·rintro h ⟨a,ha,he⟩
     exact of_decide_eq_false (h a ha) he
    ·intro h a ha
     exact z8 fun he=>h ⟨a,ha,he⟩
   simp only[ay,z7 hi,z7 (show (i:Int)<bs.length by omega),cT,z9,hw,pT,pE]
   generalize hg:n3 (List.getD bs i bk0).1 ((bs.map (·.fst)).take i)=g1 at hi1
   have hlt:decide ((List.getD bs i bk0).2<0)=!decide ((List.getD bs i bk0).2>=0):=by
    rw[Bool.eq_iff_iff,Bool.not_eq_true',decide_eq_true_iff,decide_eq_false_iff_not];omega
   have hgt:decide ((List.getD bs i bk0).2>16777216)=!decide ((List.getD bs i bk0).2<=16777216):=by
    rw[Bool.eq_iff_iff,Bool.not_eq_true',decide_eq_true_iff,decide_eq_false_iff_not];omega
   rw[hlt,hgt]
   generalize decide ((List.getD bs i bk0).2>=0)=g2
   generalize decide ((List.getD bs i bk0).2<=16777216)=g3
   cases rX (List.getD bs i bk0).1 with
   | false=>rfl
   | true =>
    simp only[Bool.not_true,Bool.not_false,Bool.or_true,Bool.and_self,cT,af,hi1]
    cases g1<;>cases g2<;>cases g3<;>rfl
  ·intro again _
   simp only[z8 (show ¬ (bs.length:Int)<bs.length by omega),cF]
   refine (nt (α:=Int×Int×PUnit) rs.length (by omega) (fun i (h:Int)=>(h,(i:Int),PUnit.unit)) (fun i t k=>bif jp (bs,rs) i then k (bif (rs.getD i rp0).2.2 then IntKind.wrap .i64 (t+1) else t) else some false)
    (fun h=>some (decide (h<=1))) ?_ ?_ 0).trans ?_
   ·intro again i t hi
    have hw:IntKind.wrap .i64 ((i:Int)+1)=((i+1:Nat):Int):=by rw[aB (by omega) (by omega)];rfl
    have hi1:decide (frI (bs,rs) (rs.getD i rp0).1=(i:Int))=!n3 (rs.getD i rp0).1 ((rs.map (·.fst)).take i):=by
     have:=sa (p:=fun b:Rp=>decide (b.1=(rs.getD i rp0).1)) rp0 (l:=rs) (i:=i) (k:=0) hi (z7 rfl)
     rw[Bool.eq_iff_iff,Bool.not_eq_true',decide_eq_true_iff,s8,<-List.map_take]
     unfold frI
     rw[Int.zero_add] at this
     rw[this,List.mem_map]
     constructor
     ·rintro h ⟨a,ha,he⟩
      exact of_decide_eq_false (h a ha) he
     ·intro h a ha
      exact z8 fun he=>h ⟨a,ha,he⟩
    have hi2:decide (fbI (bs,rs) (rs.getD i rp0).1>=0)=n3 (rs.getD i rp0).1 (bs.map (·.fst)):=by
     unfold fbI
     rw[Af,Bool.eq_iff_iff,List.any_eq_true,Di,List.mem_map]
     constructor
     ·rintro ⟨a,ha,he⟩;exact ⟨a,ha,z12 he⟩
     ·rintro ⟨a,ha,he⟩;exact ⟨a,ha,z7 he⟩
    have hm:n3 (rs.getD i rp0).1 (bs.map (·.fst)++(rs.map (·.fst)).take i)=(n3 (rs.getD i rp0).1 (bs.map (·.fst))||n3 (rs.getD i rp0).1 ((rs.map (·.fst)).take i)):=by
     unfold n3
     rw[List.any_append]
    simp only[ay,z7 hi,z7 (show (i:Int)<rs.length by omega),cT,z9,hw,jp,hm]
    generalize n3 (List.getD rs i rp0).1 (bs.map (·.fst))=g1 at hi2
    generalize n3 (List.getD rs i rp0).1 ((rs.map (·.fst)).take i)=g2 at hi1
    generalize sU (bs,rs) (List.getD rs i rp0)=g3
    generalize rX (List.getD rs i rp0).1=g4
    generalize (List.getD rs i rp0).2.2=g5
    cases g4 with
    | false=>rfl
    | true =>
     simp only[Bool.not_true,Bool.not_false,Bool.or_true,Bool.and_self,cT,cF,af,hi1]
     cases g2 with
     | true=>cases g1<;>rfl
     | false =>
      simp only[Bool.not_true,Bool.not_false,Bool.or_true,Bool.or_false,cT,cF,af,hi2]
      cases g1<;>cases g3<;>cases g5<;>rfl
   ·intro again t
    simp only[z8 (show ¬ (rs.length:Int)<rs.length by omega),cF]
   ·rw[A9 (q:=jp (bs,rs)) (g:=fun i t=>bif (rs.getD i rp0).2.2 then IntKind.wrap .i64 (t+1) else t) rs.length (fun i s k _=>rfl) rs.length 0 _ (by omega)]
    unfold tq
    cases (List.range' 0 rs.length).all (jp (bs,rs))<;>rfl
  ·rw[mU bs.length (fun i k _=>rfl) bs.length 0 (by omega)]
   cases (List.range' 0 bs.length).all (pT (bs,rs))<;>rfl
 ·rw[z8 h0]
  by_cases g1:(bs.length:Int)<1
  ·rw[z7 g1];rfl
  ·rw[z8 g1]
   by_cases g2:(bs.length:Int)>6
   ·rw[z7 g2];rfl
   ·rw[z8 g2]
    by_cases g3:(rs.length:Int)<1
    ·rw[z7 g3];rfl
    ·rw[z8 g3,z7 (show (rs.length:Int)>6 by omega)];rfl
end
end Go.Proofs.YtfknoaclabfdlaaGreat

namespace Go.Proofs.YtfknoaclabfdlaaGreat
namespace Dn
def ab (x:Int):Int:=(x.natAbs:Int)
theorem cH (x:Int):0<=ab x:=by unfold ab;omega
theorem Qu (x y:Int):ab (x+y)<=ab x+ab y:=by unfold ab;omega
theorem rP {x b:Int}:ab x<=b↔ -b<=x/\x<=b:=by unfold ab;omega
theorem qB (x y:Int):ab (x*y)=ab x*ab y:=by
 unfold ab
 rw[Int.natAbs_mul]
 rfl
def sz:Nat->(Nat->Int)->Int
 | 0,_=>0
 | n+1,f=>sz n f+f n
theorem bg:∀{n:Nat} {f g:Nat->Int},(∀i,i<n->f i=g i)->sz n f=sz n g
 | 0,_,_,_=>rfl
 | n+1,f,g,h=>by
  simp only[sz]
  rw[bg (n:=n) fun i hi=>h i (by omega),h n (by omega)]
theorem pW:∀{n:Nat} {f g:Nat->Int},sz n (fun i=>f i+g i)=sz n f+sz n g
 | 0,_,_=>rfl
 | n+1,f,g=>by
  simp only[sz]
  rw[pW]
  omega
theorem ga:∀{n:Nat} {c:Int} {f:Nat->Int},sz n (fun i=>c*f i)=c*sz n f
 | 0,c,_=>by simp[sz]
 | n+1,c,f=>by
  simp only[sz]
  rw[ga,Int.mul_add]
theorem AB {n:Nat} {c:Int} {f:Nat->Int}:sz n (fun i=>f i*c)=sz n f*c:=by
 rw[Int.mul_comm,<-ga]
 exact bg fun i _=>Int.mul_comm _ _
theorem fW:∀{n:Nat} {f:Nat->Int},(∀i,i<n->f i=0)->sz n f=0
 | 0,_,_=>rfl
 | n+1,f,h=>by
  simp only[sz]
  rw[fW fun i hi=>h i (by omega),h n (by omega)]
  rfl
theorem QP {n:Nat} {f:Nat->Int}:sz n (fun i=> - f i)= - sz n f:=by
 have:sz n (fun i=> - f i)=sz n (fun i=>(-1)*f i):=bg fun i _=>by omega
 rw[this,ga]
 omega
theorem wX {n:Nat} {f g:Nat->Int}:sz n (fun i=>f i - g i)=sz n f - sz n g:=by
 have:sz n (fun i=>f i - g i)=sz n (fun i=>f i+ - g i):=bg fun i _=>by omega
 rw[this,pW,QP]
 omega
theorem fb:∀{n:Nat} {f:Nat->Int} {k:Nat},k<n->(∀i,i<n->i≠k->f i=0)->sz n f=f k
 | n+1,f,k,hk,h=>by
  simp only[sz]
  by_cases e:k=n
  ·subst e
   rw[fW fun i hi=>h i (by omega) (by omega)]
   omega
  ·rw[fb (k:=k) (by omega) fun i hi hne=>h i (by omega) hne,h n (by omega) (fun e'=>e e'.symm)]
   omega
theorem EN {n:Nat} {f:Nat->Int} {k l:Nat} (hk:k<n) (hl:l<n) (hkl:k≠l) (h:∀i,i<n->i≠k->i≠l->f i=0):sz n f=f k+f l:=by
 have e:sz n f=sz n (fun i=>(if i=k then f k else 0)+(if i=l then f l else 0)):=bg fun i hi=>by
  by_cases h1:i=k
  ·subst h1;rw[if_pos rfl,if_neg hkl];omega
  ·by_cases h2:i=l
   ·subst h2;rw[if_neg h1,if_pos rfl];omega
   ·rw[if_neg h1,if_neg h2,h i hi h1 h2];rfl
 rw[e,pW,fb hk (f:=fun i=>if i=k then f k else 0) (fun i _ hne=>if_neg hne),fb hl (f:=fun i=>if i=l then f l else 0) (fun i _ hne=>if_neg hne)]
 simp
theorem tW:∀{m n:Nat} {f:Nat->Nat->Int},sz m (fun i=>sz n (fun j=>f i j))=sz n (fun j=>sz m (fun i=>f i j))
 | 0,n,f=>by
  simp only[sz]
  exact (fW fun _ _=>rfl).symm
 | m+1,n,f=>by
  simp only[sz]
  rw[tW,pW]
theorem nJ:∀{n:Nat} {f g:Nat->Int},(∀i,i<n->f i<=g i)->sz n f<=sz n g
 | 0,_,_,_=>Int.le_refl _
 | n+1,f,g,h=>by
  simp only[sz]
  have:=nJ (n:=n) fun i hi=>h i (by omega)
  have:=h n (by omega)
  omega
theorem i9 {n:Nat} {f:Nat->Int} (h:∀i,i<n->0<=f i):0<=sz n f:=by
 have:=nJ (n:=n) (f:=fun _=>0) (g:=f) h
 rwa [fW fun _ _=>rfl] at this
theorem Ek:∀{n:Nat} {f:Nat->Int},ab (sz n f)<=sz n (fun i=>ab (f i))
 | 0,_=>by simp[sz,ab]
 | n+1,f=>by
  simp only[sz]
  have:=Ek (n:=n) (f:=f)
  have:=Qu (sz n f) (f n)
  omega
def skip (k j:Nat):Nat:=if j<k then j else j+1
def sgd (k:Nat):Int:=if k % 2=0 then 1 else -1
theorem Ki (k:Nat):sgd (k+1)= - sgd k:=by
 unfold sgd
 split<;>split<;>omega
theorem OH (k:Nat) (x:Int):ab (sgd k*x)=ab x:=by
 unfold sgd ab
 split<;>omega
def kT (A:Nat->Nat->Int) (k:Nat):Nat->Nat->Int:=fun i j=>A (i+1) (skip k j)
def det:Nat->(Nat->Nat->Int)->Int
 | 0,_=>1
 | n+1,A=>sz (n+1) fun k=>sgd k*A 0 k*det n (kT A k)
def cA (A:Nat->Nat->Int) (c:Nat) (v:Nat->Int):Nat->Nat->Int:=fun i j=>if j=c then v i else A i j
theorem iW:∀{n:Nat} {A B:Nat->Nat->Int},(∀i j,i<n->j<n->A i j=B i j)->det n A=det n B
 | 0,_,_,_=>rfl
 | n+1,A,B,h=>by
  simp only[det]
  refine bg fun k hk=>?_
  rw[h 0 k (by omega) hk,iW (A:=kT A k) (B:=kT B k) fun i j hi hj=>h (i+1) (skip k j) (by omega) (by unfold skip;split<;>omega)]
theorem py {A:Nat->Nat->Int} {k:Nat} {v:Nat->Int}:kT (cA A k v) k=kT A k:=by
 funext i j
 unfold kT cA
 rw[if_neg]
 unfold skip
 split<;>omega
def E7 (k c:Nat):Nat:=if c<k then c else c - 1
theorem md {A:Nat->Nat->Int} {k c:Nat} {v:Nat->Int} (h:k≠c):kT (cA A c v) k=cA (kT A k) (E7 k c) (fun i=>v (i+1)):=by
 funext i j
 unfold kT cA skip E7
 by_cases h1:j<k<;>by_cases h2:c<k
 ·simp only[h1,h2,if_true]
 ·simp only[h1,h2,if_true,if_false]
  rw[if_neg (by omega),if_neg (by omega)]
 ·simp only[h1,h2,if_true,if_false]
  rw[if_neg (by omega),if_neg (by omega)]
 ·simp only[h1,h2,if_false]
  by_cases h3:j+1=c
  ·rw[if_pos h3,if_pos (by omega)]
  ·rw[if_neg h3,if_neg (by omega)]
theorem mF:∀{n:Nat} {A:Nat->Nat->Int} {c:Nat} {u v:Nat->Int},c<n->det n (cA A c fun i=>u i+v i)=det n (cA A c u)+det n (cA A c v)
 | n+1,A,c,u,v,hc=>by
  simp only[det]
  rw[<-pW]
  refine bg fun k hk=>?_
  by_cases h:k=c
  ·subst h
   simp only[py]
   have e:∀v:Nat->Int,cA A k v 0 k=v 0:=fun v=>by simp[cA]
   rw[e,e,e,Int.mul_add,Int.add_mul]
  ·have e:∀v:Nat->Int,cA A c v 0 k=A 0 k:=fun v=>by simp[cA,h]
   rw[md h,md h,md h,e,e,e,mF (u:=fun i=>u (i+1)) (v:=fun i=>v (i+1)) (by unfold E7;split<;>omega),Int.mul_add]
theorem ny:∀{n:Nat} {A:Nat->Nat->Int} {c:Nat} {x:Int} {u:Nat->Int},c<n->det n (cA A c fun i=>x*u i)=x*det n (cA A c u)
 | n+1,A,c,x,u,hc=>by
  simp only[det]
  rw[<-ga]
  refine bg fun k hk=>?_
  by_cases h:k=c
  ·subst h
   simp only[py]
   have e:∀v:Nat->Int,cA A k v 0 k=v 0:=fun v=>by simp[cA]
   rw[e,e]
   simp only[Int.mul_assoc,Int.mul_left_comm]
  ·have e:∀v:Nat->Int,cA A c v 0 k=A 0 k:=fun v=>by simp[cA,h]
   rw[md h,md h,e,e,ny (u:=fun i=>u (i+1)) (by unfold E7;split<;>omega)]
   simp only[Int.mul_assoc,Int.mul_left_comm]
theorem J4 {n:Nat} {A:Nat->Nat->Int} {c:Nat} (hc:c<n):det n (cA A c fun _=>0)=0:=by
 have:=ny (n:=n) (A:=A) (x:=0) (u:=fun _=>0) hc
 simpa using this
theorem sQ {n:Nat} {A:Nat->Nat->Int} {c:Nat} (hc:c<n):∀{m:Nat} {x:Nat->Int} {u:Nat->Nat->Int},det n (cA A c fun i=>sz m fun l=>x l*u l i)=sz m fun l=>x l*det n (cA A c (u l))
 | 0,x,u=>by simp only[sz];exact J4 hc
 | m+1,x,u=>by
  simp only[sz]
  rw[mF hc,ny hc,sQ hc]
theorem AJ:∀{n:Nat} {A:Nat->Nat->Int} {c:Nat},c+1<n->(∀i,i<n->A i c=A i (c+1))->det n A=0
 | n+1,A,c,hc,h=>by
  simp only[det]
  rw[EN (k:=c) (l:=c+1) (by omega) hc (by omega) fun k hk h1 h2=>?_]
  ·have e:det n (kT A c)=det n (kT A (c+1)):=by
    refine iW fun i j hi hj=>?_
    unfold kT skip
    by_cases h1:j<c
    ·rw[if_pos h1,if_pos (by omega)]
    ·by_cases h2:j=c
     ·subst h2
      rw[if_neg h1,if_pos (by omega)]
      exact (h (i+1) (by omega)).symm
     ·rw[if_neg h1,if_neg (by omega)]
   rw[e,Ki,h 0 (by omega)]
   simp only[Int.neg_mul]
   omega
  ·have e:det n (kT A k)=0:=by
    refine AJ (c:=E7 k c) ?_ fun i hi=>?_
    ·unfold E7;split<;>omega
    ·unfold kT skip E7
     by_cases h3:c<k
     ·simp only[h3,if_true]
      rw[if_pos (by omega)]
      exact h (i+1) (by omega)
     ·simp only[h3,if_false]
      rw[if_neg (by omega),if_neg (by omega),show c - 1+1=c by omega]
      exact h (i+1) (by omega)
   rw[e,Int.mul_zero]
theorem nQ (A:Nat->Nat->Int) (c:Nat):cA A c (fun i=>A i c)=A:=by
 funext i j
 unfold cA
 split
 ·rename_i h;rw[h]
 ·rfl
theorem eQ {A:Nat->Nat->Int} {c e:Nat} {u v:Nat->Int} (h:c≠e):cA (cA A c u) e v=cA (cA A e v) c u:=by
 funext i j
 unfold cA
 by_cases h1:j=c<;>by_cases h2:j=e
 ·omega
 ·simp[h1,h]
 ·simp[h2,Ne.symm h]
 ·simp[h1,h2]
theorem zX {n:Nat} {A:Nat->Nat->Int} {c:Nat} {u v:Nat->Int} (hc:c+1<n):det n (cA (cA A c u) (c+1) v)= - det n (cA (cA A c v) (c+1) u):=by
 have h0:∀w:Nat->Int,det n (cA (cA A c w) (c+1) w)=0:=fun w=>AJ hc fun i _=>by simp[cA]
 have h1:=h0 fun i=>u i+v i
 rw[mF hc,eQ (by omega),eQ (u:=fun i=>u i+v i) (by omega),mF (by omega),mF (by omega),eQ (c:=c+1) (by omega),eQ (c:=c+1) (v:=v) (by omega),eQ (c:=c+1) (u:=v) (v:=u) (by omega),eQ (c:=c+1) (u:=v) (v:=v) (by omega),h0,h0] at h1
 omega
theorem Eu:∀{k:Nat} {n:Nat} {A:Nat->Nat->Int} {c:Nat},c+k+1<n->(∀i,i<n->A i c=A i (c+k+1))->det n A=0
 | 0,n,A,c,hc,h=>AJ hc h
 | k+1,n,A,c,hc,h=>by
  have e:A=cA (cA A (c+k+1) fun i=>A i (c+k+1)) (c+k+1+1) fun i=>A i (c+k+1+1):=by
   rw[nQ,nQ]
  rw[e,zX (by omega)]
  have:det n (cA (cA A (c+k+1) fun i=>A i (c+k+1+1)) (c+k+1+1) fun i=>A i (c+k+1))=0:=by
   refine Eu (k:=k) (c:=c) (by omega) fun i hi=>?_
   simp only[cA]
   rw[if_neg (by omega),if_neg (by omega),if_neg (by omega)]
   simp only[if_true]
   exact h i hi
  rw[this]
  rfl
theorem lK {n:Nat} {A:Nat->Nat->Int} {a b:Nat} (ha:a<n) (hb:b<n) (hab:a≠b) (h:∀i,i<n->A i a=A i b):det n A=0:=by
 by_cases hlt:a<b
 ·obtain ⟨k,rfl⟩:∃k,b=a+k+1:=⟨b - a - 1,by omega⟩
  exact Eu hb h
 ·obtain ⟨k,rfl⟩:∃k,a=b+k+1:=⟨a - b - 1,by omega⟩
  exact Eu ha fun i hi=>(h i hi).symm
theorem KM {n:Nat} {A:Nat->Nat->Int} {a b:Nat} {u v:Nat->Int} (ha:a<n) (hb:b<n) (hab:a≠b):det n (cA (cA A a u) b v)= - det n (cA (cA A a v) b u):=by
 have h0:∀w:Nat->Int,det n (cA (cA A a w) b w)=0:=fun w=>lK ha hb hab fun i _=>by simp[cA]
 have h1:=h0 fun i=>u i+v i
 rw[mF hb,eQ hab,eQ (u:=fun i=>u i+v i) hab,mF ha,mF ha,eQ (c:=b) (Ne.symm hab),eQ (c:=b) (v:=v) (Ne.symm hab),eQ (c:=b) (u:=v) (v:=u) (Ne.symm hab),eQ (c:=b) (u:=v) (v:=v) (Ne.symm hab),h0,h0] at h1
 omega
def pz:Nat->(Nat->Int)->Int
 | 0,_=>1
 | n+1,f=>f 0*pz n fun i=>f (i+1)
theorem uk:∀{n:Nat} {f:Nat->Int},(∀i,i<n->0<=f i)->0<=pz n f
 | 0,_,_=>by simp[pz]
 | n+1,f,h=>Int.mul_nonneg (h 0 (by omega)) (uk fun i hi=>h (i+1) (by omega))
theorem L1:∀{n:Nat} {f g:Nat->Int},(∀i,i<n->0<=f i/\f i<=g i)->pz n f<=pz n g
 | 0,_,_,_=>Int.le_refl _
 | n+1,f,g,h=>by
  simp only[pz]
  have h1:=L1 (n:=n) (f:=fun i=>f (i+1)) (g:=fun i=>g (i+1)) fun i hi=>h (i+1) (by omega)
  have h2:=h 0 (by omega)
  have h3:=uk (n:=n) (f:=fun i=>f (i+1)) fun i hi=>(h (i+1) (by omega)).1
  exact Int.mul_le_mul h2.2 h1 h3 (Int.le_trans h2.1 h2.2)
theorem F3:∀{n k:Nat} {f:Nat->Int},k<=n->sz n (fun j=>f (skip k j))+f k=sz (n+1) f
 | 0,k,f,hk=>by
  have:k=0:=by omega
  subst this
  simp[sz]
 | n+1,k,f,hk=>by
  by_cases h:k=n+1
  ·subst h
   have e:=bg (n:=n+1) (f:=fun j=>f (skip (n+1) j)) (g:=f) fun j hj=>by simp[skip,hj]
   rw[e]
   rfl
  ·have:=F3 (n:=n) (k:=k) (f:=f) (by omega)
   simp only[sz] at this ⊢
   have e:f (skip k n)=f (n+1):=by unfold skip;rw[if_neg (by omega)]
   rw[e]
   omega
theorem yJ:∀{n:Nat} {A:Nat->Nat->Int},ab (det n A)<=pz n fun i=>sz n fun j=>ab (A i j)
 | 0,A=>by simp[det,pz,ab]
 | n+1,A=>by
  simp only[det,pz]
  refine Int.le_trans Ek ?_
  have hP:0<=pz n fun i=>sz (n+1) fun j=>ab (A (i+1) j):=uk fun i _=>i9 fun j _=>cH _
  refine Int.le_trans (nJ (g:=fun k=>ab (A 0 k)*pz n fun i=>sz (n+1) fun j=>ab (A (i+1) j)) fun k hk=>?_) (by rw[AB];exact Int.le_refl _)
  rw[Int.mul_assoc,OH,qB]
  refine Int.mul_le_mul_of_nonneg_left (Int.le_trans yJ (L1 fun i hi=>⟨i9 fun j _=>cH _,?_⟩)) (cH _)
  have:=F3 (n:=n) (k:=k) (f:=fun j=>ab (A (i+1) j)) (by omega)
  have h0:=cH (A (i+1) k)
  simp only[kT]
  omega
def upd (β:Nat->Nat) (r c:Nat):Nat->Nat:=fun k=>if k=r then c else β k
def ia (M:Nat->Nat->Int) (γ:Nat->Nat):Nat->Nat->Int:=fun i k=>M i (γ k)
def dc (m:Nat) (M:Nat->Nat->Int) (γ:Nat->Nat):Int:=det m (ia M γ)
theorem mj (M:Nat->Nat->Int) (β:Nat->Nat) (r c:Nat):ia M (upd β r c)=cA (ia M β) r (fun i=>M i c):=by
 funext i k
 unfold ia upd cA
 split<;>rfl
theorem NR (β:Nat->Nat) (r c e:Nat):upd (upd β r c) r e=upd β r e:=by
 funext k
 unfold upd
 split<;>rfl
theorem J1 (β:Nat->Nat) (r:Nat):upd β r (β r)=β:=by
 funext k
 unfold upd
 split
 ·rename_i h;rw[h]
 ·rfl
structure Tb (m w:Nat) (M T:Nat->Nat->Int) (d:Int) (β:Nat->Nat):Prop where
 dpos:0<d
 lt:∀i,i<m->β i<w
 co:∀k,k<m->∀j,j<w->d*M k j=sz m fun i=>T i j*M k (β i)
 cr:∃σ:Int,σ*σ=1/\d=σ*dc m M β/\∀i,i<m->∀j,j<w->T i j=σ*dc m M (upd β i j)
section
variable {m w:Nat} {M T:Nat->Nat->Int} {d:Int} {β:Nat->Nat}
theorem Ay {i k:Nat} (hi:i<m) (hk:k<m) (h:i≠k):dc m M (upd β i (β k))=0:=by
 refine lK hi hk h fun l _=>?_
 unfold ia upd
 rw[if_pos rfl,if_neg (Ne.symm h)]
theorem Tb.basis (h:Tb m w M T d β) {i:Nat} (hi:i<m):T i (β i)=d:=by
 obtain ⟨σ,_,h2,h3⟩:=h.cr
 rw[h3 i hi _ (h.lt i hi),J1,<-h2]
theorem Tb.other (h:Tb m w M T d β) {i k:Nat} (hi:i<m) (hk:k<m) (hik:i≠k):T i (β k)=0:=by
 obtain ⟨σ,_,h2,h3⟩:=h.cr
 rw[h3 i hi _ (h.lt k hk),Ay hi hk hik,Int.mul_zero]
theorem Tb.inj (h:Tb m w M T d β) {i k:Nat} (hi:i<m) (hk:k<m) (hb:β i=β k):i=k:=by
 by_cases e:i=k
 ·exact e
 ·have h1:=h.other hi hk e
  rw[<-hb,h.basis hi] at h1
  have:=h.dpos
  omega
theorem Jd (h:Tb m w M T d β) {r i c j:Nat} (hr:r<m) (hi:i<m) (hri:r≠i) (hc:c<w) (hj:j<w) :
  d*d*dc m M (upd (upd β r c) i j)=(T r c*T i j - T i c*T r j)*dc m M β:=by
 obtain ⟨B,hB⟩:∃B,B=ia M β:=⟨_,rfl⟩
 have e1:d*d*dc m M (upd (upd β r c) i j)=det m (cA (cA B r fun q=>d*M q c) i fun q=>d*M q j):=by
  have a1:=ny (n:=m) (A:=cA B r fun q=>d*M q c) (c:=i) (x:=d) (u:=fun q=>M q j) hi
  have a2:=ny (n:=m) (A:=cA B i fun q=>M q j) (c:=r) (x:=d) (u:=fun q=>M q c) hr
  unfold dc
  rw[mj,mj,<-hB,a1,eQ (u:=fun q=>d*M q c) hri,a2,eQ (u:=fun q=>M q c) hri,Int.mul_assoc]
 have e2:det m (cA (cA B r fun q=>d*M q c) i fun q=>d*M q j)=det m (cA (cA B r fun q=>sz m fun k=>T k c*B q k) i fun q=>sz m fun l=>T l j*B q l):=by
  refine iW fun p q hp hq=>?_
  unfold cA
  rw[hB]
  split
  ·exact h.co p hp j hj
  ·split
   ·exact h.co p hp c hc
   ·rfl
 rw[e1,e2,sQ hi (x:=fun l=>T l j) (u:=fun l q=>B q l)]
 have e3:∀l,det m (cA (cA B r fun q=>sz m fun k=>T k c*B q k) i fun q=>B q l)=sz m fun k=>T k c*det m (cA (cA B i fun q=>B q l) r fun q=>B q k):=fun l=>by
  rw[eQ hri,sQ hr (x:=fun k=>T k c) (u:=fun k q=>B q k)]
 have z1:∀k l,k<m->k≠r->k≠i->det m (cA (cA B i fun q=>B q l) r fun q=>B q k)=0:=fun k l hk h1 h2 =>
  lK hr hk h1.symm fun q _=>by simp[cA,h1,h2]
 have z2:∀k l,l<m->l≠r->l≠i->det m (cA (cA B i fun q=>B q l) r fun q=>B q k)=0:=fun k l hl h1 h2 =>
  lK hi hl h2.symm fun q _=>by simp[cA,h1,h2,hri.symm]
 have z3:det m (cA (cA B i fun q=>B q r) r fun q=>B q r)=0:=lK hi hr hri.symm fun q _=>by simp[cA,hri.symm]
 have z4:det m (cA (cA B i fun q=>B q i) r fun q=>B q i)=0:=lK hi hr hri.symm fun q _=>by simp[cA,hri.symm]
 have z5:det m (cA (cA B i fun q=>B q i) r fun q=>B q r)=det m B:=by
  rw[nQ,nQ]
 have z6:det m (cA (cA B i fun q=>B q r) r fun q=>B q i)= - det m B:=by
  rw[KM hi hr hri.symm,z5]
 have e4:∀l,l<m->(sz m fun k=>T k c*det m (cA (cA B i fun q=>B q l) r fun q=>B q k))=T r c*det m (cA (cA B i fun q=>B q l) r fun q=>B q r)+T i c*det m (cA (cA B i fun q=>B q l) r fun q=>B q i):=fun l _ =>
  EN hr hi hri fun k hk h1 h2=>by rw[z1 k l hk h1 h2,Int.mul_zero]
 rw[bg (g:=fun l=>T l j*(T r c*det m (cA (cA B i fun q=>B q l) r fun q=>B q r)+T i c*det m (cA (cA B i fun q=>B q l) r fun q=>B q i))) fun l hl=>by rw[e3 l,e4 l hl]]
 rw[EN hr hi hri fun l hl h1 h2=>by rw[z2 r l hl h1 h2,z2 i l hl h1 h2];simp]
 rw[z3,z4,z5,z6]
 have:dc m M β=det m B:=by rw[hB];rfl
 rw[this]
 grind
def piv (T:Nat->Nat->Int) (d:Int) (r c i j:Nat):Int:=(T r c*T i j - T i c*T r j) / d
theorem ja (h:Tb m w M T d β) {r i c j:Nat} (hr:r<m) (hi:i<m) (hri:r≠i) (hc:c<w) (hj:j<w):d*piv T d r c i j=T r c*T i j - T i c*T r j:=by
 obtain ⟨σ,h1,h2,_⟩:=h.cr
 have h3:=Jd h hr hi hri hc hj
 have hd:=h.dpos
 have h4:dc m M β=σ*d:=by rw[h2,<-Int.mul_assoc,h1,Int.one_mul]
 rw[h4] at h3
 have h5:d*(d*dc m M (upd (upd β r c) i j))=d*((T r c*T i j - T i c*T r j)*σ):=by
  rw[<-Int.mul_assoc,h3]
  grind
 have h6:=Int.eq_of_mul_eq_mul_left (by omega) h5
 have h7:T r c*T i j - T i c*T r j=d*(σ*dc m M (upd (upd β r c) i j)):=by
  have:(T r c*T i j - T i c*T r j)*σ*σ=d*dc m M (upd (upd β r c) i j)*σ:=by rw[h6]
  rw[Int.mul_assoc,h1,Int.mul_one] at this
  rw[this]
  grind
 unfold piv
 rw[h7,Int.mul_ediv_cancel_left _ (by omega)]
theorem QI (h:Tb m w M T d β) {σ:Int} (h1:σ*σ=1) (h2:d=σ*dc m M β) {r i c j:Nat} (hr:r<m) (hi:i<m) (hri:r≠i) (hc:c<w) (hj:j<w):piv T d r c i j=σ*dc m M (upd (upd β r c) i j):=by
 have h3:=Jd h hr hi hri hc hj
 have hd:=h.dpos
 have h4:dc m M β=σ*d:=by rw[h2,<-Int.mul_assoc,h1,Int.one_mul]
 have h5:=ja h hr hi hri hc hj
 rw[h4,<-h5] at h3
 have h6:(d*d)*dc m M (upd (upd β r c) i j)=(d*d)*(piv T d r c i j*σ):=by rw[h3];grind
 have h7:=Int.eq_of_mul_eq_mul_left (Int.ne_of_gt (Int.mul_pos hd hd)) h6
 rw[h7]
 grind
def sg (x:Int):Int:=if x<0 then -1 else 1
theorem Q4 (x:Int):sg x*sg x=1:=by unfold sg;split<;>rfl
theorem Kq {x:Int} (h:x≠0):0<sg x*x:=by unfold sg;split<;>omega
def nA (T:Nat->Nat->Int) (d:Int) (r c:Nat):Nat->Nat->Int:=fun i j=>sg (T r c)*(if i=r then T r j else piv T d r c i j)
theorem Tb.step (h:Tb m w M T d β) {r c:Nat} (hr:r<m) (hc:c<w) (he:T r c≠0):Tb m w M (nA T d r c) (sg (T r c)*T r c) (upd β r c):=by
 have hd:=h.dpos
 refine ⟨Kq he,fun i hi=>?_,fun k hk j hj=>?_,?_⟩
 ·unfold upd
  split
  ·exact hc
  ·exact h.lt i hi
 ·have h1:∀i,i<m->d*((if i=r then T r j else piv T d r c i j)*M k (upd β r c i))=(T r c*(T i j*M k (β i)) - T r j*(T i c*M k (β i)))+(if i=r then d*(T r j*M k c) else 0):=fun i hi=>by
   unfold upd
   by_cases e:i=r
   ·subst e
    simp only[if_true]
    grind
   ·simp only[e,if_false,Int.add_zero]
    rw[<-Int.mul_assoc,ja h hr hi (Ne.symm e) hc hj]
    grind
  have h2:d*(sz m fun i=>(if i=r then T r j else piv T d r c i j)*M k (upd β r c i))=d*(T r c*M k j):=by
   rw[<-ga,bg h1,pW,wX,ga,ga,<-h.co k hk j hj,<-h.co k hk c hc,fb hr fun i _ hne=>if_neg hne,if_pos rfl]
   grind
  have h3:=Int.eq_of_mul_eq_mul_left (by omega) h2
  have h4:(sz m fun i=>nA T d r c i j*M k (upd β r c i))=sg (T r c)*sz m fun i=>(if i=r then T r j else piv T d r c i j)*M k (upd β r c i):=by
   rw[<-ga]
   exact bg fun i _=>by unfold nA;rw[Int.mul_assoc]
  rw[h4,h3,Int.mul_assoc]
 ·obtain ⟨σ,h1,h2,h3⟩:=h.cr
  refine ⟨sg (T r c)*σ,?_,?_,fun i hi j hj=>?_⟩
  ·have:=Q4 (T r c)
   grind
  ·rw[h3 r hr c hc]
   grind
  ·unfold nA
   by_cases e:i=r
   ·subst e
    rw[if_pos rfl,h3 i hi j hj,NR]
    grind
   ·rw[if_neg e,QI h h1 h2 hr hi (Ne.symm e) hc hj]
    grind
theorem FO:∀n:Nat,det n (fun i k=>if i=k then 1 else 0)=1
 | 0=>rfl
 | n+1=>by
  simp only[det]
  rw[fb (k:=0) (by omega) fun k _ hk=>by rw[if_neg (Ne.symm hk)];simp]
  have:det n (kT (fun i k=>if i=k then 1 else 0) 0)=det n (fun i k=>if i=k then 1 else 0):=iW fun i j _ _=>by
   unfold kT skip
   simp
  rw[this,FO n]
  simp[sgd]
theorem Tb.first {a:Nat->Nat} (ha:∀i,i<m->a i<w) (hM:∀k,k<m->∀i,i<m->M k (a i)=if k=i then 1 else 0):Tb m w M M 1 a:=by
 have h1:dc m M a=1:=by
  unfold dc
  rw[<-FO m]
  exact iW fun i j hi hj=>hM i hi j hj
 refine ⟨by omega,ha,fun k hk j hj=>?_,1,by omega,by rw[h1];rfl,fun i hi j hj=>?_⟩
 ·rw[fb hk fun i hi hne=>by rw[hM k hk i hi,if_neg (Ne.symm hne),Int.mul_zero],hM k hk k hk,if_pos rfl]
  omega
 ·unfold dc
  rw[mj]
  have e:det m (cA (ia M a) i fun q=>M q j)=det m (cA (ia M a) i fun q=>sz m fun k=>M k j*ia M a q k):=by
   refine iW fun p q hp hq=>?_
   unfold cA
   split
   ·show M p j=sz m fun k=>M k j*ia M a p k
    rw[fb hp fun k hk hne=>by unfold ia;rw[hM p hp k hk,if_neg (Ne.symm hne),Int.mul_zero]]
    unfold ia
    rw[hM p hp p hp,if_pos rfl]
    omega
   ·rfl
  rw[e,sQ hi (x:=fun k=>M k j) (u:=fun k q=>ia M a q k),fb hi fun k hk hne=>by
   rw[lK hi hk (Ne.symm hne) fun q _=>by simp[cA,hne],Int.mul_zero],nQ]
  have:det m (ia M a)=1:=h1
  rw[this]
  omega
theorem Tb.rows (h:Tb m w M T d β) {a:Nat->Nat} (ha:∀i,i<m->a i<w) (hM:∀k,k<m->∀i,i<m->M k (a i)=if k=i then 1 else 0) {i j:Nat} (hi:i<m) (hj:j<w):T i j=sz m fun k=>T i (a k)*M k j:=by
 obtain ⟨σ,h1,h2,h3⟩:=h.cr
 rw[h3 i hi j hj]
 have e:dc m M (upd β i j)=sz m fun k=>M k j*dc m M (upd β i (a k)):=by
  unfold dc
  rw[mj]
  have e:det m (cA (ia M β) i fun q=>M q j)=det m (cA (ia M β) i fun q=>sz m fun k=>M k j*M q (a k)):=by
   refine iW fun p q hp hq=>?_
   unfold cA
   split
   ·show M p j=sz m fun k=>M k j*M p (a k)
    rw[fb hp fun k hk hne=>by rw[hM p hp k hk,if_neg (Ne.symm hne),Int.mul_zero],hM p hp p hp,if_pos rfl]
    omega
   ·rfl
  rw[e,sQ hi (x:=fun k=>M k j) (u:=fun k q=>M q (a k))]
  exact bg fun k _=>by rw[mj]
 rw[e,<-ga]
 exact bg fun k hk=>by rw[h3 i hi _ (ha k hk)];grind
theorem Tb.bound (h:Tb m w M T d β) {i j:Nat} (hi:i<m) (hj:j<w):ab (T i j)=ab (dc m M (upd β i j)):=by
 obtain ⟨σ,h1,_,h3⟩:=h.cr
 rw[h3 i hi j hj,qB]
 have h4:ab σ*ab σ=1:=by rw[<-qB,h1];rfl
 have h5:ab σ=1:=by
  have h6:=cH σ
  by_cases h7:ab σ<=1
  ·have:ab σ≠0:=fun e=>by rw[e] at h4;simp at h4
   omega
  ·exfalso
   have:2*2<=ab σ*ab σ:=Int.mul_le_mul (by omega) (by omega) (by omega) h6
   omega
 rw[h5,Int.one_mul]
end
structure Sx where
 T:Nat->Nat->Int
 d:Int
 β:Nat->Nat
def zr (m:Nat) (wc:Nat->Int) (S:Sx) (j:Nat):Int:=wc j*S.d - sz m fun i=>wc (S.β i)*S.T i j
structure Leaves (m R:Nat) (S:Sx) (c r:Nat):Prop where
 lt:r<m
 pos:0<S.T r c
 le:∀i,i<m->0<S.T i c->S.T r R*S.T i c<=S.T i R*S.T r c
 tie:∀i,i<m->0<S.T i c->S.T r R*S.T i c=S.T i R*S.T r c->S.β r<=S.β i
structure Enters (m N:Nat) (wc:Nat->Int) (S:Sx) (c:Nat):Prop where
 lt:c<N
 neg:zr m wc S c<0
 least:∀j,j<c->0<=zr m wc S j
structure StepAt (m w:Nat) (S S':Sx) (r c:Nat):Prop where
 T:∀i j,i<m->j<w->S'.T i j=if i=r then S.T r j else piv S.T S.d r c i j
 d:S'.d=S.T r c
 β:∀i,i<m->S'.β i=upd S.β r c i
structure Step (m w N R:Nat) (wc:Nat->Int) (S S':Sx) (r c:Nat):Prop where
 enters:Enters m N wc S c
 leaves:Leaves m R S c r
 at':StepAt m w S S' r c
structure Val (m w N R:Nat) (M:Nat->Nat->Int) (S:Sx):Prop where
 tb:Tb m w M S.T S.d S.β
 feas:∀i,i<m->0<=S.T i R
 ne:∀i,i<m->S.β i≠R
section
variable {m w N R:Nat} {M:Nat->Nat->Int} {wc:Nat->Int}
theorem tx {β β':Nat->Nat} (h:∀i,i<m->β' i=β i):dc m M β'=dc m M β:=iW fun i j _ hj=>by unfold ia;rw[h j hj]
theorem Tb.congr {T T':Nat->Nat->Int} {d:Int} {β β':Nat->Nat} (h:Tb m w M T d β) (hT:∀i j,i<m->j<w->T' i j=T i j) (hβ:∀i,i<m->β' i=β i):Tb m w M T' d β':=by
 refine ⟨h.dpos,fun i hi=>by rw[hβ i hi];exact h.lt i hi,fun k hk j hj=>?_,?_⟩
 ·rw[h.co k hk j hj]
  exact bg fun i hi=>by rw[hT i j hi hj,hβ i hi]
 ·obtain ⟨σ,h1,h2,h3⟩:=h.cr
  refine ⟨σ,h1,by rw[tx hβ];exact h2,fun i hi j hj=>?_⟩
  rw[hT i j hi hj,h3 i hi j hj]
  congr 1
  exact (tx fun k hk=>by unfold upd;rw[hβ k hk]).symm
theorem Val.stepAt {S S':Sx} (h:Val m w N R M S) (hR:R<w) {r c:Nat} (hc:c<w) (hcR:c≠R) (hl:Leaves m R S c r) (hs:StepAt m w S S' r c):Val m w N R M S':=by
 have hr:=hl.lt
 have e1:sg (S.T r c)=1:=by unfold sg;rw[if_neg (by have:=hl.pos;omega)]
 have h1:=h.tb.step hr hc (by have:=hl.pos;omega)
 have h2:=h1.congr (T':=S'.T) (β':=S'.β) (fun i j hi hj=>by rw[hs.T i j hi hj];unfold nA;rw[e1,Int.one_mul]) hs.β
 rw[e1,Int.one_mul,<-hs.d] at h2
 refine ⟨h2,fun i hi=>?_,fun i hi=>?_⟩
 ·rw[hs.T i R hi hR]
  split
  ·exact h.feas r hr
  ·rename_i hne
   have h3:=ja h.tb hr hi (Ne.symm hne) hc hR
   have h4:=h.tb.dpos
   have h5:=hl.pos
   have h6:0<=S.T r c*S.T i R - S.T i c*S.T r R:=by
    by_cases h7:0<S.T i c
    ·have:=hl.le i hi h7
     have e1:=Int.mul_comm (S.T r R) (S.T i c)
     have e2:=Int.mul_comm (S.T i R) (S.T r c)
     omega
    ·have h8:0<=S.T r c*S.T i R:=Int.mul_nonneg (by omega) (h.feas i hi)
     have h9:0<= -S.T i c*S.T r R:=Int.mul_nonneg (by omega) (h.feas r hr)
     rw[Int.neg_mul] at h9
     omega
   rw[<-h3] at h6
   exact Int.nonneg_of_mul_nonneg_right h6 h4
 ·rw[hs.β i hi]
  unfold upd
  split
  ·exact hcR
  ·exact h.ne i hi
theorem BC {S:Sx} (h:Tb m w M S.T S.d S.β) {i:Nat} (hi:i<m):zr m wc S (S.β i)=0:=by
 unfold zr
 rw[fb hi fun k hk hne=>by rw[h.other hk hi hne,Int.mul_zero],h.basis hi]
 omega
theorem tN {S:Sx} (h:Tb m w M S.T S.d S.β) {a:Nat->Nat} (ha:∀i,i<m->a i<w) (hM:∀k,k<m->∀i,i<m->M k (a i)=if k=i then 1 else 0) {j:Nat} (hj:j<w) :
  zr m wc S j=wc j*S.d - sz m fun k=>(sz m fun i=>wc (S.β i)*S.T i (a k))*M k j:=by
 unfold zr
 congr 1
 rw[bg (g:=fun i=>sz m fun k=>wc (S.β i)*S.T i (a k)*M k j) fun i hi=>by
  rw[h.rows ha hM hi hj,<-ga]
  exact bg fun k _=>by rw[Int.mul_assoc]]
 rw[tW]
 exact bg fun k _=>AB
theorem A2 {S S':Sx} (h:Tb m w M S.T S.d S.β) {r c j:Nat} (hr:r<m) (hc:c<w) (hj:j<w) (hs:StepAt m w S S' r c):S.d*zr m wc S' j=S.T r c*zr m wc S j - zr m wc S c*S.T r j:=by
 have h1:∀i,i<m->S.d*(wc (S'.β i)*S'.T i j)=(S.T r c*(wc (S.β i)*S.T i j) - S.T r j*(wc (S.β i)*S.T i c))+(if i=r then S.d*(wc c*S.T r j) else 0):=fun i hi=>by
  rw[hs.β i hi,hs.T i j hi hj]
  unfold upd
  by_cases e:i=r
  ·subst e
   simp only[if_true]
   grind
  ·simp only[e,if_false,Int.add_zero]
   have:=ja h hr hi (Ne.symm e) hc hj
   grind
 have h2:S.d*(sz m fun i=>wc (S'.β i)*S'.T i j)=S.T r c*(sz m fun i=>wc (S.β i)*S.T i j) - S.T r j*(sz m fun i=>wc (S.β i)*S.T i c)+S.d*(wc c*S.T r j):=by
  rw[<-ga,bg h1,pW,wX,ga,ga,fb hr fun i _ hne=>if_neg hne,if_pos rfl]
 unfold zr
 rw[Int.mul_sub,h2,hs.d]
 grind
theorem Q6 {S S':Sx} (h:Tb m w M S.T S.d S.β) (h':Tb m w M S'.T S'.d S'.β) {a:Nat->Nat} (ha:∀i,i<m->a i<w) (hM:∀k,k<m->∀i,i<m->M k (a i)=if k=i then 1 else 0) {s:Nat} (hs:s<w) :
  S.d*zr m wc S' s=S'.d*zr m wc S s+sz m fun i=>S.T i s*zr m wc S' (S.β i):=by
 have e1:=tN (wc:=wc) h' ha hM hs
 have e2:∀i,i<m->S.T i s*zr m wc S' (S.β i)=S'.d*(wc (S.β i)*S.T i s) - sz m fun k=>(sz m fun i=>wc (S'.β i)*S'.T i (a k))*(S.T i s*M k (S.β i)):=fun i hi=>by
  rw[tN (wc:=wc) h' ha hM (h.lt i hi),Int.mul_sub,<-ga]
  congr 1
  ·grind
  ·exact bg fun k _=>by grind
 rw[bg e2,wX,ga,tW]
 have e3:(sz m fun k=>sz m fun i=>(sz m fun i=>wc (S'.β i)*S'.T i (a k))*(S.T i s*M k (S.β i)))=S.d*sz m fun k=>(sz m fun i=>wc (S'.β i)*S'.T i (a k))*M k s:=by
  rw[<-ga]
  refine bg fun k hk=>?_
  rw[ga,<-h.co k hk s hs]
  grind
 rw[e3,e1]
 unfold zr
 grind
theorem oT {β:Nat->Nat->Nat} {q:Nat}:∀{k i:Nat},(∃p,p<m/\β i p=q)->(¬ ∃p,p<m/\β (i+k) p=q)->∃n,i<=n/\n<i+k/\(∃p,p<m/\β n p=q)/\¬ ∃p,p<m/\β (n+1) p=q
 | 0,i,h1,h2=>(h2 h1).elim
 | k+1,i,h1,h2=>by
  by_cases h:∃p,p<m/\β (i+k) p=q
  ·exact ⟨i+k,by omega,by omega,h,h2⟩
  ·obtain ⟨n,h3,h4,h5,h6⟩:=oT h1 h
   exact ⟨n,h3,by omega,h5,h6⟩
theorem lO {β:Nat->Nat->Nat} {q:Nat}:∀{k i:Nat},(¬ ∃p,p<m/\β i p=q)->(∃p,p<m/\β (i+k) p=q)->∃n,i<=n/\n<i+k/\(¬ ∃p,p<m/\β n p=q)/\∃p,p<m/\β (n+1) p=q
 | 0,i,h1,h2=>(h1 h2).elim
 | k+1,i,h1,h2=>by
  by_cases h:∃p,p<m/\β (i+k) p=q
  ·obtain ⟨n,h3,h4,h5,h6⟩:=lO h1 h
   exact ⟨n,h3,by omega,h5,h6⟩
  ·exact ⟨i+k,by omega,by omega,h,h2⟩
theorem Qq {k:Nat} {f:Nat->Nat}:0<k->∃n,n<k/\∀i,i<k->f i<=f n:=by
 induction k with
 | zero=>intro h;omega
 | succ k ih =>
  intro _
  by_cases hk:k=0
  ·subst hk
   exact ⟨0,by omega,fun i hi=>by rw[show i=0 by omega];exact Nat.le_refl _⟩
  ·obtain ⟨n,h1,h2⟩:=ih (by omega)
   by_cases h3:f k<=f n
   ·refine ⟨n,by omega,fun i hi=>?_⟩
    by_cases h4:i=k
    ·rw[h4];exact h3
    ·exact h2 i (by omega)
   ·refine ⟨k,by omega,fun i hi=>?_⟩
    by_cases h4:i=k
    ·rw[h4];exact Nat.le_refl _
    ·have:=h2 i (by omega);omega
theorem yM {e x y:Int} (he:0<e) (h:e*x<=e*y):x<=y:=Int.le_of_mul_le_mul_left h he
structure Run (m w N R:Nat) (M:Nat->Nat->Int) (wc:Nat->Int) (k:Nat) (S:Nat->Sx) (r c:Nat->Nat):Prop where
 val:∀n,n<=k->Val m w N R M (S n)
 step:∀n,n<k->Step m w N R wc (S n) (S (n+1)) (r n) (c n)
theorem Run.of {k:Nat} {S:Nat->Sx} {r c:Nat->Nat} (hN:N<=R) (hR:R<w) (h0:Val m w N R M (S 0)) (hs:∀n,n<k->Step m w N R wc (S n) (S (n+1)) (r n) (c n)):Run m w N R M wc k S r c:=by
 refine ⟨fun n=>?_,hs⟩
 induction n with
 | zero=>intro _;exact h0
 | succ n ih =>
  intro hn
  have h1:=hs n (by omega)
  have:=h1.enters.lt
  exact (ih (by omega)).stepAt hR (by omega) (by omega) h1.leaves h1.at'
theorem Run.nocycle {k:Nat} {S:Nat->Sx} {r c:Nat->Nat} {a:Nat->Nat} (ha:∀i,i<m->a i<w) (hM:∀k,k<m->∀i,i<m->M k (a i)=if k=i then 1 else 0) (hN:N<=R) (hR:R<w)
  (h:Run m w N R M wc k S r c) (hk:0<k):¬ ∀i,i<m->(S k).β i=(S 0).β i:=by
 intro hcyc
 have cw:∀n,n<k->c n<w:=fun n hn=>by have:=(h.step n hn).enters.lt;omega
 have dp:∀n,n<=k->0<(S n).d:=fun n hn=>(h.val n hn).tb.dpos
 have vstep:∀n,n<k->zr m wc (S n) R*(S (n+1)).d<=zr m wc (S (n+1)) R*(S n).d/\((S n).T (r n) R≠0->zr m wc (S n) R*(S (n+1)).d<zr m wc (S (n+1)) R*(S n).d):=fun n hn=>by
  have hs:=h.step n hn
  have h1:=A2 (wc:=wc) (h.val n (by omega)).tb hs.leaves.lt (cw n hn) hR hs.at'
  have h2:=hs.enters.neg
  have h3:=(h.val n (by omega)).feas (r n) hs.leaves.lt
  have h4:0<= -zr m wc (S n) (c n)*(S n).T (r n) R:=Int.mul_nonneg (by omega) h3
  rw[Int.neg_mul] at h4
  rw[hs.at'.d,Int.mul_comm (zr m wc (S (n+1)) R),h1,Int.mul_comm (zr m wc (S n) R)]
  refine ⟨by omega,fun hne=>?_⟩
  have h5:0< -zr m wc (S n) (c n)*(S n).T (r n) R:=Int.mul_pos (by omega) (by omega)
  rw[Int.neg_mul] at h5
  omega
 have vle:∀i j,i+j<=k->zr m wc (S i) R*(S (i+j)).d<=zr m wc (S (i+j)) R*(S i).d:=by
  intro i j
  induction j with
  | zero=>intro _;exact Int.le_refl _
  | succ j ih =>
   intro hj
   have h1:=ih (by omega)
   have h2:=(vstep (i+j) (by omega)).1
   have d1:=dp i (by omega)
   have d2:=dp (i+j) (by omega)
   have d3:=dp (i+j+1) (by omega)
   refine yM d2 ?_
   have h3:=z11 h1 (Int.le_of_lt d3)
   have h4:=z11 h2 (Int.le_of_lt d1)
   rw[show i+(j+1)=i+j+1 by omega]
   calc (S (i+j)).d*(zr m wc (S i) R*(S (i+j+1)).d)=zr m wc (S i) R*(S (i+j)).d*(S (i+j+1)).d:=by grind
    _<=zr m wc (S (i+j)) R*(S i).d*(S (i+j+1)).d:=h3
    _=zr m wc (S (i+j)) R*(S (i+j+1)).d*(S i).d:=by grind
    _<=zr m wc (S (i+j+1)) R*(S (i+j)).d*(S i).d:=h4
    _=(S (i+j)).d*(zr m wc (S (i+j+1)) R*(S i).d):=by grind
 have same:(S k).d=(S 0).d/\∀i j,i<m->j<w->(S k).T i j=(S 0).T i j:=by
  obtain ⟨σ,s1,s2,s3⟩:=(h.val k (Nat.le_refl _)).tb.cr
  obtain ⟨τ,t1,t2,t3⟩:=(h.val 0 (by omega)).tb.cr
  rw[tx hcyc] at s2
  have p1:=dp k (Nat.le_refl _)
  have p2:=dp 0 (by omega)
  have e:σ=τ:=by
   have h1:σ*(S k).d=dc m M (S 0).β:=by rw[s2,<-Int.mul_assoc,s1,Int.one_mul]
   have h2:τ*(S 0).d=dc m M (S 0).β:=by rw[t2,<-Int.mul_assoc,t1,Int.one_mul]
   have pm:∀x:Int,x*x=1->x=1\/x= -1:=fun x hx=>by
    have h4:x.natAbs*x.natAbs=1:=by
     have:=congrArg Int.natAbs hx
     rwa [Int.natAbs_mul] at this
    have h5:x.natAbs=1:=Nat.eq_one_of_mul_eq_one_left h4
    omega
   rcases pm σ s1 with rfl | rfl<;>rcases pm τ t1 with rfl | rfl<;>omega
  refine ⟨by rw[s2,e];exact t2.symm,fun i j hi hj=>?_⟩
  rw[s3 i hi j hj,t3 i hi j hj,e]
  congr 1
  exact tx fun l hl=>by unfold upd;rw[hcyc l hl]
 have vend:zr m wc (S k) R=zr m wc (S 0) R:=by
  unfold zr
  rw[same.1]
  congr 1
  exact bg fun i hi=>by rw[hcyc i hi,same.2 i R hi hR]
 have flat:∀n,n<k->(S n).T (r n) R=0:=fun n hn=>by
  by_cases e:(S n).T (r n) R=0
  ·exact e
  ·exfalso
   have h1:=(vstep n hn).2 e
   have h2:=vle 0 n (by omega)
   have h3:=vle (n+1) (k - (n+1)) (by omega)
   rw[Nat.zero_add] at h2
   rw[show n+1+(k - (n+1))=k by omega,vend,same.1] at h3
   have d0:=dp 0 (by omega)
   have d1:=dp n (by omega)
   have d2:=dp (n+1) (by omega)
   have h4:=Int.mul_lt_mul_of_pos_right h1 d0
   have h5:=z11 h2 (Int.le_of_lt d2)
   have h6:=z11 h3 (Int.le_of_lt d1)
   have:zr m wc (S 0) R*(S n).d*(S (n+1)).d<zr m wc (S 0) R*(S n).d*(S (n+1)).d:=by
    calc zr m wc (S 0) R*(S n).d*(S (n+1)).d<=zr m wc (S n) R*(S 0).d*(S (n+1)).d:=h5
     _=zr m wc (S n) R*(S (n+1)).d*(S 0).d:=by grind
     _<zr m wc (S (n+1)) R*(S n).d*(S 0).d:=h4
     _=zr m wc (S (n+1)) R*(S 0).d*(S n).d:=by grind
     _<=zr m wc (S 0) R*(S (n+1)).d*(S n).d:=h6
     _=zr m wc (S 0) R*(S n).d*(S (n+1)).d:=by grind
   omega
 have zeroStep:∀n q,n<k->((∀i,i<m->(S n).β i=q->(S n).T i R=0)↔(∀i,i<m->(S (n+1)).β i=q->(S (n+1)).T i R=0)):=fun n q hn=>by
  have hs:=h.step n hn
  have hf:=flat n hn
  have htb:=(h.val n (by omega)).tb
  have key:∀i,i<m->i≠r n->((S (n+1)).T i R=0↔(S n).T i R=0):=fun i hi hne=>by
   rw[hs.at'.T i R hi hR,if_neg hne]
   have h1:=ja htb hs.leaves.lt hi (Ne.symm hne) (cw n hn) hR
   rw[hf,Int.mul_zero,Int.sub_zero] at h1
   have h2:=hs.leaves.pos
   have h3:=dp n (by omega)
   constructor
   ·intro e
    rw[e,Int.mul_zero] at h1
    rcases Int.mul_eq_zero.1 h1.symm with h4 | h4
    ·omega
    ·exact h4
   ·intro e
    rw[e,Int.mul_zero] at h1
    rcases Int.mul_eq_zero.1 h1 with h4 | h4
    ·omega
    ·exact h4
  constructor
  ·intro hz i hi hb
   by_cases e:i=r n
   ·rw[e,hs.at'.T _ R hs.leaves.lt hR,if_pos rfl];exact hf
   ·rw[hs.at'.β i hi] at hb
    unfold upd at hb
    rw[if_neg e] at hb
    exact (key i hi e).2 (hz i hi hb)
  ·intro hz i hi hb
   by_cases e:i=r n
   ·rw[e];exact hf
   ·refine (key i hi e).1 (hz i hi ?_)
    rw[hs.at'.β i hi]
    unfold upd
    rw[if_neg e]
    exact hb
 have zeroAll:∀q n,n<=k->((∀i,i<m->(S 0).β i=q->(S 0).T i R=0)↔(∀i,i<m->(S n).β i=q->(S n).T i R=0)):=fun q n=>by
  induction n with
  | zero=>intro _;exact Iff.rfl
  | succ n ih=>intro hn;exact (ih (by omega)).trans (zeroStep n q (by omega))
 have comes:∀n q,n<k->(¬ ∃p,p<m/\(S n).β p=q)->(∃p,p<m/\(S (n+1)).β p=q)->q=c n:=fun n q hn h1 ⟨p,hp,hq⟩=>by
  have hs:=h.step n hn
  rw[hs.at'.β p hp] at hq
  unfold upd at hq
  split at hq
  ·exact hq.symm
  ·exact (h1 ⟨p,hp,hq⟩).elim
 have goes:∀n q,n<k->(∃p,p<m/\(S n).β p=q)->(¬ ∃p,p<m/\(S (n+1)).β p=q)->q=(S n).β (r n):=fun n q hn ⟨p,hp,hq⟩ h1=>by
  have hs:=h.step n hn
  by_cases e:p=r n
  ·rw[<-e];exact hq.symm
  ·refine (h1 ⟨p,hp,?_⟩).elim
   rw[hs.at'.β p hp]
   unfold upd
   rw[if_neg e]
   exact hq
 have Bn:∀n,n<k->¬ ∃p,p<m/\(S n).β p=c n:=fun n hn ⟨p,hp,hq⟩=>by
  have hs:=h.step n hn
  have h1:=hs.enters.neg
  rw[<-hq,BC (h.val n (by omega)).tb hp] at h1
  omega
 have isIn:∀n,n<k->∃p,p<m/\(S (n+1)).β p=c n:=fun n hn=>by
  have hs:=h.step n hn
  refine ⟨r n,hs.leaves.lt,?_⟩
  rw[hs.at'.β _ hs.leaves.lt]
  unfold upd
  rw[if_pos rfl]
 have ends:∀q,(∃p,p<m/\(S k).β p=q)↔∃p,p<m/\(S 0).β p=q:=fun q=>by
  constructor
  ·rintro ⟨p,hp,hq⟩;exact ⟨p,hp,by rw[<-hcyc p hp];exact hq⟩
  ·rintro ⟨p,hp,hq⟩;exact ⟨p,hp,by rw[hcyc p hp];exact hq⟩
 obtain ⟨ns,hns,hmax⟩:=Qq (f:=c) hk
 have leaves:∃n,n<k/\(S n).β (r n)=c ns:=by
  by_cases h0:∃p,p<m/\(S 0).β p=c ns
  ·obtain ⟨n,h1,h2,h3,h4⟩:=oT (β:=fun n=>(S n).β) (k:=ns) (i:=0) h0 (by rw[Nat.zero_add];exact Bn ns hns)
   exact ⟨n,by omega,(goes n _ (by omega) h3 h4).symm⟩
  ·have h1:¬ ∃p,p<m/\(S k).β p=c ns:=fun e=>h0 ((ends _).1 e)
   obtain ⟨n,h2,h3,h4,h5⟩:=oT (β:=fun n=>(S n).β) (k:=k - (ns+1)) (i:=ns+1) (isIn ns hns) (by rw[show ns+1+(k - (ns+1))=k by omega];exact h1)
   exact ⟨n,by omega,(goes n _ (by omega) h4 h5).symm⟩
 obtain ⟨n,hn,hleave⟩:=leaves
 have hs:=h.step n hn
 have hst:=h.step ns hns
 have vn:=h.val n (by omega)
 have vs:=h.val ns (by omega)
 have hcn:=hmax n hn
 have hne:c n≠c ns:=fun e=>Bn n hn ⟨r n,hs.leaves.lt,by rw[hleave];exact e.symm⟩
 have id:=Q6 (wc:=wc) vn.tb vs.tb ha hM (cw n hn)
 have z1:0<=zr m wc (S ns) (c n):=hst.enters.least (c n) (by omega)
 have z2:=hs.enters.neg
 have d1:=dp n (by omega)
 have d2:=dp ns (by omega)
 have hsum:0<sz m fun i=>(S n).T i (c n)*zr m wc (S ns) ((S n).β i):=by
  have h1:0<=(S n).d*zr m wc (S ns) (c n):=Int.mul_nonneg (by omega) z1
  have h2:0<(S ns).d* -zr m wc (S n) (c n):=Int.mul_pos d2 (by omega)
  rw[Int.mul_neg] at h2
  omega
 have hex:∃i,i<m/\0<(S n).T i (c n)*zr m wc (S ns) ((S n).β i):=by
  by_cases e:∃i,i<m/\0<(S n).T i (c n)*zr m wc (S ns) ((S n).β i)
  ·exact e
  ·exfalso
   have:=nJ (n:=m) (f:=fun i=>(S n).T i (c n)*zr m wc (S ns) ((S n).β i)) (g:=fun _=>0) fun i hi=>Int.not_lt.1 fun h'=>e ⟨i,hi,h'⟩
   rw[fW (f:=fun _=>0) fun _ _=>rfl] at this
   omega
 obtain ⟨i,hi,hpos⟩:=hex
 have hq0:zr m wc (S ns) ((S n).β i)≠0:=fun e=>by rw[e,Int.mul_zero] at hpos;omega
 have hq1:¬ ∃p,p<m/\(S ns).β p=(S n).β i:=fun ⟨p,hp,hq⟩=>hq0 (by rw[<-hq];exact BC vs.tb hp)
 have hq2:∃p,p<m/\(S n).β p=(S n).β i:=⟨i,hi,rfl⟩
 have hq3:∃n',n'<k/\(S n).β i=c n':=by
  by_cases hlt:ns<n
  ·obtain ⟨n',h1,h2,h3,h4⟩:=lO (β:=fun n=>(S n).β) (k:=n - ns) (i:=ns) hq1 (by rw[show ns+(n - ns)=n by omega];exact hq2)
   exact ⟨n',by omega,comes n' _ (by omega) h3 h4⟩
  ·by_cases h0:∃p,p<m/\(S 0).β p=(S n).β i
   ·obtain ⟨n',h1,h2,h3,h4⟩:=lO (β:=fun n=>(S n).β) (k:=k - ns) (i:=ns) hq1 (by rw[show ns+(k - ns)=k by omega];exact (ends _).2 h0)
    exact ⟨n',by omega,comes n' _ (by omega) h3 h4⟩
   ·obtain ⟨n',h1,h2,h3,h4⟩:=lO (β:=fun n=>(S n).β) (k:=n) (i:=0) h0 (by rw[Nat.zero_add];exact hq2)
    exact ⟨n',by omega,comes n' _ (by omega) h3 h4⟩
 obtain ⟨n',hn',hq4⟩:=hq3
 have hq5:(S n).β i<=c ns:=by rw[hq4];exact hmax n' hn'
 by_cases hqt:(S n).β i=c ns
 ·have:i=r n:=vn.tb.inj hi hs.leaves.lt (by rw[hqt,hleave])
  rw[this,hleave] at hpos
  have h1:=hs.leaves.pos
  have h2:=hst.enters.neg
  have h3:0<(S n).T (r n) (c n)* -zr m wc (S ns) (c ns):=Int.mul_pos h1 (by omega)
  rw[Int.mul_neg] at h3
  omega
 ·have z3:0<=zr m wc (S ns) ((S n).β i):=hst.enters.least _ (by omega)
  have hTi:0<(S n).T i (c n):=by
   by_cases e:0<(S n).T i (c n)
   ·exact e
   ·exfalso
    have:0<= -(S n).T i (c n)*zr m wc (S ns) ((S n).β i):=Int.mul_nonneg (by omega) z3
    rw[Int.neg_mul] at this
    omega
  have hiR:(S n).T i R=0:=((zeroAll _ n (by omega)).1 ((zeroAll _ ns (by omega)).2 fun p hp hq=>(hq1 ⟨p,hp,hq⟩).elim)) i hi rfl
  have:=hs.leaves.tie i hi hTi (by rw[flat n hn,hiR,Int.zero_mul,Int.zero_mul])
  rw[hleave] at this
  omega
end
end Dn
end Go.Proofs.YtfknoaclabfdlaaGreat

namespace Go.Proofs.YtfknoaclabfdlaaGreat
noncomputable section
namespace Dn
theorem Li:∀(K:Nat) (f:Nat->Nat),(∀i,i<=K->f i<K)->∃i j,i<j/\j<=K/\f i=f j
 | 0,f,h=>by have:=h 0 (by omega);omega
 | K+1,f,h=>by
  by_cases e:∃i,i<=K/\f i=f (K+1)
  ·obtain ⟨i,h1,h2⟩:=e
   exact ⟨i,K+1,by omega,by omega,h2⟩
  ·
   obtain ⟨i,j,h1,h2,h3⟩:=Li K (fun i=>if f i<f (K+1) then f i else f i - 1) fun i hi=>by
    have h4:=h i (by omega)
    have h5:=h (K+1) (by omega)
    have h6:f i≠f (K+1):=fun e'=>e ⟨i,hi,e'⟩
    show (if f i<f (K+1) then f i else f i - 1)<K
    split<;>omega
   refine ⟨i,j,h1,by omega,?_⟩
   have h6:f i≠f (K+1):=fun e'=>e ⟨i,by omega,e'⟩
   have h7:f j≠f (K+1):=fun e'=>e ⟨j,by omega,e'⟩
   have h3:(if f i<f (K+1) then f i else f i - 1)=(if f j<f (K+1) then f j else f j - 1):=h3
   split at h3<;>split at h3<;>omega
def code (w:Nat) (β:Nat->Nat):Nat->Nat
 | 0=>0
 | m+1=>code w β m*w+β m
theorem FV {w:Nat} {β:Nat->Nat}:∀{m:Nat},(∀i,i<m->β i<w)->code w β m<w ^ m
 | 0,_=>by simp[code]
 | m+1,h=>by
  simp only[code]
  have h1:=FV (m:=m) fun i hi=>h i (by omega)
  have h2:=h m (by omega)
  have h3:(code w β m+1)*w<=w ^ m*w:=Nat.mul_le_mul_right _ h1
  rw[Nat.pow_succ]
  rw[Nat.add_mul,Nat.one_mul] at h3
  omega
theorem Bq {w:Nat} {β γ:Nat->Nat}:∀{m:Nat},(∀i,i<m->β i<w)->(∀i,i<m->γ i<w)->code w β m=code w γ m->∀i,i<m->β i=γ i
 | 0,_,_,_,i,hi=>by omega
 | m+1,hβ,hγ,h,i,hi=>by
  simp only[code] at h
  have h1:=hβ m (by omega)
  have h2:=hγ m (by omega)
  have e1:(code w β m*w+β m) % w=β m:=by rw[Nat.mul_comm,Nat.mul_add_mod,Nat.mod_eq_of_lt h1]
  have e2:(code w γ m*w+γ m) % w=γ m:=by rw[Nat.mul_comm,Nat.mul_add_mod,Nat.mod_eq_of_lt h2]
  have e3:β m=γ m:=by rw[<-e1,<-e2,h]
  have e4:code w β m=code w γ m:=by
   have:code w β m*w=code w γ m*w:=by omega
   exact Nat.eq_of_mul_eq_mul_right (by omega) this
  by_cases e:i=m
  ·rw[e];exact e3
  ·exact Bq (fun i hi=>hβ i (by omega)) (fun i hi=>hγ i (by omega)) e4 i (by omega)
open Classical in
def jZ (p:Nat->Prop):Nat->Nat
 | 0=>0
 | k+1=>if p k then k else jZ p k
theorem vj {p:Nat->Prop}:∀{K k:Nat},k<K->p k->k<=jZ p K
 | K+1,k,hk,h=>by
  unfold jZ
  by_cases e:k=K
  ·subst e;rw[if_pos h];exact Nat.le_refl _
  ·split
   ·omega
   ·exact vj (by omega) h
theorem r7 {p:Nat->Prop} (h0:p 0):∀{K:Nat},p (jZ p K)
 | 0=>h0
 | K+1=>by
  unfold jZ
  split
  ·assumption
  ·exact r7 h0
theorem vw {p:Nat->Prop}:∀{K:Nat},0<K->jZ p K<K
 | K+1,_=>by
  unfold jZ
  split
  ·omega
  ·by_cases h:K=0
   ·subst h;simp[jZ]
   ·have:=vw (p:=p) (K:=K) (by omega);omega
section
variable {m w N R:Nat} {M:Nat->Nat->Int} {wc:Nat->Int}
theorem Run.short {k:Nat} {S:Nat->Sx} {r c:Nat->Nat} {a:Nat->Nat} (ha:∀i,i<m->a i<w) (hM:∀k,k<m->∀i,i<m->M k (a i)=if k=i then 1 else 0) (hN:N<=R) (hR:R<w)
  (h:Run m w N R M wc k S r c):k<w ^ m:=by
 by_cases hk:k<w ^ m
 ·exact hk
 ·exfalso
  obtain ⟨i,j,h1,h2,h3⟩:=Li (w ^ m) (fun n=>code w (S n).β m) fun n hn=>FV (h.val n (by omega)).tb.lt
  have h4:=Bq (h.val i (by omega)).tb.lt (h.val j (by omega)).tb.lt h3
  have h5:Run m w N R M wc (j - i) (fun n=>S (i+n)) (fun n=>r (i+n)) (fun n=>c (i+n)):=⟨fun n hn=>h.val (i+n) (by omega),fun n hn=>h.step (i+n) (by omega)⟩
  refine h5.nocycle ha hM hN hR (by omega) fun p hp=>?_
  show (S (i+(j - i))).β p=(S (i+0)).β p
  rw[show i+(j - i)=j by omega,Nat.add_zero]
  exact (h4 p hp).symm
def left (m w N R:Nat) (M:Nat->Nat->Int) (wc:Nat->Int) (s:Sx):Nat:=jZ (fun k=>∃S r c,S 0=s/\Run m w N R M wc k S r c) (w ^ m)
theorem AO (hw:0<w) (s:Sx):left m w N R M wc s<w ^ m:=vw (Nat.pow_pos hw)
theorem uj {a:Nat->Nat} (ha:∀i,i<m->a i<w) (hM:∀k,k<m->∀i,i<m->M k (a i)=if k=i then 1 else 0) (hN:N<=R) (hR:R<w)
  {s s':Sx} {r c:Nat} (hv:Val m w N R M s) (hs:Step m w N R wc s s' r c):left m w N R M wc s'<left m w N R M wc s:=by
 have hv':Val m w N R M s':=by
  have:=hs.enters.lt
  exact hv.stepAt hR (by omega) (by omega) hs.leaves hs.at'
 obtain ⟨S,rr,cc,h0,h1⟩:=r7 (p:=fun k=>∃S r c,S 0=s'/\Run m w N R M wc k S r c) ⟨fun _=>s',fun _=>0,fun _=>0,rfl,⟨fun n _=>hv',fun n hn=>by omega⟩⟩ (K:=w ^ m)
 have h2:Run m w N R M wc (left m w N R M wc s'+1) (fun n=>match n with | 0=>s | n+1=>S n) (fun n=>match n with | 0=>r | n+1=>rr n) (fun n=>match n with | 0=>c | n+1=>cc n):=by
  refine ⟨fun n hn=>?_,fun n hn=>?_⟩
  ·cases n with
   | zero=>exact hv
   | succ n=>exact h1.val n (by have:n+1<=left m w N R M wc s'+1:=hn;unfold left at this;omega)
  ·cases n with
   | zero =>
    show Step m w N R wc s (S 0) r c
    rw[h0];exact hs
   | succ n=>exact h1.step n (by have:n+1<left m w N R M wc s'+1:=hn;unfold left at this;omega)
 have h3:=h2.short ha hM hN hR
 exact vj h3 ⟨_,_,_,rfl,h2⟩
end
end Dn
end
end Go.Proofs.YtfknoaclabfdlaaGreat
