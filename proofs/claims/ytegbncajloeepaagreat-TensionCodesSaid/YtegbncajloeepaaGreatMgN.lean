/- r50: what its functions answer (printed by a program), and that they do; part 3. r50: what its functions answer (printed by a program), and that they do; part 4. Plain lemmas for what functions answer: loops, machine numbers, lists. Names: both programs know the same ones. Fractions: rational numbers, and the pairs of numbers that stand for them. Fractions: what 'Make', 'Valid', 'Mul', 'Floor', 'Ceil' of package ratio answer. Fractions: products of two words, 'Mul', 'Floor', 'Ceil' of package ratio. Fractions of the reference: numbers of two words, their greatest common divisors and quotients. Fractions of the reference: 'Div', 'Made', 'Make', 'Times', 'Floor', 'Ceil'. Numbers of 128 bits: sums, differences, comparisons; the length of a number. The quotient of a number of 128 bits by one of 64. Fractions: 'Add' of package ratio. Loops over lists: searches and tests of all elements. Fractions: 'Add', 'Valid', 'All' of the reference. Fractions: 'Sub' and 'Cmp' of both. Loops over the elements of a list, as recursions over it. Programs: both programs know the same valid ones. Systems: both programs know the same valid ones. Sums of integers, and determinants. Tables of the simplex method: integers with a common denominator, as determinants of columns. Steps of the simplex method by the rule of least indices: they never come back to a basis. Steps of the simplex method come to an end: a measure. Linear programs over the rationals: what points and multipliers prove; and what tables of the simplex method prove. How great the numbers of a program's tables may get: the product of the rows' factors. Tables of programs: how great the numbers of the artificial columns may get. Tables of numbers as lists of rows, and loops over them. Systems: the matrix of both programs. Programs: sums of numbers times fractions. Programs: which points are feasible, as the program tells it. Systems: their programs, as both programs make them. Programs: feasible points and values, in both programs. The law ProgramForms. Programs: columns and right sides. Programs: the signs of multipliers. Programs: sums of columns below numbers; refutations. Programs: refutations, as the program tells them. Programs: refutations, as they are specified. Programs: refutations are the same in both programs. Systems: the law SlackPrograms. Programs: products of two numbers, their differences and quotients. Programs: a step of the table. Programs: the row that leaves, the sums of artificial rows, and the reduced costs. Programs: the sums of artificial rows, and the reduced costs. Programs: improving a table to the least value. Programs: finding a feasible basis. Programs: the first table. Programs: which programs fit. Programs: what Solve answers. Programs: what Farkas answers. Programs: answers that are proved, in both programs. Programs: points, multipliers and refutations are those of the theory. Programs: the sums of what the solver returns fit, so that its answers are accepted. Programs: what the solver says of a program; the law ProgramBeats. Programs, as they are specified: the layout of the table, and a step of it. Programs, as they are specified: steps until the last row has no negative number. Programs, as they are specified: artificial variables leave the basis. Programs, as they are specified: the first table. Programs, as they are specified: the least value. Programs: the law ProgramSolves. Systems: what the solver says of their programs. Systems: equilibria, as the program checks them. Systems: the law SlackHolds. Systems: the law SlackBounds. Systems: the law SlackLeast. Claims about tensions: their parts, and what Check of both programs answers. Elimination: a step of two products and a quotient, and tables of rows that change places. Elimination: the theory; a matrix beside a unit matrix, and its table. Elimination: what the program's function answers. Elimination: how great the numbers are, and what a finished table proves. Elimination: what linear.Solve answers. Systems: the law SlackOnly. -/
import Derived.Laws.StructEq
import Derived.KernelRfl
import Derived.Test.YtegbncajloeepaaGreatMgM

namespace Go.Proofs.YtegbncajloeepaaGreat
noncomputable section
open Tryz Dn Dn.Sh
set_option maxRecDepth 100000
def tc (lp:Lp) (_:Jn) (x0:List Int) (x1:Int):Option (Int×Bool×Unit) :=
 lp (Int×Int×PUnit) (Int×Bool×PUnit) (fun (again:Int×Int×PUnit->Option (Int×Bool×PUnit)) (x:Int×Int×PUnit) =>
 let v6:Bool:=inB x.2.1 x0.length;bif decide (x.2.1<(↑x0.length:Int)) then bif v6 then bif nzB x.1 then bif decide (x0.getD x.2.1.toNat (0 : Int)>IntKind.wrap .i64 (Int.tdiv x1 x.1)) then some (0,false,PUnit.unit) else bif v6 then again (IntKind.wrap .i64 (x.1*x0.getD x.2.1.toNat 0),IntKind.wrap .i64 (x.2.1+1),PUnit.unit) else none else none else none else some (x.1,true,PUnit.unit)) (1,0,PUnit.unit)
def ll (x0:List Int) (x1:Int):Option (Int×Bool×Unit):=tc lpK jnK x0 x1
abbrev t80:=(List Int)->(Int)->Option (Int×Bool×Unit)
def yf (lp:Lp) (_:Jn) (kV:t79) (ll:t80) (x0:(List Int)×List ((List Int)×Int×Int)):Option Bool :=
 af (kV x0) fun (t:List Int)=>af (ll t 17592186044416) fun (t_1:Int×Bool×PUnit) =>
 let v5:Bool:=!t_1.2.1;
 let v6:Int:=IntKind.wrap .i64 (Int.tdiv 144115188075855872 t_1.1);
 let v7:Bool:=v5||t_1.2.1;lp (Int×Int×PUnit) Bool (fun (again:Int×Int×PUnit->Option Bool) (x:Int×Int×PUnit)=>bif decide (x.2.1<(↑t.length:Int)) then bif inB x.2.1 t.length then again (if t.getD x.2.1.toNat 0>x.1 then t.getD x.2.1.toNat 0 else x.1,IntKind.wrap IntKind.i64 (x.2.1+1),PUnit.unit) else none else bif v7&&(v5||nzB t_1.1) then bif v7&&v7 then bif v7 then some (bif t_1.2.1 then decide (x.1<=v6) else false) else none else none else none) (0,0,PUnit.unit)
def pG (x0:(List Int)×List ((List Int)×Int×Int)):Option Bool:=yf lpK jnK kV ll x0
abbrev t43:=((List Int)×List ((List Int)×Int×Int))->Option (Bool)
def xj (lp:Lp) (_:Jn) (x0:ByteArray×(List (ByteArray×Int×Int×Int))×Bool) (x1:ByteArray):Option Int :=
 lp (Int×Int×PUnit) Int (fun (again:Int×Int×PUnit->Option Int) (x:Int×Int×PUnit) =>
 let v6:Int×PUnit:=(IntKind.wrap .i64 (x.2.1+1),PUnit.unit);
 let v7:Bool:=inB x.2.1 x0.2.1.length;
 let v8:ByteArray×Int×Int×Int:=x0.2.1.getD x.2.1.toNat ({ data:={ toList:=[] } },0,0,0);bif decide (x.2.1<(↑x0.2.1.length:Int)) then bif v7 then bif List.beq (ByteArray.toList v8.1) (ByteArray.toList x1) then bif v7 then again (IntKind.wrap .i64 (x.1+v8.2.1),v6) else none else again (x.1,v6) else none else some x.1) (0,0,PUnit.unit)
def pJ (x0:ByteArray×(List (ByteArray×Int×Int×Int))×Bool) (x1:ByteArray):Option Int:=xj lpK jnK x0 x1
abbrev PU:=(ByteArray×(List (ByteArray×Int×Int×Int))×Bool)->(ByteArray)->Option (Int)
def vf (lp:Lp) (_:Jn) (pJ:PU) (x0:(List (ByteArray×Int))×List (ByteArray×(List (ByteArray×Int×Int×Int))×Bool)):Option (List (List Int)) :=
 lp ((List Nat×List (Option (List Int)))×Int×PUnit) (List (List Int)) (fun (again:(List Nat×List (Option (List Int)))×Int×PUnit->Option (List (List Int))) (x:(List Nat × List (Option (List Int)))×Int×PUnit)=>bif decide (x.2.1<(↑x0.1.length:Int)) then lp (List Int×Int×PUnit) (List (List Int)) (fun (again_1:List Int×Int × PUnit->Option (List (List Int))) (x_1:List Int×Int×PUnit)=>bif decide (x_1.2.1<(↑x0.2.length:Int)) then bif inB x_1.2.1 x0.2.length then bif inB x.2.1 x0.1.length then af (pJ (x0.2.getD x_1.2.1.toNat ({ data:={ toList:=[] } },[],false)) (x0.1.getD x.2.1.toNat ({ data:={ toList:=[] } },0)).1) fun (t:Int)=>bif dK (List.length x_1.1+1) 8 then again_1 (x_1.1++[t],IntKind.wrap .i64 (x_1.2.1 + 1),PUnit.unit) else none else none else none else bif dK (List.length x.1.1+1) 24 then again ((x.1.1++[List.length x.1.2+0], x.1.2++[some x_1.1]),IntKind.wrap .i64 (x.2.1+1),PUnit.unit) else none) ([],0,PUnit.unit) else bif List.all x.1.1 fun (x_1:Nat)=>fJ x.1.2 x_1 then some (List.map (fun (x_1:Nat)=>bA x.1.2 x_1) x.1.1) else none) (([],[]),0,PUnit.unit)
def gj (x0:(List (ByteArray×Int))×List (ByteArray×(List (ByteArray×Int×Int×Int))×Bool)):Option (List (List Int)):=vf lpK jnK pJ x0
abbrev t81:=((List (ByteArray×Int))×List (ByteArray×(List (ByteArray×Int×Int×Int))×Bool))->Option (List (List Int))
def td (lp:Lp) (_:Jn) (gj:t81) (x0:(List (ByteArray×Int))×List (ByteArray×(List (ByteArray×Int×Int×Int))×Bool)) (x1:List Int):Option ((List Int)×List ((List Int)×Int×Int)) :=
 af (gj x0) fun (t:List (List Int))=>lp (Int×List Int×List (List Int×Int×Int)×PUnit) (List Int×List (List Int×Int×Int)) (fun (again:Int×List Int×List (List Int×Int×Int)×PUnit->Option (List Int×List (List Int×Int×Int))) (x:Int×List Int×List (List Int×Int×Int)×PUnit)=>bif decide (x.1<(↑x0.1.length:Int)) then bif inB x.1 t.length then bif inB x.1 x0.1.length then bif dK (List.length x.2.2.1+1) 40 then again (IntKind.wrap IntKind.i64 (x.1+1),x.2.1,x.2.2.1++[(t.getD x.1.toNat [],3,(x0.1.getD x.1.toNat ({ data:={ toList:=[] } },(0 : Int))).2)],PUnit.unit) else none else none else none else some (x.2.1,x.2.2.1)) (0,x1,[],PUnit.unit)
def fA (x0:(List (ByteArray×Int))×List (ByteArray×(List (ByteArray×Int×Int×Int))×Bool)) (x1:List Int):Option ((List Int)×List ((List Int)×Int×Int)):=td lpK jnK gj x0 x1
abbrev t44:=((List (ByteArray×Int))×List (ByteArray×(List (ByteArray×Int×Int×Int))×Bool))->(List Int)->Option ((List Int)×List ((List Int)×Int×Int))
def yy (lp:Lp) (_:Jn) (x0:(List (ByteArray×Int))×List (ByteArray×(List (ByteArray×Int×Int×Int))×Bool)):Option (List Int) :=
 lp (List Int×Int×PUnit) (List Int) (fun (again:List Int×Int×PUnit->Option (List Int)) (x:List Int×Int×PUnit)=>bif decide (x.2.1<(↑x0.2.length:Int)) then bif dK (List.length x.1+1) 8 then again (x.1++[1],IntKind.wrap .i64 (x.2.1+1),PUnit.unit) else none else some x.1) ([],(0 : Int),PUnit.unit)
def iB (x0:(List (ByteArray×Int))×List (ByteArray×(List (ByteArray×Int×Int×Int))×Bool)):Option (List Int):=yy lpK jnK x0
abbrev t45:=((List (ByteArray×Int))×List (ByteArray×(List (ByteArray×Int×Int×Int))×Bool))->Option (List Int)
def xF (_:Lp) (_:Jn) (pG:t43) (fA:t44) (iB:t45) (x0:(List (ByteArray×Int))×List (ByteArray×(List (ByteArray×Int×Int×Int))×Bool)):Option Bool :=
 af (iB x0) fun (t:List Int)=>af (fA x0 t) fun (t:List Int×List (List Int×Int×Int))=>af (pG t) fun (t:Bool)=>some t
def iy (x0:(List (ByteArray×Int))×List (ByteArray×(List (ByteArray×Int×Int×Int))×Bool)):Option Bool:=xF lpK jnK pG fA iB x0
abbrev t16:=((List (ByteArray×Int))×List (ByteArray×(List (ByteArray×Int×Int×Int))×Bool))->Option (Bool)
def mN (_:Lp) (_:Jn) (x0:(List (Int×Int))×Bool×List (Int×Int)):Option Bool :=
 
 let v3:Bool:=decide ((↑x0.1.length:Int)>30);
 let v4:Bool:=!v3;
 let v5:Bool:=!v4||v4;bif v5 then bif v5 then bif v5 then bif v3||v4 then some (bif v3 then true else decide ((↑x0.2.2.length:Int)>30)) else none else none else none else none
def aK (x0:(List (Int×Int))×Bool×List (Int×Int)):Option Bool:=mN lpK jnK x0
abbrev t17:=((List (Int×Int))×Bool×List (Int×Int))->Option (Bool)
def k17 (aK:t17):Ctr:=⟨[T30],[],[],.one .bool,fun x _ _=>aK x.1⟩
def c17:Ctr:=k17 aK
theorem e17 (lp:Lp) (jn:Jn):∀(x:TsS c17.as) (F:TsF c17.fs) (y:TsS c17.cs),mN lp jn x.1=bf lp jn (cx [] [(32,r32),(92,r92),(112,aU)]) aj 4 17 f17 c17 x F y:=fun x F y=>by kernel_rfl
theorem Qw:c17.ok prog 17:=Ctr.of_den (an (q32)) ax (hl:=aj) (d:=4) func17 rfl (by decide) (e17 lpK jnK)
def nT (lp:Lp) (_:Jn) (cA:JX) (x0:List (Int×Int)):Option Bool :=
 lp (Int×PUnit) Bool (fun (again:Int×PUnit->Option Bool) (x:Int×PUnit)=>bif decide (x.1<(↑x0.length:Int)) then bif inB x.1 x0.length then af (cA (x0.getD x.1.toNat (0,0))) fun (t:Bool)=>bif !t then some false else again (IntKind.wrap .i64 (x.1+1),PUnit.unit) else none else some true) (0,PUnit.unit)
def dv (x0:List (Int×Int)):Option Bool:=nT lpK jnK cA x0
abbrev t70:=(List (Int×Int))->Option (Bool)
def k70 (dv:t70):Ctr:=⟨[(.sl T47)],[],[],.one .bool,fun x _ _=>dv x.1⟩
def c70:Ctr:=k70 dv
theorem e70 (lp:Lp) (jn:Jn) (cA:JX):∀(x:TsS c70.as) (F:TsF c70.fs) (y:TsS c70.cs),nT lp jn cA x.1=bf lp jn (cx [(108,NQ cA)] [(32,r32),(92,r92),(112,aU)]) aj 4 70 f70 c70 x F y:=fun x F y=>by kernel_rfl
theorem Px:c70.ok prog 70:=Ctr.of_den (an (aa (q32) (by kernel_rfl) NH)) ax (hl:=aj) (d:=4) func70 rfl (by decide) (e70 lpK jnK cA)
def lm (_:Lp) (_:Jn) (x0:(List (Int×Int))×Bool×List (Int×Int)):Option (List (Int×Int)) :=
 bif x0.2.1 then some x0.1 else some x0.2.2
def eC (x0:(List (Int×Int))×Bool×List (Int×Int)):Option (List (Int×Int)):=lm lpK jnK x0
abbrev t71:=((List (Int×Int))×Bool×List (Int×Int))->Option (List (Int×Int))
def c71:Ctr:=⟨[T30],[],[],.one (.sl T47),fun x _ _=>eC x.1⟩
theorem e71 (lp:Lp) (jn:Jn):∀(x:TsS c71.as) (F:TsF c71.fs) (y:TsS c71.cs),lm lp jn x.1=bf lp jn (cx [] [(32,r32),(92,r92),(112,aU)]) aj 4 71 f71 c71 x F y:=fun x F y=>by kernel_rfl
theorem Qt:c71.ok prog 71:=Ctr.of_den (an (q32)) ax (hl:=aj) (d:=4) func71 rfl (by decide) (e71 lpK jnK)
def li (_:Lp) (_:Jn) (dv:t70) (eC:t71) (x0:(List (Int×Int))×Bool×List (Int×Int)):Option Int :=
 af (dv x0.1) fun (t:Bool) =>
 let v4:Bool:=!t;
 let v5:Bool:=!v4;
 let v6:Bool:=!v5||v5;bif v6 then bif v6 then af (bif v5 then dv x0.2.2 else some false) fun (t:Bool)=>bif v6 then bif v4||v5 then bif bif v4 then true else !t then some 1 else af (eC x0) fun (t:List (Int×Int))=>bif decide ((↑t.length:Int)>0) then some 19 else some 0 else none else none else none else none
def cB (x0:(List (Int×Int))×Bool×List (Int×Int)):Option Int:=li lpK jnK dv eC x0
abbrev t31:=((List (Int×Int))×Bool×List (Int×Int))->Option (Int)
def k31 (cB:t31):Ctr:=⟨[T30],[],[],.one i64,fun x _ _=>cB x.1⟩
def c31:Ctr:=k31 cB
theorem e31 (lp:Lp) (jn:Jn) (dv:t70) (eC:t71):∀(x:TsS c31.as) (F:TsF c31.fs) (y:TsS c31.cs),li lp jn dv eC x.1=bf lp jn (cx [(71,⟨[T30],[],[],.one (.sl T47),fun x _ _=>eC x.1⟩),(70,k70 dv)] [(32,r32),(92,r92),(112,aU)]) aj 4 31 f31 c31 x F y:=fun x F y=>by kernel_rfl
theorem Qz:c31.ok prog 31:=Ctr.of_den (an (aa (aa (q32) (by kernel_rfl) Px) (by kernel_rfl) Qt)) ax (hl:=aj) (d:=4) func31 rfl (by decide) (e31 lpK jnK dv eC)
def mF (_:Lp) (_:Jn) (x0:(List (Int×Int))×Bool×List (Int×Int)):Option (List (Int×Int)) :=
 bif x0.2.1 then some x0.2.2 else some x0.1
def da (x0:(List (Int×Int))×Bool×List (Int×Int)):Option (List (Int×Int)):=mF lpK jnK x0
abbrev t46:=((List (Int×Int))×Bool×List (Int×Int))->Option (List (Int×Int))
def k46 (da:t46):Ctr:=⟨[T30],[],[],.one (.sl T47),fun x _ _=>da x.1⟩
def c46:Ctr:=k46 da
theorem e46 (lp:Lp) (jn:Jn):∀(x:TsS c46.as) (F:TsF c46.fs) (y:TsS c46.cs),mF lp jn x.1=bf lp jn (cx [] [(32,r32),(92,r92),(112,aU)]) aj 4 46 f46 c46 x F y:=fun x F y=>by kernel_rfl
theorem QG:c46.ok prog 46:=Ctr.of_den (an (q32)) ax (hl:=aj) (d:=4) func46 rfl (by decide) (e46 lpK jnK)
def zz (_:Lp) (_:Jn) (x0:Int) (x1:Int):Option (Int×Int) :=
 
 let v4:Int:=2 ^ 32;
 let v5:Int:=Int.fdiv x0 v4;
 let v6:Int:=Int.fdiv x1 v4;
 let v7:Bool:=decide ((0:Int)<=32);
 let v8:Int:=IntKind.wrap .u64 (↑(Nat.land (Int.toNat (x1 % Int.ofNat 18446744073709551616)) (Int.toNat (4294967295 % Int.ofNat 18446744073709551616))) : Int);
 let v9:Int:=IntKind.wrap .u64 (↑(Nat.land (Int.toNat (x0 % Int.ofNat 18446744073709551616)) (Int.toNat (4294967295 % Int.ofNat 18446744073709551616))) : Int);
 let v10:Int:=IntKind.wrap .u64 (v9*v8);
 let v11:Int:=IntKind.wrap .u64 (IntKind.wrap .u64 (v5*v8)+Int.fdiv v10 v4);
 let v12:Int:=IntKind.wrap .u64 (IntKind.wrap .u64 (v9*v6)+IntKind.wrap .u64 (↑(Nat.land (Int.toNat (v11 % Int.ofNat 18446744073709551616)) (Int.toNat (4294967295 % Int.ofNat 18446744073709551616))):Int));bif v7 then bif v7 then bif v7 then bif v7 then bif v7 then bif v7 then some (IntKind.wrap .u64 (IntKind.wrap .u64 (IntKind.wrap .u64 (v5*v6)+Int.fdiv v11 v4)+Int.fdiv v12 v4),IntKind.wrap .u64 (IntKind.wrap .u64 (v12*v4)+IntKind.wrap IntKind.u64 (↑(Nat.land (Int.toNat (v10 % Int.ofNat 18446744073709551616)) (Int.toNat (4294967295 % Int.ofNat 18446744073709551616))):Int))) else none else none else none else none else none else none
def eH (x0:Int) (x1:Int):Option (Int×Int):=zz lpK jnK x0 x1
abbrev Lv:=(Int)->(Int)->Option (Int×Int)
def zJ (lp:Lp) (_:Jn) (bQ:DF) (bJ:H7) (x0:Int×Int) (x1:Int×Int):Option ((Int×Int)×(Int×Int)×Unit) :=
 
 let v4:Bool:=nzB x1.2;
 let v5:Int:=2 ^ 63;
 let v6:Int:=2 ^ 1;
 let v7:Bool:=decide (x0.1=0);
 let v8:Bool:=decide ((0:Int)<=63);
 let v9:Bool:=decide ((0:Int)<=1);
 let v10:Bool:=!v7||v7;bif v10 then bif v10 then bif v10 then bif bif v7 then decide (x1.1=0) else false then bif v4 then bif v4 then some ((0,IntKind.wrap IntKind.u64 (Int.tdiv x0.2 x1.2)),(0,Int.tmod x0.2 x1.2),PUnit.unit) else none else none else lp (Int×(Int×Int)×(Int×Int)×(Int×Int)×PUnit) ((Int×Int) × (Int×Int)×PUnit) (fun (again:Int×(Int×Int)×(Int×Int)×(Int×Int)×PUnit->Option ((Int×Int)×(Int×Int)×PUnit)) (x:Int×(Int×Int)×(Int×Int)×(Int × Int)×PUnit) =>
 let v13:Int:=IntKind.wrap .i64 (x.1+1);
 let v14:Int:=IntKind.wrap .u64 (x.2.2.1.2*v6);
 let v15:Int:=IntKind.wrap .u64 (IntKind.wrap .u64 (x.2.2.1.1*v6)+Int.fdiv x.2.2.1.2 v5);
 let v16:Bool:=decide (Int.fdiv x.2.2.2.1.1 v5>0);
 let v17:Bool:=!v16;
 let v18:Int×Int:=(IntKind.wrap .u64 (IntKind.wrap .u64 (x.2.1.1*v6)+Int.fdiv x.2.1.2 v5),IntKind.wrap .u64 (x.2.1.2*v6));
 let v19:Int×Int:=(IntKind.wrap .u64 (IntKind.wrap .u64 (x.2.2.2.1.1*v6)+Int.fdiv x.2.2.2.1.2 v5),IntKind.wrap .u64 (IntKind.wrap IntKind.u64 (x.2.2.2.1.2*v6)+Int.fdiv x.2.1.1 v5));
 let v20:Bool:=!v17||v17;bif decide (x.1<128) then bif v8 then bif v9 then bif v8 then bif v9 then bif v8 then bif v9 then bif v8 then bif v9 then bif v9 then bif v8 then bif v9 then bif v20&&v20 then af (bif v17 then bQ v19 x1 else some false) fun (t:Bool)=>bif v20 then bif v16||v17 then bif bif v16 then true else !t then af (bJ v19 x1) fun (t:Int×Int)=>again (v13,v18,(v15,IntKind.wrap .u64 (v14+1)),t,PUnit.unit) else again (v13,v18,(v15,v14),v19,PUnit.unit) else none else none else none else none else none else none else none else none else none else none else none else none else none else none else some (x.2.2.1,x.2.2.2.1, PUnit.unit)) (0,x0,(0,0),(0,0),PUnit.unit) else none else none else none
def oG (x0:Int×Int) (x1:Int×Int):Option ((Int×Int)×(Int×Int)×Unit):=zJ lpK jnK bQ bJ x0 x1
abbrev PS:=(Int×Int)->(Int×Int)->Option ((Int×Int)×(Int×Int)×Unit)
def xL (_:Lp) (_:Jn) (dI:IZ) (oG:PS) (x0:Int×Int) (x1:Bool) (x2:Int×Int):Option ((Int×Int)×Int×Unit) :=
 bif decide (x2.1=0)&&(decide (x2.2=0)&&true) then some ((0,0),16,PUnit.unit) else af (dI x0 x2) fun (t:Int×Int)=>af (oG x0 t) fun (t_1:(Int×Int)×(Int×Int)×PUnit) =>
 let v7:Int:=IntKind.wrap .i64 t_1.1.2;
 let v8:Bool:=decide (t_1.1.1>0);
 let v9:Bool:=!v8;
 let v10:Bool:=bif v8 then true else decide (t_1.1.2>1152921504606846976);
 let v11:Bool:=!v9||v9;
 let v12:Bool:=!v10;
 let v13:Bool:=!v12||v12;af (oG x2 t) fun (t:(Int×Int)×(Int×Int)×PUnit) =>
 let v15:Int:=IntKind.wrap .i64 t.1.2;
 let v16:Bool:=bif v10 then true else decide (t.1.1>0);
 let v17:Bool:=!v16;
 let v18:Bool:=!v17||v17;bif v11 then bif v11 then bif v8||v9 then bif v13 then bif v13 then bif v10||v12 then bif v18 then bif v18 then bif v16||v17 then bif bif v16 then true else decide (t.1.2>1152921504606846976) then some ((0,0),5,PUnit.unit) else bif x1 then some ((IntKind.wrap .i64 (0 - v7), v15),0,PUnit.unit) else some ((v7,v15),0,PUnit.unit) else none else none else none else none else none else none else none else none else none
def fR (x0:Int×Int) (x1:Bool) (x2:Int×Int):Option ((Int×Int)×Int×Unit):=xL lpK jnK dI oG x0 x1 x2
abbrev NG:=(Int×Int)->(Bool)->(Int×Int)->Option ((Int×Int)×Int×Unit)
def vB (_:Lp) (_:Jn) (aR:CW) (eH:Lv) (fR:NG) (x0:Int×Int) (x1:Int×Int):Option ((Int×Int)×Int×Unit) :=
 af (aR x0.1) fun (t:Int)=>af (aR x1.1) fun (t_1:Int)=>af (eH t t_1) fun (t:Int×Int)=>af (aR x0.2) fun (t_2:Int)=>af (aR x1.2) fun (t_3:Int)=>af (eH t_2 t_3) fun (t_4:Int×Int)=>af (fR t (!decide (decide (x0.1<0)=decide (x1.1<0))) t_4) fun (t:(Int×Int)×Int×PUnit)=>some (t.1,t.2.1,PUnit.unit)
def gM (x0:Int×Int) (x1:Int×Int):Option ((Int×Int)×Int×Unit):=vB lpK jnK aR eH fR x0 x1
abbrev Na:=(Int×Int)->(Int×Int)->Option ((Int×Int)×Int×Unit)
def zj (_:Lp) (_:Jn) (bQ:DF) (db:JO) (bJ:H7) (aR:CW) (eH:Lv) (fR:NG) (x0:Int×Int) (x1:Int×Int):Option ((Int×Int)×Int×Unit) :=
 
 let v4:Bool:=decide (x0.1<0);af (aR x0.1) fun (t:Int)=>af (aR x1.2) fun (t_1:Int)=>af (eH t t_1) fun (t:Int×Int)=>af (aR x1.1) fun (t_2:Int)=>af (aR x0.2) fun (t_3:Int)=>af (eH t_2 t_3) fun (t_4:Int×Int)=>af (aR x0.2) fun (t_5:Int)=>af (aR x1.2) fun (t_6:Int)=>af (eH t_5 t_6) fun (t_7:Int×Int)=>bif decide (v4=decide (x1.1<0)) then af (db t t_4) fun (t:Int×Int) =>af (fR t v4 t_7) fun (t:(Int×Int)×Int×PUnit)=>some (t.1,t.2.1,PUnit.unit) else af (bQ t t_4) fun (t_8:Bool)=>bif t_8 then af (bJ t_4 t) fun (t:Int×Int)=>af (fR t (decide (x1.1<0)) t_7) fun (t:(Int×Int)×Int×PUnit)=>some (t.1,t.2.1,PUnit.unit) else af (bJ t t_4) fun (t:Int×Int)=>af (fR t v4 t_7) fun (t:(Int×Int)×Int×PUnit)=>some (t.1,t.2.1,PUnit.unit)
def ga (x0:Int×Int) (x1:Int×Int):Option ((Int×Int)×Int×Unit):=zj lpK jnK bQ db bJ aR eH fR x0 x1
abbrev Li:=(Int×Int)->(Int×Int)->Option ((Int×Int)×Int×Unit)
def yL (lp:Lp) (_:Jn) (aM:t24) (gM:Na) (ga:Li) (x0:List Int) (x1:List (Int×Int)):Option ((Int×Int)×Int×Unit) :=
 af (aM 0) fun (t:Int×Int)=>lp (Int×(Int×Int)×(Int×Int)×PUnit) ((Int×Int)×Int×PUnit) (fun (again:Int×(Int×Int)×(Int×Int)×PUnit->Option ((Int×Int)×Int×PUnit)) (x:Int×(Int×Int)×(Int×Int)×PUnit)=>bif decide (x.1<(↑x0.length:Int)) then bif inB x.1 x0.length then af (aM (x0.getD x.1.toNat 0)) fun (t:Int×Int)=>bif inB x.1 x1.length then af (gM t (x1.getD x.1.toNat (0,0))) fun (t:(Int×Int)×Int×PUnit)=>bif !decide (t.2.1=0) then some ((0,0),t.2.1,PUnit.unit) else af (ga x.2.2.1 t.1) fun (t:(Int × Int)×Int×PUnit)=>bif !decide (t.2.1=0) then some ((0,0),t.2.1,PUnit.unit) else again (IntKind.wrap .i64 (x.1+1), x.2.1,t.1,PUnit.unit) else none else none else some (x.2.2.1,0,PUnit.unit)) (0,(0,0),t,PUnit.unit)
def jR (x0:List Int) (x1:List (Int×Int)):Option ((Int×Int)×Int×Unit):=yL lpK jnK aM gM ga x0 x1
abbrev t83:=(List Int)->(List (Int×Int))->Option ((Int×Int)×Int×Unit)
def uV (lp:Lp) (_:Jn) (x0:(List Int)×List ((List Int)×Int×Int)) (x1:Int):Option (List Int) :=
 lp (List Int×Int×PUnit) (List Int) (fun (again:List Int×Int×PUnit->Option (List Int)) (x:List Int×Int×PUnit)=>bif decide (x.2.1<(↑x0.2.length:Int)) then bif inB x.2.1 x0.2.length then bif inB x1 (List.length (x0.2.getD x.2.1.toNat ([],0,0)).1) then bif dK (List.length x.1+(1 : Nat)) 8 then again (x.1++[List.getD (x0.2.getD x.2.1.toNat ([],0,0)).1 x1.toNat 0],IntKind.wrap .i64 (x.2.1 + 1),PUnit.unit) else none else none else none else some x.1) ([],0,PUnit.unit)
def mH (x0:(List Int)×List ((List Int)×Int×Int)) (x1:Int):Option (List Int):=uV lpK jnK x0 x1
abbrev Qo:=((List Int)×List ((List Int)×Int×Int))->(Int)->Option (List Int)
def zD (_:Lp) (_:Jn) (bQ:DF) (aR:CW) (eH:Lv) (x0:Int×Int) (x1:Int×Int):Option Int :=
 
 let v4:Bool:=decide (x0.1<0);
 let v5:Bool:=decide (x0.1>=0);
 let v6:Bool:=!v4||v4;
 let v7:Bool:=!v5||v5;af (aR x0.1) fun (t:Int)=>af (aR x1.2) fun (t_1:Int)=>af (eH t t_1) fun (t:Int×Int)=>af (aR x1.1) fun (t_2:Int)=>af (aR x0.2) fun (t_3:Int)=>af (eH t_2 t_3) fun (t_4:Int×Int)=>bif v6 then bif v6 then bif v6 then bif bif v4 then decide (x1.1>=0) else false then some (-1) else bif v7 then bif v7 then bif v7 then bif bif v5 then decide (x1.1<0) else false then some 1 else bif decide (t.1=t_4.1)&&(decide (t.2=t_4.2)&&true) then some 0 else af (bQ t t_4) fun (t:Bool)=>bif decide (t=v5) then some (-1) else some 1 else none else none else none else none else none else none
def jP (x0:Int×Int) (x1:Int×Int):Option Int:=zD lpK jnK bQ aR eH x0 x1
abbrev Mx:=(Int×Int)->(Int×Int)->Option (Int)
def vK (lp:Lp) (_:Jn) (aM:t24) (jR:t83) (mH:Qo) (jP:Mx) (x0:(List Int)×List ((List Int)×Int×Int)) (x1:List (Int×Int)) (x2:List Int):Option (Bool×Int×Unit) :=
 lp (Bool×Int×PUnit) (Bool×Int×PUnit) (fun (again:Bool×Int×PUnit->Option (Bool×Int×PUnit)) (x:Bool×Int×PUnit) =>
 let v7:Bool:=!x.1;
 let v8:Bool:=v7||x.1;bif decide (x.2.1<(↑x2.length:Int)) then af (mH x0 x.2.1) fun (t:List Int)=>af (jR t x1) fun (t:(Int×Int) × Int×PUnit)=>bif !decide (t.2.1=0) then some (false,t.2.1,PUnit.unit) else bif v8&&(v8&&(v7||inB x.2.1 x2.length)) then bif v8 then bif v8 then af (bif x.1 then aM (x2.getD x.2.1.toNat 0) else some (0,0)) fun (t_1:Int×Int)=>bif v8&&v8 then af (bif x.1 then jP t.1 t_1 else some 0) fun (t:Int)=>bif v8 then bif v8 then again (bif x.1 then decide (t<=0) else false,IntKind.wrap .i64 (x.2.1+(1 : Int)),PUnit.unit) else none else none else none else none else none else none else some (x.1,0,PUnit.unit)) (true,0,PUnit.unit)
def nv (x0:(List Int)×List ((List Int)×Int×Int)) (x1:List (Int×Int)) (x2:List Int):Option (Bool×Int×Unit):=vK lpK jnK aM jR mH jP x0 x1 x2
abbrev t82:=((List Int)×List ((List Int)×Int×Int))->(List (Int×Int))->(List Int)->Option (Bool×Int×Unit)
def vp (lp:Lp) (_:Jn) (x0:(List Int)×List ((List Int)×Int×Int)):Option (List Int) :=
 lp (List Int×Int×PUnit) (List Int) (fun (again:List Int×Int×PUnit->Option (List Int)) (x:List Int×Int×PUnit)=>bif decide (x.2.1<(↑x0.2.length:Int)) then bif inB x.2.1 x0.2.length then bif dK (List.length x.1+1) 8 then again (x.1++[(x0.2.getD x.2.1.toNat ([],0,(0 : Int))).2.2],IntKind.wrap .i64 (x.2.1+1),PUnit.unit) else none else none else some x.1) ([],0,PUnit.unit)
def mi (x0:(List Int)×List ((List Int)×Int×Int)):Option (List Int):=vp lpK jnK x0
abbrev t84:=((List Int)×List ((List Int)×Int×Int))->Option (List Int)
def xQ (_:Lp) (_:Jn) (aM:t24) (jP:Mx) (x0:Int×Int):Option Int :=
 af (aM 0) fun (t:Int×Int)=>af (jP x0 t) fun (t:Int)=>some t
def gz (x0:Int×Int):Option Int:=xQ lpK jnK aM jP x0
abbrev t85:=(Int×Int)->Option (Int)
def uI (lp:Lp) (_:Jn) (gz:t85) (x0:(List Int)×List ((List Int)×Int×Int)) (x1:List (Int×Int)):Option Bool :=
 lp (Int×PUnit) Bool (fun (again:Int×PUnit->Option Bool) (x:Int×PUnit) =>
 let v6:Bool:=inB x.1 x1.length;
 let v7:Bool:=inB x.1 x0.2.length;
 let v8:Bool:=decide ((x0.2.getD x.1.toNat ([],0,0)).2.1=1);
 let v9:Bool:=decide ((x0.2.getD x.1.toNat ([],0,0)).2.1=2);
 let v10:Bool:=!v8;
 let v11:Bool:=v10||v8;bif decide (x.1<(↑x1.length:Int)) then bif v7 then bif v11&&(v11&&(v10||v6)) then bif v11 then bif v11 then af (bif v8 then gz (x1.getD x.1.toNat (0,0)) else some 0) fun (t:Int) =>
 let v13:Bool:=bif v8 then decide (t>0) else false;
 let v14:Bool:=!v13;
 let v15:Bool:=!v14;
 let v16:Bool:=v14&&v9;
 let v17:Bool:=!v16;
 let v18:Bool:=v15||v14;
 let v19:Bool:=v17||v16;bif v11 then bif v11 then bif v18 then bif v18&&(v18&&(v15||v7)) then bif v18 then bif v18 then bif v18 then bif v18 then bif v19&&(v19&&(v17 || v6)) then bif v19 then bif v19 then af (bif v16 then gz (x1.getD x.1.toNat (0,0)) else some 0) fun (t:Int)=>bif v19 then bif (v15 || v18)&&(v15||(!v9||(v15||v16))) then bif v13||v14 then bif bif v13 then true else bif v9 then decide (t<0) else false then some false else again (IntKind.wrap IntKind.i64 (x.1+1),PUnit.unit) else none else none else none else none else none else none else none else none else none else none else none else none else none else none else none else none else none else none else some true) (0,PUnit.unit)
def mO (x0:(List Int)×List ((List Int)×Int×Int)) (x1:List (Int×Int)):Option Bool:=uI lpK jnK gz x0 x1
abbrev t86:=((List Int)×List ((List Int)×Int×Int))->(List (Int×Int))->Option (Bool)
def tg (_:Lp) (_:Jn) (jR:t83) (nv:t82) (mi:t84) (gz:t85) (mO:t86) (x0:(List Int)×List ((List Int)×Int×Int)) (x1:List (Int×Int)):Option (Bool×Int×Unit) :=
 bif decide (0<=(↑x0.1.length:Int))&&dK (Int.toNat (↑x0.1.length:Int)) 8 then af (nv x0 x1 (List.replicate (Int.toNat (↑x0.1.length:Int)) 0)) fun (t:Bool×Int×PUnit) =>
 let v5:Bool:=!t.1||t.1;bif !decide (t.2.1=0) then some (false,t.2.1,PUnit.unit) else af (mi x0) fun (t_1:List Int)=>af (jR t_1 x1) fun (t_2:(Int×Int)×Int×PUnit)=>bif !decide (t_2.2.1=0) then some (false,t_2.2.1,PUnit.unit) else bif v5 then af (bif t.1 then gz t_2.1 else some 0) fun (t_3:Int) =>
 let v9:Bool:=bif t.1 then decide (t_3>0) else false;
 let v10:Bool:=!v9||v9;bif v5 then bif v5 then bif v10&&v10 then af (bif v9 then mO x0 x1 else some false) fun (t:Bool)=>bif v10 then some (bif v9 then t else false,0,PUnit.unit) else none else none else none else none else none else none
def kZ (x0:(List Int)×List ((List Int)×Int×Int)) (x1:List (Int×Int)):Option (Bool×Int×Unit):=tg lpK jnK jR nv mi gz mO x0 x1
abbrev t47:=((List Int)×List ((List Int)×Int×Int))->(List (Int×Int))->Option (Bool×Int×Unit)
def vA (_:Lp) (_:Jn) (aX:t14) (dv:t70) (x0:(List (ByteArray×Int))×List (ByteArray×(List (ByteArray×Int×Int×Int))×Bool)) (x1:List (Int×Int)):Option Int :=
 af (aX x0) fun (t:Bool) =>
 let v5:Bool:=!t;
 let v6:Bool:=!v5;
 let v7:Bool:=!v6||v6;bif v7 then af (bif v6 then dv x1 else some false) fun (t:Bool)=>bif v7 then bif v5||v6 then bif bif v5 then true else !t then some 1 else bif !decide ((↑x1.length:Int)=(↑x0.2.length:Int)) then some 3 else some 0 else none else none else none
def nV (x0:(List (ByteArray×Int))×List (ByteArray×(List (ByteArray×Int×Int×Int))×Bool)) (x1:List (Int×Int)):Option Int:=vA lpK jnK aX dv x0 x1
abbrev QZ:=((List (ByteArray×Int))×List (ByteArray×(List (ByteArray×Int×Int×Int))×Bool))->(List (Int×Int))->Option (Int)
def AA (lp:Lp) (_:Jn) (aM:t24) (gM:Na) (ga:Li) (x0:List Int) (x1:List (Int×Int)):Option ((Int×Int)×Int×Unit) :=
 af (aM 0) fun (t:Int×Int)=>lp (Int×(Int×Int)×(Int×Int)×PUnit) ((Int×Int)×Int×PUnit) (fun (again:Int×(Int×Int)×(Int×Int)×PUnit->Option ((Int×Int)×Int×PUnit)) (x:Int×(Int×Int)×(Int×Int)×PUnit)=>bif decide (x.1<(↑x1.length:Int)) then bif inB x.1 x0.length then af (aM (x0.getD x.1.toNat 0)) fun (t:Int×Int)=>bif inB x.1 x1.length then af (gM t (x1.getD x.1.toNat (0,0))) fun (t:(Int×Int)×Int×PUnit)=>bif !decide (t.2.1=0) then some ((0,0),t.2.1,PUnit.unit) else af (ga x.2.2.1 t.1) fun (t:(Int × Int)×Int×PUnit)=>bif !decide (t.2.1=0) then some ((0,0),t.2.1,PUnit.unit) else again (IntKind.wrap .i64 (x.1+1), x.2.1,t.1,PUnit.unit) else none else none else some (x.2.2.1,0,PUnit.unit)) (0,(0,0),t,PUnit.unit)
def sj (x0:List Int) (x1:List (Int×Int)):Option ((Int×Int)×Int×Unit):=AA lpK jnK aM gM ga x0 x1
abbrev OX:=(List Int)->(List (Int×Int))->Option ((Int×Int)×Int×Unit)
def zG (_:Lp) (_:Jn) (x0:Int×Int):Option (Int×Int) :=
 some (IntKind.wrap .i64 (0 - x0.1),x0.2)
def rV (x0:Int×Int):Option (Int×Int):=zG lpK jnK x0
abbrev QJ:=(Int×Int)->Option (Int×Int)
def Ab (_:Lp) (_:Jn) (ga:Li) (rV:QJ) (x0:Int×Int) (x1:Int×Int):Option ((Int×Int)×Int×Unit) :=
 af (rV x1) fun (t:Int×Int)=>af (ga x0 t) fun (t:(Int×Int)×Int×PUnit)=>some (t.1,t.2.1,PUnit.unit)
def rL (x0:Int×Int) (x1:Int×Int):Option ((Int×Int)×Int×Unit):=Ab lpK jnK ga rV x0 x1
abbrev OY:=(Int×Int)->(Int×Int)->Option ((Int×Int)×Int×Unit)
def qY (lp:Lp) (_:Jn) (aM:t24) (gj:t81) (nV:QZ) (sj:OX) (rL:OY) (x0:(List (ByteArray×Int))×List (ByteArray×(List (ByteArray×Int×Int×Int))×Bool)) (x1:List (Int×Int)):Option ((List (Int×Int))×Int×Unit) :=
 af (nV x0 x1) fun (t:Int)=>bif !decide (t=0) then some ([],t,PUnit.unit) else af (gj x0) fun (t:List (List Int))=>lp (List (Int×Int)×Int × PUnit) (List (Int×Int)×Int×PUnit) (fun (again:List (Int×Int)×Int×PUnit->Option (List (Int×Int)×Int×PUnit)) (x:List (Int×Int)×Int×PUnit)=>bif decide (x.2.1<(↑x0.1.length:Int)) then bif inB x.2.1 t.length then af (sj (t.getD x.2.1.toNat []) x1) fun (t:(Int×Int)×Int×PUnit) =>bif !decide (t.2.1=0) then some ([],t.2.1,PUnit.unit) else bif inB x.2.1 x0.1.length then af (aM (x0.1.getD x.2.1.toNat ({ data:={ toList:=[] } },0)).2) fun (t_1:Int×Int)=>af (rL t_1 t.1) fun (t:(Int×Int)×Int×PUnit)=>bif !decide (t.2.1=0) then some ([],t.2.1,PUnit.unit) else bif dK (List.length x.1+1) 16 then again (x.1++[t.1],IntKind.wrap .i64 (x.2.1+1),PUnit.unit) else none else none else none else some (x.1,0,PUnit.unit)) ([],0,PUnit.unit)
def jm (x0:(List (ByteArray×Int))×List (ByteArray×(List (ByteArray×Int×Int×Int))×Bool)) (x1:List (Int×Int)):Option ((List (Int×Int))×Int×Unit):=qY lpK jnK aM gj nV sj rL x0 x1
abbrev t87:=((List (ByteArray×Int))×List (ByteArray×(List (ByteArray×Int×Int×Int))×Bool))->(List (Int×Int))->Option ((List (Int×Int))×Int×Unit)
def vE (lp:Lp) (_:Jn) (aM:t24) (jm:t87) (x0:(List (ByteArray×Int))×List (ByteArray×(List (ByteArray×Int×Int×Int))×Bool)) (x1:List (Int×Int)):Option (Bool×Int×Unit) :=
 af (jm x0 x1) fun (t:List (Int×Int)×Int×PUnit)=>bif !decide (t.2.1=0) then some (false,t.2.1,PUnit.unit) else lp (Int×PUnit) (Bool×Int × PUnit) (fun (again:Int×PUnit->Option (Bool×Int×PUnit)) (x:Int×PUnit) =>
 let v7:Int×Int:=t.1.getD x.1.toNat (0,0);bif decide (x.1<(↑t.1.length:Int)) then bif inB x.1 t.1.length then af (aM 0) fun (t:Int×Int)=>bif !(decide (v7.1=t.1)&&(decide (v7.2=t.2)&&true)) then some (false,0,PUnit.unit) else again (IntKind.wrap IntKind.i64 (x.1+1),PUnit.unit) else none else some (true,0,PUnit.unit)) (0,PUnit.unit)
def oe (x0:(List (ByteArray×Int))×List (ByteArray×(List (ByteArray×Int×Int×Int))×Bool)) (x1:List (Int×Int)):Option (Bool×Int×Unit):=vE lpK jnK aM jm x0 x1
abbrev t48:=((List (ByteArray×Int))×List (ByteArray×(List (ByteArray×Int×Int×Int))×Bool))->(List (Int×Int))->Option (Bool×Int×Unit)
def vI (lp:Lp) (jn:Jn) (aX:t14) (fA:t44) (iB:t45) (cB:t31) (da:t46) (kZ:t47) (oe:t48) (x0:(List (ByteArray×Int))×List (ByteArray×(List (ByteArray×Int×Int×Int))×Bool)) (x1:(List (Int×Int))×Bool×List (Int×Int)):Option (Bool×Int×Unit) :=
 af (aX x0) fun (t:Bool)=>bif !t then some (false,1,PUnit.unit) else af (cB x1) fun (t:Int)=>bif !decide (t=0) then some (false,t, PUnit.unit) else af (da x1) fun (t:List (Int×Int))=>jn (Int×PUnit) (Bool×Int×PUnit) (fun (x:Int×PUnit)=>bif !decide ((↑t.length:Int)=x.1) then some (false,3,PUnit.unit) else bif x1.2.1 then af (iB x0) fun (t_1:List Int)=>af (fA x0 t_1) fun (t_2:List Int×List (List Int×Int × Int))=>af (kZ t_2 t) fun (t:Bool×Int×PUnit)=>some (t.1,t.2.1,PUnit.unit) else af (oe x0 t) fun (t_1:Bool×Int×PUnit)=>bif !decide (t_1.2.1=0) then some (false,t_1.2.1,PUnit.unit) else lp (Bool×Int×PUnit) (Bool×Int×PUnit) (fun (again:Bool×Int×PUnit->Option (Bool×Int×PUnit)) (x : Bool×Int×PUnit) =>
 let v11:Bool:=!x.1;
 let v12:Bool:=v11||x.1;bif decide (x.2.1<(↑t.length:Int)) then bif v12&&(v12&&(v11||inB x.2.1 t.length)) then bif v12 then bif v12 then bif v12 then bif v12 then again (bif x.1 then decide ((t.getD x.2.1.toNat (0,0)).1>=0) else false,IntKind.wrap .i64 (x.2.1+1), PUnit.unit) else none else none else none else none else none else some (x.1,0,PUnit.unit)) (t_1.1,0,PUnit.unit)) fun (j:Int×PUnit->Option (Bool×Int × PUnit))=>bif x1.2.1 then j ((↑x0.1.length:Int),PUnit.unit) else j ((↑x0.2.length:Int),PUnit.unit)
def cP (x0:(List (ByteArray×Int))×List (ByteArray×(List (ByteArray×Int×Int×Int))×Bool)) (x1:(List (Int×Int))×Bool×List (Int×Int)):Option (Bool×Int×Unit):=vI lpK jnK aX fA iB cB da kZ oe x0 x1
abbrev t18:=((List (ByteArray×Int))×List (ByteArray×(List (ByteArray×Int×Int×Int))×Bool))->((List (Int×Int))×Bool×List (Int×Int))->Option (Bool×Int×Unit)
def k18 (cP:t18):Ctr:=⟨[T25,T30],[],[],.tup [.bool,i64],fun x _ _=>cP x.1 x.2.1⟩
def ik (_:Lp) (_:Jn) (aV:t13) (aL:t15) (aB:t11) (bb:t12) (aX:t14) (iy:t16) (aK:t17) (cP:t18) (x0:(List (ByteArray×Int))×List (ByteArray×(List (ByteArray×Int×Int×Int))×Bool)):Option Bool :=
 af aB fun (t:Bool)=>bif !t then some false else af (bb x0) fun (t:Bool)=>bif !t then some true else af (aV x0) fun (t:(List (Int×Int) × Bool×List (Int×Int))×Int×PUnit) =>
 let v6:Bool:=decide (t.2.1=1);
 let v7:Bool:=decide (t.2.1=5);
 let v8:Bool:=!decide (t.2.1=0);
 let v9:Bool:=!v8;
 let v10:Bool:=!v6||v6;
 let v11:Bool:=!v7||v7;af (aX x0) fun (t_1:Bool)=>bif !t_1 then bif v10&&v10 then af (bif v6 then aL t.1 ([],false,[]) else some false) fun (t : Bool)=>bif v10 then some (bif v6 then t else false) else none else none else af (iy x0) fun (t_2:Bool)=>bif !t_2 then bif v11&&v11 then af (bif v7 then aL t.1 ([],false,[]) else some false) fun (t:Bool)=>bif v11 then some (bif v7 then t else false) else none else none else bif !v9||v9 then af (bif v9 then aK t.1 else some false) fun (t_3:Bool)=>bif v8||v9 then bif bif v8 then true else t_3 then some false else af (cP x0 t.1) fun (t:Bool×Int×PUnit) =>
 let v16:Bool:=decide (t.2.1=0);
 let v17:Bool:=bif v16 then t.1 else false;
 let v18:Bool:=!v17;bif !v16||v16 then bif !v18||v18 then bif v17||v18 then some (bif v17 then true else decide (t.2.1=5)) else none else none else none else none else none
def oZ (x0:(List (ByteArray×Int))×List (ByteArray×(List (ByteArray×Int×Int×Int))×Bool)):Option Bool:=ik lpK jnK aV aL aB bb aX iy aK cP x0
def c3:Ctr:=⟨[T25],[],[],.one .bool,fun x _ _=>oZ x.1⟩
theorem e3 (lp:Lp) (jn:Jn) (aV:t13) (aL:t15) (aB:t11) (bb:t12) (aX:t14) (iy:t16) (aK:t17) (cP:t18):∀(x:TsS c3.as) (F:TsF c3.fs) (y:TsS c3.cs),ik lp jn aV aL aB bb aX iy aK cP x.1=bf lp jn (cx [(18,k18 cP),(17,k17 aK),(16,⟨[T25],[],[],.one .bool,fun x _ _=>iy x.1⟩),(14,k14 aX),(12,k12 bb),(11,k11 aB),(15,k15 aL),(13,k13 aV)] [(32,r32),(92,r92),(112,aU)]) aj 4 3 f3 c3 x F y:=fun x F y=>by kernel_rfl
def iu (_:Lp) (_:Jn) (aA:t19) (aB:t11) (bb:t12) (aK:t17) (cP:t18) (x0:(List (ByteArray×Int))×List (ByteArray×(List (ByteArray×Int×Int×Int))×Bool)) (x1:(List (Int×Int))×Bool×List (Int×Int)):Option Bool :=
 af aB fun (t:Bool)=>bif !t then some false else af (bb x0) fun (t:Bool) =>
 let v6:Bool:=!t;
 let v7:Bool:=!v6;bif !v7||v7 then af (bif v7 then aK x1 else some false) fun (t:Bool)=>bif v6||v7 then bif bif v6 then true else t then some true else af (aA x0 x1) fun (t:Bool×Int×PUnit)=>af (cP x0 x1) fun (t_1:Bool×Int×PUnit) =>
 let v11:Bool:=decide (t.1=t_1.1);
 let v12:Bool:=!v11||v11;bif v12&&v12 then bif v12 then some (bif v11 then decide (t.2.1=t_1.2.1) else false) else none else none else none else none
def pc (x0:(List (ByteArray×Int))×List (ByteArray×(List (ByteArray×Int×Int×Int))×Bool)) (x1:(List (Int×Int))×Bool×List (Int×Int)):Option Bool:=iu lpK jnK aA aB bb aK cP x0 x1
def c4:Ctr:=⟨[T25,T30],[],[],.one .bool,fun x _ _=>pc x.1 x.2.1⟩
theorem e4 (lp:Lp) (jn:Jn) (aA:t19) (aB:t11) (bb:t12) (aK:t17) (cP:t18):∀(x:TsS c4.as) (F:TsF c4.fs) (y:TsS c4.cs),iu lp jn aA aB bb aK cP x.1 x.2.1=bf lp jn (cx [(18,k18 cP),(17,k17 aK),(12,k12 bb),(11,k11 aB),(19,k19 aA)] [(32,r32),(92,r92),(112,aU)]) aj 4 4 f4 c4 x F y:=fun x F y=>by kernel_rfl
def ib (_:Lp) (_:Jn) (cO:t20) (bV:t21) (aV:t13) (aA:t19) (aB:t11) (bb:t12) (aX:t14) (aK:t17) (x0:(List (ByteArray×Int))×List (ByteArray×(List (ByteArray×Int×Int×Int))×Bool)) (x1:(List (Int×Int))×Bool×List (Int×Int)):Option Bool :=
 af aB fun (t:Bool)=>bif !t then some false else af (bb x0) fun (t:Bool) =>
 let v6:Bool:=!t;
 let v7:Bool:=!v6;
 let v8:Bool:=!v7||v7;bif v8 then af (bif v7 then aX x0 else some false) fun (t:Bool) =>
 let v10:Bool:=bif v6 then true else !t;
 let v11:Bool:=!v10;bif v8 then bif v6||v7 then bif !v11||v11 then af (bif v11 then aK x1 else some false) fun (t:Bool)=>bif v10||v11 then bif bif v10 then true else t then some true else af (aV x0) fun (t:(List (Int×Int)×Bool×List (Int×Int))×Int×PUnit) =>
 let v14:Bool:=!t.1.2.1;
 let v15:Bool:=v14||t.1.2.1;
 let v16:Bool:=v14||v15;bif !decide (t.2.1=0) then some (decide (t.2.1=5)) else af (cO x0) fun (t_1:List (Int×Int)×Int×PUnit) =>
 let v18:Bool:=!decide (t_1.2.1=22);
 let v19:Bool:=!decide (t_1.2.1=0);
 let v20:Bool:=t.1.2.1&&!v18;
 let v21:Bool:=bif v18 then true else !decide ((↑t_1.1.length:Int)=0);
 let v22:Bool:=t.1.2.1&&!v21;
 let v23:Bool:=!v20||v20;af (bV x0) fun (t_2:List (Int×Int)×Int×PUnit) =>
 let v25:Bool:=bif v19 then true else !decide (t_2.2.1=12);
 let v26:Bool:=bif t.1.2.1 then bif v21 then true else !decide (t_2.2.1=0) else false;
 let v27:Bool:=!v26;
 let v28:Bool:=!v27;
 let v29:Bool:=v27&&v14;
 let v30:Bool:=!v29;
 let v31:Bool:=v29&&!v19;
 let v32:Bool:=v29&&!v25;
 let v33:Bool:=v28||v27;
 let v34:Bool:=v30||v29;
 let v35:Bool:=v30||v34;
 let v36:Bool:=!v32||v32;bif v15 then bif v15 then bif v23 then bif v23 then bif v16&&(v14||(v18||(v14||v20))) then bif v15 then bif !v22||v22 then bif v16&&(v14||(v21 || (v14||v22))) then bif v15 then bif v33 then bif v33 then bif v33 then bif v34 then bif v34 then bif !v31||v31 then bif v35&&(v30||(v19||(v30||v31))) then bif v34 then bif v36 then bif v36 then bif v35&&(v30||(v25||(v30||v32))) then bif (v28||v33)&&(v28||(!v14||(v28||v29))) then bif v26||v27 then bif bif v26 then true else bif v14 then bif v25 then true else !decide ((↑t_2.1.length:Int)=0) else false then some false else af (aA x0 t.1) fun (t_3:Bool×Int×PUnit) =>
 let v38:Bool:=!decide (t_3.2.1=5);
 let v39:Bool:=!decide (t_3.2.1=0);
 let v40:Bool:=!v38;
 let v41:Bool:=v40||v38;
 let v42:Bool:=v38&&!v39;bif v41 then bif v41 then bif !v42||v42 then bif (v40||v41)&&(v40||(v39||(v40||v42))) then bif v41 then bif bif v38 then bif v39 then true else !t_3.1 else false then some false else af (aA x0 x1) fun (t_4:Bool×Int×PUnit) =>
 let v44:Bool:=!decide (t_4.2.1=0);
 let v45:Bool:=!v44;
 let v46:Bool:=bif v44 then true else !t_4.1;
 let v47:Bool:=!v46;
 let v48:Bool:=!v47||v47;bif !v45||v45 then bif v44||v45 then bif v48 then bif v48 then bif v48&&v48 then bif v46||v47 then some (bif v46 then true else decide (x1.2.1 = t.1.2.1)) else none else none else none else none else none else none else none else none else none else none else none else none else none else none else none else none else none else none else none else none else none else none else none else none else none else none else none else none else none else none else none else none else none else none else none else none else none else none
def ou (x0:(List (ByteArray×Int))×List (ByteArray×(List (ByteArray×Int×Int×Int))×Bool)) (x1:(List (Int×Int))×Bool×List (Int×Int)):Option Bool:=ib lpK jnK cO bV aV aA aB bb aX aK x0 x1
def c5:Ctr:=⟨[T25,T30],[],[],.one .bool,fun x _ _=>ou x.1 x.2.1⟩
theorem e5 (lp:Lp) (jn:Jn) (cO:t20) (bV:t21) (aV:t13) (aA:t19) (aB:t11) (bb:t12) (aX:t14) (aK:t17):∀(x:TsS c5.as) (F:TsF c5.fs) (y:TsS c5.cs),ib lp jn cO bV aV aA aB bb aX aK x.1 x.2.1=bf lp jn (cx [(17,k17 aK),(14,k14 aX),(12,k12 bb),(11,k11 aB),(19,k19 aA),(13,k13 aV),(21,k21 bV),(20,k20 cO)] [(32,r32),(92,r92),(112,aU)]) aj 4 5 f5 c5 x F y:=fun x F y=>by kernel_rfl
def xh (lp:Lp) (_:Jn) (x0:(List (ByteArray×Int))×List (ByteArray×(List (ByteArray×Int×Int×Int))×Bool)):Option ((List (ByteArray×Int))×List (ByteArray×(List (ByteArray×Int×Int×Int))×Bool)) :=
 
 let v3:List (ByteArray×List (ByteArray×Int×Int×Int)×Bool):=[];bif dK (0+List.length x0.1) 24 then lp (Int×List (ByteArray×Int)×List (ByteArray × List (ByteArray×Int×Int×Int)×Bool)×PUnit) (List (ByteArray×Int)×List (ByteArray×List (ByteArray×Int×Int×Int)×Bool)) (fun (again:Int×List (ByteArray×Int) × List (ByteArray×List (ByteArray×Int×Int×Int)×Bool)×PUnit->Option (List (ByteArray×Int)×List (ByteArray×List (ByteArray×Int×Int×Int)×Bool))) (x:Int×List (ByteArray×Int)×List (ByteArray×List (ByteArray×Int×Int×Int)×Bool)×PUnit) =>
 let v6:ByteArray×List (ByteArray×Int×Int×Int)×Bool:=x0.2.getD x.1.toNat ({ data:={ toList:=[] } },[],false);bif decide (x.1<(↑x0.2.length : Int)) then bif inB x.1 x0.2.length then bif dK (0+List.length v6.2.1) 40 then bif dK (List.length x.2.2.1+1) 48 then again (IntKind.wrap .i64 (x.1+1),x.2.1,x.2.2.1++v6 ::v3,PUnit.unit) else none else none else none else some (x.2.1,x.2.2.1)) (0,x0.1, v3,PUnit.unit) else none
def iR (x0:(List (ByteArray×Int))×List (ByteArray×(List (ByteArray×Int×Int×Int))×Bool)):Option ((List (ByteArray×Int))×List (ByteArray×(List (ByteArray×Int×Int×Int))×Bool)):=xh lpK jnK x0
def jk (lp:Lp) (jn:Jn) (bZ:t23) (aA:t19) (aM:t24) (aB:t11) (bb:t12) (aX:t14) (aK:t17) (iR:((List (ByteArray×Int))×List (ByteArray×(List (ByteArray×Int×Int×Int))×Bool))->Option ((List (ByteArray×Int))×List (ByteArray×(List (ByteArray×Int×Int×Int))×Bool))) (x0:(List (ByteArray×Int))×List (ByteArray×(List (ByteArray×Int×Int×Int))×Bool)) (x1:(List (Int×Int))×Bool×List (Int×Int)):Option Bool :=
 af aB fun (t:Bool)=>bif !t then some false else af (bb x0) fun (t:Bool) =>
 let v6:Bool:=!t;
 let v7:Bool:=!v6;
 let v8:Bool:=!v7||v7;bif v8 then af (bif v7 then aX x0 else some false) fun (t:Bool) =>
 let v10:Bool:=bif v6 then true else !t;
 let v11:Bool:=!v10;bif v8 then bif v6||v7 then bif !v11||v11 then af (bif v11 then aK x1 else some false) fun (t:Bool)=>bif v10||v11 then bif bif v10 then true else t then some true else af (aA x0 x1) fun (t:Bool×Int×PUnit) =>
 let v14:Bool:=!decide (t.2.1=0);
 let v15:Bool:=!v14;bif !v15||v15 then bif v14||v15 then bif bif v14 then true else !t.1 then some true else af (iR x0) fun (t:List (ByteArray×Int)×List (ByteArray×List (ByteArray×Int×Int×Int)×Bool))=>lp (Int×List (ByteArray×Int)×PUnit) Bool (fun (again:Int×List (ByteArray×Int)×PUnit->Option Bool) (x:Int × List (ByteArray×Int)×PUnit) =>
 let v19:Bool:=inB x.1 x.2.1.length;
 let v20:Bool:=Nat.ble (Nat.succ x.1.toNat) x.2.1.length;
 let v21:ByteArray×Int:=x.2.1.getD x.1.toNat ({ data:={ toList:=[] } },0);
 let v22:List (ByteArray×Int)×List (ByteArray×List (ByteArray×Int×Int×Int)×Bool):=(x.2.1,t.2);bif decide (x.1<(↑t.1.length:Int)) then bif v19 then bif v20 then bif v19 then bif v20 then again (IntKind.wrap .i64 (x.1+1),x.2.1.set x.1.toNat (v21.1,IntKind.wrap .i64 (v21.2*(2 : Int))),PUnit.unit) else none else none else none else none else af (aX v22) fun (t:Bool)=>bif !t then some true else jn (List (Int×Int)×Bool×List (Int×Int) × PUnit) Bool (fun (x:List (Int×Int)×Bool×List (Int×Int)×PUnit)=>af (aA v22 (x.1,x.2.1,x.2.2.1)) fun (t:Bool×Int×PUnit) =>
 let v26:Bool:=decide (t.2.1=5);
 let v27:Bool:=decide (t.2.1=0);
 let v28:Bool:=!v26;
 let v29:Bool:=!v28;
 let v30:Bool:=v29||v28;bif v30 then bif v30 then bif (v29||v30)&&(v29||(!v27||(v29||v28&&v27))) then bif v26||v28 then some (bif v26 then true else bif v27 then t.1 else false) else none else none else none else none) fun (j:List (Int×Int)×Bool×List (Int×Int)×PUnit->Option Bool)=>bif !x1.2.1 then lp (Int×List (Int×Int)×Bool × List (Int×Int)×PUnit) Bool (fun (again:Int×List (Int×Int)×Bool×List (Int×Int)×PUnit->Option Bool) (x:Int×List (Int×Int)×Bool×List (Int×Int)×PUnit) =>
 let v27:Bool×List (Int×Int)×PUnit:=(x.2.2.1,x.2.2.2.1,PUnit.unit);bif decide (x.1<(↑x1.1.length:Int)) then bif inB x.1 x1.1.length then af (aM 2) fun (t:Int×Int)=>af (bZ (x1.1.getD x.1.toNat (0,0)) t) fun (t:(Int×Int)×Int×PUnit)=>bif !decide (t.2.1=0) then some (decide (t.2.1=5)) else bif dK (List.length x.2.1+1) 16 then again (IntKind.wrap .i64 (x.1+1), x.2.1++[t.1],v27) else none else none else j (x.2.1,v27)) (0,[],x1.2.1,x1.2.2,PUnit.unit) else none) (0,t.1,PUnit.unit) else none else none else none else none else none else none else none
def pY (x0:(List (ByteArray×Int))×List (ByteArray×(List (ByteArray×Int×Int×Int))×Bool)) (x1:(List (Int×Int))×Bool×List (Int×Int)):Option Bool:=jk lpK jnK bZ aA aM aB bb aX aK iR x0 x1
def c6:Ctr:=⟨[T25,T30],[],[],.one .bool,fun x _ _=>pY x.1 x.2.1⟩
theorem e6 (lp:Lp) (jn:Jn) (bZ:t23) (aA:t19) (aM:t24) (aB:t11) (bb:t12) (aX:t14) (aK:t17) (iR:((List (ByteArray×Int))×List (ByteArray×(List (ByteArray×Int×Int×Int))×Bool))->Option ((List (ByteArray×Int))×List (ByteArray×(List (ByteArray×Int×Int×Int))×Bool))):∀(x:TsS c6.as) (F:TsF c6.fs) (y:TsS c6.cs),jk lp jn bZ aA aM aB bb aX aK iR x.1 x.2.1=bf lp jn (tj vv uo (PZ [(22,⟨[T25],45,T45,(.sl T72),fun x=>iR x.1⟩)] (gl prog shs pf its [(17,k17 aK),(14,k14 aX),(12,k12 bb),(11,k11 aB),(24,k24 aM),(19,k19 aA),(23,k23 bZ)] [(32,r32),(92,r92),(112,aU)]))) aj 4 6 f6 c6 x F y:=fun x F y=>by kernel_rfl
def oc (lp:Lp) (_:Jn) (x0:List Int) (x1:Int) (x2:Int):Option (List Int) :=
 lp (List Int×Int×PUnit) (List Int) (fun (again:List Int×Int×PUnit->Option (List Int)) (x:List Int×Int×PUnit)=>bif decide (x.2.1>=0) then bif decide ((0 : Int)<=IntKind.wrap .i64 (8*x.2.1)) then bif dK (List.length x.1+1) 1 then again (x.1++[IntKind.wrap IntKind.u8 (Int.fdiv x1 (2 ^ min (Int.toNat (IntKind.wrap .i64 (8*x.2.1))) 64))],IntKind.wrap .i64 (x.2.1 - 1),PUnit.unit) else none else none else bif Nat.ble (1 : Nat) x.1.length then some x.1 else none) (x0,IntKind.wrap .i64 (x2 - 1),PUnit.unit)
def dl (x0:List Int) (x1:Int) (x2:Int):Option (List Int):=oc lpK jnK x0 x1 x2
def a65:ACtr:=⟨[i64,i64],5,(.int .u8),fun l x=>dl l x.1 x.2.1⟩
theorem e65 (lp:Lp) (jn:Jn):∀(l:List a65.e.T) (x:TsS a65.as),oc lp jn l x.1 x.2.1=IX lp jn (cx [] [(32,r32),(92,r92),(112,aU)]) aj 4 65 f65 a65 l x:=fun l x=>by kernel_rfl
theorem Pw:a65.ok prog 65:=ACtr.of_den (an (q32)) ax (hl:=aj) (d:=4) func65 rfl (by decide) (e65 lpK jnK)
def oq (lp:Lp) (_:Jn) (x0:List Int):Option Int :=
 lp (Int×Int×PUnit) Int (fun (again:Int×Int×PUnit->Option Int) (x:Int×Int×PUnit)=>bif decide (x.2.1<(↑x0.length:Int)) then bif inB x.2.1 x0.length then again (Int.tmod (IntKind.wrap .i64 (IntKind.wrap .i64 (IntKind.wrap .i64 (31*x.1)+IntKind.wrap .i64 (x0.getD x.2.1.toNat 0))+1)) 4294967296,IntKind.wrap .i64 (x.2.1+1),PUnit.unit) else none else some x.1) (0,0,PUnit.unit)
def eU (x0:List Int):Option Int:=oq lpK jnK x0
abbrev t66:=(List Int)->Option (Int)
def k66 (eU:t66):Ctr:=⟨[(.sl (.int .u8))],[],[],.one i64,fun x _ _=>eU x.1⟩
def c66:Ctr:=k66 eU
theorem e66 (lp:Lp) (jn:Jn):∀(x:TsS c66.as) (F:TsF c66.fs) (y:TsS c66.cs),oq lp jn x.1=bf lp jn (cx [] [(32,r32),(92,r92),(112,aU)]) aj 4 66 f66 c66 x F y:=fun x F y=>by kernel_rfl
theorem Pa:c66.ok prog 66:=Ctr.of_den (an (q32)) ax (hl:=aj) (d:=4) func66 rfl (by decide) (e66 lpK jnK)
def kj (lp:Lp) (jn:Jn) (cB:t31) (da:t46) (eU:t66) (dl:(List Int)->(Int)->(Int)->Option (List Int)) (x0:(List (Int×Int))×Bool×List (Int×Int)):Option ((List Int)×Int×Unit) :=
 af (cB x0) fun (t:Int)=>bif !decide (t=0) then some ([],t,PUnit.unit) else af (da x0) fun (t:List (Int×Int)) =>
 let v5:List Int:=[IntKind.wrap IntKind.u8 (↑t.length:Int)];bif decide ((↑t.length:Int)>20) then some ([],4,PUnit.unit) else jn (List Int × PUnit) (List Int×Int×PUnit) (fun (x:List Int×PUnit)=>lp (List Int×Int×PUnit) (List Int×Int×PUnit) (fun (again:List Int×Int×PUnit->Option (List Int×Int × PUnit)) (x:List Int×Int×PUnit) =>
 let v9:Bool:=inB x.2.1 t.length;
 let v10:Int×Int:=t.getD x.2.1.toNat (0,0);bif decide (x.2.1<(↑t.length:Int)) then bif v9 then af (dl x.1 v10.1 (8 : Int)) fun (t:List Int)=>bif v9 then af (dl t v10.2 8) fun (t:List Int)=>again (t,IntKind.wrap .i64 (x.2.1+1),PUnit.unit) else none else none else af (eU x.1) fun (t:Int)=>af (dl x.1 t 4) fun (t:List Int)=>some (t,0,PUnit.unit)) (x.1,0,PUnit.unit)) fun (j:List Int×PUnit->Option (List Int×Int×PUnit))=>bif x0.2.1 then j (84 ::67 ::1 ::v5,PUnit.unit) else j (84 ::67 ::0 ::v5,PUnit.unit)
def dM (x0:(List (Int×Int))×Bool×List (Int×Int)):Option ((List Int)×Int×Unit):=kj lpK jnK cB da eU dl x0
abbrev t26:=((List (Int×Int))×Bool×List (Int×Int))->Option ((List Int)×Int×Unit)
def c26:Ctr:=⟨[T30],[],[],.tup [(.sl (.int .u8)),i64],fun x _ _=>dM x.1⟩
theorem e26 (lp:Lp) (jn:Jn) (cB:t31) (da:t46) (eU:t66) (dl:(List Int)->(Int)->(Int)->Option (List Int)):∀(x:TsS c26.as) (F:TsF c26.fs) (y:TsS c26.cs),kj lp jn cB da eU dl x.1=bf lp jn (tj vv uo (L2 [(65,⟨[i64,i64],5,(.int .u8),fun l x=>dl l x.1 x.2.1⟩)] (gl prog shs pf its [(66,k66 eU),(46,k46 da),(31,k31 cB)] [(32,r32),(92,r92),(112,aU)]))) aj 4 26 f26 c26 x F y:=fun x F y=>by kernel_rfl
theorem Py:c26.ok prog 26:=Ctr.of_den (an (CH (aa (aa (aa (q32) (by kernel_rfl) Qz) (by kernel_rfl) QG) (by kernel_rfl) Pa) (vT (by kernel_rfl) Pw (Ah)))) ax (hl:=aj) (d:=4) func26 rfl (by decide) (e26 lpK jnK cB da eU dl)
def hO (lp:Lp) (_:Jn) (x0:List Int) (x1:List Int):Option Bool :=
 bif !decide ((↑x0.length:Int)=(↑x1.length:Int)) then some false else lp (Int×PUnit) Bool (fun (again:Int×PUnit->Option Bool) (x:Int×PUnit)=>bif decide (x.1<(↑x0.length:Int)) then bif inB x.1 x0.length then bif inB x.1 x1.length then bif !decide (x0.getD x.1.toNat 0=x1.getD x.1.toNat 0) then some false else again (IntKind.wrap .i64 (x.1+1),PUnit.unit) else none else none else some true) (0,PUnit.unit)
def bW (x0:List Int) (x1:List Int):Option Bool:=hO lpK jnK x0 x1
abbrev t27:=(List Int)->(List Int)->Option (Bool)
def k27 (bW:t27):Ctr:=⟨[(.sl (.int .u8)),(.sl (.int .u8))],[],[],.one .bool,fun x _ _=>bW x.1 x.2.1⟩
def c27:Ctr:=k27 bW
theorem e27 (lp:Lp) (jn:Jn):∀(x:TsS c27.as) (F:TsF c27.fs) (y:TsS c27.cs),hO lp jn x.1 x.2.1=bf lp jn (cx [] [(32,r32),(92,r92),(112,aU)]) aj 4 27 f27 c27 x F y:=fun x F y=>by kernel_rfl
theorem Qy:c27.ok prog 27:=Ctr.of_den (an (q32)) ax (hl:=aj) (d:=4) func27 rfl (by decide) (e27 lpK jnK)
def qI (lp:Lp) (_:Jn) (x0:List (Int×Int)) (x1:List (Int×Int)):Option Bool :=
 bif !decide ((↑x0.length:Int)=(↑x1.length:Int)) then some false else lp (Int×PUnit) Bool (fun (again:Int×PUnit->Option Bool) (x:Int×PUnit)=>bif decide (x.1<(↑x0.length:Int)) then bif inB x.1 x0.length then bif inB x.1 x1.length then bif !(decide ((x0.getD x.1.toNat (0,(0 : Int))).1=(x1.getD x.1.toNat (0,0)).1)&&(decide ((x0.getD x.1.toNat (0,0)).2=(x1.getD x.1.toNat ((0 : Int),0)).2)&&true)) then some false else again (IntKind.wrap .i64 (x.1+1),PUnit.unit) else none else none else some true) (0,PUnit.unit)
def eL (x0:List (Int×Int)) (x1:List (Int×Int)):Option Bool:=qI lpK jnK x0 x1
abbrev t67:=(List (Int×Int))->(List (Int×Int))->Option (Bool)
def k67 (eL:t67):Ctr:=⟨[(.sl T47),(.sl T47)],[],[],.one .bool,fun x _ _=>eL x.1 x.2.1⟩
def c67:Ctr:=k67 eL
theorem e67 (lp:Lp) (jn:Jn):∀(x:TsS c67.as) (F:TsF c67.fs) (y:TsS c67.cs),qI lp jn x.1 x.2.1=bf lp jn (cx [] [(32,r32),(92,r92),(112,aU)]) aj 4 67 f67 c67 x F y:=fun x F y=>by kernel_rfl
theorem Qi:c67.ok prog 67:=Ctr.of_den (an (q32)) ax (hl:=aj) (d:=4) func67 rfl (by decide) (e67 lpK jnK)
def qx (_:Lp) (_:Jn) (eL:t67) (x0:(List (Int×Int))×Bool×List (Int×Int)) (x1:(List (Int×Int))×Bool×List (Int×Int)):Option Bool :=
 
 let v4:Bool:=decide (x0.2.1=x1.2.1);
 let v5:Bool:=!v4||v4;bif v5 then bif v5 then bif v5&&v5 then af (bif v4 then eL x0.1 x1.1 else some false) fun (t:Bool) =>
 let v7:Bool:=bif v4 then t else false;
 let v8:Bool:=!v7||v7;bif v5 then bif v8 then bif v8 then bif v8&&v8 then af (bif v7 then eL x0.2.2 x1.2.2 else some false) fun (t:Bool)=>bif v8 then some (bif v7 then t else false) else none else none else none else none else none else none else none else none
def eJ (x0:(List (Int×Int))×Bool×List (Int×Int)) (x1:(List (Int×Int))×Bool×List (Int×Int)):Option Bool:=qx lpK jnK eL x0 x1
abbrev t28:=((List (Int×Int))×Bool×List (Int×Int))->((List (Int×Int))×Bool×List (Int×Int))->Option (Bool)
def k28 (eJ:t28):Ctr:=⟨[T30,T30],[],[],.one .bool,fun x _ _=>eJ x.1 x.2.1⟩
def c28:Ctr:=k28 eJ
theorem e28 (lp:Lp) (jn:Jn) (eL:t67):∀(x:TsS c28.as) (F:TsF c28.fs) (y:TsS c28.cs),qx lp jn eL x.1 x.2.1=bf lp jn (cx [(67,k67 eL)] [(32,r32),(92,r92),(112,aU)]) aj 4 28 f28 c28 x F y:=fun x F y=>by kernel_rfl
theorem PR:c28.ok prog 28:=Ctr.of_den (an (aa (q32) (by kernel_rfl) Qi)) ax (hl:=aj) (d:=4) func28 rfl (by decide) (e28 lpK jnK eL)
def lk (lp:Lp) (_:Jn) (x0:List Int):Option Int :=
 lp (Int×Int×PUnit) Int (fun (again:Int×Int×PUnit->Option Int) (x:Int×Int×PUnit)=>bif decide (x.2.1<(↑x0.length:Int)) then bif inB x.2.1 x0.length then bif decide ((0:Int)<=8) then again (IntKind.wrap .i64 (↑(Nat.lor (Int.toNat (IntKind.wrap .i64 (x.1*2 ^ 8) % Int.ofNat 18446744073709551616)) (Int.toNat (IntKind.wrap .i64 (x0.getD x.2.1.toNat 0) % Int.ofNat 18446744073709551616))):Int),IntKind.wrap IntKind.i64 (x.2.1+1),PUnit.unit) else none else none else some x.1) (0,0,PUnit.unit)
def dC (x0:List Int):Option Int:=lk lpK jnK x0
abbrev t68:=(List Int)->Option (Int)
def c68:Ctr:=⟨[(.sl (.int .u8))],[],[],.one i64,fun x _ _=>dC x.1⟩
theorem e68 (lp:Lp) (jn:Jn):∀(x:TsS c68.as) (F:TsF c68.fs) (y:TsS c68.cs),lk lp jn x.1=bf lp jn (cx [] [(32,r32),(92,r92),(112,aU)]) aj 4 68 f68 c68 x F y:=fun x F y=>by kernel_rfl
theorem P9:c68.ok prog 68:=Ctr.of_den (an (q32)) ax (hl:=aj) (d:=4) func68 rfl (by decide) (e68 lpK jnK)
def iA (lp:Lp) (_:Jn) (al:t58) (bP:t64) (dC:t68) (x0:List Int):Option (((List (Int×Int))×Bool×List (Int×Int))×Int×Unit) :=
 
 let v3:Bool:=inB 2 x0.length;
 let v4:Bool:=inB 3 x0.length;
 let v5:Int:=IntKind.wrap .i64 ((↑x0.length:Int) - 4);
 let v6:Bool:=!decide (x0.getD 0 0=84);
 let v7:Bool:=!v6;
 let v8:Bool:=!v7;
 let v9:Bool:=bif v6 then true else !decide (x0.getD 1 0=67);
 let v10:Bool:=v8||v7;
 let v11:Bool:=!v9;
 let v12:Bool:=!v11;
 let v13:Bool:=bif v9 then true else decide (x0.getD 2 0>1);
 let v14:Bool:=!v13;
 let v15:Bool:=!v14;
 let v16:Bool:=bif v13 then true else decide (x0.getD 3 0>20);
 let v17:Bool:=v12||v11;
 let v18:Bool:=!v16;
 let v19:Bool:=!v18;
 let v20:Bool:=v15||v14;
 let v21:Bool:=v19||v18;bif decide ((↑x0.length:Int)>1048576) then some (([],false,[]),4,PUnit.unit) else bif decide ((↑x0.length:Int)<(8 : Int)) then some (([],false,[]),8,PUnit.unit) else bif inB 0 x0.length then bif v10&&(v8||inB 1 x0.length) then bif v10 then bif v10 then bif v6||v7 then bif v17&&(v12||v3) then bif v17 then bif v17 then bif v9||v11 then bif v20&&(v15||v4) then bif v20 then bif v20 then bif v13||v14 then bif v21&&(v19 || v4) then bif v21 then bif v21 then bif v21 then bif v21 then bif v21&&v21 then bif v16||v18 then bif bif v16 then true else !decide ((↑x0.length:Int)=IntKind.wrap IntKind.i64 (8+IntKind.wrap .i64 (16*IntKind.wrap .i64 (x0.getD 3 0)))) then some (([],false,[]),7,PUnit.unit) else bif slB v5 (↑x0.length:Int) x0.length then af (dC (List.drop v5.toNat (List.take (Int.toNat (↑x0.length:Int)) x0))) fun (t:Int)=>bif slB 0 v5 x0.length then af (bP (List.drop 0 (List.take v5.toNat x0))) fun (t_1:Int)=>bif !decide (t=t_1) then some (([],false,[]),(18 : Int),PUnit.unit) else lp (List (Int×Int)×Int×(List (Int×Int)×Bool×List (Int×Int))×PUnit) ((List (Int×Int)×Bool×List (Int×Int))×Int×PUnit) (fun (again:List (Int×Int)×Int×(List (Int×Int)×Bool×List (Int×Int))×PUnit->Option ((List (Int×Int)×Bool×List (Int×Int))×Int×PUnit)) (x:List (Int×Int)×Int×(List (Int × Int)×Bool×List (Int×Int))×PUnit) =>
 let v26:Int:=IntKind.wrap .i64 (x.2.1+8);
 let v27:Int:=IntKind.wrap .i64 (x.2.1+16);bif decide (x.2.1<v5) then bif slB x.2.1 v26 x0.length then af (dC (List.drop x.2.1.toNat (List.take v26.toNat x0))) fun (t:Int)=>bif slB v26 v27 x0.length then af (dC (List.drop v26.toNat (List.take v27.toNat x0))) fun (t_2:Int) =>
 let v30:Int×Int:=(t,t_2);af (al v30) fun (t:Bool)=>bif !t then some (([],false,[]),1,PUnit.unit) else bif dK (List.length x.1+1) (16 : Nat) then again (x.1++[v30],v27,x.2.2.1,PUnit.unit) else none else none else none else bif v3 then bif decide (x0.getD 2 0=1) then some (([], true,x.1),0,PUnit.unit) else some ((x.1,false,[]),0,PUnit.unit) else none) ([],4,([],false,[]),PUnit.unit) else none else none else none else none else none else none else none else none else none else none else none else none else none else none else none else none else none else none else none else none else none else none
def cg (x0:List Int):Option (((List (Int×Int))×Bool×List (Int×Int))×Int×Unit):=iA lpK jnK al bP dC x0
abbrev t29:=(List Int)->Option (((List (Int×Int))×Bool×List (Int×Int))×Int×Unit)
def k29 (cg:t29):Ctr:=⟨[(.sl (.int .u8))],[],[],.tup [T30,i64],fun x _ _=>cg x.1⟩
def c29:Ctr:=k29 cg
theorem e29 (lp:Lp) (jn:Jn) (al:t58) (bP:t64) (dC:t68):∀(x:TsS c29.as) (F:TsF c29.fs) (y:TsS c29.cs),iA lp jn al bP dC x.1=bf lp jn (cx [(68,⟨[(.sl (.int .u8))],[],[],.one i64,fun x _ _=>dC x.1⟩),(64,k64 bP),(58,k58 al)] [(32,r32),(92,r92),(112,aU)]) aj 4 29 f29 c29 x F y:=fun x F y=>by kernel_rfl
theorem PG:c29.ok prog 29:=Ctr.of_den (an (aa (aa (aa (q32) (by kernel_rfl) xN) (by kernel_rfl) N0) (by kernel_rfl) P9)) ax (hl:=aj) (d:=4) func29 rfl (by decide) (e29 lpK jnK al bP dC)
def fV (_:Lp) (_:Jn) (aL:t15) (bc:t25) (aB:t11) (aK:t17) (dM:t26) (bW:t27) (eJ:t28) (cg:t29) (x0:(List (Int×Int))×Bool×List (Int×Int)) (x1:(List (Int×Int))×Bool×List (Int×Int)):Option Bool :=
 af aB fun (t:Bool)=>bif !t then some false else af (aK x0) fun (t:Bool) =>
 let v6:Bool:=!t;bif !v6||v6 then af (bif v6 then aK x1 else some false) fun (t_1:Bool)=>bif t||v6 then bif bif t then true else t_1 then some true else af (bc x0) fun (t:List Int×Int×PUnit)=>af (dM x0) fun (t_2:List Int×Int×PUnit) =>
 let v10:Bool:=!decide (t.2.1=t_2.2.1);af (bW t.1 t_2.1) fun (t_3:Bool) =>
 let v12:Bool:=!t_3;
 let v13:Bool:=!v12;
 let v14:Bool:=bif v12 then true else v10;
 let v15:Bool:=!v14;
 let v16:Bool:=!v13||v13;
 let v17:Bool:=!v15||v15;
 let v18:Bool:=v17&&v17;bif v16&&v16 then bif v12||v13 then bif v18 then af (bif v15 then aL x0 x1 else some false) fun (t_4:Bool)=>bif v18 then af (bif v15 then eJ x0 x1 else some false) fun (t_5:Bool)=>bif v18 then bif v14||v15 then bif bif v14 then true else !decide (t_4=t_5) then some false else bif !decide (t.2.1 = 0) then some true else af (cg t.1) fun (t:(List (Int×Int)×Bool×List (Int×Int))×Int×PUnit) =>
 let v22:Bool:=decide (t.2.1=0);
 let v23:Bool:=!v22||v22;bif v23&&v23 then af (bif v22 then aL t.1 x0 else some false) fun (t:Bool)=>bif v23 then some (bif v22 then t else false) else none else none else none else none else none else none else none else none else none else none
def gE (x0:(List (Int×Int))×Bool×List (Int×Int)) (x1:(List (Int×Int))×Bool×List (Int×Int)):Option Bool:=fV lpK jnK aL bc aB aK dM bW eJ cg x0 x1
def c7:Ctr:=⟨[T30,T30],[],[],.one .bool,fun x _ _=>gE x.1 x.2.1⟩
theorem e7 (lp:Lp) (jn:Jn) (aL:t15) (bc:t25) (aB:t11) (aK:t17) (dM:t26) (bW:t27) (eJ:t28) (cg:t29):∀(x:TsS c7.as) (F:TsF c7.fs) (y:TsS c7.cs),fV lp jn aL bc aB aK dM bW eJ cg x.1 x.2.1=bf lp jn (cx [(29,k29 cg),(28,k28 eJ),(27,k27 bW),(26,⟨[T30],[],[],.tup [(.sl (.int .u8)),i64],fun x _ _=>dM x.1⟩),(17,k17 aK),(11,k11 aB),(25,k25 bc),(15,k15 aL)] [(32,r32),(92,r92),(112,aU)]) aj 4 7 f7 c7 x F y:=fun x F y=>by kernel_rfl
theorem ok7:c7.ok prog 7:=Ctr.of_den (an (aa (aa (aa (aa (aa (aa (aa (aa (q32) (by kernel_rfl) Om) (by kernel_rfl) MQ) (by kernel_rfl) Qu) (by kernel_rfl) Qw) (by kernel_rfl) Py) (by kernel_rfl) Qy) (by kernel_rfl) PR) (by kernel_rfl) PG)) ax (hl:=aj) (d:=4) func7 rfl (by decide) (e7 lpK jnK aL bc aB aK dM bW eJ cg)
end
end Go.Proofs.YtegbncajloeepaaGreat

namespace Go.Proofs.YtegbncajloeepaaGreat
open Tryz Dn Dn.Sh
set_option maxRecDepth 100000
end Go.Proofs.YtegbncajloeepaaGreat

namespace Go.Proofs.YtegbncajloeepaaGreat
namespace Dn
section
variable {T R α σ:Type}
theorem au {t:T} {k:T->Option R}:af (some t) k=k t:=rfl
theorem zK {F:(α->Option R)->α->Option R} {g:α->Option R} (I:α->Prop) (μ:α->Nat)
  (h:∀x rec,I x->(∀y,I y->μ y<μ x->rec y=g y)->F rec x=g x):∀{n:Nat} {x:α},I x->μ x<n->kf F n x=g x
 | 0,x,_,hn=>by omega
 | n+1,x,hx,hn=>by
  rw[ku]
  exact h x _ hx fun y hy hlt=>zK I μ h hy (by omega)
theorem ke {F:(α->Option R)->α->Option R} {g:α->Option R} (I:α->Prop) (μ:α->Nat)
  (h:∀x rec,I x->(∀y,I y->μ y<μ x->rec y=g y)->F rec x=g x) {x:α} (hx:I x) (hn:μ x<1180591620717411303424):lpK α R F x=g x:=zK I μ h hx hn
theorem cS {x:Int} (h1: -9223372036854775808<=x) (h2:x<9223372036854775808):IntKind.wrap .i64 x=x:=by
 rw[IntKind.wrap_i64];omega
def upF (b:Nat->σ->(σ->Option R)->Option R) (f:σ->Option R):Nat->Nat->σ->Option R
 | 0,_,s=>f s
 | k+1,i,s=>b i s (upF b f k (i+1))
theorem Fh {F:(α->Option R)->α->Option R} (n:Nat) (hn:n<=1180591620717411303423) (enc:Nat->σ->α) (b:Nat->σ->(σ->Option R)->Option R) (f:σ->Option R)
  (hb:∀again (i:Nat) s,i<n->F again (enc i s)=b i s (fun s'=>again (enc (i+1) s'))) (hf:∀again s,F again (enc n s)=f s) (s:σ) :
  kf F K0 (enc 0 s)=upF b f n 0 s:=by
 have key:∀(k:Nat) (i:Nat) (m:Nat) (s:σ),i+k=n->k<m->kf F m (enc i s)=upF b f k i s:=by
  intro k
  induction k with
  | zero =>
   intro i m s h1 h2
   obtain ⟨m,rfl⟩:∃m',m=m'+1:=⟨m - 1,by omega⟩
   have:i=n:=by omega
   subst this
   simp only[ku,hf,upF]
  | succ k ih =>
   intro i m s h1 h2
   obtain ⟨m,rfl⟩:∃m',m=m'+1:=⟨m - 1,by omega⟩
   simp only[ku,upF]
   rw[hb _ _ _ (by omega)]
   congr 1
   funext s'
   exact ih (i+1) m s' (by omega) (by omega)
 exact key n 0 K0 s (by omega) (by unfold K0;omega)
theorem jz {i n:Nat}:inB (i:Int) n=decide (i<n):=by
 rw[Bool.eq_iff_iff,ic,decide_eq_true_iff];omega
theorem rS {i:Int} {n:Nat} (h1:0<=i) (h2:i<n):inB i n=true:=ic.2 ⟨h1,h2⟩
theorem LI {n:Int} (h:n≠0):nzB n=true:=yA.2 h
theorem tQ {lo hi:Int} {n:Nat} (h1:0<=lo) (h2:lo<=hi) (h3:hi<=n):slB lo hi n=true:=oV.2 ⟨h1,h2,h3⟩
theorem qy {n k:Nat} (h:n*k<=140737488355328):dK n k=true:=iV.2 h
theorem cT0 {α:Sort _} {c:Bool} (h:c=true) (a b:α):cond c a b=a:=by subst h;rfl
theorem cT {α:Sort _} (a b:α):cond true a b=a:=cT0 (Eq.trans rfl rfl) a b
theorem cF0 {α:Sort _} {c:Bool} (h:c=false) (a b:α):cond c a b=b:=by subst h;rfl
theorem cF {α:Sort _} (a b:α):cond false a b=b:=cF0 (Eq.trans rfl rfl) a b
theorem yF {b:Bool}:(b||!b)=true:=by cases b<;>rfl
theorem mo {b:Bool}:(!b||b)=true:=by cases b<;>rfl
theorem Bq {b:Bool} {c:Bool}:(bif b then c else false)=(b&&c):=by cases b<;>rfl
theorem dW {l:List α} {d:α} {i:Nat} (h:i<l.length):l.getD i d=l[i]:=by simp[List.getD,h]
end
end Dn
end Go.Proofs.YtegbncajloeepaaGreat

namespace Go.Proofs.YtegbncajloeepaaGreat
open Tryz Dn Dn.Sh
end Go.Proofs.YtegbncajloeepaaGreat

namespace Go.Proofs.YtegbncajloeepaaGreat
namespace Dn
abbrev Fq:=Int×Int
def okF (a:Fq):Prop:=(1<=a.2/\a.2<=1152921504606846976)/\(-1152921504606846976<=a.1/\a.1<=1152921504606846976)/\Nat.gcd a.1.natAbs a.2.natAbs=1
instance (a:Fq):Decidable (okF a):=by unfold okF;infer_instance
def KG (q:Rat):Prop:=q.num.natAbs<=1152921504606846976/\q.den<=1152921504606846976
instance (q:Rat):Decidable (KG q):=by unfold KG;infer_instance
end Dn
end Go.Proofs.YtegbncajloeepaaGreat

namespace Go.Proofs.YtegbncajloeepaaGreat
open Tryz Dn Dn.Sh
theorem AW {x:Int} (h1:0<=x) (h2:x<18446744073709551616):IntKind.wrap .u64 x=x:=by
 rw[IntKind.wrap_u64];omega
theorem IQ {x:Int} (h1: -9223372036854775808<=x) (h2:x<9223372036854775808):aw x=some (x.natAbs:Int):=by
 simp only[aw,mQ]
 by_cases h:x<0
 ·simp only[h,decide_true,cond_true]
  rw[IntKind.wrap_u64,IntKind.wrap_u64]
  congr 1;omega
 ·simp only[h,decide_false,cond_false]
  rw[AW (by omega) (by omega)]
  congr 1;omega
theorem Mi (m n:Nat) (hn:n<18446744073709551616):aY (m:Int) (n:Int)=some ((Nat.gcd m n:Nat):Int):=by
 simp only[aY,nG]
 refine ke (g:=fun x=>some ((Nat.gcd x.1.toNat x.2.1.toNat:Nat):Int)) (I:=fun (x:Int×Int×PUnit)=>0<=x.1/\0<=x.2.1) (μ:=fun (x:Int×Int×PUnit)=>x.2.1.toNat) (x:=((m:Int),(n:Int),PUnit.unit)) ?_ ⟨Int.natCast_nonneg _,Int.natCast_nonneg _⟩ (by simp only;omega)
 rintro ⟨a,b,_⟩ rec ⟨h1,h2⟩ hrec
 simp only at h1 h2 ⊢
 by_cases hb:b=0
 ·subst hb
  simp only[decide_true,Bool.not_true,cond_false,Int.toNat_zero,Nat.gcd_zero_right]
  congr 1;omega
 ·rw[z8 hb,LI hb,Int.tmod_eq_emod_of_nonneg h1]
  simp only[Bool.not_false,cT]
  have h3:0<=a % b:=Int.emod_nonneg _ hb
  have h4:a % b<b:=Int.emod_lt_of_pos _ (by omega)
  rw[hrec _ ⟨by simp only;omega,by simp only;omega⟩ (by simp only;omega)]
  simp only
  congr 2
  rw[Int.toNat_emod h1 h2,Nat.gcd_comm a.toNat,Nat.gcd_rec b.toNat a.toNat,Nat.gcd_comm]
theorem zE {a:Fq}:al a=some (decide (okF a)):=by
 simp only[al,kW,mo,Bool.and_self,cond_true,Bq]
 unfold okF
 by_cases h1:1<=a.2
 ·by_cases h2:a.2<=1152921504606846976
  ·by_cases h3: -1152921504606846976<=a.1
   ·by_cases h4:a.1<=1152921504606846976
    ·have e:IntKind.wrap .u64 a.2=((a.2.natAbs:Nat):Int):=by rw[AW (by omega) (by omega)];omega
     simp only[ge_iff_le,h1,h2,h3,h4,decide_true,Bool.and_self,cond_true]
     rw[IQ (by omega) (by omega),au,e,Mi _ _ (by omega),au]
     congr 1
     rw[Bool.eq_iff_iff]
     simp only[Bool.true_and,decide_eq_true_eq,true_and]
     generalize Nat.gcd a.1.natAbs a.2.natAbs=g
     omega
    ·simp[au,h4]
   ·simp[au,h3]
  ·simp[au,h2]
 ·simp[au,h1]
def hl (n:Nat):Int×Int:=(((n / 18446744073709551616:Nat):Int),((n % 18446744073709551616:Nat):Int))
theorem ub {n:Nat} (h:n<18446744073709551616):hl n=(0,(n:Int)):=by
 unfold hl
 rw[Nat.div_eq_of_lt h,Nat.mod_eq_of_lt h]
 rfl
theorem Ko {n d:Int} (h:0<=d):Int.fdiv n d=n / d:=Int.fdiv_eq_ediv_of_nonneg n h
theorem tv {n:Nat} (_:n<340282366920938463463374607431768211456):dH (hl n)=some (hl (n / 2)):=by
 simp only[dH,mn,show decide ((0:Int)<=1)=true from rfl,show decide ((0:Int)<=63)=true from rfl,cond_true,show (2:Int) ^ (1:Nat)=2 from rfl,show (2:Int) ^ (63:Nat)=9223372036854775808 from rfl,IntKind.wrap_u64,Ko (show (0:Int)<=2 by omega),hl]
 congr 1
 ext<;>simp only<;>omega
theorem Iz {a b:Nat}:bQ (hl a) (hl b)=some (decide (a<b)):=by
 simp only[bQ,mg]
 have e:decide (a<b)=(bif decide ((hl a).1<(hl b).1) then true else bif decide ((hl a).1=(hl b).1) then decide ((hl a).2<(hl b).2) else false):=by
  by_cases c1:(hl a).1<(hl b).1
  ·simp only[c1,decide_true,cond_true]
   simp only[hl] at c1
   exact z7 (by omega)
  ·by_cases c2:(hl a).1=(hl b).1
   ·rw[z8 c1,z7 c2,cond_true,cond_false]
    have e2:a<b↔(hl a).2<(hl b).2:=by
     simp only[hl] at c1 c2 ⊢
     omega
    rw[Bool.eq_iff_iff,decide_eq_true_iff,decide_eq_true_iff]
    exact e2
   ·simp only[c1,c2,decide_false,cond_false]
    simp only[hl] at c1 c2
    exact z8 (by omega)
 rw[e]
 cases decide ((hl a).1<(hl b).1)<;>cases decide ((hl a).1=(hl b).1)<;>rfl
theorem zu {a b:Nat} (h:b<=a) (ha:a<340282366920938463463374607431768211456):bJ (hl a) (hl b)=some (hl (a - b)):=by
 simp only[bJ,lj]
 by_cases hc:(hl a).2<(hl b).2
 ·rw[z7 hc,cond_true]
  simp only[IntKind.wrap_u64,hl] at hc ⊢
  congr 1
  ext<;>simp only<;>omega
 ·rw[z8 hc,cond_false]
  simp only[IntKind.wrap_u64,hl] at hc ⊢
  congr 1
  ext<;>simp only<;>omega
theorem Kc {m n:Nat} (h:m+n<340282366920938463463374607431768211456):db (hl m) (hl n)=some (hl (m+n)):=by
 simp only[db,mJ]
 by_cases hc:IntKind.wrap .u64 ((hl m).2+(hl n).2)<(hl m).2
 ·rw[z7 hc,cond_true]
  simp only[IntKind.wrap_u64,hl] at hc ⊢
  congr 1
  ext<;>simp only<;>omega
 ·rw[z8 hc,cond_false]
  simp only[IntKind.wrap_u64,hl] at hc ⊢
  congr 1
  ext<;>simp only<;>omega
theorem O6 {x:Int} (h1:0<=x) (h2:x<18446744073709551616):IntKind.wrap .u64 ((Nat.land (Int.toNat (x % Int.ofNat 18446744073709551616)) (Int.toNat ((1:Int) % Int.ofNat 18446744073709551616)):Nat):Int)=x % 2:=by
 have e1:x % Int.ofNat 18446744073709551616=x:=Int.emod_eq_of_lt h1 h2
 have e2:Int.toNat ((1:Int) % Int.ofNat 18446744073709551616)=2 ^ 1 - 1:=by decide
 rw[e1,e2]
 have:Nat.land x.toNat (2 ^ 1 - 1)=x.toNat % 2 ^ 1:=Nat.and_two_pow_sub_one_eq_mod x.toNat 1
 rw[this,IntKind.wrap_u64]
 omega
theorem xT {n:Nat}:decide (IntKind.wrap .u64 ((Nat.land (Int.toNat ((hl n).2 % Int.ofNat 18446744073709551616)) (Int.toNat ((1:Int) % Int.ofNat 18446744073709551616)):Nat):Int)=0)=decide (n % 2=0):=by
 rw[O6 (by simp only[hl];omega) (by simp only[hl];omega)]
 rw[Bool.eq_iff_iff,decide_eq_true_iff,decide_eq_true_iff]
 simp only[hl]
 omega
theorem Cg {n:Nat} (_:n<340282366920938463463374607431768211456):(decide ((hl n).1=0)&&(decide ((hl n).2=0)&&true))=decide (n=0):=by
 rw[Bool.and_true,Bool.eq_iff_iff,z10,decide_eq_true_iff,decide_eq_true_iff,decide_eq_true_iff]
 simp only[hl]
 omega
def zn (p:Int×Int):Nat:=p.1.toNat*18446744073709551616+p.2.toNat
theorem jD {n:Nat}:zn (hl n)=n:=by
 simp only[zn,hl];omega
theorem yW {a b:Nat} (ha:a % 2=0) (h:Nat.gcd a b % 2=1):Nat.gcd (a / 2) b=Nat.gcd a b:=by
 have h2:a / 2∣a:=Nat.div_dvd_of_dvd (Nat.dvd_of_mod_eq_zero ha)
 refine Nat.dvd_antisymm (Nat.dvd_gcd (Nat.dvd_trans (Nat.gcd_dvd_left _ _) h2) (Nat.gcd_dvd_right _ _)) (Nat.dvd_gcd ?_ (Nat.gcd_dvd_right _ _))
 have h3:Nat.gcd a b∣2*(a / 2):=by rw[show 2*(a / 2)=a by omega];exact Nat.gcd_dvd_left _ _
 refine Nat.Coprime.dvd_of_dvd_mul_left ?_ h3
 show Nat.gcd (Nat.gcd a b) 2=1
 rw[Nat.gcd_comm,Nat.gcd_rec,h]
 rfl
theorem oz {a:Nat} (h:2<=a):Nat.log2 (a / 2)+1=Nat.log2 a:=by
 conv=>rhs;rw[Nat.log2_def]
 rw[if_pos h]
theorem oU {a b:Nat} (h:a<=b):Nat.log2 a<=Nat.log2 b:=by
 by_cases ha:a=0
 ·subst ha;simp
 ·have hb:b≠0:=by omega
  rw[Nat.le_log2 hb]
  exact Nat.le_trans ((Nat.le_log2 ha).1 (Nat.le_refl _)) h
theorem HG {a b:Nat} (ha:0<a) (h:2*a<=b):Nat.log2 a+1<=Nat.log2 b:=by
 have h1:=oz (a:=b) (by omega)
 have:=oU (show a<=b / 2 by omega)
 omega
theorem lB {a:Nat} (h:a<340282366920938463463374607431768211456):Nat.log2 a<=127:=by
 by_cases ha:a=0
 ·subst ha;simp
 ·have:Nat.log2 a<128:=(Nat.log2_lt ha).2 h
  omega
theorem LB {A B:Nat} (hA:A<340282366920938463463374607431768211456) (hB0:0<B) (hB:B<340282366920938463463374607431768211456):dI (hl A) (hl B)=some (hl (Nat.gcd A B)):=by
 simp only[dI,nK]
 rw[Cg hA]
 by_cases hA0:A=0
 ·rw[z7 hA0,cond_true,hA0,Nat.gcd_zero_left]
 rw[z8 hA0,cond_false]
 have hG:Nat.gcd A B<=B:=Nat.le_of_dvd hB0 (Nat.gcd_dvd_right A B)
 have hGdef:∃G,G=Nat.gcd A B:=⟨_,rfl⟩
 obtain ⟨G,hGd⟩:=hGdef
 rw[<-hGd]
 refine ke (g:=fun _=>some (hl G)) (I:=fun (x:Int×(Int×Int)×(Int×Int)×PUnit)=>∃t a b:Nat,x=((t:Int),hl a,hl b,⟨⟩)/\0<a/\a<340282366920938463463374607431768211456/\0<b/\b<340282366920938463463374607431768211456/\2 ^ t*Nat.gcd a b=G/\t+Nat.log2 a<=127)
  (μ:=fun (x:Int×(Int×Int)×(Int×Int)×PUnit)=>Nat.log2 (zn x.2.1)) (x:=((0:Int),hl A,hl B,PUnit.unit)) ?_ ⟨0,A,B,rfl,by omega,hA,hB0,hB,by rw[hGd];simp,by have:=lB hA;omega⟩ (by simp only[jD];have:=lB hA;omega)
 rintro _ rec ⟨t,a,b,rfl,a0,a1,b0,b1,hg,ht⟩ hrec
 simp only[xT,mo,cond_true]
 by_cases hev:a % 2=0/\b % 2=0
 ·rw[z7 hev.1,cond_true,z7 hev.2,cond_true,tv a1,au,tv b1,au,cS (by omega) (by omega)]
  have hl2:=oz (a:=a) (by omega)
  refine hrec _ ⟨t+1,a / 2,b / 2,by rfl,by omega,by omega,by omega,by omega,?_,by omega⟩ (by simp only[jD];omega)
  rw[<-hg,Nat.pow_succ,Nat.mul_assoc,<-Nat.gcd_mul_left,show 2*(a / 2)=a by omega,show 2*(b / 2)=b by omega]
 have hodd:Nat.gcd a b % 2=1:=by
  rcases Nat.mod_two_eq_zero_or_one (Nat.gcd a b) with h | h
  ·exfalso
   have h2:=Nat.dvd_of_mod_eq_zero h
   exact hev ⟨Nat.mod_eq_zero_of_dvd (Nat.dvd_trans h2 (Nat.gcd_dvd_left a b)),Nat.mod_eq_zero_of_dvd (Nat.dvd_trans h2 (Nat.gcd_dvd_right a b))⟩
  ·exact h
 have hcond:(bif decide (a % 2=0) then decide (b % 2=0) else false)=false:=by
  rw[Bool.eq_false_iff]
  intro h
  by_cases h2:a % 2=0
  ·rw[z7 h2,cond_true,decide_eq_true_iff] at h
   exact hev ⟨h2,h⟩
  ·rw[z8 h2,cond_false] at h
   cases h
 rw[hcond,cond_false]
 clear hcond hrec
 generalize hgd:Nat.gcd a b=g at *
 refine ke (g:=fun _=>some (hl G)) (I:=fun (x:(Int×Int)×(Int×Int)×PUnit)=>∃a b:Nat,x=(hl a,hl b,⟨⟩)/\a<340282366920938463463374607431768211456/\0<b/\b<340282366920938463463374607431768211456/\Nat.gcd a b=g)
  (μ:=fun (x:(Int×Int)×(Int×Int)×PUnit)=>Nat.log2 (zn x.1)+Nat.log2 (zn x.2.1)+zn x.1 % 2) (x:=(hl a,hl b,PUnit.unit)) ?_ ⟨a,b,rfl,a1,b0,b1,hgd⟩ (by simp only[jD];have:=lB a1;have:=lB b1;omega)
 clear hgd hev a0 a1 b0 b1
 rintro _ rec ⟨a,b,rfl,a1,b0,b1,hgd⟩ hrec
 simp only[Cg a1]
 by_cases ha0:a=0
 ·rw[z7 ha0,Bool.not_true,cond_false]
  have hbg:b=g:=by rw[<-hgd,ha0,Nat.gcd_zero_left]
  refine ke (g:=fun _=>some (hl G)) (I:=fun (x:Int×(Int×Int)×PUnit)=>∃t b:Nat,x=((t:Int),hl b,⟨⟩)/\0<b/\2 ^ t*b=G/\t<=127)
   (μ:=fun (x:Int×(Int×Int)×PUnit)=>x.1.toNat) (x:=((t:Int),hl b,PUnit.unit)) ?_ ⟨t,b,rfl,b0,by rw[hbg];exact hg,by omega⟩ (by simp only;omega)
  rintro _ rec ⟨t,b,rfl,b0,hg,ht⟩ hrec
  simp only
  by_cases ht0:t=0
  ·rw[z8 (by omega),cond_false,<-hg,ht0];simp
  ·rw[z7 (by omega),cond_true]
   obtain ⟨s,rfl⟩:∃s,t=s+1:=⟨t - 1,by omega⟩
   have h2:2 ^ s*(b+b)=G:=by rw[<-hg,Nat.pow_succ,Nat.mul_assoc];congr 1;omega
   have h3:b+b<=G:=by
    rw[<-h2]
    exact Nat.le_mul_of_pos_left _ (Nat.pow_pos (by omega))
   rw[Kc (by omega),au,cS (by omega) (by omega)]
   exact hrec _ ⟨s,b+b,by simp only[Prod.mk.injEq,and_true];omega,by omega,h2,by omega⟩ (by simp only;omega)
 rw[z8 ha0,Bool.not_false,cond_true]
 refine ke (g:=fun _=>some (hl G)) (I:=fun (x:(Int×Int)×PUnit)=>∃c:Nat,x=(hl c,⟨⟩)/\0<c/\c<340282366920938463463374607431768211456/\Nat.gcd c b=g/\(c=a\/2*c<=a))
  (μ:=fun (x:(Int×Int)×PUnit)=>Nat.log2 (zn x.1)) (x:=(hl a,PUnit.unit)) ?_ ⟨a,rfl,by omega,a1,hgd,.inl rfl⟩ (by simp only[jD];have:=lB a1;omega)
 rintro _ rec3 ⟨c,rfl,c0,c1,hgc,hca⟩ hrec3
 simp only[xT]
 by_cases hce:c % 2=0
 ·rw[z7 hce,cond_true,tv c1,au]
  have hl2:=oz (a:=c) (by omega)
  exact hrec3 _ ⟨c / 2,rfl,by omega,by omega,by rw[yW hce (by rw[hgc];exact hodd),hgc],.inr (by omega)⟩ (by simp only[jD];omega)
 rw[z8 hce,cond_false]
 clear hrec3
 refine ke (g:=fun _=>some (hl G)) (I:=fun (x:(Int×Int)×PUnit)=>∃d:Nat,x=(hl d,⟨⟩)/\0<d/\d<=b/\Nat.gcd c d=g)
  (μ:=fun (x:(Int×Int)×PUnit)=>Nat.log2 (zn x.1)) (x:=(hl b,PUnit.unit)) ?_ ⟨b,rfl,b0,Nat.le_refl _,hgc⟩ (by simp only[jD];have:=lB b1;omega)
 rintro _ rec4 ⟨d,rfl,d0,d1,hgd'⟩ hrec4
 simp only[xT]
 by_cases hde:d % 2=0
 ·rw[z7 hde,cond_true,tv (by omega),au]
  have hl2:=oz (a:=d) (by omega)
  exact hrec4 _ ⟨d / 2,rfl,by omega,by omega,by rw[Nat.gcd_comm,yW hde (by rw[Nat.gcd_comm,hgd'];exact hodd),Nat.gcd_comm,hgd']⟩ (by simp only[jD];omega)
 rw[z8 hde,cond_false,Iz,au]
 clear hrec4
 have lb:=oU d1
 have la:Nat.log2 c+1<=Nat.log2 a+a % 2:=by
  rcases hca with rfl | h
  ·omega
  ·have:=HG c0 h;omega
 by_cases hlt:c<d
 ·rw[z7 hlt,cond_true,zu (by omega) (by omega),au]
  have l1:=oU (show d - c<=d by omega)
  exact hrec _ ⟨d - c,c,rfl,by omega,c0,c1,by rw[Nat.gcd_sub_self_left (by omega),Nat.gcd_comm,hgd']⟩ (by simp only[jD];omega)
 ·rw[z8 hlt,cond_false,zu (by omega) (by omega),au]
  have l1:=oU (show c - d<=c by omega)
  exact hrec _ ⟨c - d,d,rfl,by omega,d0,by omega,by rw[Nat.gcd_sub_self_left (by omega),hgd']⟩ (by simp only[jD];omega)
theorem Al {x:Int} (h1: -9223372036854775808<=x) (h2:x<9223372036854775808):aR x=some (x.natAbs:Int):=by
 simp only[aR,my]
 by_cases h:x<0
 ·simp only[h,decide_true,cond_true]
  rw[IntKind.wrap_u64,IntKind.wrap_u64]
  congr 1;omega
 ·simp only[h,decide_false,cond_false]
  rw[AW (by omega) (by omega)]
  congr 1;omega
theorem jnT {α R:Type} (j:α->Option R) (f:(α->Option R)->Option R):jnK α R j f=f j:=Eq.trans rfl rfl
end Go.Proofs.YtegbncajloeepaaGreat

namespace Go.Proofs.YtegbncajloeepaaGreat
namespace Dn
theorem A5 {σ α R:Type} {F:(α->Option R)->α->Option R} (n:Nat) (hn:n<=1180591620717411303423) (enc:Nat->σ->α) (b:Nat->σ->(σ->Option R)->Option R) (f:σ->Option R)
  (hb:∀again (i:Nat) s,i<n->F again (enc i s)=b i s (fun s'=>again (enc (i+1) s'))) (hf:∀again s,F again (enc n s)=f s) (s:σ) :
  lpK α R F (enc 0 s)=upF b f n 0 s:=Fh n hn enc b f hb hf s
def qo {α:Type} (p:α->Bool):List α->Int->Int
 | [],_=> -1
 | a ::l,i=>bif p a then i else qo p l (i+1)
theorem zw {α:Type} {p:α->Bool}:∀{l:List α} {i:Int},0<=i->(qo p l i<0↔∀a ∈ l,p a=false)
 | [],i,h=>by simp[qo]
 | a ::l,i,h=>by
  unfold qo
  cases hp:p a with
  | true=>simp only[cond_true,List.mem_cons,forall_eq_or_imp,hp];simp;omega
  | false=>simp only[cond_false,List.mem_cons,forall_eq_or_imp,hp,true_and];exact zw (by omega)
theorem DC {α:Type} {p:α->Bool} {l:List α} {d:α} {i:Nat} (h:i<l.length):qo p (l.drop i) i=bif p (l.getD i d) then (i:Int) else qo p (l.drop (i+1)) ((i:Int)+1):=by
 rw[List.drop_eq_getElem_cons h,dW h]
 rfl
theorem BE {α:Type} {f:(α×Unit)->Option Bool} {d:α} {p:α->Bool} {l:List α} (hl:l.length<=1000000) (h:∀a,a ∈ l->f (a,())=some (p a)) :
  lpK (Int×PUnit) Int (fun (again:Int×PUnit->Option Int) (x:Int×PUnit)=>bif decide (x.1<(↑(List.length l):Int)) then bif inB x.1 (List.length l) then af (f
   (List.getD l (Int.toNat x.1) d,PUnit.unit)) fun (t:Bool)=>bif t then some x.1 else again
   (IntKind.wrap .i64 (x.1+(1:Int)),PUnit.unit) else none else some (-1:Int)) ((0:Int),PUnit.unit)=some (qo p l 0):=by
 refine ke (g:=fun _=>some (qo p l 0)) (I:=fun (x:Int×PUnit)=>0<=x.1/\x.1<=l.length/\qo p (l.drop x.1.toNat) x.1=qo p l 0) (μ:=fun (x:Int×PUnit)=>((l.length:Int) - x.1).toNat) ?_ ⟨by simp,by simp only;omega,rfl⟩ (by simp only;omega)
 rintro ⟨i,_⟩ rec ⟨h0,h1,h2⟩ hrec
 simp only at h0 h1 h2 ⊢
 by_cases hi:i<l.length
 ·obtain ⟨n,rfl⟩:∃n:Nat,i=n:=⟨i.toNat,by omega⟩
  rw[z7 hi,cond_true,rS h0 hi,cond_true,z9,h _ (by rw[dW (by omega)];exact List.getElem_mem (by omega)),au,cS (by omega) (by omega)]
  rw[z9,DC (d:=d) (by omega)] at h2
  cases hp:p (l.getD n d) with
  | true=>rw[hp,cond_true] at h2;rw[cond_true,h2]
  | false=>rw[hp,cond_false] at h2;rw[cond_false];exact hrec _ ⟨by simp only;omega,by simp only;omega,h2⟩ (by simp only;omega)
 ·rw[z8 hi,cond_false]
  have e:i.toNat=l.length:=by omega
  rw[e,List.drop_length] at h2
  rw[<-h2]
  rfl
theorem yl {R σ:Type} {b:Nat->σ->(σ->Option R)->Option R} {f:σ->Option R} {p:Nat->Bool} {r:Option R} {s:σ} (n:Nat) (hb:∀i (k:σ->Option R),i<n->b i s k=bif p i then k s else r) :
  ∀(k i:Nat),i+k<=n->upF b f k i s=bif (List.range' i k).all p then f s else r
 | 0,i,_=>rfl
 | k+1,i,h=>by
  simp only[upF,hb i _ (by omega),List.range'_succ,List.all_cons]
  cases hp:p i with
  | true=>exact yl n hb k (i+1) (by omega)
  | false=>rfl
end Dn
end Go.Proofs.YtegbncajloeepaaGreat

namespace Go.Proofs.YtegbncajloeepaaGreat
open Tryz Dn Dn.Sh
theorem Lx {n:Nat} (h:n<18446744073709551616):(decide ((hl n).1=0)&&(decide ((hl n).2=1)&&true))=decide (n=1):=by
 rw[ub h]
 simp only[decide_true,Bool.true_and,Bool.and_true]
 rw[Bool.eq_iff_iff,decide_eq_true_eq,decide_eq_true_eq]
 omega
theorem CY {a:Fq}:cA a=some (decide (okF a)):=by
 simp only[cA,lh,mo,yF,cT]
 by_cases h1:a.2<1
 ·rw[z7 h1]
  simp only[cT]
  rw[z8 (by unfold okF;omega)]
 ·rw[z8 h1]
  by_cases h2:a.2>1152921504606846976
  ·rw[z7 h2]
   simp only[cT,cF]
   rw[z8 (by unfold okF;omega)]
  ·rw[z8 h2]
   by_cases h3:a.1< -1152921504606846976
   ·rw[z7 h3]
    simp only[cT,cF]
    rw[z8 (by unfold okF;omega)]
   ·rw[z8 h3]
    by_cases h4:a.1>1152921504606846976
    ·rw[z7 h4]
     simp only[cT,cF]
     rw[z8 (by unfold okF;omega)]
    ·rw[z8 h4]
     simp only[cF]
     have hg:Nat.gcd a.1.natAbs a.2.natAbs<=a.2.natAbs:=Nat.gcd_le_right _ (by omega)
     rw[Al (by omega) (by omega),au,Al (by omega) (by omega),au,<-ub (show a.1.natAbs<18446744073709551616 by omega),<-ub (show a.2.natAbs<18446744073709551616 by omega),LB (by omega) (by omega) (by omega),au,Lx (by generalize Nat.gcd a.1.natAbs a.2.natAbs=g at *;omega)]
     congr 1
     rw[Bool.eq_iff_iff,decide_eq_true_eq,decide_eq_true_eq]
     unfold okF
     generalize Nat.gcd a.1.natAbs a.2.natAbs=g at *
     omega
theorem Cd {l:List Fq} (h:l.length<=1000000):dv l=some (l.all fun a=>decide (okF a)):=by
 simp only[dv,nT]
 refine (A5 (α:=Int×PUnit) (σ:=Unit) l.length (by omega) (fun i _=>((i:Int),PUnit.unit)) (fun i _ K=>bif decide (okF (l.getD i (0,0))) then K () else some false) (fun _=>some true) ?_ ?_ ()).trans ?_
 ·intro again i s hi
  simp only
  rw[z7 (show (i:Int)<l.length by omega),cT,rS (by omega) (by omega),cT,z9,CY,au,cS (by omega) (by omega)]
  cases decide (okF (l.getD i (0,0)))<;>rfl
 ·intro again s
  simp only
  rw[z8 (by omega),cF]
 ·rw[yl (p:=fun i=>decide (okF (l.getD i (0,0)))) (r:=some false) l.length (fun i k hi=>rfl) l.length 0 (by omega)]
  have:((List.range' 0 l.length).all fun i=>decide (okF (l.getD i (0,0))))=l.all fun a=>decide (okF a):=by
   rw[Bool.eq_iff_iff,List.all_eq_true,List.all_eq_true]
   constructor
   ·intro hh a ha
    obtain ⟨i,hi,rfl⟩:=List.mem_iff_getElem.1 ha
    have:=hh i (List.mem_range'.2 ⟨i,hi,by omega⟩)
    rwa [dW hi] at this
   ·intro hh i hi
    obtain ⟨k,hk,rfl⟩:=List.mem_range'.1 hi
    refine hh _ ?_
    rw[dW (by omega)]
    exact List.getElem_mem _
  rw[this]
  cases l.all fun a=>decide (okF a)<;>rfl
end Go.Proofs.YtegbncajloeepaaGreat

namespace Go.Proofs.YtegbncajloeepaaGreat
namespace Dn
def wb {α σ R:Type} (b:α->σ->(σ->Option R)->Option R) (f:σ->Option R):List α->σ->Option R
 | [],s=>f s
 | a ::l,s=>b a s (wb b f l)
theorem Ao {α σ R:Type} (L:List α) (d:α) {b:α->σ->(σ->Option R)->Option R} {c:Nat->σ->(σ->Option R)->Option R} {f:σ->Option R} (h:∀i s k,i<L.length->c i s k=b (L.getD i d) s k) :
  ∀(k i:Nat) (s:σ),i+k=L.length->upF c f k i s=wb b f (L.drop i) s
 | 0,i,s,hi=>by
  rw[List.drop_of_length_le (by omega)]
  rfl
 | k+1,i,s,hi=>by
  rw[List.drop_eq_getElem_cons (show i<L.length by omega)]
  simp only[upF,wb]
  rw[h _ _ _ (by omega),dW (by omega)]
  congr 1
  funext s'
  exact Ao L d h k (i+1) s' (by omega)
theorem Cq {α β σ R:Type} (L:List α) (d:α) (hn:L.length<=1180591620717411303423) {F:(β->Option R)->β->Option R} (enc:Nat->σ->β) (b:α->σ->(σ->Option R)->Option R) (f:σ->Option R)
  (hb:∀again (i:Nat) s,i<L.length->F again (enc i s)=b (L.getD i d) s (fun s'=>again (enc (i+1) s'))) (hf:∀again s,F again (enc L.length s)=f s) (s:σ):lpK β R F (enc 0 s)=wb b f L s :=
 (A5 L.length hn enc (fun i s k=>b (L.getD i d) s k) f hb hf s).trans ((Ao L d (b:=b) (fun _ _ _ _=>rfl) L.length 0 s (by omega)).trans (by rw[List.drop_zero]))
end Dn
end Go.Proofs.YtegbncajloeepaaGreat

namespace Go.Proofs.YtegbncajloeepaaGreat
open Tryz Dn Dn.Sh
abbrev Rw:=List Int×Int×Int
abbrev Pg:=List Int×List Rw
abbrev rw0:Rw:=([],(0:Int),(0:Int))
def inC (n:Int):Bool:=decide (-1048576<=n/\n<=1048576)
def inR (n:Int):Bool:=decide (-1073741824<=n/\n<=1073741824)
theorem JQ {α:Type} {p:α->Bool} {l:List α}:decide (qo p l 0>=0)=l.any p:=by
 have:=zw (p:=p) (l:=l) (i:=0) (by omega)
 rw[Bool.eq_iff_iff,decide_eq_true_iff,List.any_eq_true]
 constructor
 ·intro h1
  by_cases h2:∃a ∈ l,p a=true
  ·exact h2
  ·have:qo p l 0<0:=this.2 fun a ha=>by
    cases e:p a with
    | false=>rfl
    | true=>exact (h2 ⟨a,ha,e⟩).elim
   omega
 ·rintro ⟨a,ha,h3⟩
  by_cases h2:qo p l 0<0
  ·rw[this.1 h2 a ha] at h3;cases h3
  ·omega
theorem Kh {α:Type} {p:α->Bool} {l:List α}:(l.any fun a=>!p a)=!l.all p:=by
 induction l with
 | nil=>rfl
 | cons a l ih=>simp[ih,Bool.not_and]
abbrev Bk:=ByteArray×Int
abbrev Hd:=ByteArray×Int×Int×Int
abbrev Rp:=ByteArray×List Hd×Bool
abbrev Sy:=List Bk×List Rp
abbrev bk0:Bk:=({ data:={ toList:=[] } },(0:Int))
abbrev hd0:Hd:=({ data:={ toList:=[] } },(0:Int),(0:Int),(0:Int))
abbrev rp0:Rp:=({ data:={ toList:=[] } },[],false)
end Go.Proofs.YtegbncajloeepaaGreat

namespace Go.Proofs.YtegbncajloeepaaGreat
namespace Dn
def ab (x:Int):Int:=(x.natAbs:Int)
theorem eh (x:Int):0<=ab x:=by unfold ab;omega
theorem Ly (x y:Int):ab (x+y)<=ab x+ab y:=by unfold ab;omega
theorem NV {x b:Int}:ab x<=b↔ -b<=x/\x<=b:=by unfold ab;omega
theorem rP (x y:Int):ab (x*y)=ab x*ab y:=by
 unfold ab
 rw[Int.natAbs_mul]
 rfl
def sz:Nat->(Nat->Int)->Int
 | 0,_=>0
 | n+1,f=>sz n f+f n
theorem bK:∀{n:Nat} {f g:Nat->Int},(∀i,i<n->f i=g i)->sz n f=sz n g
 | 0,_,_,_=>rfl
 | n+1,f,g,h=>by
  simp only[sz]
  rw[bK (n:=n) fun i hi=>h i (by omega),h n (by omega)]
theorem mf:∀{n:Nat} {f g:Nat->Int},sz n (fun i=>f i+g i)=sz n f+sz n g
 | 0,_,_=>rfl
 | n+1,f,g=>by
  simp only[sz]
  rw[mf]
  omega
theorem fB:∀{n:Nat} {c:Int} {f:Nat->Int},sz n (fun i=>c*f i)=c*sz n f
 | 0,c,_=>by simp[sz]
 | n+1,c,f=>by
  simp only[sz]
  rw[fB,Int.mul_add]
theorem Cv {n:Nat} {c:Int} {f:Nat->Int}:sz n (fun i=>f i*c)=sz n f*c:=by
 rw[Int.mul_comm,<-fB]
 exact bK fun i _=>Int.mul_comm _ _
theorem kT:∀{n:Nat} {f:Nat->Int},(∀i,i<n->f i=0)->sz n f=0
 | 0,_,_=>rfl
 | n+1,f,h=>by
  simp only[sz]
  rw[kT fun i hi=>h i (by omega),h n (by omega)]
  rfl
theorem LQ {n:Nat} {f:Nat->Int}:sz n (fun i=> - f i)= - sz n f:=by
 have:sz n (fun i=> - f i)=sz n (fun i=>(-1)*f i):=bK fun i _=>by omega
 rw[this,fB]
 omega
theorem BS {n:Nat} {f g:Nat->Int}:sz n (fun i=>f i - g i)=sz n f - sz n g:=by
 have:sz n (fun i=>f i - g i)=sz n (fun i=>f i+ - g i):=bK fun i _=>by omega
 rw[this,mf,LQ]
 omega
theorem fC:∀{n:Nat} {f:Nat->Int} {k:Nat},k<n->(∀i,i<n->i≠k->f i=0)->sz n f=f k
 | n+1,f,k,hk,h=>by
  simp only[sz]
  by_cases e:k=n
  ·subst e
   rw[kT fun i hi=>h i (by omega) (by omega)]
   omega
  ·rw[fC (k:=k) (by omega) fun i hi hne=>h i (by omega) hne,h n (by omega) (fun e'=>e e'.symm)]
   omega
theorem BG {n:Nat} {f:Nat->Int} {k l:Nat} (hk:k<n) (hl:l<n) (hkl:k≠l) (h:∀i,i<n->i≠k->i≠l->f i=0):sz n f=f k+f l:=by
 have e:sz n f=sz n (fun i=>(if i=k then f k else 0)+(if i=l then f l else 0)):=bK fun i hi=>by
  by_cases h1:i=k
  ·subst h1;rw[if_pos rfl,if_neg hkl];omega
  ·by_cases h2:i=l
   ·subst h2;rw[if_neg h1,if_pos rfl];omega
   ·rw[if_neg h1,if_neg h2,h i hi h1 h2];rfl
 rw[e,mf,fC hk (f:=fun i=>if i=k then f k else 0) (fun i _ hne=>if_neg hne),fC hl (f:=fun i=>if i=l then f l else 0) (fun i _ hne=>if_neg hne)]
 simp
theorem tA:∀{m n:Nat} {f:Nat->Nat->Int},sz m (fun i=>sz n (fun j=>f i j))=sz n (fun j=>sz m (fun i=>f i j))
 | 0,n,f=>by
  simp only[sz]
  exact (kT fun _ _=>rfl).symm
 | m+1,n,f=>by
  simp only[sz]
  rw[tA,mf]
theorem wi:∀{n:Nat} {f g:Nat->Int},(∀i,i<n->f i<=g i)->sz n f<=sz n g
 | 0,_,_,_=>Int.le_refl _
 | n+1,f,g,h=>by
  simp only[sz]
  have:=wi (n:=n) fun i hi=>h i (by omega)
  have:=h n (by omega)
  omega
theorem jL {n:Nat} {f:Nat->Int} (h:∀i,i<n->0<=f i):0<=sz n f:=by
 have:=wi (n:=n) (f:=fun _=>0) (g:=f) h
 rwa [kT fun _ _=>rfl] at this
theorem Hi:∀{n:Nat} {f:Nat->Int},ab (sz n f)<=sz n (fun i=>ab (f i))
 | 0,_=>by simp[sz,ab]
 | n+1,f=>by
  simp only[sz]
  have:=Hi (n:=n) (f:=f)
  have:=Ly (sz n f) (f n)
  omega
def skip (k j:Nat):Nat:=if j<k then j else j+1
def sgd (k:Nat):Int:=if k % 2=0 then 1 else -1
theorem Fv (k:Nat):sgd (k+1)= - sgd k:=by
 unfold sgd
 split<;>split<;>omega
theorem JV (k:Nat) (x:Int):ab (sgd k*x)=ab x:=by
 unfold sgd ab
 split<;>omega
def jb (A:Nat->Nat->Int) (k:Nat):Nat->Nat->Int:=fun i j=>A (i+1) (skip k j)
def det:Nat->(Nat->Nat->Int)->Int
 | 0,_=>1
 | n+1,A=>sz (n+1) fun k=>sgd k*A 0 k*det n (jb A k)
def bu (A:Nat->Nat->Int) (c:Nat) (v:Nat->Int):Nat->Nat->Int:=fun i j=>if j=c then v i else A i j
theorem gg:∀{n:Nat} {A B:Nat->Nat->Int},(∀i j,i<n->j<n->A i j=B i j)->det n A=det n B
 | 0,_,_,_=>rfl
 | n+1,A,B,h=>by
  simp only[det]
  refine bK fun k hk=>?_
  rw[h 0 k (by omega) hk,gg (A:=jb A k) (B:=jb B k) fun i j hi hj=>h (i+1) (skip k j) (by omega) (by unfold skip;split<;>omega)]
theorem nq {A:Nat->Nat->Int} {k:Nat} {v:Nat->Int}:jb (bu A k v) k=jb A k:=by
 funext i j
 unfold jb bu
 rw[if_neg]
 unfold skip
 split<;>omega
def A4 (k c:Nat):Nat:=if c<k then c else c - 1
theorem kl {A:Nat->Nat->Int} {k c:Nat} {v:Nat->Int} (h:k≠c):jb (bu A c v) k=bu (jb A k) (A4 k c) (fun i=>v (i+1)):=by
 funext i j
 unfold jb bu skip A4
 by_cases h1:j<k<;>by_cases h2:c<k
 ·simp only[h1,h2,if_true]
 ·simp only[h1,h2,if_true,if_false]
  rw[if_neg (by omega),if_neg (by omega)]
 ·simp only[h1,h2,if_true,if_false]
  rw[if_neg (by omega),if_neg (by omega)]
 ·simp only[h1,h2,if_false]
  by_cases h3:j+1=c
  ·rw[if_pos h3,if_pos (by omega)]
  ·rw[if_neg h3,if_neg (by omega)]
theorem kO:∀{n:Nat} {A:Nat->Nat->Int} {c:Nat} {u v:Nat->Int},c<n->det n (bu A c fun i=>u i+v i)=det n (bu A c u)+det n (bu A c v)
 | n+1,A,c,u,v,hc=>by
  simp only[det]
  rw[<-mf]
  refine bK fun k hk=>?_
  by_cases h:k=c
  ·subst h
   simp only[nq]
   have e:∀v:Nat->Int,bu A k v 0 k=v 0:=fun v=>by simp[bu]
   rw[e,e,e,Int.mul_add,Int.add_mul]
  ·have e:∀v:Nat->Int,bu A c v 0 k=A 0 k:=fun v=>by simp[bu,h]
   rw[kl h,kl h,kl h,e,e,e,kO (u:=fun i=>u (i+1)) (v:=fun i=>v (i+1)) (by unfold A4;split<;>omega),Int.mul_add]
theorem lK:∀{n:Nat} {A:Nat->Nat->Int} {c:Nat} {x:Int} {u:Nat->Int},c<n->det n (bu A c fun i=>x*u i)=x*det n (bu A c u)
 | n+1,A,c,x,u,hc=>by
  simp only[det]
  rw[<-fB]
  refine bK fun k hk=>?_
  by_cases h:k=c
  ·subst h
   simp only[nq]
   have e:∀v:Nat->Int,bu A k v 0 k=v 0:=fun v=>by simp[bu]
   rw[e,e]
   simp only[Int.mul_assoc,Int.mul_left_comm]
  ·have e:∀v:Nat->Int,bu A c v 0 k=A 0 k:=fun v=>by simp[bu,h]
   rw[kl h,kl h,e,e,lK (u:=fun i=>u (i+1)) (by unfold A4;split<;>omega)]
   simp only[Int.mul_assoc,Int.mul_left_comm]
theorem Ih {n:Nat} {A:Nat->Nat->Int} {c:Nat} (hc:c<n):det n (bu A c fun _=>0)=0:=by
 have:=lK (n:=n) (A:=A) (x:=0) (u:=fun _=>0) hc
 simpa using this
theorem rE {n:Nat} {A:Nat->Nat->Int} {c:Nat} (hc:c<n):∀{m:Nat} {x:Nat->Int} {u:Nat->Nat->Int},det n (bu A c fun i=>sz m fun l=>x l*u l i)=sz m fun l=>x l*det n (bu A c (u l))
 | 0,x,u=>by simp only[sz];exact Ih hc
 | m+1,x,u=>by
  simp only[sz]
  rw[kO hc,lK hc,rE hc]
theorem xz:∀{n:Nat} {A:Nat->Nat->Int} {c:Nat},c+1<n->(∀i,i<n->A i c=A i (c+1))->det n A=0
 | n+1,A,c,hc,h=>by
  simp only[det]
  rw[BG (k:=c) (l:=c+1) (by omega) hc (by omega) fun k hk h1 h2=>?_]
  ·have e:det n (jb A c)=det n (jb A (c+1)):=by
    refine gg fun i j hi hj=>?_
    unfold jb skip
    by_cases h1:j<c
    ·rw[if_pos h1,if_pos (by omega)]
    ·by_cases h2:j=c
     ·subst h2
      rw[if_neg h1,if_pos (by omega)]
      exact (h (i+1) (by omega)).symm
     ·rw[if_neg h1,if_neg (by omega)]
   rw[e,Fv,h 0 (by omega)]
   simp only[Int.neg_mul]
   omega
  ·have e:det n (jb A k)=0:=by
    refine xz (c:=A4 k c) ?_ fun i hi=>?_
    ·unfold A4;split<;>omega
    ·unfold jb skip A4
     by_cases h3:c<k
     ·simp only[h3,if_true]
      rw[if_pos (by omega)]
      exact h (i+1) (by omega)
     ·simp only[h3,if_false]
      rw[if_neg (by omega),if_neg (by omega),show c - 1+1=c by omega]
      exact h (i+1) (by omega)
   rw[e,Int.mul_zero]
theorem lS (A:Nat->Nat->Int) (c:Nat):bu A c (fun i=>A i c)=A:=by
 funext i j
 unfold bu
 split
 ·rename_i h;rw[h]
 ·rfl
theorem dF {A:Nat->Nat->Int} {c e:Nat} {u v:Nat->Int} (h:c≠e):bu (bu A c u) e v=bu (bu A e v) c u:=by
 funext i j
 unfold bu
 by_cases h1:j=c<;>by_cases h2:j=e
 ·omega
 ·simp[h1,h]
 ·simp[h2,Ne.symm h]
 ·simp[h1,h2]
theorem xd {n:Nat} {A:Nat->Nat->Int} {c:Nat} {u v:Nat->Int} (hc:c+1<n):det n (bu (bu A c u) (c+1) v)= - det n (bu (bu A c v) (c+1) u):=by
 have h0:∀w:Nat->Int,det n (bu (bu A c w) (c+1) w)=0:=fun w=>xz hc fun i _=>by simp[bu]
 have h1:=h0 fun i=>u i+v i
 rw[kO hc,dF (by omega),dF (u:=fun i=>u i+v i) (by omega),kO (by omega),kO (by omega),dF (c:=c+1) (by omega),dF (c:=c+1) (v:=v) (by omega),dF (c:=c+1) (u:=v) (v:=u) (by omega),dF (c:=c+1) (u:=v) (v:=v) (by omega),h0,h0] at h1
 omega
theorem Br:∀{k:Nat} {n:Nat} {A:Nat->Nat->Int} {c:Nat},c+k+1<n->(∀i,i<n->A i c=A i (c+k+1))->det n A=0
 | 0,n,A,c,hc,h=>xz hc h
 | k+1,n,A,c,hc,h=>by
  have e:A=bu (bu A (c+k+1) fun i=>A i (c+k+1)) (c+k+1+1) fun i=>A i (c+k+1+1):=by
   rw[lS,lS]
  rw[e,xd (by omega)]
  have:det n (bu (bu A (c+k+1) fun i=>A i (c+k+1+1)) (c+k+1+1) fun i=>A i (c+k+1))=0:=by
   refine Br (k:=k) (c:=c) (by omega) fun i hi=>?_
   simp only[bu]
   rw[if_neg (by omega),if_neg (by omega),if_neg (by omega)]
   simp only[if_true]
   exact h i hi
  rw[this]
  rfl
theorem jE {n:Nat} {A:Nat->Nat->Int} {a b:Nat} (ha:a<n) (hb:b<n) (hab:a≠b) (h:∀i,i<n->A i a=A i b):det n A=0:=by
 by_cases hlt:a<b
 ·obtain ⟨k,rfl⟩:∃k,b=a+k+1:=⟨b - a - 1,by omega⟩
  exact Br hb h
 ·obtain ⟨k,rfl⟩:∃k,a=b+k+1:=⟨a - b - 1,by omega⟩
  exact Br ha fun i hi=>(h i hi).symm
theorem zl {n:Nat} {A:Nat->Nat->Int} {a b:Nat} {u v:Nat->Int} (ha:a<n) (hb:b<n) (hab:a≠b):det n (bu (bu A a u) b v)= - det n (bu (bu A a v) b u):=by
 have h0:∀w:Nat->Int,det n (bu (bu A a w) b w)=0:=fun w=>jE ha hb hab fun i _=>by simp[bu]
 have h1:=h0 fun i=>u i+v i
 rw[kO hb,dF hab,dF (u:=fun i=>u i+v i) hab,kO ha,kO ha,dF (c:=b) (Ne.symm hab),dF (c:=b) (v:=v) (Ne.symm hab),dF (c:=b) (u:=v) (v:=u) (Ne.symm hab),dF (c:=b) (u:=v) (v:=v) (Ne.symm hab),h0,h0] at h1
 omega
def pz:Nat->(Nat->Int)->Int
 | 0,_=>1
 | n+1,f=>f 0*pz n fun i=>f (i+1)
theorem rM:∀{n:Nat} {f:Nat->Int},(∀i,i<n->0<=f i)->0<=pz n f
 | 0,_,_=>by simp[pz]
 | n+1,f,h=>Int.mul_nonneg (h 0 (by omega)) (rM fun i hi=>h (i+1) (by omega))
theorem EW:∀{n:Nat} {f g:Nat->Int},(∀i,i<n->0<=f i/\f i<=g i)->pz n f<=pz n g
 | 0,_,_,_=>Int.le_refl _
 | n+1,f,g,h=>by
  simp only[pz]
  have h1:=EW (n:=n) (f:=fun i=>f (i+1)) (g:=fun i=>g (i+1)) fun i hi=>h (i+1) (by omega)
  have h2:=h 0 (by omega)
  have h3:=rM (n:=n) (f:=fun i=>f (i+1)) fun i hi=>(h (i+1) (by omega)).1
  exact Int.mul_le_mul h2.2 h1 h3 (Int.le_trans h2.1 h2.2)
theorem Cj:∀{n k:Nat} {f:Nat->Int},k<=n->sz n (fun j=>f (skip k j))+f k=sz (n+1) f
 | 0,k,f,hk=>by
  have:k=0:=by omega
  subst this
  simp[sz]
 | n+1,k,f,hk=>by
  by_cases h:k=n+1
  ·subst h
   have e:=bK (n:=n+1) (f:=fun j=>f (skip (n+1) j)) (g:=f) fun j hj=>by simp[skip,hj]
   rw[e]
   rfl
  ·have:=Cj (n:=n) (k:=k) (f:=f) (by omega)
   simp only[sz] at this ⊢
   have e:f (skip k n)=f (n+1):=by unfold skip;rw[if_neg (by omega)]
   rw[e]
   omega
theorem vX:∀{n:Nat} {A:Nat->Nat->Int},ab (det n A)<=pz n fun i=>sz n fun j=>ab (A i j)
 | 0,A=>by simp[det,pz,ab]
 | n+1,A=>by
  simp only[det,pz]
  refine Int.le_trans Hi ?_
  have hP:0<=pz n fun i=>sz (n+1) fun j=>ab (A (i+1) j):=rM fun i _=>jL fun j _=>eh _
  refine Int.le_trans (wi (g:=fun k=>ab (A 0 k)*pz n fun i=>sz (n+1) fun j=>ab (A (i+1) j)) fun k hk=>?_) (by rw[Cv];exact Int.le_refl _)
  rw[Int.mul_assoc,JV,rP]
  refine Int.mul_le_mul_of_nonneg_left (Int.le_trans vX (EW fun i hi=>⟨jL fun j _=>eh _,?_⟩)) (eh _)
  have:=Cj (n:=n) (k:=k) (f:=fun j=>ab (A (i+1) j)) (by omega)
  have h0:=eh (A (i+1) k)
  simp only[jb]
  omega
def upd (β:Nat->Nat) (r c:Nat):Nat->Nat:=fun k=>if k=r then c else β k
def ep (M:Nat->Nat->Int) (γ:Nat->Nat):Nat->Nat->Int:=fun i k=>M i (γ k)
def dc (m:Nat) (M:Nat->Nat->Int) (γ:Nat->Nat):Int:=det m (ep M γ)
theorem jU (M:Nat->Nat->Int) (β:Nat->Nat) (r c:Nat):ep M (upd β r c)=bu (ep M β) r (fun i=>M i c):=by
 funext i k
 unfold ep upd bu
 split<;>rfl
theorem Jw (β:Nat->Nat) (r c e:Nat):upd (upd β r c) r e=upd β r e:=by
 funext k
 unfold upd
 split<;>rfl
theorem Hp (β:Nat->Nat) (r:Nat):upd β r (β r)=β:=by
 funext k
 unfold upd
 split
 ·rename_i h;rw[h]
 ·rfl
structure Tb (m w:Nat) (M T:Nat->Nat->Int) (d:Int) (β:Nat->Nat):Prop where
 dpos:0<d
 lt:∀i,i<m->β i<w
 co:∀k,k<m->∀j,j<w->d*M k j=sz m fun i=>T i j*M k (β i)
 cr:∃σ:Int,σ*σ=1/\d=σ*dc m M β/\∀i,i<m->∀j,j<w->T i j=σ*dc m M (upd β i j)
section
variable {m w:Nat} {M T:Nat->Nat->Int} {d:Int} {β:Nat->Nat}
theorem xH {i k:Nat} (hi:i<m) (hk:k<m) (h:i≠k):dc m M (upd β i (β k))=0:=by
 refine jE hi hk h fun l _=>?_
 unfold ep upd
 rw[if_pos rfl,if_neg (Ne.symm h)]
theorem Tb.basis (h:Tb m w M T d β) {i:Nat} (hi:i<m):T i (β i)=d:=by
 obtain ⟨σ,_,h2,h3⟩:=h.cr
 rw[h3 i hi _ (h.lt i hi),Hp,<-h2]
theorem Tb.other (h:Tb m w M T d β) {i k:Nat} (hi:i<m) (hk:k<m) (hik:i≠k):T i (β k)=0:=by
 obtain ⟨σ,_,h2,h3⟩:=h.cr
 rw[h3 i hi _ (h.lt k hk),xH hi hk hik,Int.mul_zero]
theorem Tb.inj (h:Tb m w M T d β) {i k:Nat} (hi:i<m) (hk:k<m) (hb:β i=β k):i=k:=by
 by_cases e:i=k
 ·exact e
 ·have h1:=h.other hi hk e
  rw[<-hb,h.basis hi] at h1
  have:=h.dpos
  omega
theorem Ho (h:Tb m w M T d β) {r i c j:Nat} (hr:r<m) (hi:i<m) (hri:r≠i) (hc:c<w) (hj:j<w) :
  d*d*dc m M (upd (upd β r c) i j)=(T r c*T i j - T i c*T r j)*dc m M β:=by
 obtain ⟨B,hB⟩:∃B,B=ep M β:=⟨_,rfl⟩
 have e1:d*d*dc m M (upd (upd β r c) i j)=det m (bu (bu B r fun q=>d*M q c) i fun q=>d*M q j):=by
  have a1:=lK (n:=m) (A:=bu B r fun q=>d*M q c) (c:=i) (x:=d) (u:=fun q=>M q j) hi
  have a2:=lK (n:=m) (A:=bu B i fun q=>M q j) (c:=r) (x:=d) (u:=fun q=>M q c) hr
  unfold dc
  rw[jU,jU,<-hB,a1,dF (u:=fun q=>d*M q c) hri,a2,dF (u:=fun q=>M q c) hri,Int.mul_assoc]
 have e2:det m (bu (bu B r fun q=>d*M q c) i fun q=>d*M q j)=det m (bu (bu B r fun q=>sz m fun k=>T k c*B q k) i fun q=>sz m fun l=>T l j*B q l):=by
  refine gg fun p q hp hq=>?_
  unfold bu
  rw[hB]
  split
  ·exact h.co p hp j hj
  ·split
   ·exact h.co p hp c hc
   ·rfl
 rw[e1,e2,rE hi (x:=fun l=>T l j) (u:=fun l q=>B q l)]
 have e3:∀l,det m (bu (bu B r fun q=>sz m fun k=>T k c*B q k) i fun q=>B q l)=sz m fun k=>T k c*det m (bu (bu B i fun q=>B q l) r fun q=>B q k):=fun l=>by
  rw[dF hri,rE hr (x:=fun k=>T k c) (u:=fun k q=>B q k)]
 have z1:∀k l,k<m->k≠r->k≠i->det m (bu (bu B i fun q=>B q l) r fun q=>B q k)=0:=fun k l hk h1 h2 =>
  jE hr hk h1.symm fun q _=>by simp[bu,h1,h2]
 have z2:∀k l,l<m->l≠r->l≠i->det m (bu (bu B i fun q=>B q l) r fun q=>B q k)=0:=fun k l hl h1 h2 =>
  jE hi hl h2.symm fun q _=>by simp[bu,h1,h2,hri.symm]
 have z3:det m (bu (bu B i fun q=>B q r) r fun q=>B q r)=0:=jE hi hr hri.symm fun q _=>by simp[bu,hri.symm]
 have z4:det m (bu (bu B i fun q=>B q i) r fun q=>B q i)=0:=jE hi hr hri.symm fun q _=>by simp[bu,hri.symm]
 have z5:det m (bu (bu B i fun q=>B q i) r fun q=>B q r)=det m B:=by
  rw[lS,lS]
 have z6:det m (bu (bu B i fun q=>B q r) r fun q=>B q i)= - det m B:=by
  rw[zl hi hr hri.symm,z5]
 have e4:∀l,l<m->(sz m fun k=>T k c*det m (bu (bu B i fun q=>B q l) r fun q=>B q k))=T r c*det m (bu (bu B i fun q=>B q l) r fun q=>B q r)+T i c*det m (bu (bu B i fun q=>B q l) r fun q=>B q i):=fun l _ =>
  BG hr hi hri fun k hk h1 h2=>by rw[z1 k l hk h1 h2,Int.mul_zero]
 rw[bK (g:=fun l=>T l j*(T r c*det m (bu (bu B i fun q=>B q l) r fun q=>B q r)+T i c*det m (bu (bu B i fun q=>B q l) r fun q=>B q i))) fun l hl=>by rw[e3 l,e4 l hl]]
 rw[BG hr hi hri fun l hl h1 h2=>by rw[z2 r l hl h1 h2,z2 i l hl h1 h2];simp]
 rw[z3,z4,z5,z6]
 have:dc m M β=det m B:=by rw[hB];rfl
 rw[this]
 grind
def piv (T:Nat->Nat->Int) (d:Int) (r c i j:Nat):Int:=(T r c*T i j - T i c*T r j) / d
theorem gH (h:Tb m w M T d β) {r i c j:Nat} (hr:r<m) (hi:i<m) (hri:r≠i) (hc:c<w) (hj:j<w):d*piv T d r c i j=T r c*T i j - T i c*T r j:=by
 obtain ⟨σ,h1,h2,_⟩:=h.cr
 have h3:=Ho h hr hi hri hc hj
 have hd:=h.dpos
 have h4:dc m M β=σ*d:=by rw[h2,<-Int.mul_assoc,h1,Int.one_mul]
 rw[h4] at h3
 have h5:d*(d*dc m M (upd (upd β r c) i j))=d*((T r c*T i j - T i c*T r j)*σ):=by
  rw[<-Int.mul_assoc,h3]
  grind
 have h6:=Int.eq_of_mul_eq_mul_left (by omega) h5
 have h7:T r c*T i j - T i c*T r j=d*(σ*dc m M (upd (upd β r c) i j)):=by
  have:(T r c*T i j - T i c*T r j)*σ*σ=d*dc m M (upd (upd β r c) i j)*σ:=by rw[h6]
  rw[Int.mul_assoc,h1,Int.mul_one] at this
  rw[this]
  grind
 unfold piv
 rw[h7,Int.mul_ediv_cancel_left _ (by omega)]
theorem Lo (h:Tb m w M T d β) {σ:Int} (h1:σ*σ=1) (h2:d=σ*dc m M β) {r i c j:Nat} (hr:r<m) (hi:i<m) (hri:r≠i) (hc:c<w) (hj:j<w):piv T d r c i j=σ*dc m M (upd (upd β r c) i j):=by
 have h3:=Ho h hr hi hri hc hj
 have hd:=h.dpos
 have h4:dc m M β=σ*d:=by rw[h2,<-Int.mul_assoc,h1,Int.one_mul]
 have h5:=gH h hr hi hri hc hj
 rw[h4,<-h5] at h3
 have h6:(d*d)*dc m M (upd (upd β r c) i j)=(d*d)*(piv T d r c i j*σ):=by rw[h3];grind
 have h7:=Int.eq_of_mul_eq_mul_left (Int.ne_of_gt (Int.mul_pos hd hd)) h6
 rw[h7]
 grind
def sg (x:Int):Int:=if x<0 then -1 else 1
theorem Bu (x:Int):sg x*sg x=1:=by unfold sg;split<;>rfl
theorem H4 {x:Int} (h:x≠0):0<sg x*x:=by unfold sg;split<;>omega
def pg (T:Nat->Nat->Int) (d:Int) (r c:Nat):Nat->Nat->Int:=fun i j=>sg (T r c)*(if i=r then T r j else piv T d r c i j)
theorem Tb.step (h:Tb m w M T d β) {r c:Nat} (hr:r<m) (hc:c<w) (he:T r c≠0):Tb m w M (pg T d r c) (sg (T r c)*T r c) (upd β r c):=by
 have hd:=h.dpos
 refine ⟨H4 he,fun i hi=>?_,fun k hk j hj=>?_,?_⟩
 ·unfold upd
  split
  ·exact hc
  ·exact h.lt i hi
 ·have h1:∀i,i<m->d*((if i=r then T r j else piv T d r c i j)*M k (upd β r c i))=(T r c*(T i j*M k (β i)) - T r j*(T i c*M k (β i)))+(if i=r then d*(T r j*M k c) else 0):=fun i hi=>by
   unfold upd
   by_cases e:i=r
   ·subst e
    simp only[if_true]
    grind
   ·simp only[e,if_false,Int.add_zero]
    rw[<-Int.mul_assoc,gH h hr hi (Ne.symm e) hc hj]
    grind
  have h2:d*(sz m fun i=>(if i=r then T r j else piv T d r c i j)*M k (upd β r c i))=d*(T r c*M k j):=by
   rw[<-fB,bK h1,mf,BS,fB,fB,<-h.co k hk j hj,<-h.co k hk c hc,fC hr fun i _ hne=>if_neg hne,if_pos rfl]
   grind
  have h3:=Int.eq_of_mul_eq_mul_left (by omega) h2
  have h4:(sz m fun i=>pg T d r c i j*M k (upd β r c i))=sg (T r c)*sz m fun i=>(if i=r then T r j else piv T d r c i j)*M k (upd β r c i):=by
   rw[<-fB]
   exact bK fun i _=>by unfold pg;rw[Int.mul_assoc]
  rw[h4,h3,Int.mul_assoc]
 ·obtain ⟨σ,h1,h2,h3⟩:=h.cr
  refine ⟨sg (T r c)*σ,?_,?_,fun i hi j hj=>?_⟩
  ·have:=Bu (T r c)
   grind
  ·rw[h3 r hr c hc]
   grind
  ·unfold pg
   by_cases e:i=r
   ·subst e
    rw[if_pos rfl,h3 i hi j hj,Jw]
    grind
   ·rw[if_neg e,Lo h h1 h2 hr hi (Ne.symm e) hc hj]
    grind
theorem CF:∀n:Nat,det n (fun i k=>if i=k then 1 else 0)=1
 | 0=>rfl
 | n+1=>by
  simp only[det]
  rw[fC (k:=0) (by omega) fun k _ hk=>by rw[if_neg (Ne.symm hk)];simp]
  have:det n (jb (fun i k=>if i=k then 1 else 0) 0)=det n (fun i k=>if i=k then 1 else 0):=gg fun i j _ _=>by
   unfold jb skip
   simp
  rw[this,CF n]
  simp[sgd]
theorem Tb.first {a:Nat->Nat} (ha:∀i,i<m->a i<w) (hM:∀k,k<m->∀i,i<m->M k (a i)=if k=i then 1 else 0):Tb m w M M 1 a:=by
 have h1:dc m M a=1:=by
  unfold dc
  rw[<-CF m]
  exact gg fun i j hi hj=>hM i hi j hj
 refine ⟨by omega,ha,fun k hk j hj=>?_,1,by omega,by rw[h1];rfl,fun i hi j hj=>?_⟩
 ·rw[fC hk fun i hi hne=>by rw[hM k hk i hi,if_neg (Ne.symm hne),Int.mul_zero],hM k hk k hk,if_pos rfl]
  omega
 ·unfold dc
  rw[jU]
  have e:det m (bu (ep M a) i fun q=>M q j)=det m (bu (ep M a) i fun q=>sz m fun k=>M k j*ep M a q k):=by
   refine gg fun p q hp hq=>?_
   unfold bu
   split
   ·show M p j=sz m fun k=>M k j*ep M a p k
    rw[fC hp fun k hk hne=>by unfold ep;rw[hM p hp k hk,if_neg (Ne.symm hne),Int.mul_zero]]
    unfold ep
    rw[hM p hp p hp,if_pos rfl]
    omega
   ·rfl
  rw[e,rE hi (x:=fun k=>M k j) (u:=fun k q=>ep M a q k),fC hi fun k hk hne=>by
   rw[jE hi hk (Ne.symm hne) fun q _=>by simp[bu,hne],Int.mul_zero],lS]
  have:det m (ep M a)=1:=h1
  rw[this]
  omega
theorem Tb.rows (h:Tb m w M T d β) {a:Nat->Nat} (ha:∀i,i<m->a i<w) (hM:∀k,k<m->∀i,i<m->M k (a i)=if k=i then 1 else 0) {i j:Nat} (hi:i<m) (hj:j<w):T i j=sz m fun k=>T i (a k)*M k j:=by
 obtain ⟨σ,h1,h2,h3⟩:=h.cr
 rw[h3 i hi j hj]
 have e:dc m M (upd β i j)=sz m fun k=>M k j*dc m M (upd β i (a k)):=by
  unfold dc
  rw[jU]
  have e:det m (bu (ep M β) i fun q=>M q j)=det m (bu (ep M β) i fun q=>sz m fun k=>M k j*M q (a k)):=by
   refine gg fun p q hp hq=>?_
   unfold bu
   split
   ·show M p j=sz m fun k=>M k j*M p (a k)
    rw[fC hp fun k hk hne=>by rw[hM p hp k hk,if_neg (Ne.symm hne),Int.mul_zero],hM p hp p hp,if_pos rfl]
    omega
   ·rfl
  rw[e,rE hi (x:=fun k=>M k j) (u:=fun k q=>M q (a k))]
  exact bK fun k _=>by rw[jU]
 rw[e,<-fB]
 exact bK fun k hk=>by rw[h3 i hi _ (ha k hk)];grind
theorem Tb.bound (h:Tb m w M T d β) {i j:Nat} (hi:i<m) (hj:j<w):ab (T i j)=ab (dc m M (upd β i j)):=by
 obtain ⟨σ,h1,_,h3⟩:=h.cr
 rw[h3 i hi j hj,rP]
 have h4:ab σ*ab σ=1:=by rw[<-rP,h1];rfl
 have h5:ab σ=1:=by
  have h6:=eh σ
  by_cases h7:ab σ<=1
  ·have:ab σ≠0:=fun e=>by rw[e] at h4;simp at h4
   omega
  ·exfalso
   have:2*2<=ab σ*ab σ:=Int.mul_le_mul (by omega) (by omega) (by omega) h6
   omega
 rw[h5,Int.one_mul]
end
structure Sx where
 T:Nat->Nat->Int
 d:Int
 β:Nat->Nat
def zr (m:Nat) (wc:Nat->Int) (S:Sx) (j:Nat):Int:=wc j*S.d - sz m fun i=>wc (S.β i)*S.T i j
structure Leaves (m R:Nat) (S:Sx) (c r:Nat):Prop where
 lt:r<m
 pos:0<S.T r c
 le:∀i,i<m->0<S.T i c->S.T r R*S.T i c<=S.T i R*S.T r c
 tie:∀i,i<m->0<S.T i c->S.T r R*S.T i c=S.T i R*S.T r c->S.β r<=S.β i
structure Enters (m N:Nat) (wc:Nat->Int) (S:Sx) (c:Nat):Prop where
 lt:c<N
 neg:zr m wc S c<0
 least:∀j,j<c->0<=zr m wc S j
structure StepAt (m w:Nat) (S S':Sx) (r c:Nat):Prop where
 T:∀i j,i<m->j<w->S'.T i j=if i=r then S.T r j else piv S.T S.d r c i j
 d:S'.d=S.T r c
 β:∀i,i<m->S'.β i=upd S.β r c i
structure Step (m w N R:Nat) (wc:Nat->Int) (S S':Sx) (r c:Nat):Prop where
 enters:Enters m N wc S c
 leaves:Leaves m R S c r
 at':StepAt m w S S' r c
structure Val (m w N R:Nat) (M:Nat->Nat->Int) (S:Sx):Prop where
 tb:Tb m w M S.T S.d S.β
 feas:∀i,i<m->0<=S.T i R
 ne:∀i,i<m->S.β i≠R
section
variable {m w N R:Nat} {M:Nat->Nat->Int} {wc:Nat->Int}
theorem qJ {β β':Nat->Nat} (h:∀i,i<m->β' i=β i):dc m M β'=dc m M β:=gg fun i j _ hj=>by unfold ep;rw[h j hj]
theorem Tb.congr {T T':Nat->Nat->Int} {d:Int} {β β':Nat->Nat} (h:Tb m w M T d β) (hT:∀i j,i<m->j<w->T' i j=T i j) (hβ:∀i,i<m->β' i=β i):Tb m w M T' d β':=by
 refine ⟨h.dpos,fun i hi=>by rw[hβ i hi];exact h.lt i hi,fun k hk j hj=>?_,?_⟩
 ·rw[h.co k hk j hj]
  exact bK fun i hi=>by rw[hT i j hi hj,hβ i hi]
 ·obtain ⟨σ,h1,h2,h3⟩:=h.cr
  refine ⟨σ,h1,by rw[qJ hβ];exact h2,fun i hi j hj=>?_⟩
  rw[hT i j hi hj,h3 i hi j hj]
  congr 1
  exact (qJ fun k hk=>by unfold upd;rw[hβ k hk]).symm
theorem Val.stepAt {S S':Sx} (h:Val m w N R M S) (hR:R<w) {r c:Nat} (hc:c<w) (hcR:c≠R) (hl:Leaves m R S c r) (hs:StepAt m w S S' r c):Val m w N R M S':=by
 have hr:=hl.lt
 have e1:sg (S.T r c)=1:=by unfold sg;rw[if_neg (by have:=hl.pos;omega)]
 have h1:=h.tb.step hr hc (by have:=hl.pos;omega)
 have h2:=h1.congr (T':=S'.T) (β':=S'.β) (fun i j hi hj=>by rw[hs.T i j hi hj];unfold pg;rw[e1,Int.one_mul]) hs.β
 rw[e1,Int.one_mul,<-hs.d] at h2
 refine ⟨h2,fun i hi=>?_,fun i hi=>?_⟩
 ·rw[hs.T i R hi hR]
  split
  ·exact h.feas r hr
  ·rename_i hne
   have h3:=gH h.tb hr hi (Ne.symm hne) hc hR
   have h4:=h.tb.dpos
   have h5:=hl.pos
   have h6:0<=S.T r c*S.T i R - S.T i c*S.T r R:=by
    by_cases h7:0<S.T i c
    ·have:=hl.le i hi h7
     have e1:=Int.mul_comm (S.T r R) (S.T i c)
     have e2:=Int.mul_comm (S.T i R) (S.T r c)
     omega
    ·have h8:0<=S.T r c*S.T i R:=Int.mul_nonneg (by omega) (h.feas i hi)
     have h9:0<= -S.T i c*S.T r R:=Int.mul_nonneg (by omega) (h.feas r hr)
     rw[Int.neg_mul] at h9
     omega
   rw[<-h3] at h6
   exact Int.nonneg_of_mul_nonneg_right h6 h4
 ·rw[hs.β i hi]
  unfold upd
  split
  ·exact hcR
  ·exact h.ne i hi
theorem Ay {S:Sx} (h:Tb m w M S.T S.d S.β) {i:Nat} (hi:i<m):zr m wc S (S.β i)=0:=by
 unfold zr
 rw[fC hi fun k hk hne=>by rw[h.other hk hi hne,Int.mul_zero],h.basis hi]
 omega
theorem Ci {S:Sx} (h:Tb m w M S.T S.d S.β) {a:Nat->Nat} (ha:∀i,i<m->a i<w) (hM:∀k,k<m->∀i,i<m->M k (a i)=if k=i then 1 else 0) {j:Nat} (hj:j<w) :
  zr m wc S j=wc j*S.d - sz m fun k=>(sz m fun i=>wc (S.β i)*S.T i (a k))*M k j:=by
 unfold zr
 congr 1
 rw[bK (g:=fun i=>sz m fun k=>wc (S.β i)*S.T i (a k)*M k j) fun i hi=>by
  rw[h.rows ha hM hi hj,<-fB]
  exact bK fun k _=>by rw[Int.mul_assoc]]
 rw[tA]
 exact bK fun k _=>Cv
theorem Ix {S S':Sx} (h:Tb m w M S.T S.d S.β) {r c j:Nat} (hr:r<m) (hc:c<w) (hj:j<w) (hs:StepAt m w S S' r c):S.d*zr m wc S' j=S.T r c*zr m wc S j - zr m wc S c*S.T r j:=by
 have h1:∀i,i<m->S.d*(wc (S'.β i)*S'.T i j)=(S.T r c*(wc (S.β i)*S.T i j) - S.T r j*(wc (S.β i)*S.T i c))+(if i=r then S.d*(wc c*S.T r j) else 0):=fun i hi=>by
  rw[hs.β i hi,hs.T i j hi hj]
  unfold upd
  by_cases e:i=r
  ·subst e
   simp only[if_true]
   grind
  ·simp only[e,if_false,Int.add_zero]
   have:=gH h hr hi (Ne.symm e) hc hj
   grind
 have h2:S.d*(sz m fun i=>wc (S'.β i)*S'.T i j)=S.T r c*(sz m fun i=>wc (S.β i)*S.T i j) - S.T r j*(sz m fun i=>wc (S.β i)*S.T i c)+S.d*(wc c*S.T r j):=by
  rw[<-fB,bK h1,mf,BS,fB,fB,fC hr fun i _ hne=>if_neg hne,if_pos rfl]
 unfold zr
 rw[Int.mul_sub,h2,hs.d]
 grind
theorem LX {S S':Sx} (h:Tb m w M S.T S.d S.β) (h':Tb m w M S'.T S'.d S'.β) {a:Nat->Nat} (ha:∀i,i<m->a i<w) (hM:∀k,k<m->∀i,i<m->M k (a i)=if k=i then 1 else 0) {s:Nat} (hs:s<w) :
  S.d*zr m wc S' s=S'.d*zr m wc S s+sz m fun i=>S.T i s*zr m wc S' (S.β i):=by
 have e1:=Ci (wc:=wc) h' ha hM hs
 have e2:∀i,i<m->S.T i s*zr m wc S' (S.β i)=S'.d*(wc (S.β i)*S.T i s) - sz m fun k=>(sz m fun i=>wc (S'.β i)*S'.T i (a k))*(S.T i s*M k (S.β i)):=fun i hi=>by
  rw[Ci (wc:=wc) h' ha hM (h.lt i hi),Int.mul_sub,<-fB]
  congr 1
  ·grind
  ·exact bK fun k _=>by grind
 rw[bK e2,BS,fB,tA]
 have e3:(sz m fun k=>sz m fun i=>(sz m fun i=>wc (S'.β i)*S'.T i (a k))*(S.T i s*M k (S.β i)))=S.d*sz m fun k=>(sz m fun i=>wc (S'.β i)*S'.T i (a k))*M k s:=by
  rw[<-fB]
  refine bK fun k hk=>?_
  rw[fB,<-h.co k hk s hs]
  grind
 rw[e3,e1]
 unfold zr
 grind
theorem mu {β:Nat->Nat->Nat} {q:Nat}:∀{k i:Nat},(∃p,p<m/\β i p=q)->(¬ ∃p,p<m/\β (i+k) p=q)->∃n,i<=n/\n<i+k/\(∃p,p<m/\β n p=q)/\¬ ∃p,p<m/\β (n+1) p=q
 | 0,i,h1,h2=>(h2 h1).elim
 | k+1,i,h1,h2=>by
  by_cases h:∃p,p<m/\β (i+k) p=q
  ·exact ⟨i+k,by omega,by omega,h,h2⟩
  ·obtain ⟨n,h3,h4,h5,h6⟩:=mu h1 h
   exact ⟨n,h3,by omega,h5,h6⟩
theorem jG {β:Nat->Nat->Nat} {q:Nat}:∀{k i:Nat},(¬ ∃p,p<m/\β i p=q)->(∃p,p<m/\β (i+k) p=q)->∃n,i<=n/\n<i+k/\(¬ ∃p,p<m/\β n p=q)/\∃p,p<m/\β (n+1) p=q
 | 0,i,h1,h2=>(h1 h2).elim
 | k+1,i,h1,h2=>by
  by_cases h:∃p,p<m/\β (i+k) p=q
  ·obtain ⟨n,h3,h4,h5,h6⟩:=jG h1 h
   exact ⟨n,h3,by omega,h5,h6⟩
  ·exact ⟨i+k,by omega,by omega,h,h2⟩
theorem Lr {k:Nat} {f:Nat->Nat}:0<k->∃n,n<k/\∀i,i<k->f i<=f n:=by
 induction k with
 | zero=>intro h;omega
 | succ k ih =>
  intro _
  by_cases hk:k=0
  ·subst hk
   exact ⟨0,by omega,fun i hi=>by rw[show i=0 by omega];exact Nat.le_refl _⟩
  ·obtain ⟨n,h1,h2⟩:=ih (by omega)
   by_cases h3:f k<=f n
   ·refine ⟨n,by omega,fun i hi=>?_⟩
    by_cases h4:i=k
    ·rw[h4];exact h3
    ·exact h2 i (by omega)
   ·refine ⟨k,by omega,fun i hi=>?_⟩
    by_cases h4:i=k
    ·rw[h4];exact Nat.le_refl _
    ·have:=h2 i (by omega);omega
theorem Dh {e x y:Int} (he:0<e) (h:e*x<=e*y):x<=y:=Int.le_of_mul_le_mul_left h he
structure Run (m w N R:Nat) (M:Nat->Nat->Int) (wc:Nat->Int) (k:Nat) (S:Nat->Sx) (r c:Nat->Nat):Prop where
 val:∀n,n<=k->Val m w N R M (S n)
 step:∀n,n<k->Step m w N R wc (S n) (S (n+1)) (r n) (c n)
theorem Run.of {k:Nat} {S:Nat->Sx} {r c:Nat->Nat} (hN:N<=R) (hR:R<w) (h0:Val m w N R M (S 0)) (hs:∀n,n<k->Step m w N R wc (S n) (S (n+1)) (r n) (c n)):Run m w N R M wc k S r c:=by
 refine ⟨fun n=>?_,hs⟩
 induction n with
 | zero=>intro _;exact h0
 | succ n ih =>
  intro hn
  have h1:=hs n (by omega)
  have:=h1.enters.lt
  exact (ih (by omega)).stepAt hR (by omega) (by omega) h1.leaves h1.at'
theorem Run.nocycle {k:Nat} {S:Nat->Sx} {r c:Nat->Nat} {a:Nat->Nat} (ha:∀i,i<m->a i<w) (hM:∀k,k<m->∀i,i<m->M k (a i)=if k=i then 1 else 0) (hN:N<=R) (hR:R<w)
  (h:Run m w N R M wc k S r c) (hk:0<k):¬ ∀i,i<m->(S k).β i=(S 0).β i:=by
 intro hcyc
 have cw:∀n,n<k->c n<w:=fun n hn=>by have:=(h.step n hn).enters.lt;omega
 have dp:∀n,n<=k->0<(S n).d:=fun n hn=>(h.val n hn).tb.dpos
 have vstep:∀n,n<k->zr m wc (S n) R*(S (n+1)).d<=zr m wc (S (n+1)) R*(S n).d/\((S n).T (r n) R≠0->zr m wc (S n) R*(S (n+1)).d<zr m wc (S (n+1)) R*(S n).d):=fun n hn=>by
  have hs:=h.step n hn
  have h1:=Ix (wc:=wc) (h.val n (by omega)).tb hs.leaves.lt (cw n hn) hR hs.at'
  have h2:=hs.enters.neg
  have h3:=(h.val n (by omega)).feas (r n) hs.leaves.lt
  have h4:0<= -zr m wc (S n) (c n)*(S n).T (r n) R:=Int.mul_nonneg (by omega) h3
  rw[Int.neg_mul] at h4
  rw[hs.at'.d,Int.mul_comm (zr m wc (S (n+1)) R),h1,Int.mul_comm (zr m wc (S n) R)]
  refine ⟨by omega,fun hne=>?_⟩
  have h5:0< -zr m wc (S n) (c n)*(S n).T (r n) R:=Int.mul_pos (by omega) (by omega)
  rw[Int.neg_mul] at h5
  omega
 have vle:∀i j,i+j<=k->zr m wc (S i) R*(S (i+j)).d<=zr m wc (S (i+j)) R*(S i).d:=by
  intro i j
  induction j with
  | zero=>intro _;exact Int.le_refl _
  | succ j ih =>
   intro hj
   have h1:=ih (by omega)
   have h2:=(vstep (i+j) (by omega)).1
   have d1:=dp i (by omega)
   have d2:=dp (i+j) (by omega)
   have d3:=dp (i+j+1) (by omega)
   refine Dh d2 ?_
   have h3:=z11 h1 (Int.le_of_lt d3)
   have h4:=z11 h2 (Int.le_of_lt d1)
   rw[show i+(j+1)=i+j+1 by omega]
   calc (S (i+j)).d*(zr m wc (S i) R*(S (i+j+1)).d)=zr m wc (S i) R*(S (i+j)).d*(S (i+j+1)).d:=by grind
    _<=zr m wc (S (i+j)) R*(S i).d*(S (i+j+1)).d:=h3
    _=zr m wc (S (i+j)) R*(S (i+j+1)).d*(S i).d:=by grind
    _<=zr m wc (S (i+j+1)) R*(S (i+j)).d*(S i).d:=h4
    _=(S (i+j)).d*(zr m wc (S (i+j+1)) R*(S i).d):=by grind
 have same:(S k).d=(S 0).d/\∀i j,i<m->j<w->(S k).T i j=(S 0).T i j:=by
  obtain ⟨σ,s1,s2,s3⟩:=(h.val k (Nat.le_refl _)).tb.cr
  obtain ⟨τ,t1,t2,t3⟩:=(h.val 0 (by omega)).tb.cr
  rw[qJ hcyc] at s2
  have p1:=dp k (Nat.le_refl _)
  have p2:=dp 0 (by omega)
  have e:σ=τ:=by
   have h1:σ*(S k).d=dc m M (S 0).β:=by rw[s2,<-Int.mul_assoc,s1,Int.one_mul]
   have h2:τ*(S 0).d=dc m M (S 0).β:=by rw[t2,<-Int.mul_assoc,t1,Int.one_mul]
   have pm:∀x:Int,x*x=1->x=1\/x= -1:=fun x hx=>by
    have h4:x.natAbs*x.natAbs=1:=by
     have:=congrArg Int.natAbs hx
     rwa [Int.natAbs_mul] at this
    have h5:x.natAbs=1:=Nat.eq_one_of_mul_eq_one_left h4
    omega
   rcases pm σ s1 with rfl | rfl<;>rcases pm τ t1 with rfl | rfl<;>omega
  refine ⟨by rw[s2,e];exact t2.symm,fun i j hi hj=>?_⟩
  rw[s3 i hi j hj,t3 i hi j hj,e]
  congr 1
  exact qJ fun l hl=>by unfold upd;rw[hcyc l hl]
 have vend:zr m wc (S k) R=zr m wc (S 0) R:=by
  unfold zr
  rw[same.1]
  congr 1
  exact bK fun i hi=>by rw[hcyc i hi,same.2 i R hi hR]
 have flat:∀n,n<k->(S n).T (r n) R=0:=fun n hn=>by
  by_cases e:(S n).T (r n) R=0
  ·exact e
  ·exfalso
   have h1:=(vstep n hn).2 e
   have h2:=vle 0 n (by omega)
   have h3:=vle (n+1) (k - (n+1)) (by omega)
   rw[Nat.zero_add] at h2
   rw[show n+1+(k - (n+1))=k by omega,vend,same.1] at h3
   have d0:=dp 0 (by omega)
   have d1:=dp n (by omega)
   have d2:=dp (n+1) (by omega)
   have h4:=Int.mul_lt_mul_of_pos_right h1 d0
   have h5:=z11 h2 (Int.le_of_lt d2)
   have h6:=z11 h3 (Int.le_of_lt d1)
   have:zr m wc (S 0) R*(S n).d*(S (n+1)).d<zr m wc (S 0) R*(S n).d*(S (n+1)).d:=by
    calc zr m wc (S 0) R*(S n).d*(S (n+1)).d<=zr m wc (S n) R*(S 0).d*(S (n+1)).d:=h5
     _=zr m wc (S n) R*(S (n+1)).d*(S 0).d:=by grind
     _<zr m wc (S (n+1)) R*(S n).d*(S 0).d:=h4
     _=zr m wc (S (n+1)) R*(S 0).d*(S n).d:=by grind
     _<=zr m wc (S 0) R*(S (n+1)).d*(S n).d:=h6
     _=zr m wc (S 0) R*(S n).d*(S (n+1)).d:=by grind
   omega
 have zeroStep:∀n q,n<k->((∀i,i<m->(S n).β i=q->(S n).T i R=0)↔(∀i,i<m->(S (n+1)).β i=q->(S (n+1)).T i R=0)):=fun n q hn=>by
  have hs:=h.step n hn
  have hf:=flat n hn
  have htb:=(h.val n (by omega)).tb
  have key:∀i,i<m->i≠r n->((S (n+1)).T i R=0↔(S n).T i R=0):=fun i hi hne=>by
   rw[hs.at'.T i R hi hR,if_neg hne]
   have h1:=gH htb hs.leaves.lt hi (Ne.symm hne) (cw n hn) hR
   rw[hf,Int.mul_zero,Int.sub_zero] at h1
   have h2:=hs.leaves.pos
   have h3:=dp n (by omega)
   constructor
   ·intro e
    rw[e,Int.mul_zero] at h1
    rcases Int.mul_eq_zero.1 h1.symm with h4 | h4
    ·omega
    ·exact h4
   ·intro e
    rw[e,Int.mul_zero] at h1
    rcases Int.mul_eq_zero.1 h1 with h4 | h4
    ·omega
    ·exact h4
  constructor
  ·intro hz i hi hb
   by_cases e:i=r n
   ·rw[e,hs.at'.T _ R hs.leaves.lt hR,if_pos rfl];exact hf
   ·rw[hs.at'.β i hi] at hb
    unfold upd at hb
    rw[if_neg e] at hb
    exact (key i hi e).2 (hz i hi hb)
  ·intro hz i hi hb
   by_cases e:i=r n
   ·rw[e];exact hf
   ·refine (key i hi e).1 (hz i hi ?_)
    rw[hs.at'.β i hi]
    unfold upd
    rw[if_neg e]
    exact hb
 have zeroAll:∀q n,n<=k->((∀i,i<m->(S 0).β i=q->(S 0).T i R=0)↔(∀i,i<m->(S n).β i=q->(S n).T i R=0)):=fun q n=>by
  induction n with
  | zero=>intro _;exact Iff.rfl
  | succ n ih=>intro hn;exact (ih (by omega)).trans (zeroStep n q (by omega))
 have comes:∀n q,n<k->(¬ ∃p,p<m/\(S n).β p=q)->(∃p,p<m/\(S (n+1)).β p=q)->q=c n:=fun n q hn h1 ⟨p,hp,hq⟩=>by
  have hs:=h.step n hn
  rw[hs.at'.β p hp] at hq
  unfold upd at hq
  split at hq
  ·exact hq.symm
  ·exact (h1 ⟨p,hp,hq⟩).elim
 have goes:∀n q,n<k->(∃p,p<m/\(S n).β p=q)->(¬ ∃p,p<m/\(S (n+1)).β p=q)->q=(S n).β (r n):=fun n q hn ⟨p,hp,hq⟩ h1=>by
  have hs:=h.step n hn
  by_cases e:p=r n
  ·rw[<-e];exact hq.symm
  ·refine (h1 ⟨p,hp,?_⟩).elim
   rw[hs.at'.β p hp]
   unfold upd
   rw[if_neg e]
   exact hq
 have zT:∀n,n<k->¬ ∃p,p<m/\(S n).β p=c n:=fun n hn ⟨p,hp,hq⟩=>by
  have hs:=h.step n hn
  have h1:=hs.enters.neg
  rw[<-hq,Ay (h.val n (by omega)).tb hp] at h1
  omega
 have isIn:∀n,n<k->∃p,p<m/\(S (n+1)).β p=c n:=fun n hn=>by
  have hs:=h.step n hn
  refine ⟨r n,hs.leaves.lt,?_⟩
  rw[hs.at'.β _ hs.leaves.lt]
  unfold upd
  rw[if_pos rfl]
 have ends:∀q,(∃p,p<m/\(S k).β p=q)↔∃p,p<m/\(S 0).β p=q:=fun q=>by
  constructor
  ·rintro ⟨p,hp,hq⟩;exact ⟨p,hp,by rw[<-hcyc p hp];exact hq⟩
  ·rintro ⟨p,hp,hq⟩;exact ⟨p,hp,by rw[hcyc p hp];exact hq⟩
 obtain ⟨ns,hns,hmax⟩:=Lr (f:=c) hk
 have leaves:∃n,n<k/\(S n).β (r n)=c ns:=by
  by_cases h0:∃p,p<m/\(S 0).β p=c ns
  ·obtain ⟨n,h1,h2,h3,h4⟩:=mu (β:=fun n=>(S n).β) (k:=ns) (i:=0) h0 (by rw[Nat.zero_add];exact zT ns hns)
   exact ⟨n,by omega,(goes n _ (by omega) h3 h4).symm⟩
  ·have h1:¬ ∃p,p<m/\(S k).β p=c ns:=fun e=>h0 ((ends _).1 e)
   obtain ⟨n,h2,h3,h4,h5⟩:=mu (β:=fun n=>(S n).β) (k:=k - (ns+1)) (i:=ns+1) (isIn ns hns) (by rw[show ns+1+(k - (ns+1))=k by omega];exact h1)
   exact ⟨n,by omega,(goes n _ (by omega) h4 h5).symm⟩
 obtain ⟨n,hn,hleave⟩:=leaves
 have hs:=h.step n hn
 have hst:=h.step ns hns
 have vn:=h.val n (by omega)
 have vs:=h.val ns (by omega)
 have hcn:=hmax n hn
 have hne:c n≠c ns:=fun e=>zT n hn ⟨r n,hs.leaves.lt,by rw[hleave];exact e.symm⟩
 have id:=LX (wc:=wc) vn.tb vs.tb ha hM (cw n hn)
 have z1:0<=zr m wc (S ns) (c n):=hst.enters.least (c n) (by omega)
 have z2:=hs.enters.neg
 have d1:=dp n (by omega)
 have d2:=dp ns (by omega)
 have hsum:0<sz m fun i=>(S n).T i (c n)*zr m wc (S ns) ((S n).β i):=by
  have h1:0<=(S n).d*zr m wc (S ns) (c n):=Int.mul_nonneg (by omega) z1
  have h2:0<(S ns).d* -zr m wc (S n) (c n):=Int.mul_pos d2 (by omega)
  rw[Int.mul_neg] at h2
  omega
 have hex:∃i,i<m/\0<(S n).T i (c n)*zr m wc (S ns) ((S n).β i):=by
  by_cases e:∃i,i<m/\0<(S n).T i (c n)*zr m wc (S ns) ((S n).β i)
  ·exact e
  ·exfalso
   have:=wi (n:=m) (f:=fun i=>(S n).T i (c n)*zr m wc (S ns) ((S n).β i)) (g:=fun _=>0) fun i hi=>Int.not_lt.1 fun h'=>e ⟨i,hi,h'⟩
   rw[kT (f:=fun _=>0) fun _ _=>rfl] at this
   omega
 obtain ⟨i,hi,hpos⟩:=hex
 have hq0:zr m wc (S ns) ((S n).β i)≠0:=fun e=>by rw[e,Int.mul_zero] at hpos;omega
 have hq1:¬ ∃p,p<m/\(S ns).β p=(S n).β i:=fun ⟨p,hp,hq⟩=>hq0 (by rw[<-hq];exact Ay vs.tb hp)
 have hq2:∃p,p<m/\(S n).β p=(S n).β i:=⟨i,hi,rfl⟩
 have hq3:∃n',n'<k/\(S n).β i=c n':=by
  by_cases hlt:ns<n
  ·obtain ⟨n',h1,h2,h3,h4⟩:=jG (β:=fun n=>(S n).β) (k:=n - ns) (i:=ns) hq1 (by rw[show ns+(n - ns)=n by omega];exact hq2)
   exact ⟨n',by omega,comes n' _ (by omega) h3 h4⟩
  ·by_cases h0:∃p,p<m/\(S 0).β p=(S n).β i
   ·obtain ⟨n',h1,h2,h3,h4⟩:=jG (β:=fun n=>(S n).β) (k:=k - ns) (i:=ns) hq1 (by rw[show ns+(k - ns)=k by omega];exact (ends _).2 h0)
    exact ⟨n',by omega,comes n' _ (by omega) h3 h4⟩
   ·obtain ⟨n',h1,h2,h3,h4⟩:=jG (β:=fun n=>(S n).β) (k:=n) (i:=0) h0 (by rw[Nat.zero_add];exact hq2)
    exact ⟨n',by omega,comes n' _ (by omega) h3 h4⟩
 obtain ⟨n',hn',hq4⟩:=hq3
 have hq5:(S n).β i<=c ns:=by rw[hq4];exact hmax n' hn'
 by_cases hqt:(S n).β i=c ns
 ·have:i=r n:=vn.tb.inj hi hs.leaves.lt (by rw[hqt,hleave])
  rw[this,hleave] at hpos
  have h1:=hs.leaves.pos
  have h2:=hst.enters.neg
  have h3:0<(S n).T (r n) (c n)* -zr m wc (S ns) (c ns):=Int.mul_pos h1 (by omega)
  rw[Int.mul_neg] at h3
  omega
 ·have z3:0<=zr m wc (S ns) ((S n).β i):=hst.enters.least _ (by omega)
  have hTi:0<(S n).T i (c n):=by
   by_cases e:0<(S n).T i (c n)
   ·exact e
   ·exfalso
    have:0<= -(S n).T i (c n)*zr m wc (S ns) ((S n).β i):=Int.mul_nonneg (by omega) z3
    rw[Int.neg_mul] at this
    omega
  have hiR:(S n).T i R=0:=((zeroAll _ n (by omega)).1 ((zeroAll _ ns (by omega)).2 fun p hp hq=>(hq1 ⟨p,hp,hq⟩).elim)) i hi rfl
  have:=hs.leaves.tie i hi hTi (by rw[flat n hn,hiR,Int.zero_mul,Int.zero_mul])
  rw[hleave] at this
  omega
end
end Dn
end Go.Proofs.YtegbncajloeepaaGreat

namespace Go.Proofs.YtegbncajloeepaaGreat
noncomputable section
namespace Dn
theorem Gw:∀(K:Nat) (f:Nat->Nat),(∀i,i<=K->f i<K)->∃i j,i<j/\j<=K/\f i=f j
 | 0,f,h=>by have:=h 0 (by omega);omega
 | K+1,f,h=>by
  by_cases e:∃i,i<=K/\f i=f (K+1)
  ·obtain ⟨i,h1,h2⟩:=e
   exact ⟨i,K+1,by omega,by omega,h2⟩
  ·
   obtain ⟨i,j,h1,h2,h3⟩:=Gw K (fun i=>if f i<f (K+1) then f i else f i - 1) fun i hi=>by
    have h4:=h i (by omega)
    have h5:=h (K+1) (by omega)
    have h6:f i≠f (K+1):=fun e'=>e ⟨i,hi,e'⟩
    show (if f i<f (K+1) then f i else f i - 1)<K
    split<;>omega
   refine ⟨i,j,h1,by omega,?_⟩
   have h6:f i≠f (K+1):=fun e'=>e ⟨i,by omega,e'⟩
   have h7:f j≠f (K+1):=fun e'=>e ⟨j,by omega,e'⟩
   have h3:(if f i<f (K+1) then f i else f i - 1)=(if f j<f (K+1) then f j else f j - 1):=h3
   split at h3<;>split at h3<;>omega
def code (w:Nat) (β:Nat->Nat):Nat->Nat
 | 0=>0
 | m+1=>code w β m*w+β m
theorem Ct {w:Nat} {β:Nat->Nat}:∀{m:Nat},(∀i,i<m->β i<w)->code w β m<w ^ m
 | 0,_=>by simp[code]
 | m+1,h=>by
  simp only[code]
  have h1:=Ct (m:=m) fun i hi=>h i (by omega)
  have h2:=h m (by omega)
  have h3:(code w β m+1)*w<=w ^ m*w:=Nat.mul_le_mul_right _ h1
  rw[Nat.pow_succ]
  rw[Nat.add_mul,Nat.one_mul] at h3
  omega
theorem Az {w:Nat} {β γ:Nat->Nat}:∀{m:Nat},(∀i,i<m->β i<w)->(∀i,i<m->γ i<w)->code w β m=code w γ m->∀i,i<m->β i=γ i
 | 0,_,_,_,i,hi=>by omega
 | m+1,hβ,hγ,h,i,hi=>by
  simp only[code] at h
  have h1:=hβ m (by omega)
  have h2:=hγ m (by omega)
  have e1:(code w β m*w+β m) % w=β m:=by rw[Nat.mul_comm,Nat.mul_add_mod,Nat.mod_eq_of_lt h1]
  have e2:(code w γ m*w+γ m) % w=γ m:=by rw[Nat.mul_comm,Nat.mul_add_mod,Nat.mod_eq_of_lt h2]
  have e3:β m=γ m:=by rw[<-e1,<-e2,h]
  have e4:code w β m=code w γ m:=by
   have:code w β m*w=code w γ m*w:=by omega
   exact Nat.eq_of_mul_eq_mul_right (by omega) this
  by_cases e:i=m
  ·rw[e];exact e3
  ·exact Az (fun i hi=>hβ i (by omega)) (fun i hi=>hγ i (by omega)) e4 i (by omega)
open Classical in
def yG (p:Nat->Prop):Nat->Nat
 | 0=>0
 | k+1=>if p k then k else yG p k
section
variable {m w N R:Nat} {M:Nat->Nat->Int} {wc:Nat->Int}
theorem Run.short {k:Nat} {S:Nat->Sx} {r c:Nat->Nat} {a:Nat->Nat} (ha:∀i,i<m->a i<w) (hM:∀k,k<m->∀i,i<m->M k (a i)=if k=i then 1 else 0) (hN:N<=R) (hR:R<w)
  (h:Run m w N R M wc k S r c):k<w ^ m:=by
 by_cases hk:k<w ^ m
 ·exact hk
 ·exfalso
  obtain ⟨i,j,h1,h2,h3⟩:=Gw (w ^ m) (fun n=>code w (S n).β m) fun n hn=>Ct (h.val n (by omega)).tb.lt
  have h4:=Az (h.val i (by omega)).tb.lt (h.val j (by omega)).tb.lt h3
  have h5:Run m w N R M wc (j - i) (fun n=>S (i+n)) (fun n=>r (i+n)) (fun n=>c (i+n)):=⟨fun n hn=>h.val (i+n) (by omega),fun n hn=>h.step (i+n) (by omega)⟩
  refine h5.nocycle ha hM hN hR (by omega) fun p hp=>?_
  show (S (i+(j - i))).β p=(S (i+0)).β p
  rw[show i+(j - i)=j by omega,Nat.add_zero]
  exact (h4 p hp).symm
def left (m w N R:Nat) (M:Nat->Nat->Int) (wc:Nat->Int) (s:Sx):Nat:=yG (fun k=>∃S r c,S 0=s/\Run m w N R M wc k S r c) (w ^ m)
end
end Dn
end
end Go.Proofs.YtegbncajloeepaaGreat

namespace Go.Proofs.YtegbncajloeepaaGreat
namespace Dn
def sq:Nat->(Nat->Rat)->Rat
 | 0,_=>0
 | n+1,f=>sq n f+f n
theorem fM:∀{n:Nat} {f g:Nat->Rat},(∀i,i<n->f i=g i)->sq n f=sq n g
 | 0,_,_,_=>rfl
 | n+1,f,g,h=>by
  simp only[sq]
  rw[fM (n:=n) fun i hi=>h i (by omega),h n (by omega)]
theorem Gr:∀{n:Nat} {f g:Nat->Rat},sq n (fun i=>f i+g i)=sq n f+sq n g
 | 0,_,_=>by simp only[sq];grind
 | n+1,f,g=>by
  simp only[sq]
  rw[Gr]
  grind
theorem uY:∀{n:Nat} {c:Rat} {f:Nat->Rat},sq n (fun i=>c*f i)=c*sq n f
 | 0,c,_=>by simp[sq]
 | n+1,c,f=>by
  simp only[sq]
  rw[uY]
  grind
theorem qC:∀{n:Nat} {f:Nat->Rat},(∀i,i<n->f i=0)->sq n f=0
 | 0,_,_=>rfl
 | n+1,f,h=>by
  simp only[sq]
  rw[qC fun i hi=>h i (by omega),h n (by omega)]
  grind
theorem Cs:∀{n:Nat} {f g:Nat->Rat},(∀i,i<n->f i<=g i)->sq n f<=sq n g
 | 0,_,_,_=>Rat.le_refl
 | n+1,f,g,h=>by
  simp only[sq]
  have:=Cs (n:=n) fun i hi=>h i (by omega)
  have:=h n (by omega)
  grind
theorem xC:∀{m n:Nat} {f:Nat->Nat->Rat},sq m (fun i=>sq n (fun j=>f i j))=sq n (fun j=>sq m (fun i=>f i j))
 | 0,n,f=>by
  simp only[sq]
  exact (qC fun _ _=>rfl).symm
 | m+1,n,f=>by
  simp only[sq]
  rw[xC,Gr]
theorem xZ:∀{n:Nat} {f:Nat->Int},sq n (fun i=>(f i:Rat))=((sz n f:Int):Rat)
 | 0,_=>rfl
 | n+1,f=>by
  simp only[sq,sz]
  rw[xZ,Rat.intCast_add]
structure Lin where
 n:Nat
 m:Nat
 A:Nat->Nat->Int
 b:Nat->Int
 c:Nat->Int
 kd:Nat->Int
def Lin.row (L:Lin) (x:Nat->Rat) (k:Nat):Rat:=sq L.n fun j=>(L.A k j:Rat)*x j
def Lin.col (L:Lin) (y:Nat->Rat) (j:Nat):Rat:=sq L.m fun k=>(L.A k j:Rat)*y k
def Lin.val (L:Lin) (x:Nat->Rat):Rat:=sq L.n fun j=>(L.c j:Rat)*x j
def Lin.rhs (L:Lin) (y:Nat->Rat):Rat:=sq L.m fun k=>(L.b k:Rat)*y k
structure Lin.Feas (L:Lin) (x:Nat->Rat):Prop where
 pos:∀j,j<L.n->0<=x j
 most:∀k,k<L.m->L.kd k≠2->L.row x k<=L.b k
 least:∀k,k<L.m->L.kd k≠1->(L.b k:Rat)<=L.row x k
structure Lin.Sgn (L:Lin) (y:Nat->Rat):Prop where
 most:∀k,k<L.m->L.kd k=1->y k<=0
 least:∀k,k<L.m->L.kd k=2->0<=y k
structure Lin.Dual (L:Lin) (y:Nat->Rat):Prop extends L.Sgn y where
 col:∀j,j<L.n->L.col y j<=L.c j
structure Lin.Ref (L:Lin) (y:Nat->Rat):Prop extends L.Sgn y where
 col:∀j,j<L.n->L.col y j<=0
 rhs:0<L.rhs y
structure Lin.Ray (L:Lin) (r:Nat->Rat):Prop where
 pos:∀j,j<L.n->0<=r j
 most:∀k,k<L.m->L.kd k≠2->L.row r k<=0
 least:∀k,k<L.m->L.kd k≠1->0<=L.row r k
 val:L.val r<0
section
variable {L:Lin}
theorem Lin.swap (x y:Nat->Rat):sq L.n (fun j=>L.col y j*x j)=sq L.m (fun k=>y k*L.row x k):=by
 have e1:sq L.n (fun j=>L.col y j*x j)=sq L.n (fun j=>sq L.m fun k=>(L.A k j:Rat)*y k*x j):=fM fun j _=>by
  unfold Lin.col
  rw[<-uY (c:=x j) |>fun h=>(by rw[h];grind:(sq L.m fun k=>x j*((L.A k j:Rat)*y k))=sq L.m (fun k=>(L.A k j:Rat)*y k)*x j)]
  exact fM fun k _=>by grind
 rw[e1,xC]
 refine fM fun k _=>?_
 unfold Lin.row
 rw[<-uY]
 exact fM fun j _=>by grind
theorem Ni {y r b:Rat} (h:(y<=0/\r<=b)\/(0<=y/\b<=r)\/r=b):b*y<=y*r:=by
 rcases h with ⟨h1,h2⟩ | ⟨h1,h2⟩ | h
 ·have:0<=(-y)*(b - r):=Rat.mul_nonneg (by grind) (by grind)
  grind
 ·have:0<=y*(r - b):=Rat.mul_nonneg h1 (by grind)
  grind
 ·subst h;grind
theorem Lin.Sgn.rows {x y:Nat->Rat} (h:L.Sgn y) {b:Nat->Rat} (h1:∀k,k<L.m->L.kd k≠2->L.row x k<=b k) (h2:∀k,k<L.m->L.kd k≠1->b k<=L.row x k):sq L.m (fun k=>b k*y k)<=sq L.m (fun k=>y k*L.row x k):=Cs fun k hk=>by
 apply Ni
 by_cases e1:L.kd k=1
 ·exact .inl ⟨h.most k hk e1,h1 k hk (by omega)⟩
 ·by_cases e2:L.kd k=2
  ·exact .inr (.inl ⟨h.least k hk e2,h2 k hk e1⟩)
  ·have a1:=h1 k hk e2
   have a2:=h2 k hk e1
   exact .inr (.inr (Rat.le_antisymm a1 a2))
theorem Lin.Ref.none {x y:Nat->Rat} (hy:L.Ref y) (hx:L.Feas x):False:=by
 have h1:=hy.rows (x:=x) (b:=fun k=>(L.b k:Rat)) hx.most hx.least
 rw[<-L.swap x y] at h1
 have h2:sq L.n (fun j=>L.col y j*x j)<=sq L.n (fun _=>0):=Cs fun j hj=>by
  have:0<=(-L.col y j)*x j:=Rat.mul_nonneg (by have:=hy.col j hj;grind) (hx.pos j hj)
  grind
 rw[qC (f:=fun _=>0) fun _ _=>rfl] at h2
 have h3:=hy.rhs
 unfold Lin.rhs at h3
 grind
theorem Lin.Ray.none {r y:Nat->Rat} (hr:L.Ray r) (hy:L.Dual y):False:=by
 have h1:=hy.rows (x:=r) (b:=fun _=>0) hr.most hr.least
 rw[<-L.swap r y,qC (f:=fun k=>0*y k) fun k _=>by grind] at h1
 have h2:sq L.n (fun j=>L.col y j*r j)<=L.val r:=Cs fun j hj=>Rat.mul_le_mul_of_nonneg_right (hy.col j hj) (hr.pos j hj)
 have h3:=hr.val
 grind
end
structure Lay where
 N:Nat
 sl:Nat->Nat
 σ:Nat->Int
def Lay.M (Y:Lay) (L:Lin) (k j:Nat):Int :=
 if j<L.n then Y.σ k*L.A k j else if j<Y.N then (if L.kd k≠3/\j=Y.sl k then Y.σ k*(if L.kd k=1 then 1 else -1) else 0) else if j<Y.N+L.m then (if j=Y.N+k then 1 else 0) else Y.σ k*L.b k
structure Lay.ok (Y:Lay) (L:Lin):Prop where
 n:L.n<=Y.N
 kd:∀k,k<L.m->L.kd k=1\/L.kd k=2\/L.kd k=3
 sl:∀k,k<L.m->L.kd k≠3->L.n<=Y.sl k/\Y.sl k<Y.N
 inj:∀k l,k<L.m->l<L.m->L.kd k≠3->L.kd l≠3->Y.sl k=Y.sl l->k=l
 sg:∀k,k<L.m->Y.σ k=1\/Y.σ k= -1
 b:∀k,k<L.m->0<=Y.σ k*L.b k
abbrev Lay.R (Y:Lay) (L:Lin):Nat:=Y.N+L.m
abbrev Lay.w (Y:Lay) (L:Lin):Nat:=Y.N+L.m+1
section
variable {L:Lin} {Y:Lay}
theorem Lay.M_x {k j:Nat} (hj:j<L.n):Y.M L k j=Y.σ k*L.A k j:=by unfold Lay.M;rw[if_pos hj]
theorem Lay.M_sl (h:Y.ok L) {k:Nat} (hk:k<L.m) (h3:L.kd k≠3):Y.M L k (Y.sl k)=Y.σ k*(if L.kd k=1 then 1 else -1):=by
 obtain ⟨h1,h2⟩:=h.sl k hk h3
 unfold Lay.M
 rw[if_neg (by omega),if_pos h2,if_pos ⟨h3,rfl⟩]
theorem Lay.M_slo {k j:Nat} (h1:L.n<=j) (h2:j<Y.N) (h:¬ (L.kd k≠3/\j=Y.sl k)):Y.M L k j=0:=by
 unfold Lay.M
 rw[if_neg (by omega),if_pos h2,if_neg h]
theorem Lay.M_a (h:Y.ok L) {k i:Nat} (hi:i<L.m):Y.M L k (Y.N+i)=if k=i then 1 else 0:=by
 have:=h.n
 unfold Lay.M
 rw[if_neg (by omega),if_neg (by omega),if_pos (by omega)]
 by_cases e:k=i
 ·rw[if_pos e,if_pos (by omega)]
 ·rw[if_neg e,if_neg (by omega)]
theorem Lay.M_R (h:Y.ok L) {k:Nat}:Y.M L k (Y.R L)=Y.σ k*L.b k:=by
 have:=h.n
 unfold Lay.M Lay.R
 rw[if_neg (by omega),if_neg (by omega),if_neg (by omega)]
abbrev Lay.Val (Y:Lay) (L:Lin) (S:Sx):Prop:=Dn.Val L.m (Y.w L) Y.N (Y.R L) (Y.M L) S
theorem Lay.art (h:Y.ok L):(∀i,i<L.m->Y.N+i<Y.w L)/\∀k,k<L.m->∀i,i<L.m->Y.M L k (Y.N+i)=if k=i then 1 else 0 :=
 ⟨fun i hi=>by unfold Lay.w;omega,fun k _ i hi=>Lay.M_a h hi⟩
theorem Lay.first (h:Y.ok L):Y.Val L ⟨Y.M L,1,fun i=>Y.N+i⟩:=by
 refine ⟨Tb.first (Lay.art h).1 (Lay.art h).2,fun i hi=>?_,fun i hi=>?_⟩
 ·show 0<=Y.M L i (Y.R L)
  rw[Lay.M_R h]
  exact h.b i hi
 ·show Y.N+i≠Y.N+L.m
  omega
def KU (m N:Nat) (S:Sx) (q:Nat):Prop:=∀i,i<m->N<=S.β i->S.T i q=0
def sX (L:Lin) (j:Nat):Int:=if j<L.n then L.c j else 0
def MS (N:Nat) (j:Nat):Int:=if N<=j then 1 else 0
end
theorem Ar {a b:Nat} {f:Nat->Int}:sz (a+b) f=sz a f+sz b fun i=>f (a+i):=by
 induction b with
 | zero=>simp[sz]
 | succ b ih =>
  rw[show a+(b+1)=a+b+1 by omega,sz,sz,ih]
  omega
theorem GN {m w:Nat} {γ:Nat->Nat} {f:Nat->Int} (hlt:∀p,p<m->γ p<w) (hinj:∀p q,p<m->q<m->γ p=γ q->p=q) (hf:∀j,j<w->0<=f j):(sz m fun p=>f (γ p))<=sz w f:=by
 have e:(sz m fun p=>f (γ p))=sz w fun j=>f j*sz m fun p=>if γ p=j then 1 else 0:=by
  rw[bK (g:=fun p=>sz w fun j=>if γ p=j then f j else 0) fun p hp=>by
   rw[fC (hlt p hp) fun j _ hne=>if_neg (Ne.symm hne),if_pos rfl],tA]
  refine bK fun j _=>?_
  rw[<-fB]
  refine bK fun p _=>?_
  split<;>omega
 rw[e]
 refine wi fun j hj=>?_
 have hc:(sz m fun p=>if γ p=j then (1:Int) else 0)<=1:=by
  by_cases h:∃p,p<m/\γ p=j
  ·obtain ⟨p,hp,rfl⟩:=h
   rw[fC hp fun q hq hne=>if_neg fun e'=>hne (hinj q p hq hp e'),if_pos rfl]
   exact Int.le_refl _
  ·rw[kT fun p hp=>if_neg fun e'=>h ⟨p,hp,e'⟩]
   omega
 have:=Int.mul_le_mul_of_nonneg_left hc (hf j hj)
 omega
def Lin.F (L:Lin) (k:Nat):Int:=1+ab (L.b k)+sz L.n fun j=>ab (L.A k j)
def Lin.F0 (L:Lin):Int:=1+sz L.n fun j=>ab (L.c j)
theorem Lin.F_pos (L:Lin) (k:Nat):1<=L.F k:=by
 have h1:=eh (L.b k)
 have h2:0<=sz L.n fun j=>ab (L.A k j):=jL fun j _=>eh _
 unfold Lin.F
 omega
theorem Lin.F0_pos (L:Lin):1<=L.F0:=by
 have h2:0<=sz L.n fun j=>ab (L.c j):=jL fun j _=>eh _
 unfold Lin.F0
 omega
def Lin.P (L:Lin):Int:=pz L.m L.F
theorem ER:∀{n:Nat} {f:Nat->Int},(∀i,i<n->1<=f i)->1<=pz n f
 | 0,_,_=>by simp[pz]
 | n+1,f,h=>by
  simp only[pz]
  have h1:=h 0 (by omega)
  have h2:=ER (n:=n) (f:=fun i=>f (i+1)) fun i hi=>h (i+1) (by omega)
  have:=Int.mul_le_mul h1 h2 (by omega) (by omega)
  omega
theorem Lin.P_pos (L:Lin):1<=L.P:=ER fun k _=>L.F_pos k
section
variable {L:Lin} {Y:Lay}
theorem FP (h:Y.ok L) {k:Nat} (hk:k<L.m) (x:Int):ab (Y.σ k*x)=ab x:=by
 rw[rP]
 rcases h.sg k hk with e | e<;>rw[e]<;>simp[ab]
theorem Cz (h:Y.ok L) {k:Nat} (hk:k<L.m) {f:Nat->Int} (h1:∀j,j<L.n->f j=ab (Y.M L k j)) (hR:f (Y.R L)=ab (Y.M L k (Y.R L)))
  (h2:((∀j,L.n<=j->j<Y.N->f j=0)/\∀i,i<L.m->f (Y.N+i)=if i=k then 1 else 0)\/(L.kd k≠3/\(∀j,L.n<=j->j<Y.N->f j=if j=Y.sl k then 1 else 0)/\∀i,i<L.m->f (Y.N+i)=0)) :
  sz (Y.w L) f=L.F k:=by
 have hn:=h.n
 have e:Y.w L=(L.n+(Y.N - L.n))+L.m+1:=by unfold Lay.w;omega
 rw[e,sz,Ar,Ar,show L.n+(Y.N - L.n)+L.m=Y.R L by unfold Lay.R;omega,hR,Lay.M_R h,FP h hk]
 have e1:sz L.n f=sz L.n fun j=>ab (L.A k j):=bK fun j hj=>by rw[h1 j hj,Lay.M_x hj,FP h hk]
 rw[e1,show L.n+(Y.N - L.n)=Y.N by omega]
 unfold Lin.F
 rcases h2 with ⟨h3,h4⟩ | ⟨h3,h4,h5⟩
 ·rw[kT fun i hi=>h3 (L.n+i) (by omega) (by omega),fC hk fun i hi hne=>by rw[h4 i hi,if_neg hne],h4 k hk,if_pos rfl]
  omega
 ·obtain ⟨h6,h7⟩:=h.sl k hk h3
  have a1:(sz (Y.N - L.n) fun i=>f (L.n+i))=1:=by
   rw[fC (k:=Y.sl k - L.n) (by omega) fun i hi hne=>by rw[h4 _ (by omega) (by omega),if_neg (by omega)],h4 _ (by omega) (by omega),if_pos (by omega)]
  have a2:(sz L.m fun i=>f (Y.N+i))=0:=kT fun i hi=>h5 i hi
  rw[a1,a2]
  omega
theorem JY (h:Y.ok L) {γ:Nat->Nat} (hlt:∀p,p<L.m->γ p<Y.w L):dc L.m (Y.M L) γ=0\/∀k,k<L.m->(sz L.m fun p=>ab (Y.M L k (γ p)))<=L.F k:=by
 have zero:dc L.m (Y.M L) γ=0->dc L.m (Y.M L) γ=0\/∀k,k<L.m->(sz L.m fun p=>ab (Y.M L k (γ p)))<=L.F k:=fun e=>.inl e
 by_cases hinj:∀p q,p<L.m->q<L.m->γ p=γ q->p=q
 ·by_cases hboth:∃k p q,k<L.m/\L.kd k≠3/\p<L.m/\q<L.m/\γ p=Y.sl k/\γ q=Y.N+k
  ·obtain ⟨k,p,q,hk,h3,hp,hq,e1,e2⟩:=hboth
   obtain ⟨h4,h5⟩:=h.sl k hk h3
   have hpq:p≠q:=fun e=>by rw[e,e2] at e1;omega
   apply zero
   unfold dc
   have e3:det L.m (ep (Y.M L) γ)=det L.m (bu (ep (Y.M L) γ) p fun l=>(Y.σ k*(if L.kd k=1 then 1 else -1))*Y.M L l (Y.N+k)):=by
    refine gg fun l j hl hj=>?_
    unfold bu
    split
    ·rename_i e
     rw[e]
     show Y.M L l (γ p)=(Y.σ k*(if L.kd k=1 then 1 else -1))*Y.M L l (Y.N+k)
     rw[e1,Lay.M_a h hk]
     by_cases el:l=k
     ·subst el
      rw[Lay.M_sl h hl h3,if_pos rfl,Int.mul_one]
     ·rw[if_neg el,Int.mul_zero,Lay.M_slo h4 h5 fun e'=>el (h.inj l k hl hk e'.1 h3 e'.2.symm)]
    ·rfl
   rw[e3,lK hp,jE hp hq hpq fun l _=>by
    unfold bu
    rw[if_pos rfl,if_neg (Ne.symm hpq)]
    show Y.M L l (Y.N+k)=Y.M L l (γ q)
    rw[e2],Int.mul_zero]
  ·refine .inr fun k hk=>?_
   by_cases hs:L.kd k≠3/\∃p,p<L.m/\γ p=Y.sl k
   ·obtain ⟨h3,p,hp,e1⟩:=hs
    obtain ⟨h4,h5⟩:=h.sl k hk h3
    have e:(sz L.m fun p=>ab (Y.M L k (γ p)))=sz L.m fun p=>(fun j=>if Y.N<=j/\j<Y.N+L.m then 0 else ab (Y.M L k j)) (γ p):=bK fun q hq=>by
     show _=if Y.N<=γ q/\γ q<Y.N+L.m then 0 else ab (Y.M L k (γ q))
     split
     ·rename_i hr
      obtain ⟨i,hi⟩:∃i,γ q=Y.N+i:=⟨γ q - Y.N,by omega⟩
      rw[hi,Lay.M_a h (by omega),if_neg fun e'=>hboth ⟨k,p,q,hk,h3,hp,hq,e1,by rw[hi,e']⟩]
      rfl
     ·rfl
    rw[e]
    refine Int.le_trans (GN (f:=fun j=>if Y.N<=j/\j<Y.N+L.m then 0 else ab (Y.M L k j)) hlt hinj fun j _=>?_) (Int.le_of_eq (Cz h hk (fun j hj=>?_) ?_ (.inr ⟨h3,fun j h6 h7=>?_,fun i hi=>?_⟩)))
    ·split
     ·exact Int.le_refl _
     ·exact eh _
    ·have:=h.n
     rw[if_neg (by omega)]
    ·rw[if_neg (by unfold Lay.R;omega)]
    ·rw[if_neg (by omega)]
     by_cases ej:j=Y.sl k
     ·subst ej
      rw[Lay.M_sl h hk h3,FP h hk,if_pos rfl]
      split<;>rfl
     ·rw[if_neg ej,Lay.M_slo h6 h7 fun e'=>ej e'.2]
      rfl
    ·rw[if_pos (by omega)]
   ·have e:(sz L.m fun p=>ab (Y.M L k (γ p)))=sz L.m fun p=>(fun j=>if L.n<=j/\j<Y.N then 0 else ab (Y.M L k j)) (γ p):=bK fun q hq=>by
     show _=if L.n<=γ q/\γ q<Y.N then 0 else ab (Y.M L k (γ q))
     split
     ·rename_i hr
      rw[Lay.M_slo hr.1 hr.2 fun e'=>hs ⟨e'.1,q,hq,e'.2⟩]
      rfl
     ·rfl
    rw[e]
    refine Int.le_trans (GN (f:=fun j=>if L.n<=j/\j<Y.N then 0 else ab (Y.M L k j)) hlt hinj fun j _=>?_) (Int.le_of_eq (Cz h hk (fun j hj=>?_) ?_ (.inl ⟨fun j h6 h7=>?_,fun i hi=>?_⟩)))
    ·split
     ·exact Int.le_refl _
     ·exact eh _
    ·rw[if_neg (by omega)]
    ·rw[if_neg (by unfold Lay.R;omega)]
    ·rw[if_pos ⟨h6,h7⟩]
    ·rw[if_neg (by omega),Lay.M_a h hi]
     by_cases ei:k=i
     ·rw[if_pos ei,if_pos ei.symm];rfl
     ·rw[if_neg ei,if_neg (Ne.symm ei)];rfl
 ·have:∃p q,p<L.m/\q<L.m/\γ p=γ q/\p≠q:=by
   apply Classical.byContradiction
   intro hno
   refine hinj fun p q hp hq e=>?_
   apply Classical.byContradiction
   intro hne
   exact hno ⟨p,q,hp,hq,e,hne⟩
  obtain ⟨p,q,hp,hq,e,hne⟩:=this
  apply zero
  refine jE hp hq hne fun l _=>?_
  show Y.M L l (γ p)=Y.M L l (γ q)
  rw[e]
theorem zy (h:Y.ok L) {γ:Nat->Nat} (hlt:∀p,p<L.m->γ p<Y.w L):ab (dc L.m (Y.M L) γ)<=L.P:=by
 rcases JY h hlt with e | e
 ·have hP:=L.P_pos
  rw[e]
  simp[ab]
  omega
 ·exact Int.le_trans vX (EW fun k hk=>⟨jL fun _ _=>eh _,e k hk⟩)
theorem Mj {m w:Nat} {β:Nat->Nat} {r c:Nat} (h:∀p,p<m->β p<w) (hc:c<w):∀p,p<m->upd β r c p<w:=fun p hp=>by
 unfold upd
 split
 ·exact hc
 ·exact h p hp
theorem sy (h:Y.ok L) {T:Nat->Nat->Int} {d:Int} {β:Nat->Nat} (ht:Tb L.m (Y.w L) (Y.M L) T d β):d<=L.P/\∀i j,i<L.m->j<Y.w L->ab (T i j)<=L.P:=by
 refine ⟨?_,fun i j hi hj=>by rw[ht.bound hi hj];exact zy h (Mj ht.lt hj)⟩
 obtain ⟨σ,h1,h2,_⟩:=ht.cr
 have h3:=zy h ht.lt
 have h4:ab d=ab (dc L.m (Y.M L) β):=by
  have h5:ab σ=1:=by
   have h6:ab σ*ab σ=1:=by rw[<-rP,h1];rfl
   have h7:=eh σ
   have h8:ab σ<=1:=by
    apply Int.not_lt.1
    intro h9
    have:2*2<=ab σ*ab σ:=Int.mul_le_mul (by omega) (by omega) (by omega) h7
    omega
   have:ab σ≠0:=fun e=>by rw[e] at h6;simp at h6
   omega
  have h6:ab (σ*dc L.m (Y.M L) β)=ab d:=by rw[<-h2]
  rw[rP,h5,Int.one_mul] at h6
  exact h6.symm
 rw[<-h4] at h3
 exact (NV.1 h3).2
end
section
variable {L:Lin} {Y:Lay}
end
section
variable {α R:Type} {F:(α->Option R)->α->Option R}
theorem ww (n:Nat) (st:Nat->α) (r:Option R) (hb:∀again i,i<n->F again (st i)=again (st (i+1))) (hf:∀again,F again (st n)=r):∀(k i m:Nat),i+k=n->k<m->kf F m (st i)=r
 | 0,i,m,h1,h2=>by
  obtain ⟨m,rfl⟩:∃m',m=m'+1:=⟨m - 1,by omega⟩
  rw[ku,show i=n by omega,hf]
 | k+1,i,m,h1,h2=>by
  obtain ⟨m,rfl⟩:∃m',m=m'+1:=⟨m - 1,by omega⟩
  rw[ku,hb _ _ (by omega)]
  exact ww n st r hb hf k (i+1) m (by omega) (by omega)
theorem xX (n:Nat) (hn:n<=1180591620717411303423) (st:Nat->α) (r:Option R) (hb:∀again i,i<n->F again (st i)=again (st (i+1))) (hf:∀again,F again (st n)=r):lpK α R F (st 0)=r :=
 ww n st r hb hf n 0 K0 (by omega) (by unfold K0;omega)
theorem qZ {x:α} (n:Nat) (hn:n<=1180591620717411303423) (st:Nat->α) (r:Option R) (hx:x=st 0) (hb:∀again i,i<n->F again (st i)=again (st (i+1))) (hf:∀again,F again (st n)=r):lpK α R F x=r:=by
 rw[hx]
 exact xX n hn st r hb hf
end
theorem FB (n:Nat) (p:Nat->Bool):(∀j,j<n->p j=false)\/∃j,j<n/\p j=true/\∀i,i<j->p i=false:=by
 induction n with
 | zero=>exact .inl fun j hj=>by omega
 | succ n ih =>
  rcases ih with h | ⟨j,h1,h2,h3⟩
  ·cases hp:p n with
   | true=>exact .inr ⟨n,by omega,hp,h⟩
   | false =>
    refine .inl fun j hj=>?_
    by_cases e:j=n
    ·rw[e];exact hp
    ·exact h j (by omega)
  ·exact .inr ⟨j,by omega,h2,h3⟩
def gX {α:Type} (w:Nat) (f:Nat->α):List α:=(List.range w).map f
def F2 (m w:Nat) (T:Nat->Nat->Int):List (List Int):=(List.range m).map fun i=>gX w (T i)
section
variable {α:Type} {m w:Nat} {T T':Nat->Nat->Int}
theorem jY {f:Nat->α}:(gX w f).length=w:=by unfold gX;rw[List.length_map,List.length_range]
theorem xK {f:Nat->α} {j:Nat} (h:j<(gX w f).length):(gX w f)[j]=f j :=
 (List.getElem_map f (l:=List.range w) (h:=h)).trans (congrArg f (List.getElem_range _))
theorem qk {f g:Nat->α} (h:∀j,j<w->f j=g j):gX w f=gX w g:=by
 unfold gX
 exact List.map_congr_left fun j hj=>h j (List.mem_range.1 hj)
theorem GL {f:Nat->α} {j:Nat} {x:α} (_:j<w):(gX w f).set j x=gX w fun k=>if k=j then x else f k:=by
 refine List.ext_getElem (by rw[List.length_set,jY,jY]) fun i h1 h2=>?_
 have h3:i<w:=by rw[jY] at h2;exact h2
 rw[List.getElem_set,xK,xK]
 by_cases e:j=i
 ·rw[if_pos e,if_pos e.symm]
 ·rw[if_neg e,if_neg (Ne.symm e)]
theorem yJ:(F2 m w T).length=m:=by unfold F2;rw[List.length_map,List.length_range]
theorem GP {i:Nat} (h:i<m):(F2 m w T).getD i []=gX w (T i):=by
 unfold F2
 rw[dW (by rw[List.length_map,List.length_range];exact h),List.getElem_map,List.getElem_range]
end
end Dn
end Go.Proofs.YtegbncajloeepaaGreat

namespace Go.Proofs.YtegbncajloeepaaGreat
open Tryz Dn Dn.Sh
def bnS (s:Sy) (i:Nat):ByteArray:=(s.1.getD i bk0).1
def bwS (s:Sy) (i:Nat):Int:=(s.1.getD i bk0).2
def rnS (s:Sy) (k:Nat):ByteArray:=(s.2.getD k rp0).1
def hsS (s:Sy) (k:Nat):List Hd:=(s.2.getD k rp0).2.1
structure ValidS (s:Sy):Prop where
 bl:1<=s.1.length/\s.1.length<=6
 rl:1<=s.2.length/\s.2.length<=6
 inj:∀i j,i<s.1.length->j<s.1.length->bnS s i=bnS s j->i=j
 rinj:∀i j,i<s.2.length->j<s.2.length->rnS s i=rnS s j->i=j
 wt:∀i,i<s.1.length->0<=bwS s i/\bwS s i<=16777216
 hl:∀k,k<s.2.length->(hsS s k).length<=10
 pl:∀k h,k<s.2.length->h<(hsS s k).length-> -2<=((hsS s k).getD h hd0).2.1/\((hsS s k).getD h hd0).2.1<=2
theorem uk {n i:Nat} (h:i<n):i ∈ List.range' 0 n:=List.mem_range'.2 ⟨i,h,by omega⟩
theorem gB {i:Nat} (h:i<=1000000):IntKind.wrap .i64 ((i:Int)+1)=((i+1:Nat):Int):=by rw[cS (by omega) (by omega)];rfl
theorem uO {α:Type} {w:Nat} {f:Nat->α}:gX w f++[f w]=gX (w+1) f:=by
 unfold gX
 rw[List.range_succ,List.map_append]
 rfl
section
variable {m w:Nat} {T:Nat->Nat->Int}
end
structure ValidP (p:Pg):Prop where
 cost:1<=p.1.length/\p.1.length<=12
 rows:p.2.length<=6
 cs:∀n ∈ p.1,inC n=true
 len:∀r ∈ p.2,r.1.length=p.1.length
 kind:∀r ∈ p.2,1<=r.2.1/\r.2.1<=3
 right:∀r ∈ p.2,inR r.2.2=true
 coefs:∀r ∈ p.2,∀n ∈ r.1,inC n=true
theorem ut {α:Type} {n:Nat} {f:Nat->α} {a:α}:a ∈ gX n f↔∃i,i<n/\f i=a:=by
 unfold gX
 rw[List.mem_map]
 exact ⟨fun ⟨i,h1,h2⟩=>⟨i,List.mem_range.1 h1,h2⟩,fun ⟨i,h1,h2⟩=>⟨i,List.mem_range.2 h1,h2⟩⟩
end Go.Proofs.YtegbncajloeepaaGreat

namespace Go.Proofs.YtegbncajloeepaaGreat
noncomputable section
open Tryz Dn Dn.Sh
def okL (x:List Fq):Bool:=x.all fun a=>decide (okF a)
theorem Cb {x:List Fq}:okL x=true↔∀a ∈ x,okF a:=by
 unfold okL
 rw[List.all_eq_true]
 exact ⟨fun h a ha=>z12 (h a ha),fun h a ha=>z7 (h a ha)⟩
end
end Go.Proofs.YtegbncajloeepaaGreat

namespace Go.Proofs.YtegbncajloeepaaGreat
open Tryz Dn Dn.Sh
structure PivOk (m w:Nat) (T:Nat->Nat->Int) (d:Int) (r c:Nat):Prop where
 hm:m<=1000
 hw:w<=1000
 hr:r<m
 hc:c<w
 hd:0<d/\d<4611686018427387904
 b:∀i j,i<m->j<w->(T i j).natAbs<4611686018427387904
 q:∀i j,i<m->i≠r->j<w->d*piv T d r c i j=T r c*T i j - T i c*T r j
 qb:∀i j,i<m->i≠r->j<w->(piv T d r c i j).natAbs<4611686018427387904
structure Bnd (L:Lin) (Y:Lay):Prop where
 ok:Y.ok L
 m:L.m<=12
 w:Y.w L<=64
 P:L.F0*L.P<=17592186044416
theorem Bz {x:Int}:ab x=x.natAbs:=rfl
section
variable {L:Lin} {Y:Lay}
theorem Bnd.P' (h:Bnd L Y):L.P<=17592186044416:=by
 have h1:=L.F0_pos
 have h2:=L.P_pos
 have h3:1*L.P<=L.F0*L.P:=z11 h1 (by omega)
 have:=h.P
 omega
theorem Bnd.tab (h:Bnd L Y) {T:Nat->Nat->Int} {d:Int} {β:Nat->Nat} (ht:Tb L.m (Y.w L) (Y.M L) T d β):(0<d/\d<=17592186044416)/\∀i j,i<L.m->j<Y.w L->(T i j).natAbs<=17592186044416:=by
 obtain ⟨h1,h2⟩:=sy h.ok ht
 have h3:=h.P'
 refine ⟨⟨ht.dpos,by omega⟩,fun i j hi hj=>?_⟩
 have:=h2 i j hi hj
 rw[Bz] at this
 omega
theorem EG (j:Nat):(sX L j).natAbs<=L.F0 - 1:=by
 unfold sX Lin.F0
 have h0:0<=sz L.n fun j=>ab (L.c j):=jL fun j _=>eh _
 split
 ·rename_i hj
  have h1:(sz L.n fun i=>if i=j then ab (L.c j) else 0)<=sz L.n fun j=>ab (L.c j):=wi fun i _=>by
   by_cases e:i=j
   ·rw[if_pos e,e];exact Int.le_refl _
   ·rw[if_neg e];exact eh _
  rw[fC hj fun i _ hne=>if_neg hne,if_pos rfl,Bz] at h1
  omega
 ·simp only[Int.natAbs_zero]
  omega
theorem Bnd.cost (h:Bnd L Y) {x:Int} (hx:(x.natAbs:Int)<=L.P) (j:Nat): -17592186044416<=sX L j*x/\sX L j*x<=17592186044416:=by
 have h1:=EG (L:=L) j
 have h2:((sX L j*x).natAbs:Int)<=L.F0*L.P:=by
  rw[Int.natAbs_mul,Int.natCast_mul]
  refine Int.le_trans (Int.mul_le_mul (show ((sX L j).natAbs:Int)<=L.F0 by omega) hx (by omega) (by omega)) (Int.le_refl _)
 have:=h.P
 omega
theorem LU (x:Int) (y:Int):(sg x*y).natAbs=y.natAbs:=by unfold sg;split<;>omega
theorem Bnd.piv (h:Bnd L Y) {T:Nat->Nat->Int} {d:Int} {β:Nat->Nat} (ht:Tb L.m (Y.w L) (Y.M L) T d β) {r c:Nat} (hr:r<L.m) (hc:c<Y.w L) (he:T r c≠0):PivOk L.m (Y.w L) T d r c:=by
 obtain ⟨h1,h2⟩:=h.tab ht
 obtain ⟨h3,h4⟩:=h.tab (ht.step hr hc he)
 have:=h.m
 have:=h.w
 refine ⟨by omega,by omega,hr,hc,by omega,fun i j hi hj=>by have:=h2 i j hi hj;omega,fun i j hi hne hj=>gH ht hr hi (Ne.symm hne) hc hj,fun i j hi hne hj=>?_⟩
 have h5:=h4 i j hi hj
 unfold pg at h5
 rw[if_neg hne,LU] at h5
 omega
def AZ (L:Lin) (Y:Lay) (S:Sx):Prop:=∀i,i<L.m->Y.N<=S.β i->(∀j,j<Y.N->S.T i j=0)/\S.T i (Y.R L)=0
theorem AZ.art (S:Sx) (h:AZ L Y S):KU L.m Y.N S (Y.R L):=fun i hi hN=>(h i hi hN).2
theorem AZ.col (S:Sx) (h:AZ L Y S) {q:Nat} (hq:q<Y.N):KU L.m Y.N S q:=fun i hi hN=>(h i hi hN).1 q hq
def ta (S:Sx) (r c:Nat):Sx:=⟨pg S.T S.d r c,sg (S.T r c)*S.T r c,upd S.β r c⟩
theorem AZ.step {S:Sx} (h:AZ L Y S) {r c:Nat} (hc:c<Y.N):AZ L Y (ta S r c):=fun i hi hN=>by
 have hb:(ta S r c).β i=upd S.β r c i:=rfl
 rw[hb] at hN
 unfold upd at hN
 by_cases e:i=r
 ·rw[if_pos e] at hN;omega
 ·rw[if_neg e] at hN
  obtain ⟨h1,h2⟩:=h i hi hN
  have hT:∀j,(ta S r c).T i j=sg (S.T r c)*Dn.piv S.T S.d r c i j:=fun j=>by
   show pg S.T S.d r c i j=_
   unfold pg
   rw[if_neg e]
  have hz:∀j,S.T i j=0->Dn.piv S.T S.d r c i j=0:=fun j hj=>by
   unfold Dn.piv
   rw[hj,h1 c hc,Int.mul_zero,Int.zero_mul,Int.sub_zero,Int.zero_ediv]
  exact ⟨fun j hj=>by rw[hT,hz j (h1 j hj),Int.mul_zero],by rw[hT,hz _ h2,Int.mul_zero]⟩
end
section
variable {L:Lin} {Y:Lay}
theorem Val.flat {S:Sx} (hv:Y.Val L S) {r c:Nat} (hr:r<L.m) (hc:c<Y.N) (he:S.T r c≠0) (h0:S.T r (Y.R L)=0):Y.Val L (ta S r c):=by
 have hcw:c<Y.w L:=by unfold Lay.w;omega
 have hRw:Y.R L<Y.w L:=by unfold Lay.R Lay.w;omega
 have hd:=hv.tb.dpos
 refine ⟨hv.tb.step hr hcw he,fun i hi=>?_,fun i hi=>?_⟩
 ·show 0<=pg S.T S.d r c i (Y.R L)
  unfold pg
  by_cases e:i=r
  ·rw[if_pos e,h0,Int.mul_zero];exact Int.le_refl _
  ·rw[if_neg e]
   have h1:=gH hv.tb hr hi (Ne.symm e) hcw hRw
   rw[h0,Int.mul_zero,Int.sub_zero] at h1
   have h2:0<=sg (S.T r c)*S.T r c*S.T i (Y.R L):=Int.mul_nonneg (Int.le_of_lt (H4 he)) (hv.feas i hi)
   rw[Int.mul_assoc,<-h1] at h2
   have h3:sg (S.T r c)*(S.d*Dn.piv S.T S.d r c i (Y.R L))=S.d*(sg (S.T r c)*Dn.piv S.T S.d r c i (Y.R L)):=by grind
   rw[h3] at h2
   exact Int.nonneg_of_mul_nonneg_right h2 hd
 ·show upd S.β r c i≠_
  unfold upd
  split
  ·unfold Lay.R;omega
  ·exact hv.ne i hi
theorem zk {T:Nat->Nat->Int} {d:Int} {r c i j:Nat} (h1:T i j=0) (h2:T i c=0\/T r j=0):Dn.piv T d r c i j=0:=by
 unfold Dn.piv
 rw[h1,Int.mul_zero]
 rcases h2 with h | h
 ·rw[h,Int.zero_mul,Int.sub_zero,Int.zero_ediv]
 ·rw[h,Int.mul_zero,Int.sub_zero,Int.zero_ediv]
structure Swp (L:Lin) (Y:Lay) (i:Nat) (S:Sx):Prop where
 val:Y.Val L S
 right:∀k,k<L.m->Y.N<=S.β k->S.T k (Y.R L)=0
 rows:∀k,k<L.m->k<i->Y.N<=S.β k->∀j,j<Y.N->S.T k j=0
theorem Swp.step {i:Nat} {S:Sx} (h:Swp L Y i S) {j:Nat} (hi:i<L.m) (hj:j<Y.N) (hN:Y.N<=S.β i) (he:S.T i j≠0):Swp L Y i (ta S i j):=by
 have h0:=h.right i hi hN
 have up:∀k,k≠i->(ta S i j).β k=S.β k:=fun k hk=>by
  show upd S.β i j k=_
  unfold upd
  rw[if_neg hk]
 have ui:(ta S i j).β i=j:=by
  show upd S.β i j i=_
  unfold upd
  rw[if_pos rfl]
 have hT:∀k l,k≠i->(ta S i j).T k l=sg (S.T i j)*Dn.piv S.T S.d i j k l:=fun k l hk=>by
  show pg S.T S.d i j k l=_
  unfold pg
  rw[if_neg hk]
 refine ⟨Val.flat h.val hi hj he h0,fun k hk hb=>?_,fun k hk hlt hb l hl=>?_⟩
 ·have e:k≠i:=fun e=>by rw[e,ui] at hb;omega
  rw[up k e] at hb
  rw[hT k _ e,zk (h.right k hk hb) (.inr h0),Int.mul_zero]
 ·have e:k≠i:=by omega
  rw[up k e] at hb
  rw[hT k _ e,zk (h.rows k hk hlt hb l hl) (.inl (h.rows k hk hlt hb j hj)),Int.mul_zero]
end
def sf (p:Pg):Lin:=⟨p.1.length,p.2.length,fun k j=>(p.2.getD k rw0).1.getD j 0,fun k=>(p.2.getD k rw0).2.2,fun j=>p.1.getD j 0,fun k=>(p.2.getD k rw0).2.1⟩
def L3 (p:Pg):Nat->Nat
 | 0=>0
 | k+1=>L3 p k+if (p.2.getD k rw0).2.1=3 then 0 else 1
def tT (p:Pg):Lay:=⟨p.1.length+L3 p p.2.length,fun k=>p.1.length+L3 p k,fun k=>if (p.2.getD k rw0).2.2<0 then -1 else 1⟩
abbrev St:=Int×Int×(List Nat×List (Option (List Int)))×Int×List Int×List Int×List Int×Int×Int×PUnit
def fac (L:Lin):Nat->Int
 | 0=>L.F0
 | k+1=>L.F k
def pp (f:Nat->Int):Nat->Int
 | 0=>1
 | n+1=>pp f n*f n
def mx (f:Nat->Int):Nat->Int
 | 0=>f 0
 | n+1=>max (mx f n) (f (n+1))
def Ky (L:Lin):Prop:=pp (fac L) (L.m+1)<=17592186044416/\pp (fac L) (L.m+1)*mx (fac L) L.m<=144115188075855872
instance (L:Lin):Decidable (Ky L):=by unfold Ky;infer_instance
structure Infeas (p:Pg) (S:Sx):Prop where
 val:(tT p).Val (sf p) S
 zr:∀j,j<(tT p).N->0<=zr (sf p).m (MS (tT p).N) S j
 pos:0<sz (sf p).m fun i=>MS (tT p).N (S.β i)*S.T i ((tT p).R (sf p))
structure fF (p:Pg) (S:Sx) (q:Nat):Prop where
 val:(tT p).Val (sf p) S
 az:AZ (sf p) (tT p) S
 lt:q<(tT p).N
 neg:zr (sf p).m (sX (sf p)) S q<0
 no:∀i,i<(sf p).m->S.T i q<=0
structure Opt (p:Pg) (S:Sx):Prop where
 val:(tT p).Val (sf p) S
 az:AZ (sf p) (tT p) S
 zr:∀j,j<(tT p).N->0<=zr (sf p).m (sX (sf p)) S j
section
variable {p:Pg} {S:Sx}
theorem Dn.Lin.Feas.congr {L:Lin} {x x':Nat->Rat} (h:∀j,j<L.n->x j=x' j) (hx:L.Feas x):L.Feas x':=by
 have hr:∀k,L.row x' k=L.row x k:=fun k=>fM fun j hj=>by rw[h j hj]
 exact ⟨fun j hj=>by rw[<-h j hj];exact hx.pos j hj,fun k hk h2=>by rw[hr];exact hx.most k hk h2,fun k hk h2=>by rw[hr];exact hx.least k hk h2⟩
theorem Dn.Lin.Sgn.congr {L:Lin} {y y':Nat->Rat} (h:∀k,k<L.m->y k=y' k) (hy:L.Sgn y):L.Sgn y' :=
 ⟨fun k hk e=>by rw[<-h k hk];exact hy.most k hk e,fun k hk e=>by rw[<-h k hk];exact hy.least k hk e⟩
end
structure BndR (L:Lin) (Y:Lay):Prop where
 ok:Y.ok L
 m:L.m<=6
 w:Y.w L<=25
 P:L.F0*L.P<=536870912
section
variable {L:Lin} {Y:Lay}
theorem BndR.P' (h:BndR L Y):L.P<=536870912:=by
 have h1:=L.F0_pos
 have h2:=L.P_pos
 have h3:1*L.P<=L.F0*L.P:=z11 h1 (by omega)
 have:=h.P
 omega
theorem BndR.tab (h:BndR L Y) {T:Nat->Nat->Int} {d:Int} {β:Nat->Nat} (ht:Tb L.m (Y.w L) (Y.M L) T d β):(0<d/\d<=536870912)/\∀i j,i<L.m->j<Y.w L->(T i j).natAbs<=536870912/\((T i j).natAbs:Int)<=L.P:=by
 obtain ⟨h1,h2⟩:=sy h.ok ht
 have h3:=h.P'
 refine ⟨⟨ht.dpos,by omega⟩,fun i j hi hj=>?_⟩
 have:=h2 i j hi hj
 rw[Bz] at this
 omega
structure Wc (L:Lin) (Y:Lay) (wc:Nat->Int):Prop where
 small:∀j x,(x.natAbs:Int)<=L.P-> -536870912<=wc j*x/\wc j*x<=536870912
end
section
variable {L:Lin} {Y:Lay}
theorem Swp.next {i:Nat} {S:Sx} (h:Swp L Y i S) (hr:Y.N<=S.β i->∀j,j<Y.N->S.T i j=0):Swp L Y (i+1) S :=
 ⟨h.val,h.right,fun k hk hlt hb j hj=>by
  by_cases e:k=i
  ·subst e;exact hr hb j hj
  ·exact h.rows k hk (by omega) hb j hj⟩
end
section
variable {p:Pg}
end
section
variable {L:Lin} {Y:Lay}
end
theorem Nk {f:(Fq×Unit)->Option Bool} {p:Fq->Bool} {l:List Fq} (hl:l.length<=1000000) (h:∀a,a ∈ l->f (a,())=some (p a)):ah l f=some (l.any p):=by
 simp only[ah,fh]
 have e:bi l f=some (qo p l 0):=by
  unfold bi fG
  exact BE (f:=f) (d:=(0,0)) hl h
 rw[e,au,JQ]
theorem GR {α R:Type} {F:(α->Option R)->α->Option R} {x:α} (n:Nat) (hn:n<=1180591620717411303423) (st:Nat->α) (p:Nat->Bool) {bad good:Option R} (hx:x=st 0) (hb:∀again i,i<n->F again (st i)=bif p i then again (st (i+1)) else bad) (hf:∀again,F again (st n)=good) :
  lpK α R F x=bif (List.range' 0 n).all p then good else bad:=by
 rw[hx]
 rcases FB n (fun i=>!p i) with h | ⟨q,h1,h2,h3⟩
 ·have e:(List.range' 0 n).all p=true:=List.all_eq_true.2 fun i hi=>by
   obtain ⟨k,hk,rfl⟩:=List.mem_range'.1 hi
   have:=h (0+1*k) (by omega)
   simpa using this
  rw[e,cT]
  refine xX n hn st _ (fun again i hi=>?_) hf
  have:=h i hi
  rw[hb again i hi,show p i=true by simpa using this,cT]
 ·have e:(List.range' 0 n).all p=false:=by
   rw[Bool.eq_false_iff]
   intro hh
   rw[List.all_eq_true] at hh
   have:=hh q (uk h1)
   rw[this] at h2
   cases h2
  rw[e,cF]
  refine xX q (by omega) st _ (fun again i hi=>?_) (fun again=>?_)
  ·have:=h3 i hi
   rw[hb again i (by omega),show p i=true by simpa using this,cT]
  ·rw[hb again q h1,show p q=false by simpa using h2,cF]
theorem EC {α:Type} [DecidableEq α] (d:α) {l m:List α} (h:l.length=m.length):(List.range' 0 l.length).all (fun i=>decide (l.getD i d=m.getD i d))=decide (l=m):=by
 rw[Bool.eq_iff_iff,decide_eq_true_iff,List.all_eq_true]
 constructor
 ·intro hh
  refine List.ext_getElem h fun i h1 h2=>?_
  have:=z12 (hh i (uk h1))
  rw[dW h1,dW h2] at this
  exact this
 ·rintro rfl i _
  exact z7 rfl
theorem An {α:Type} [DecidableEq α] (d:α) {l m:List α} (h:l.length=m.length) (hl:l.length<=1000000) {F:(Int×PUnit->Option Bool)->Int×PUnit->Option Bool}
  (hb:∀again (i:Nat),i<l.length->F again ((i:Int),PUnit.unit)=bif decide (l.getD i d=m.getD i d) then again (((i+1:Nat):Int),PUnit.unit) else some false) (hf:∀again,F again ((l.length:Int),PUnit.unit)=some true) :
  lpK (Int×PUnit) Bool F ((0:Int),PUnit.unit)=some (decide (l=m)):=by
 refine (A5 (α:=Int×PUnit) l.length (by omega) (fun i (_:Unit)=>((i:Int),PUnit.unit)) (fun i s k=>bif decide (l.getD i d=m.getD i d) then k s else some false) (fun _=>some true) ?_ ?_ ()).trans ?_
 ·intro again i _ hi
  exact hb again i hi
 ·intro again _
  exact hf again
 ·rw[yl l.length (fun i k _=>rfl) l.length 0 (by omega),EC d h]
  cases decide (l=m)<;>rfl
theorem IH (a b:Fq):(decide (a.1=b.1)&&(decide (a.2=b.2)&&true))=decide (a=b):=by
 rw[Bool.eq_iff_iff,z10,Bool.and_true,decide_eq_true_iff,decide_eq_true_iff,decide_eq_true_iff]
 exact ⟨fun h=>Prod.ext h.1 h.2,fun h=>by rw[h];exact ⟨rfl,rfl⟩⟩
end Go.Proofs.YtegbncajloeepaaGreat

namespace Go.Proofs.YtegbncajloeepaaGreat
noncomputable section
open Tryz Dn Dn.Sh
abbrev Cl:=List Fq×Bool×List Fq
theorem DD:aB=some true:=by kernel_rfl
def vP (c:Cl):Bool:=decide (c.1.length>30)||decide (c.2.2.length>30)
theorem H6 (c:Cl):aK c=some (vP c):=by
 simp only[aK,mN]
 unfold vP
 rw[show decide ((c.1.length:Int)>30)=decide (c.1.length>30) from decide_eq_decide.2 (by omega),show decide ((c.2.2.length:Int)>30)=decide (c.2.2.length>30) from decide_eq_decide.2 (by omega)]
 cases decide (c.1.length>30)<;>rfl
theorem CZ {c:Cl} (h:vP c=false):c.1.length<=30/\c.2.2.length<=30:=by
 unfold vP at h
 rw[Bool.or_eq_false_iff,decide_eq_false_iff_not,decide_eq_false_iff_not] at h
 omega
def bh (c:Cl):List Fq:=bif c.2.1 then c.2.2 else c.1
def gD (c:Cl):List Fq:=bif c.2.1 then c.1 else c.2.2
theorem DW (c:Cl):bo c=some (bh c,gD c,()):=by
 obtain ⟨a,r,b⟩:=c
 simp only[bo,jl]
 cases r<;>rfl
theorem EB (c:Cl):da c=some (bh c):=by
 obtain ⟨a,r,b⟩:=c
 simp only[da,mF]
 cases r<;>rfl
theorem Dq (c:Cl):eC c=some (gD c):=by
 obtain ⟨a,r,b⟩:=c
 simp only[eC,lm]
 cases r<;>rfl
theorem BO {a b:List Fq} (ha:a.length<=1000000) (hb:b.length<=1000000):cj [a,b]=some (a++b):=by
 have two:lpK (List Fq×Int×PUnit) (List Fq) (fun (again:List Fq×Int×PUnit->Option (List Fq)) (x:List Fq×Int×PUnit)=>bif decide (x.2.1<(([a,b].length:Nat):Int)) then bif inB x.2.1 [a,b].length then
   bif dK (x.1.length+([a,b].getD x.2.1.toNat []).length) 16 then again (x.1++[a,b].getD x.2.1.toNat [],IntKind.wrap .i64 (x.2.1+1),PUnit.unit) else none else none else some x.1) ([],(0:Int),PUnit.unit)=some (a++b):=by
  refine (Cq [a,b] ([]:List Fq) (by simp) (fun i (s:List Fq)=>(s,((i:Nat):Int),PUnit.unit)) (fun (x:List Fq) (s:List Fq) k=>bif dK (s.length+x.length) 16 then k (s++x) else none) (fun s=>some s) (fun again i s hi=>?_) (fun again s=>?_) ([]:List Fq)).trans ?_
  ·have hi':i<2:=hi
   have hwr:IntKind.wrap .i64 ((i:Int)+1)=((i+1:Nat):Int):=by rw[cS (by omega) (by omega)];rfl
   simp only[jz,z7 hi,z7 (show (i:Int)<(([a,b].length:Nat):Int) by omega),cT,z9,hwr]
  ·simp only[z8 (show ¬ (([a,b].length:Nat):Int)<(([a,b].length:Nat):Int) by omega),cF]
  ·simp only[wb,List.length_nil,Nat.zero_add,List.nil_append]
   rw[qy (by omega),cT,qy (by omega),cT]
 simp only[cj,gF,jnT]
 refine' (Cq [a,b] ([]:List Fq) (by simp) (fun i (s:Int)=>(s,((i:Nat):Int),PUnit.unit)) (fun (x:List Fq) (s:Int) k=>bif decide (IntKind.wrap .i64 (s+((x.length:Nat):Int))<0) then none else k (IntKind.wrap .i64 (s+((x.length:Nat):Int)))) _ ?_ ?_ (0:Int)).trans ?_
 rotate_left
 ·intro again i s hi
  have hi':i<2:=hi
  have hwr:IntKind.wrap .i64 ((i:Int)+1)=((i+1:Nat):Int):=by rw[cS (by omega) (by omega)];rfl
  simp only[jz,z7 hi,z7 (show (i:Int)<(([a,b].length:Nat):Int) by omega),cT,z9,hwr]
 ·intro again s
  simp only[z8 (show ¬ (([a,b].length:Nat):Int)<(([a,b].length:Nat):Int) by omega),cF]
  rfl
 ·simp only[wb]
  rw[cS (x:=0+((a.length:Nat):Int)) (by omega) (by omega),z8 (show ¬ 0+((a.length:Nat):Int)<0 by omega),cF,cS (x:=0+((a.length:Nat):Int)+((b.length:Nat):Int)) (by omega) (by omega)]
  simp only[z8 (show ¬ 0+((a.length:Nat):Int)+((b.length:Nat):Int)<0 by omega),cF]
  have e0:IntKind.wrap .i64 ((0:Int) - 0)=0:=rfl
  rw[e0,cS (x:=0+((a.length:Nat):Int)+((b.length:Nat):Int) - 0) (by omega) (by omega)]
  simp only[Int.sub_zero]
  by_cases h:0+((a.length:Nat):Int)+((b.length:Nat):Int)>0
  ·rw[z7 h,cT,show slB (0:Int) (0:Int) 0=true from rfl,cT,qy (by omega),tQ (by omega) (by omega) (by omega),z7 (show 0<(0+((a.length:Nat):Int)+((b.length:Nat):Int)).toNat by omega)]
   simp only[Bool.and_self,cT]
   exact two
  ·rw[z8 h,cF]
   exact two
theorem DU {c:Cl} (h1:c.1.length<=1000) (h2:c.2.2.length<=1000):bn c=some (okL c.1&&okL c.2.2):=by
 simp only[bn,jp,BO (show c.1.length<=1000000 by omega) (show c.2.2.length<=1000000 by omega),au]
 rw[Nk (p:=fun a=>!decide (okF a)) (by rw[List.length_append];omega) (fun a _=>by simp only[cW,ii,zE,au]),au,Kh,Bool.not_not,List.all_append]
 rfl
def BP (c:Cl):Int:=bif okL c.1&&okL c.2.2 then bif decide (0<(gD c).length) then 19 else 0 else 1
theorem Dp {c:Cl} (h1:c.1.length<=1000) (h2:c.2.2.length<=1000):cB c=some (BP c):=by
 simp only[cB,li,Cd (show c.1.length<=1000000 by omega),Cd (show c.2.2.length<=1000000 by omega),Dq,au]
 unfold BP
 rw[show (c.1.all fun a=>decide (okF a))=okL c.1 from rfl,show (c.2.2.all fun a=>decide (okF a))=okL c.2.2 from rfl,show decide (((gD c).length:Int)>0)=decide (0<(gD c).length) from decide_eq_decide.2 (by omega)]
 cases okL c.1<;>cases okL c.2.2<;>cases decide (0<(gD c).length)<;>rfl
end
end Go.Proofs.YtegbncajloeepaaGreat

namespace Go.Proofs.YtegbncajloeepaaGreat
open Tryz Dn Dn.Sh
structure TabR (m w:Nat) (L:Nat->Nat->Int) (t:List Nat×List (Option (List Int))):Prop where
 len:t.1.length=m
 cell:∀i,i<m->t.2.getD (t.1.getD i 0) none=some (gX w (L i))
 inj:∀i j,i<m->j<m->t.1.getD i 0=t.1.getD j 0->i=j
section
variable {m w:Nat} {L L':Nat->Nat->Int} {t:List Nat×List (Option (List Int))}
theorem TabR.row (h:TabR m w L t) {i:Nat} (hi:i<m):bA t.2 (t.1.getD i 0)=gX w (L i):=by unfold bA;rw[h.cell i hi];rfl
theorem TabR.live (h:TabR m w L t) {i:Nat} (hi:i<m):fJ t.2 (t.1.getD i 0)=true:=by unfold fJ;rw[h.cell i hi];rfl
theorem TabR.id_lt (h:TabR m w L t) {i:Nat} (hi:i<m):t.1.getD i 0<t.2.length:=by
 have h1:=h.cell i hi
 by_cases h2:t.1.getD i 0<t.2.length
 ·exact h2
 ·rw[List.getD_eq_getElem?_getD,List.getElem?_eq_none (by omega)] at h1
  cases h1
theorem TabR.congr (h:TabR m w L t) (e:∀i j,i<m->j<w->L i j=L' i j):TabR m w L' t :=
 ⟨h.len,fun i hi=>by rw[h.cell i hi,qk fun j hj=>e i j hi hj],h.inj⟩
theorem TabR.all (h:TabR m w L t):(t.1.all fun x=>fJ t.2 x)=true:=by
 rw[List.all_eq_true]
 intro x hx
 obtain ⟨i,hi,he⟩:=List.mem_iff_getElem.1 hx
 have hi':i<m:=by rw[<-h.len];exact hi
 have:=h.live hi'
 rw[dW hi,he] at this
 exact this
theorem TabR.map (h:TabR m w L t):t.1.map (fun x=>bA t.2 x)=F2 m w L:=by
 refine List.ext_getElem (by rw[List.length_map,h.len,yJ]) fun i h1 h2=>?_
 have hi:i<m:=by rw[yJ] at h2;exact h2
 have hi':i<t.1.length:=by rw[h.len];exact hi
 have e1:=h.row hi
 rw[dW hi'] at e1
 rw[List.getElem_map,e1]
 have e2:=GP (w:=w) (T:=L) hi
 rw[dW h2] at e2
 exact e2.symm
theorem TabR.put (h:TabR m w L t) {i j:Nat} {x:Int} (hi:i<m) (hj:j<w) (e:∀k l,k<m->l<w->(if k=i/\l=j then x else L k l)=L' k l) :
  TabR m w L' (t.1,t.2.set (t.1.getD i 0) (some ((gX w (L i)).set j x))):=by
 refine ⟨h.len,fun k hk=>?_,h.inj⟩
 show (t.2.set (t.1.getD i 0) (some ((gX w (L i)).set j x))).getD (t.1.getD k 0) none=_
 have hl:=h.id_lt hi
 rw[List.getD_eq_getElem?_getD,List.getElem?_set]
 by_cases c:i=k
 ·subst c
  rw[if_pos rfl,if_pos hl,GL hj]
  show some _=some _
  congr 1
  refine qk fun l hl=>?_
  rw[<-e i l hi hl]
  by_cases c2:l=j
  ·rw[if_pos c2,if_pos ⟨rfl,c2⟩]
  ·rw[if_neg c2,if_neg fun h=>c2 h.2]
 ·rw[if_neg fun h'=>c (h.inj i k hi hk h'),<-List.getD_eq_getElem?_getD,h.cell k hk]
  congr 1
  refine qk fun l hl=>?_
  rw[<-e k l hk hl,if_neg fun h=>c h.1.symm]
def swp (a b i:Nat):Nat:=if i=a then b else if i=b then a else i
theorem tw (a b i:Nat):swp a b (swp a b i)=i:=by unfold swp;(repeat' split)<;>omega
theorem nY {a b i:Nat} (ha:a<m) (hb:b<m) (hi:i<m):swp a b i<m:=by unfold swp;(repeat' split)<;>omega
theorem Hy {l:List Nat} {a b i:Nat} (ha:a<l.length) (hb:b<l.length):((l.set a (l.getD b 0)).set b (l.getD a 0)).getD i 0=l.getD (swp a b i) 0:=by
 rw[List.getD_eq_getElem?_getD,List.getElem?_set,List.length_set,List.getElem?_set]
 unfold swp
 by_cases c1:i=a
 ·subst c1
  by_cases c2:b=i
  ·subst c2
   rw[if_pos rfl,if_pos ha,if_pos rfl]
   rfl
  ·rw[if_neg c2,if_pos rfl,if_pos ha,if_pos rfl]
   rfl
 ·by_cases c2:b=i
  ·subst c2
   rw[if_pos rfl,if_pos hb,if_neg c1,if_pos rfl]
   rfl
  ·rw[if_neg c2,if_neg (fun h=>c1 h.symm),if_neg c1,if_neg (fun h=>c2 h.symm),List.getD_eq_getElem?_getD]
theorem TabR.swap (h:TabR m w L t) {a b:Nat} (ha:a<m) (hb:b<m):TabR m w (fun i=>L (swp a b i)) ((t.1.set a (t.1.getD b 0)).set b (t.1.getD a 0),t.2++[]++[]):=by
 have e:=fun i=>Hy (l:=t.1) (a:=a) (b:=b) (i:=i) (by rw[h.len];exact ha) (by rw[h.len];exact hb)
 refine ⟨by rw[List.length_set,List.length_set];exact h.len,fun i hi=>?_,fun i j hi hj he=>?_⟩
 ·show (t.2++[]++[]).getD (((t.1.set a (t.1.getD b 0)).set b (t.1.getD a 0)).getD i 0) none=_
  rw[e,List.append_nil,List.append_nil,h.cell _ (nY ha hb hi)]
 ·have he':((t.1.set a (t.1.getD b 0)).set b (t.1.getD a 0)).getD i 0=((t.1.set a (t.1.getD b 0)).set b (t.1.getD a 0)).getD j 0:=he
  rw[e,e] at he'
  have:=h.inj _ _ (nY ha hb hi) (nY ha hb hj) he'
  rw[<-tw a b i,this,tw]
end
def xU (w:Nat) (N:Nat->Nat->Int):Nat->Nat->Int:=fun i j=>if j<w then N i j else if j=w+i then 1 else 0
section
variable {m w:Nat} {a b:Nat}
theorem Me {f:Nat->Int} (ha:a<m) (hb:b<m) (hab:a≠b):sz m (fun i=>f (swp a b i))=sz m f:=by
 have e:sz m (fun i=>f (swp a b i))=sz m fun i=>f i+((if i=a then f b - f a else 0)+(if i=b then f a - f b else 0)):=bK fun i hi=>by
  unfold swp
  by_cases h1:i=a
  ·subst h1
   rw[if_pos rfl,if_pos rfl,if_neg hab]
   omega
  ·rw[if_neg h1,if_neg h1]
   by_cases h2:i=b
   ·subst h2
    rw[if_pos rfl,if_pos rfl]
    omega
   ·rw[if_neg h2,if_neg h2]
    omega
 rw[e,mf,mf,fC ha (f:=fun i=>if i=a then f b - f a else 0) (fun i _ hne=>if_neg hne),fC hb (f:=fun i=>if i=b then f a - f b else 0) (fun i _ hne=>if_neg hne)]
 simp only[if_true]
 omega
theorem Fw {M:Nat->Nat->Int} {γ:Nat->Nat} (ha:a<m) (hb:b<m) (hab:a≠b):dc m M (fun k=>γ (swp a b k))= - dc m M γ:=by
 have e1:ep M (fun k=>γ (swp a b k))=bu (bu (ep M γ) a fun i=>M i (γ b)) b fun i=>M i (γ a):=by
  funext i k
  show M i (γ (if k=a then b else if k=b then a else k))=if k=b then M i (γ a) else if k=a then M i (γ b) else M i (γ k)
  by_cases h1:k=b
  ·subst h1
   rw[if_neg (Ne.symm hab),if_pos rfl,if_pos rfl]
  ·rw[if_neg h1,if_neg h1]
   by_cases h2:k=a
   ·rw[if_pos h2,if_pos h2]
   ·rw[if_neg h2,if_neg h2]
 have e2:ep M γ=bu (bu (ep M γ) a fun i=>M i (γ a)) b fun i=>M i (γ b):=by
  funext i k
  show M i (γ k)=if k=b then M i (γ b) else if k=a then M i (γ a) else M i (γ k)
  by_cases h1:k=b
  ·rw[if_pos h1,h1]
  ·rw[if_neg h1]
   by_cases h2:k=a
   ·rw[if_pos h2,h2]
   ·rw[if_neg h2]
 have e3:det m (ep M γ)=det m (bu (bu (ep M γ) a fun i=>M i (γ a)) b fun i=>M i (γ b)):=by rw[<-e2]
 unfold dc
 rw[e1,zl ha hb hab,e3]
theorem Dn.Tb.swap {W:Nat} {M T:Nat->Nat->Int} {d:Int} {β:Nat->Nat} (h:Tb m W M T d β) (ha:a<m) (hb:b<m) (hab:a≠b):Tb m W M (fun i=>T (swp a b i)) d (fun i=>β (swp a b i)):=by
 refine ⟨h.dpos,fun i hi=>h.lt _ (nY ha hb hi),fun k hk j hj=>?_,?_⟩
 ·rw[Me (f:=fun i=>T i j*M k (β i)) ha hb hab]
  exact h.co k hk j hj
 ·obtain ⟨σ,h1,h2,h3⟩:=h.cr
  refine ⟨-σ,by rw[Int.neg_mul_neg];exact h1,by rw[Fw ha hb hab,Int.neg_mul_neg];exact h2,fun i hi j hj=>?_⟩
  have e:upd (fun i=>β (swp a b i)) i j=fun k=>upd β (swp a b i) j (swp a b k):=by
   funext k
   unfold upd
   by_cases c:k=i
   ·rw[if_pos c,c,if_pos rfl]
   ·rw[if_neg c,if_neg fun h=>c (by rw[<-tw a b k,h,tw])]
  rw[e,Fw ha hb hab,Int.neg_mul_neg]
  exact h3 _ (nY ha hb hi) j hj
end
structure ElBnd (m w c:Nat) (N:Nat->Nat->Int):Prop where
 hm:1<=m/\m<=1000
 hw:w<=1000
 hc:c<=w
 b:∀T d β,Tb m (w+m) (xU w N) T d β->(∀i,i<m->β i<c\/w<=β i)->∀i j,i<m->j<w+m->ab (T i j)<4611686018427387904
structure El (m w c:Nat) (N:Nat->Nat->Int) (C k:Nat) (p:Nat->Nat) (L:Nat->Nat->Int) (e:Int) (T:Nat->Nat->Int) (d:Int) (β:Nat->Nat) (s:Int):Prop where
 tb:Tb m (w+m) (xU w N) T d β
 cc:C<=c
 s1:s=1\/s= -1
 le:∀i j,i<m->j<w->L i j=s*T i j
 de:e=s*d
 km:k<=m
 bp:∀i,i<k->β i=p i/\p i<C
 inc:∀i j,i<j->j<k->p i<p j
 bs:∀i,k<=i->i<m->w<=β i
 z:∀i j,k<=i->i<m->j<C->T i j=0
section
variable {m w c:Nat} {N:Nat->Nat->Int} {C k:Nat} {p:Nat->Nat} {L:Nat->Nat->Int} {e:Int} {T:Nat->Nat->Int} {d:Int} {β:Nat->Nat} {s:Int}
theorem El.first (_:m<=1000):El m w c N 0 0 (fun _=>0) N 1 (xU w N) 1 (fun i=>w+i) 1:=by
 refine ⟨Tb.first (fun i hi=>by omega) (fun k hk i hi=>?_),Nat.zero_le _,.inl rfl,fun i j hi hj=>?_,rfl,Nat.zero_le _,fun i hi=>by omega,fun i j _ hj=>by omega,fun i _ _=>Nat.le_add_right _ _,fun i j _ _ hj=>by omega⟩
 ·unfold xU
  rw[if_neg (by omega)]
  by_cases h:k=i
  ·rw[if_pos (by omega),if_pos h]
  ·rw[if_neg (by omega),if_neg h]
 ·unfold xU
  rw[if_pos hj,Int.one_mul]
theorem El.swap (h:El m w c N C k p L e T d β s) {a b:Nat} (ha:k<=a/\a<m) (hb:k<=b/\b<m) (hab:a≠b):El m w c N C k p (fun i=>L (swp a b i)) e (fun i=>T (swp a b i)) d (fun i=>β (swp a b i)) s:=by
 have hs:∀i,i<k->swp a b i=i:=fun i hi=>by unfold swp;rw[if_neg (by omega),if_neg (by omega)]
 have hs2:∀i,k<=i->k<=swp a b i:=fun i hi=>by unfold swp;(repeat' split)<;>omega
 refine ⟨h.tb.swap ha.2 hb.2 hab,h.cc,h.s1,fun i j hi hj=>h.le _ j (nY ha.2 hb.2 hi) hj,h.de,h.km,fun i hi=>?_,h.inc,fun i h1 h2=>h.bs _ (hs2 i h1) (nY ha.2 hb.2 h2),fun i j h1 h2 h3=>h.z _ j (hs2 i h1) (nY ha.2 hb.2 h2) h3⟩
 show β (swp a b i)=p i/\_
 rw[hs i hi]
 exact h.bp i hi
theorem El.sne (h:El m w c N C k p L e T d β s):s*s=1:=by rcases h.s1 with h | h<;>rw[h]<;>rfl
theorem El.ene (h:El m w c N C k p L e T d β s):e≠0:=by
 have:=h.tb.dpos
 rw[h.de]
 rcases h.s1 with h | h<;>rw[h]<;>omega
theorem El.skip (h:El m w c N C k p L e T d β s) (hC:C<c) (hw:c<=w) (h0:∀i,k<=i->i<m->L i C=0):El m w c N (C+1) k p L e T d β s:=by
 refine ⟨h.tb,hC,h.s1,h.le,h.de,h.km,fun i hi=>⟨(h.bp i hi).1,by have:=(h.bp i hi).2;omega⟩,h.inc,h.bs,fun i j h1 h2 h3=>?_⟩
 by_cases c:j=C
 ·subst c
  have h4:=h.le i j h2 (by omega)
  rw[h0 i h1 h2] at h4
  rcases h.s1 with h5 | h5<;>rw[h5] at h4<;>omega
 ·exact h.z i j h1 h2 (by omega)
def elq (L:Nat->Nat->Int) (e:Int) (r c i j:Nat):Int:=(L i j*L r c - L i c*L r j) / e
def elL (L:Nat->Nat->Int) (e:Int) (r c:Nat):Nat->Nat->Int:=fun i j=>if i=r then L r j else elq L e r c i j
theorem El.exact (h:El m w c N C k p L e T d β s) (hk:k<m) (hC:C<w) {i j:Nat} (hi:i<m) (hne:i≠k) (hj:j<w) :
  e*elq L e k C i j=L i j*L k C - L i C*L k j/\elq L e k C i j=s*piv T d k C i j:=by
 have h1:=gH h.tb hk hi (Ne.symm hne) (show C<w+m by omega) (show j<w+m by omega)
 have h2:L i j*L k C - L i C*L k j=e*(s*piv T d k C i j):=by
  rw[h.le i j hi hj,h.le k C hk hC,h.le i C hi hC,h.le k j hk hj,h.de]
  have h3:=h.sne
  have h4:s*d*(s*piv T d k C i j)=s*s*(d*piv T d k C i j):=by grind
  rw[h4,h1,h3]
  have h5:s*T i j*(s*T k C) - s*T i C*(s*T k j)=s*s*(T k C*T i j - T i C*T k j):=by grind
  rw[h5,h3]
 have h6:elq L e k C i j=s*piv T d k C i j:=by
  unfold elq
  rw[h2,Int.mul_ediv_cancel_left _ h.ene]
 exact ⟨by rw[h6,h2],h6⟩
theorem El.pivot (h:El m w c N C k p L e T d β s) (hk:k<m) (hC:C<c) (hw:c<=w) (h0:L k C≠0) :
  El m w c N (C+1) (k+1) (upd p k C) (elL L e k C) (L k C) (pg T d k C) (sg (T k C)*T k C) (upd β k C) (s*sg (T k C)):=by
 have hT:T k C≠0:=fun h1=>h0 (by rw[h.le k C hk (by omega),h1,Int.mul_zero])
 have hs1:sg (T k C)=1\/sg (T k C)= -1:=by unfold sg;split<;>omega
 refine ⟨h.tb.step hk (by omega) hT,hC,?_,fun i j hi hj=>?_,?_,hk,fun i hi=>?_,fun i j h1 h2=>?_,fun i h1 h2=>?_,fun i j h1 h2 h3=>?_⟩
 ·rcases h.s1 with h1 | h1<;>rcases hs1 with h2 | h2<;>rw[h1,h2]<;>simp
 ·have e0:s*sg (T k C)*(sg (T k C)*(if i=k then T k j else piv T d k C i j))=s*(if i=k then T k j else piv T d k C i j):=by
   have:=Bu (T k C)
   grind
  unfold pg
  rw[e0]
  unfold elL
  by_cases c:i=k
  ·rw[if_pos c,if_pos c]
   exact h.le k j hk hj
  ·rw[if_neg c,if_neg c]
   exact (h.exact hk (by omega) hi c hj).2
 ·have:=Bu (T k C)
  rw[h.le k C hk (by omega)]
  grind
 ·unfold upd
  by_cases c:i=k
  ·rw[if_pos c,if_pos c]
   exact ⟨rfl,by omega⟩
  ·rw[if_neg c,if_neg c]
   have:=h.bp i (by omega)
   exact ⟨this.1,by omega⟩
 ·unfold upd
  rw[if_neg (by omega)]
  by_cases c:j=k
  ·rw[if_pos c]
   exact (h.bp i (by omega)).2
  ·rw[if_neg c]
   exact h.inc i j h1 (by omega)
 ·unfold upd
  rw[if_neg (by omega)]
  exact h.bs i (by omega) h2
 ·unfold pg
  rw[if_neg (by omega)]
  have h4:T k C*T i j - T i C*T k j=0:=by
   by_cases c:j=C
   ·subst c
    rw[Int.mul_comm]
    omega
   ·rw[h.z i j (by omega) h2 (by omega),h.z k j (Nat.le_refl _) hk (by omega)]
    simp
  unfold piv
  rw[h4]
  simp
theorem El.bound (h:El m w c N C k p L e T d β s) (hB:ElBnd m w c N):(∀i j,i<m->j<w->(L i j).natAbs<4611686018427387904)/\e.natAbs<4611686018427387904:=by
 have hb:=hB.b T d β h.tb fun i hi=>by
  by_cases h1:i<k
  ·have:=h.bp i h1
   have:=h.cc
   exact .inl (by omega)
  ·exact .inr (h.bs i (by omega) hi)
 have key:∀x:Int,ab x<4611686018427387904->(s*x).natAbs<4611686018427387904:=fun x hx=>by
  unfold ab at hx
  rcases h.s1 with h1 | h1<;>rw[h1]<;>omega
 refine ⟨fun i j hi hj=>?_,?_⟩
 ·rw[h.le i j hi hj]
  exact key _ (hb i j hi (by omega))
 ·rw[h.de]
  refine key _ ?_
  have hm:=hB.hm
  have:=hb 0 (β 0) (by omega) (h.tb.lt 0 (by omega))
  rwa [h.tb.basis (show 0<m by omega)] at this
end
def DT (n:Nat) (N:Nat->Nat->Int) (b:Nat->Int):Nat->Nat->Int:=fun i j=>if j<n then N i j else b i
def EqN (m n:Nat) (N:Nat->Nat->Int) (b:Nat->Int) (x:Nat->Rat):Prop:=∀i,i<m->(sq n fun j=>((N i j:Int):Rat)*x j)=((b i:Int):Rat)
section
variable {m n:Nat} {N:Nat->Nat->Int} {b:Nat->Int} {k:Nat} {p:Nat->Nat} {L:Nat->Nat->Int} {e:Int} {T:Nat->Nat->Int} {d:Int} {β:Nat->Nat} {s:Int}
theorem El.row_eq (h:El m (n+1) n (DT n N b) n k p L e T d β s) {x:Nat->Rat} (hx:EqN m n N b x) {i:Nat} (hi:i<m):(sq n fun j=>((T i j:Int):Rat)*x j)=((T i n:Int):Rat):=by
 have hr:∀j,j<n+1+m->T i j=sz m fun q=>T i (n+1+q)*xU (n+1) (DT n N b) q j:=fun j hj =>
  h.tb.rows (a:=fun q=>n+1+q) (fun q hq=>by omega) (fun q hq r hr=>by
   unfold xU
   rw[if_neg (by omega)]
   by_cases c:q=r
   ·rw[if_pos (by omega),if_pos c]
   ·rw[if_neg (by omega),if_neg c]) hi hj
 have h1:∀j,j<n->((T i j:Int):Rat)=sq m fun q=>((T i (n+1+q):Int):Rat)*((N q j:Int):Rat):=fun j hj=>by
  rw[hr j (by omega),<-xZ]
  refine fM fun q _=>?_
  unfold xU DT
  rw[if_pos (by omega),if_pos hj,Rat.intCast_mul]
 have h2:((T i n:Int):Rat)=sq m fun q=>((T i (n+1+q):Int):Rat)*((b q:Int):Rat):=by
  rw[hr n (by omega),<-xZ]
  refine fM fun q _=>?_
  unfold xU DT
  rw[if_pos (by omega),if_neg (by omega),Rat.intCast_mul]
 have h3:(sq n fun j=>((T i j:Int):Rat)*x j)=sq n fun j=>sq m fun q=>((T i (n+1+q):Int):Rat)*(((N q j:Int):Rat)*x j):=fM fun j hj=>by
  rw[h1 j hj,Rat.mul_comm,<-uY]
  exact fM fun q _=>by grind
 rw[h3,<-xC,h2]
 refine fM fun q hq=>?_
 rw[uY,hx q hq]
theorem El.row_val (h:El m (n+1) n (DT n N b) n k p L e T d β s) {i:Nat} (hi:i<m):L i n=0↔T i n=0:=by
 rw[h.le i n hi (by omega)]
 rcases h.s1 with h1 | h1<;>rw[h1]<;>omega
theorem El.none (h:El m (n+1) n (DT n N b) n k p L e T d β s) {i:Nat} (hk:k<=i) (hi:i<m) (h0:L i n≠0) (x:Nat->Rat):¬ EqN m n N b x:=fun hx=>by
 have h1:=h.row_eq hx hi
 rw[qC fun j hj=>by rw[h.z i j hk hi hj];exact Rat.zero_mul _] at h1
 exact h0 ((h.row_val hi).2 (Rat.intCast_inj.1 h1.symm))
end
theorem Cr (l m:List Fq) (hl:l.length<=1000000):bL l m=some (decide (l=m)):=by
 simp only[bL,gR]
 by_cases h:l.length=m.length
 ·rw[z7 (show (l.length:Int)=m.length by omega)]
  simp only[Bool.not_true,cF]
  refine An (0,0) h hl (fun again i hi=>?_) (fun again=>?_)
  ·simp only[jz,z7 hi,z7 (show i<m.length by omega),z7 (show (i:Int)<l.length by omega),cT,z9,gB (show i<=1000000 by omega),IH]
   cases decide (List.getD l i ((0:Int),(0:Int))=List.getD m i (0,0))<;>rfl
  ·simp only[z8 (show ¬ (l.length:Int)<l.length by omega),cF]
 ·rw[z8 (show ¬ (l.length:Int)=m.length by omega),z8 fun e=>h (by rw[e])]
  rfl
end Go.Proofs.YtegbncajloeepaaGreat
